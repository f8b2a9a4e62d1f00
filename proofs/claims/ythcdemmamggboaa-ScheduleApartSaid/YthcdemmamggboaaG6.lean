import Derived.Test.YthcdemmamggboaaZTrchk
import Derived.Test.YthcdemmamggboaaG2
import Derived.Deep.Cut
import Derived.Test.YthcdemmamggboaaG1
import Derived.RegionTactic
namespace Go.Proofs.Ythcdemmamggboaa
open Go.RowKit
/-- after a check that says OK: every task is right -/
theorem rchk_ok_T : ∀ (l pre : List Tsk), rchkT pre l = 0 → ∀ i, i < l.length → tskBad (tskAt l i) = false ∧ rsecsOk (tskAt l i) = true
  | [], _, _, i, hi => by simp at hi
  | t :: ts, pre, h, i, hi => by
    unfold rchkT at h
    cases hb : tskBad t <;> cases hs : rsecsOk t <;> simp [hb, hs] at h
    cases i with
    | zero => exact ⟨hb, hs⟩
    | succ i =>
      cases hw : twinAny t pre <;> simp [hw] at h
      exact rchk_ok_T ts _ h i (by simpa using hi)
theorem rchk_ok {l : List Tsk} (h : rchk l = 0) : l.length ≤ 8 ∧ ∀ i, i < l.length → tskBad (tskAt l i) = false ∧ rsecsOk (tskAt l i) = true := by
  unfold rchk at h
  by_cases h8 : 8 < l.length
  · simp [h8] at h
  · refine ⟨by omega, ?_⟩
    cases hm : manySecs l <;> simp [h8, hm] at h
    by_cases h0 : l = []
    · subst h0; intro i hi; simp at hi
    · simp [h0] at h; exact rchk_ok_T l [] h
def hypT : List Tsk → Int → Int × Int
  | [], h => (h, 0)
  | t :: ts, h => if 20000 < h / (Int.gcd h t.per : Int) * t.per then (0, 7) else hypT ts (h / (Int.gcd h t.per : Int) * t.per)
def hyp (l : List Tsk) : Int × Int := if rchk l = 0 then hypT l 1 else (0, rchk l)
theorem gcd_pos_i (x y : Int) (h : 1 ≤ y) : 1 ≤ (Int.gcd x y : Int) := by
  have : 0 < Int.gcd x y := Int.gcd_pos_of_ne_zero_right x (by omega)
  omega
theorem lcm_bd (x y : Int) (hx : 1 ≤ x) (hx2 : x ≤ 20000) (hy : 1 ≤ y) (hy2 : y ≤ 1000) : 1 ≤ x / (Int.gcd x y : Int) * y ∧ x / (Int.gcd x y : Int) * y ≤ 20000000 ∧ 1 ≤ x / (Int.gcd x y : Int) ∧ x / (Int.gcd x y : Int) ≤ 20000 := by
  have hg := gcd_pos_i x y hy
  have hd : (Int.gcd x y : Int) ∣ x := Int.gcd_dvd_left ..
  obtain ⟨q, hq⟩ := hd
  generalize (Int.gcd x y : Int) = g at *
  have hq2 : x / g = q := by rw [hq]; exact Int.mul_ediv_cancel_left _ (by omega)
  rw [hq2]
  have h1 : 1 ≤ q := by
    rcases Int.lt_or_le 0 q with h | h
    · omega
    · have := Int.mul_nonpos_of_nonneg_of_nonpos (show 0 ≤ g by omega) h
      omega
  have h2 : 1 * q ≤ g * q := Int.mul_le_mul_of_nonneg_right hg (by omega)
  have h3 : 1 * 1 ≤ q * y := Int.mul_le_mul h1 hy (by omega) (by omega)
  have h4 : q * y ≤ 20000 * 1000 := Int.mul_le_mul (by omega) hy2 (by omega) (by omega)
  omega

end Go.Proofs.Ythcdemmamggboaa
namespace Go.Proofs.Ythcdemmamggboaa
open Go.RowKit
structure Sized (l : List Tsk) : Prop where
  len : l.length ≤ 1000000
  parts : ∀ i, i < l.length → (tskAt l i).secs.length ≤ 1000000 ∧ (tskAt l i).name.size ≤ 1000000
  wf : ∀ i, i < l.length → (tskAt l i).wf
/-- what is shown of the program's Check -/
def CheckP : Prop := ∀ (v : Value) (l : List Tsk) (w : World), TsksAt w w.heap.size v l → Sized l →
  Calls Try.prog 35 #[v] w fun e w' => e = .returned (.int .i64 (rchk l)) ∧ Bel w w'
end Go.Proofs.Ythcdemmamggboaa
namespace Go.Proofs.Ythcdemmamggboaa
open Go.RowKit
theorem Try.infoInt : (Try.prog.info? 3).map (fun i => (i.zero, i.size, i.bytes)) = some (some (.int .i64 0), 1, 8) := by kernel_rfl
/-- the ceilings of all resources -/
def ceils (l : List Tsk) : List Int := (List.range 8).map fun (r : Nat) => ceilT (r : Int) l 0
def ceilsTo (l : List Tsk) (k : Nat) : List Int := (List.range k).map fun (r : Nat) => ceilT (r : Int) l 0
theorem ceilsTo_succ (l : List Tsk) (k : Nat) : ceilsTo l (k + 1) = ceilsTo l k ++ [ceilT k l 0] := by simp [ceilsTo, List.range_succ]
theorem ceilsTo_len (l : List Tsk) (k : Nat) : (ceilsTo l k).length = k := by simp [ceilsTo]
/-- what Ceilings hands back -/
def CeilsPost (l : List Tsk) (w : World) (e : Ending) (w' : World) : Prop :=
  ∃ v, e = .returned (.tuple #[v, .int .i64 (rchk l)]) ∧ IntsAt w' w'.heap.size v (if rchk l = 0 then ceils l else []) ∧ Bel w w' ∧ ∀ k, v.ownBlock = some k → w.heap.size ≤ k
end Go.Proofs.Ythcdemmamggboaa
namespace Go.Proofs.Ythcdemmamggboaa
open Go.RowKit
theorem ceilS_snoc (r p : Int) : ∀ (ss : List Sec) (s : Sec) (m : Int), ceilS r p (ss ++ [s]) m = (if s.res == r then (if ceilS r p ss m < p then p else ceilS r p ss m) else ceilS r p ss m)
  | [], s, m => rfl
  | x :: ss, s, m => by simp only [List.cons_append, ceilS]; exact ceilS_snoc r p ss s _
theorem ceilT_snoc (r : Int) : ∀ (l : List Tsk) (t : Tsk) (m : Int), ceilT r (l ++ [t]) m = ceilS r t.prio t.secs (ceilT r l m)
  | [], t, m => rfl
  | x :: l, t, m => by simp only [List.cons_append, ceilT]; exact ceilT_snoc r l t _
theorem secs_ok_res {c : Int} {ss : List Sec} (h : okAll c ss = true) : ∀ i, i < ss.length → 0 ≤ (secAt ss i).res ∧ (secAt ss i).res < 8 ∧ 0 ≤ (secAt ss i).frm ∧ 1 ≤ (secAt ss i).len ∧ (secAt ss i).frm ≤ c ∧ (secAt ss i).len ≤ wrap64 (c - (secAt ss i).frm) := by
  rw [okAll_all] at h
  intro i hi
  have := List.all_eq_true.1 h (secAt ss i) (by simp [secAt, List.getD, hi])
  simp [secBad] at this
  omega
set_option maxRecDepth 100000 in
set_option maxHeartbeats 4000000 in
theorem ceilings_any (HCP : CheckP) (v : Value) (l : List Tsk) (w : World) (h : TsksAt w w.heap.size v l) (hs : Sized l) :
    Calls Try.prog 22 #[v] w (CeilsPost l w) := by
  have HC := HCP v l w h hs
  replace HC := Lib.hid HC
  have hl := hs.len
  by_cases h0 : rchk l = 0
  · obtain ⟨hl8, hok⟩ := rchk_ok h0
    have H0 := Lib.hid h0
    obtain ⟨A, c, rfl, hlc⟩ := h.form
    rw [h0] at HC
    clear h0
    obtain ⟨i0, hi, hz0, hz1, hz2⟩ := info_parts Try.infoInt
    have hmk : ∀ W : World, (Instr.makeSlice 53 (.int .i64 8) (.int .i64 8)).run Try.prog W = .ok (.slice (some ⟨W.heap.size, 0, none⟩) 8 8) (W.alloc (.cells (madeCells (Value.int .i64 0).cells (8 * 1)) 3)) := make_ints Try.underlying53 hi hz0 hz1 hz2 8 (by omega)
    have HMK : ∀ W : World, ArrAt (W.alloc (.cells (madeCells (Value.int .i64 0).cells (8 * 1)) 3)) W.heap.size 3 8 (fun _ => 0) := fun W => ArrAt.made W 3 8
    generalize madeCells (Value.int .i64 0).cells (8 * 1) = mc at *
    have HSZ := Lib.hid hs
    have HOK := Lib.hid hok
    have HMK' := Lib.hid HMK
    clear hs hok HMK hi hz0 hz1 hz2
    go_enter Try.func22, Try.ntmps22
    go_wp2_with (go_at_call 35; (with_reducible refine (HC.out).mono ?_); rintro e w2 ⟨rfl, hb2⟩; obtain ⟨x, rfl⟩ : ∃ x : Ext w, w2 = x.w := ext_of (hb2.after (by (repeat (first | exact Ext.bel _ | exact Bel.refl | refine Bel.alloc ?_ _ | refine Bel.drew ?_ | refine Bel.drewN ?_ _)))); clear hb2)
    have hx := x.bel.le
    have A0 := HMK'.out x.w
    generalize hW : World.alloc x.w _ = W1 at *
    obtain ⟨x1, rfl⟩ : ∃ y : Ext w, W1 = y.w := ext_of (by rw [← hW]; exact x.bel.alloc _)
    clear hW
    generalize x.w.heap.size = p at *
    clear x hmk HMK'
    go_loopw [18] (fun i wr => ∃ (k : Nat) (x : Ext w), k ≤ l.length ∧ i = .int .i64 k ∧ wr = x.w ∧ ArrAt x.w p 3 8 (fun r => ceilT r (l.take k) 0)) (fun i _ => l.length - (intOf i).toNat)
    case atStart => exact ⟨0, x1, by omega, rfl, rfl, A0⟩
    case round =>
      clear A0 x1
      obtain ⟨k, x, hk, rfl, rfl, AR⟩ := hrel
      by_cases hlt : k < l.length
      · obtain ⟨b, off, rfl, hb, hA⟩ := h.at_ (by omega)
        obtain ⟨sv, hT, hS⟩ := hA k hlt
        obtain ⟨A2, c2, rfl, hc2⟩ := hS.form
        obtain ⟨hs1, hs2⟩ := HSZ.out.parts k hlt
        obtain ⟨hb1, hb2⟩ := HOK.out k hlt
        unfold rsecsOk at hb2
        have hres := Lib.hid (secs_ok_res (c := (tskAt l k).cost) (ss := (tskAt l k).secs) (by cases hx2 : okAll (tskAt l k).cost (tskAt l k).secs <;> simp [hx2] at hb2 ⊢))
        obtain ⟨t0, t1, t2, t3, t4, t5, t6⟩ := hT
        clear hb1 hb2 hA
        have hpx := AR.lt
        go_upto_region 9 with (fail)
        have AR1 := AR.alloc (.cells #[.string (tskAt l k).name, .int .i64 (tskAt l k).per, .int .i64 (tskAt l k).off, .int .i64 (tskAt l k).dl, .int .i64 (tskAt l k).cost, .int .i64 (tskAt l k).prio, .slice A2 (tskAt l k).secs.length c2] 45)
        generalize hW : World.alloc x.w _ = W1 at *
        have q5 : W1.cell? ⟨x.w.heap.size, 5, none⟩ = some (.int .i64 (tskAt l k).prio) := (by rw [← hW]; simp [go_sem])
        have qz : x.w.heap.size < W1.heap.size := (by rw [← hW]; simp [go_sem])
        obtain ⟨x1, rfl⟩ : ∃ y : Ext w, W1 = y.w := ext_of (by rw [← hW]; exact x.bel.alloc _)
        clear hW AR
        generalize x.w.heap.size = p7 at *
        clear x t0 t1 t2 t3 t4 t5 t6
        go_loopw [25] (fun i wr => ∃ (j : Nat) (z : Ext w), j ≤ (tskAt l k).secs.length ∧ i = .int .i64 j ∧ wr = z.w ∧ ArrAt z.w p 3 8 (fun r => ceilS r (tskAt l k).prio ((tskAt l k).secs.take j) (ceilT r (l.take k) 0)) ∧ z.w.cell? ⟨p7, 5, none⟩ = some (.int .i64 (tskAt l k).prio) ∧ p7 < z.w.heap.size) (fun i _ => (tskAt l k).secs.length - (intOf i).toNat)
        case atStart => exact ⟨0, x1, by omega, rfl, rfl, AR1, q5, qz⟩
        case round =>
          clear AR1 q5 qz x1
          obtain ⟨j, z, hj, rfl, rfl, AR, q5, qz⟩ := hrel
          by_cases hltj : j < (tskAt l k).secs.length
          · obtain ⟨b2, off2, rfl, hb2, hA2⟩ := hS.at_ (by omega)
            obtain ⟨s0, s1, s2⟩ := hA2 j hltj
            obtain ⟨r0, r1, _⟩ := hres.out j hltj
            obtain ⟨n, hn⟩ := Int.eq_ofNat_of_zero_le r0
            have hn8 : n < 8 := by omega
            rw [hn] at s0
            have HN := Lib.hid hn
            clear hn r0 r1 hA2
            have c0 := AR.cell hn8
            have f0 := AR.frozen n
            have hpz := AR.lt
            have AR1 := fun o => AR.alloc o
            have HAR := Lib.hid AR
            clear AR AR1
            generalize hg : ceilS n (tskAt l k).prio ((tskAt l k).secs.take j) (ceilT n (l.take k) 0) = gn at *
            have HGN := Lib.hid hg
            clear hg
            go_upto_region 11 with (fail)
            go_region
            all_goals go_wp2
            all_goals go_roundw
            case rel =>
              refine ⟨j + 1, ⟨_, ((z.bel.set (p := ⟨p, n, none⟩) hx _).alloc _).drew⟩, by omega, by go_num, rfl, (((HAR.out.set n _).alloc _).drew).congr (fun r hr => ?_), ?_, ?_⟩
              · rw [secs_snoc hltj, ceilS_snoc, HN.out]
                by_cases hrn : r = n
                · subst hrn; simp [HGN.out]
                · have hrn2 : ((n : Int) == (r : Int)) = false := beq_eq_false_iff_ne.2 (by omega)
                  simp [hrn, hrn2]
              · show World.cell? (World.alloc _ _) _ = _
                rw [World.cell?_alloc_lt _ _ _ (by simp [World.setCell]; exact qz)]
                rw [World.cell?_setCell_other _ _ _ _ (by intro e; injection e with e; omega)]
                exact q5
              · show p7 < (World.alloc _ _).heap.size
                simp [World.setCell]; omega
            case measure => simp [intOf]; omega
          · have : j = (tskAt l k).secs.length := by omega
            subst this
            go_wp2
            go_roundw
            case rel => exact ⟨k + 1, z, by omega, by go_num, rfl, AR.congr (fun r hr => by rw [tsks_snoc hlt, ceilT_snoc, List.take_length])⟩
            case measure => simp [intOf]; omega
      · have : k = l.length := by omega
        subst this
        go_wp2
        go_ret2
        refine ⟨_, by rw [H0.out]; rfl, ?_, x.bel, fun k hk => by simp [Value.ownBlock] at hk; omega⟩
        rw [H0.out]
        have := IntsAt.of_arr AR
        rw [List.take_length] at this
        exact this
  · have H0 := Lib.hid h0
    have hne : (rchk l != 0) = true := by simpa using h0
    go_enter Try.func22, Try.ntmps22
    go_wp2_with (go_at_call 35; (with_reducible refine (HC.out).mono ?_); rintro e w2 ⟨rfl, hb2⟩; obtain ⟨x, rfl⟩ : ∃ x : Ext w, w2 = x.w := ext_of (hb2.after (by (repeat (first | exact Ext.bel _ | exact Bel.refl | refine Bel.alloc ?_ _ | refine Bel.drew ?_ | refine Bel.drewN ?_ _)))); clear hb2)
    go_ret2
    exact ⟨_, rfl, by rw [if_neg H0.out]; exact ⟨none, 0, rfl, by simp, fun h => by simp at h⟩, x.bel, fun k hk => by simp [Value.ownBlock] at hk⟩
end Go.Proofs.Ythcdemmamggboaa
namespace Go.Proofs.Ythcdemmamggboaa
open Go.RowKit
theorem beyondS_all : ∀ (l : List Tsk), beyondS l = false → ∀ i, i < l.length → (tskAt l i).secs.length ≤ 50 ∧ (tskAt l i).name.size ≤ 1000
  | [], _, i, hi => by simp at hi
  | t :: ts, h, i, hi => by
    unfold beyondS at h
    by_cases hc : (decide (50 < t.secs.length) || decide (1000 < t.name.size)) = true
    · rw [if_pos hc] at h; cases h
    · rw [if_neg hc] at h
      cases i with
      | zero => simp at hc; exact ⟨hc.1, hc.2⟩
      | succ i => exact beyondS_all ts h i (by simpa using hi)
theorem sized_of {l : List Tsk} (h : beyond l = false) (hwf : ∀ i, i < l.length → (tskAt l i).wf) : Sized l := by
  unfold beyond at h
  by_cases h5 : 50 < l.length
  · simp [h5] at h
  · rw [if_neg h5] at h
    exact ⟨by omega, fun i hi => by have := beyondS_all l h i hi; omega, hwf⟩
end Go.Proofs.Ythcdemmamggboaa
