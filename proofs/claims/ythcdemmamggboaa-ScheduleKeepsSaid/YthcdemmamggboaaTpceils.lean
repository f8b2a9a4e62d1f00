import Derived.Test.YthcdemmamggboaaTphyp
import Derived.Test.YthcdemmamggboaaTrceils
import Derived.Test.YthcdemmamggboaaArr
import Derived.RegionTactic
namespace Go.Proofs.Ythcdemmamggboaa
open Go.RowKit
theorem ceilS_snoc (r p : Int) : ∀ (ss : List Sec) (s : Sec) (m : Int), ceilS r p (ss ++ [s]) m = (if s.res == r then (if ceilS r p ss m < p then p else ceilS r p ss m) else ceilS r p ss m)
  | [], s, m => rfl
  | x :: ss, s, m => by simp only [List.cons_append, ceilS]; exact ceilS_snoc r p ss s _
theorem ceilT_snoc (r : Int) : ∀ (l : List Tsk) (t : Tsk) (m : Int), ceilT r (l ++ [t]) m = ceilS r t.prio t.secs (ceilT r l m)
  | [], t, m => rfl
  | x :: l, t, m => by simp only [List.cons_append, ceilT]; exact ceilT_snoc r l t _
theorem secs_ok_res {c : Int} {ss : List Sec} (h : okAll c ss = true) : ∀ i, i < ss.length → 0 ≤ (secAt ss i).res ∧ (secAt ss i).res < 8 ∧ 0 ≤ (secAt ss i).frm ∧ 1 ≤ (secAt ss i).len ∧ (secAt ss i).frm ≤ c ∧ (secAt ss i).len ≤ wrap64 (c - (secAt ss i).frm) := by
  rw [okAll_all] at h
  intro i hi
  have := List.all_eq_true.1 h (secAt ss i) (by simp [secAt, List.getD, hi])
  simp [secBad] at this
  omega
set_option maxRecDepth 100000 in
set_option maxHeartbeats 4000000 in
theorem ceilings_any (HCP : CheckP) (v : Value) (l : List Tsk) (w : World) (h : TsksAt w w.heap.size v l) (hs : Sized l) :
    Calls Try.prog 22 #[v] w (CeilsPost l w) := by
  have HC := HCP v l w h hs
  replace HC := Lib.hid HC
  have hl := hs.len
  by_cases h0 : rchk l = 0
  · obtain ⟨hl8, hok⟩ := rchk_ok h0
    have H0 := Lib.hid h0
    obtain ⟨A, c, rfl, hlc⟩ := h.form
    rw [h0] at HC
    clear h0
    obtain ⟨i0, hi, hz0, hz1, hz2⟩ := info_parts Try.infoInt
    have hmk : ∀ W : World, (Instr.makeSlice 53 (.int .i64 8) (.int .i64 8)).run Try.prog W = .ok (.slice (some ⟨W.heap.size, 0, none⟩) 8 8) (W.alloc (.cells (madeCells (Value.int .i64 0).cells (8 * 1)) 3)) := make_ints Try.underlying53 hi hz0 hz1 hz2 8 (by omega)
    have HMK : ∀ W : World, ArrAt (W.alloc (.cells (madeCells (Value.int .i64 0).cells (8 * 1)) 3)) W.heap.size 3 8 (fun _ => 0) := fun W => ArrAt.made W 3 8
    generalize madeCells (Value.int .i64 0).cells (8 * 1) = mc at *
    have HSZ := Lib.hid hs
    have HOK := Lib.hid hok
    have HMK' := Lib.hid HMK
    clear hs hok HMK hi hz0 hz1 hz2
    go_enter Try.func22, Try.ntmps22
    go_wp2_with (go_at_call 35; (with_reducible refine (HC.out).mono ?_); rintro e w2 ⟨rfl, hb2⟩; obtain ⟨x, rfl⟩ : ∃ x : Ext w, w2 = x.w := ext_of (hb2.after (by (repeat (first | exact Ext.bel _ | exact Bel.refl | refine Bel.alloc ?_ _ | refine Bel.drew ?_ | refine Bel.drewN ?_ _)))); clear hb2)
    have hx := x.bel.le
    have A0 := HMK'.out x.w
    generalize hW : World.alloc x.w _ = W1 at *
    obtain ⟨x1, rfl⟩ : ∃ y : Ext w, W1 = y.w := ext_of (by rw [← hW]; exact x.bel.alloc _)
    clear hW
    generalize x.w.heap.size = p at *
    clear x hmk HMK'
    go_loopw [18] (fun i wr => ∃ (k : Nat) (x : Ext w), k ≤ l.length ∧ i = .int .i64 k ∧ wr = x.w ∧ ArrAt x.w p 3 8 (fun r => ceilT r (l.take k) 0)) (fun i _ => l.length - (intOf i).toNat)
    case atStart => exact ⟨0, x1, by omega, rfl, rfl, A0⟩
    case round =>
      clear A0 x1
      obtain ⟨k, x, hk, rfl, rfl, AR⟩ := hrel
      by_cases hlt : k < l.length
      · obtain ⟨b, off, rfl, hb, hA⟩ := h.at_ (by omega)
        obtain ⟨sv, hT, hS⟩ := hA k hlt
        obtain ⟨A2, c2, rfl, hc2⟩ := hS.form
        obtain ⟨hs1, hs2⟩ := HSZ.out.parts k hlt
        obtain ⟨hb1, hb2⟩ := HOK.out k hlt
        unfold rsecsOk at hb2
        have hres := Lib.hid (secs_ok_res (c := (tskAt l k).cost) (ss := (tskAt l k).secs) (by cases hx2 : okAll (tskAt l k).cost (tskAt l k).secs <;> simp [hx2] at hb2 ⊢))
        obtain ⟨t0, t1, t2, t3, t4, t5, t6⟩ := hT
        clear hb1 hb2 hA
        have hpx := AR.lt
        go_upto_region 9 with (fail)
        have AR1 := AR.alloc (.cells #[.string (tskAt l k).name, .int .i64 (tskAt l k).per, .int .i64 (tskAt l k).off, .int .i64 (tskAt l k).dl, .int .i64 (tskAt l k).cost, .int .i64 (tskAt l k).prio, .slice A2 (tskAt l k).secs.length c2] 45)
        generalize hW : World.alloc x.w _ = W1 at *
        have q5 : W1.cell? ⟨x.w.heap.size, 5, none⟩ = some (.int .i64 (tskAt l k).prio) := (by rw [← hW]; simp [go_sem])
        have qz : x.w.heap.size < W1.heap.size := (by rw [← hW]; simp [go_sem])
        obtain ⟨x1, rfl⟩ : ∃ y : Ext w, W1 = y.w := ext_of (by rw [← hW]; exact x.bel.alloc _)
        clear hW AR
        generalize x.w.heap.size = p7 at *
        clear x t0 t1 t2 t3 t4 t5 t6
        go_loopw [25] (fun i wr => ∃ (j : Nat) (z : Ext w), j ≤ (tskAt l k).secs.length ∧ i = .int .i64 j ∧ wr = z.w ∧ ArrAt z.w p 3 8 (fun r => ceilS r (tskAt l k).prio ((tskAt l k).secs.take j) (ceilT r (l.take k) 0)) ∧ z.w.cell? ⟨p7, 5, none⟩ = some (.int .i64 (tskAt l k).prio) ∧ p7 < z.w.heap.size) (fun i _ => (tskAt l k).secs.length - (intOf i).toNat)
        case atStart => exact ⟨0, x1, by omega, rfl, rfl, AR1, q5, qz⟩
        case round =>
          clear AR1 q5 qz x1
          obtain ⟨j, z, hj, rfl, rfl, AR, q5, qz⟩ := hrel
          by_cases hltj : j < (tskAt l k).secs.length
          · obtain ⟨b2, off2, rfl, hb2, hA2⟩ := hS.at_ (by omega)
            obtain ⟨s0, s1, s2⟩ := hA2 j hltj
            obtain ⟨r0, r1, _⟩ := hres.out j hltj
            obtain ⟨n, hn⟩ := Int.eq_ofNat_of_zero_le r0
            have hn8 : n < 8 := by omega
            rw [hn] at s0
            have HN := Lib.hid hn
            clear hn r0 r1 hA2
            have c0 := AR.cell hn8
            have f0 := AR.frozen n
            have hpz := AR.lt
            have AR1 := fun o => AR.alloc o
            have HAR := Lib.hid AR
            clear AR AR1
            generalize hg : ceilS n (tskAt l k).prio ((tskAt l k).secs.take j) (ceilT n (l.take k) 0) = gn at *
            have HGN := Lib.hid hg
            clear hg
            go_upto_region 11 with (fail)
            go_region
            all_goals go_wp2
            all_goals go_roundw
            case rel =>
              refine ⟨j + 1, ⟨_, ((z.bel.set (p := ⟨p, n, none⟩) hx _).alloc _).drew⟩, by omega, by go_num, rfl, (((HAR.out.set n _).alloc _).drew).congr (fun r hr => ?_), ?_, ?_⟩
              · rw [secs_snoc hltj, ceilS_snoc, HN.out]
                by_cases hrn : r = n
                · subst hrn; simp [HGN.out]
                · have hrn2 : ((n : Int) == (r : Int)) = false := beq_eq_false_iff_ne.2 (by omega)
                  simp [hrn, hrn2]
              · show World.cell? (World.alloc _ _) _ = _
                rw [World.cell?_alloc_lt _ _ _ (by simp [World.setCell]; exact qz)]
                rw [World.cell?_setCell_other _ _ _ _ (by intro e; injection e with e; omega)]
                exact q5
              · show p7 < (World.alloc _ _).heap.size
                simp [World.setCell]; omega
            case measure => simp [intOf]; omega
          · have : j = (tskAt l k).secs.length := by omega
            subst this
            go_wp2
            go_roundw
            case rel => exact ⟨k + 1, z, by omega, by go_num, rfl, AR.congr (fun r hr => by rw [tsks_snoc hlt, ceilT_snoc, List.take_length])⟩
            case measure => simp [intOf]; omega
      · have : k = l.length := by omega
        subst this
        go_wp2
        go_ret2
        refine ⟨_, by rw [H0.out]; rfl, ?_, x.bel, fun k hk => by simp [Value.ownBlock] at hk; omega⟩
        rw [H0.out]
        have := IntsAt.of_arr AR
        rw [List.take_length] at this
        exact this
  · have H0 := Lib.hid h0
    have hne : (rchk l != 0) = true := by simpa using h0
    go_enter Try.func22, Try.ntmps22
    go_wp2_with (go_at_call 35; (with_reducible refine (HC.out).mono ?_); rintro e w2 ⟨rfl, hb2⟩; obtain ⟨x, rfl⟩ : ∃ x : Ext w, w2 = x.w := ext_of (hb2.after (by (repeat (first | exact Ext.bel _ | exact Bel.refl | refine Bel.alloc ?_ _ | refine Bel.drew ?_ | refine Bel.drewN ?_ _)))); clear hb2)
    go_ret2
    exact ⟨_, rfl, by rw [if_neg H0.out]; exact ⟨none, 0, rfl, by simp, fun h => by simp at h⟩, x.bel, fun k hk => by simp [Value.ownBlock] at hk⟩
end Go.Proofs.Ythcdemmamggboaa
