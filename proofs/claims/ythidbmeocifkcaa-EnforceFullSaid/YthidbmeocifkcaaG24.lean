import Derived.Test.YthidbmeocifkcaaZEmach
import Derived.Test.YthidbmeocifkcaaZEtry
import Derived.Test.YthidbmeocifkcaaZPstepr
import Derived.Test.YthidbmeocifkcaaG1
import Derived.Deep.CutRange
/- enforce: the reference's greatest. -/
namespace Go.Proofs.Ythidbmeocifkcaa
open Go.RowKit
set_option maxRecDepth 100000 in
set_option maxHeartbeats 4000000 in
theorem rgreatest_any (p : PP) (gv ev : Value) (w : World) (h : PropAt w w.heap.size gv ev p) (hs : PSized p) :
    Calls Try.prog 46 #[.agg #[.int .i64 p.evs, .int .i64 p.clks, .int .i64 p.ini, gv, ev]] w fun e w' => e = .returned (.int .i64 (mostM p)) ∧ Bel w w' := by
  obtain ⟨A1, k1, rfl, hk1⟩ := h.e.form
  have HE := Lib.hid h.e
  have hes := hs.e
  have HS := Lib.hid hs
  clear h hs
  go_enter Try.func46, Try.ntmps46
  go_upto_region 1 with (fail)
  generalize hW : World.alloc _ _ = W1 at *
  obtain ⟨x1, rfl⟩ : ∃ y : Ext w, W1 = y.w := ext_of (by rw [← hW]; exact Bel.refl.alloc _)
  have pb : RowAt x1.w w.heap.size 25 [.int .i64 p.evs, .int .i64 p.clks, .int .i64 p.ini, gv, .slice A1 p.edges.length k1] := by rw [← hW]; exact RowAt.new _ _ _
  clear hW
  obtain ⟨bp, hbp⟩ : ∃ b, b = w.heap.size := ⟨_, rfl⟩
  rw [← hbp] at pb ⊢
  have b4 := pb.cell (i := 4) rfl
  have bz := pb.lt
  have HBB := Lib.hid x1.bel
  clear pb hbp
  generalize x1.w = W2 at *
  clear x1
  obtain ⟨z0, hz0⟩ : ∃ z : Ext W2, W2 = z.w := ext_of Bel.refl
  have HZ0 := Lib.hid hz0
  clear hz0
  go_wp2
  go_loopw [3, 4] (fun s3 s4 wq => ∃ (i : Nat) (z : Ext W2), i ≤ p.edges.length ∧ s4 = .int .i64 i ∧ wq = z.w ∧ s3 = .int .i64 (mostE 0 (p.edges.take i))) (fun _ s4 _ => p.edges.length - (intOf s4).toNat)
  case atStart => exact ⟨0, z0, Nat.zero_le _, rfl, HZ0.out, rfl⟩
  case round =>
    clear HZ0 z0
    obtain ⟨i, z, hi, rfl, rfl, rfl⟩ := hrel
    by_cases hli : i < p.edges.length
    · have hild : decide ((i : Int) < (p.edges.length : Int)) = true := by simp; omega
      have hiL : (i : Int) < (p.edges.length : Int) := by omega
      obtain ⟨b, off, rfl, hb, hA⟩ := HE.out.at_ (by omega)
      obtain ⟨cv, rv, ⟨c0, c1, c2, c3, c4⟩, hcv, hrv⟩ := hA i hli
      obtain ⟨B2, m2, rfl, _⟩ := hcv.form
      have hgl := (HS.out.x _ (pe_mem hli)).1
      have HCV := Lib.hid hcv
      have HMS := Lib.hid (mostE_snoc (m := 0) hli)
      replace c3 := (HBB.out.cells _ _ hb).trans c3
      have hbz := Nat.lt_of_lt_of_le hb HBB.out.le
      clear hA hrv hcv c0 c1 c2 c4
      generalize mostE 0 (p.edges.take i) = M0 at *
      generalize (peAt p.edges i).grd = gd at *
      go_wp2
      go_loopw [3, 5] (fun s3 s5 wq => ∃ (k : Nat) (z : Ext W2), k ≤ gd.length ∧ s5 = .int .i64 k ∧ wq = z.w ∧ s3 = .int .i64 (mostG M0 (gd.take k))) (fun _ s5 _ => gd.length - (intOf s5).toNat)
      case atStart => exact ⟨0, z, Nat.zero_le _, rfl, rfl, rfl⟩
      case round =>
        clear z
        obtain ⟨k, z, hk, rfl, rfl, rfl⟩ := hrel
        by_cases hlk : k < gd.length
        · have hkld : decide ((k : Int) < (gd.length : Int)) = true := by simp; omega
          have hkL : (k : Int) < (gd.length : Int) := by omega
          obtain ⟨b3, off3, rfl, hb3, hA3⟩ := HCV.out.at_ (by omega)
          obtain ⟨d0, d1, d2, d3⟩ := hA3 k hlk
          replace d3 := (HBB.out.cells _ _ hb3).trans d3
          have hbz3 := Nat.lt_of_lt_of_le hb3 HBB.out.le
          have HGS := Lib.hid (mostG_snoc (m := M0) hlk)
          clear hA3 d0 d1 d2
          generalize mostG M0 (gd.take k) = M at *
          generalize (pcAt gd k).c = cc at *
          by_cases hmc : M < cc
          · have q1 : decide (M < cc) = true := decide_eq_true hmc
            have HX : Hid (mostG M0 (gd.take (k + 1)) = cc) := Lib.hid (by rw [HGS.out]; unfold mx; rw [if_pos hmc])
            have HMC := Lib.hid hmc
            clear HGS hmc
            go_wp2
            go_roundw
            case rel => exact ⟨k + 1, z, by omega, by go_num, rfl, by rw [HX.out, if_pos HMC.out]⟩
            case measure => simp [intOf]; omega
          · have q1 : decide (M < cc) = false := decide_eq_false hmc
            have HX : Hid (mostG M0 (gd.take (k + 1)) = M) := Lib.hid (by rw [HGS.out]; unfold mx; rw [if_neg hmc])
            have HMC := Lib.hid hmc
            clear HGS hmc
            go_wp2
            go_roundw
            case rel => exact ⟨k + 1, z, by omega, by go_num, rfl, by rw [HX.out, if_neg HMC.out]⟩
            case measure => simp [intOf]; omega
        · obtain rfl : k = gd.length := by omega
          have hkld : decide ((gd.length : Int) < (gd.length : Int)) = false := by simp
          have HX := HMS.out
          clear HMS
          rw [List.take_length]
          generalize mostG M0 gd = MX at *
          replace HX := Lib.hid HX
          go_wp2
          go_roundw
          case rel => exact ⟨i + 1, z, by omega, by go_num, rfl, by rw [HX.out]⟩
          case measure => simp [intOf]; omega
    · obtain rfl : i = p.edges.length := by omega
      have hild : decide ((p.edges.length : Int) < (p.edges.length : Int)) = false := by simp
      rw [List.take_length]
      go_wp2
      go_ret
      exact ⟨rfl, HBB.out.trans z.bel⟩
end Go.Proofs.Ythidbmeocifkcaa
/- enforce: the reference's times. -/
namespace Go.Proofs.Ythidbmeocifkcaa
open Go.RowKit
def srR (p : PP) (E : Int) : List PS → Pt → Int → Option (List Int) := searchM (stepR p) (goodM p) (mostM p) E
def keyR (x : Pt) (last : Int) (j : Nat) : List Int := [j, x.loc, x.cl.getD 0 0, x.cl.getD 1 0, x.cl.getD 2 0, last]
def LostR (sr : List PS → Pt → Int → Option (List Int)) (w : List PS) (m : Lit → Bool) : Prop :=
  ∀ (x : Pt) (last : Int) (j : Nat), x.cl.length = 3 → (∀ v ∈ keyR x last j, i64 v) → m (klit 81 (keyR x last j)) = true → sr (w.drop j) x last = none
theorem keyR_inj {x y : Pt} {a b : Int} {i j : Nat} (hx : x.cl.length = 3) (hy : y.cl.length = 3) (h : keyR x a i = keyR y b j) : x = y ∧ a = b ∧ i = j := by
  obtain ⟨lx, cx⟩ := x
  obtain ⟨ly, cy⟩ := y
  match cx, cy, hx, hy with
  | [a0, a1, a2], [b0, b1, b2], _, _ =>
    simp [keyR] at h
    obtain ⟨h6, h1, h2, h3, h4, h5⟩ := h
    subst h1 h2 h3 h4 h5
    obtain rfl : i = j := by omega
    exact ⟨rfl, rfl, rfl⟩
theorem LostR.put {sr : List PS → Pt → Int → Option (List Int)} {w : List PS} {m m' : Lit → Bool} {x : Pt} {last : Int} {j : Nat} (h : LostR sr w m) (hx : x.cl.length = 3) (hk : ∀ v ∈ keyR x last j, i64 v) (hs : sr (w.drop j) x last = none)
    (hmo : ∀ q, q ≠ klit 81 (keyR x last j) → m' q = m q) : LostR sr w m' := by
  intro y l i hy hky hm
  by_cases e : klit 81 (keyR y l i) = klit 81 (keyR x last j)
  · obtain ⟨rfl, rfl, rfl⟩ := keyR_inj hy hx (ikey_rs.inj rfl rfl hky hk e)
    exact hs
  · rw [hmo _ e] at hm
    exact h y l i hy hky hm
/-- what does not change -/
structure RtEnv (ws : World) (p : PP) (gv ev : Value) (A : Option Addr) (c : Nat) (E : Int) (w : List PS) : Prop where
  hv : PValid p p.clks.toNat
  hs : PSized p
  prop : PropAt ws ws.heap.size gv ev p
  wst : StampsAt ws ws.heap.size (.slice A w.length c) w
  wok : ∀ s ∈ w, 0 ≤ s.at_ ∧ s.at_ ≤ 1000000 ∧ i64 s.ev
  wl : w.length ≤ 1000
  eE : 0 < w.length → E = (psAt w (w.length - 1)).at_
/-- the memory of the reference's search -/
structure SrAt (ws W : World) (p : PP) (bs bq : Nat) (gv ev : Value) (A : Option Addr) (c : Nat) (E : Int) (w : List PS) (m : Lit → Bool) (N : Nat) : Prop where
  bel : Bel ws W
  row : RowAt W bs 77 [.int .i64 p.evs, .int .i64 p.clks, .int .i64 p.ini, gv, ev, .slice A w.length c, .map (some bq)]
  mp : BSet W Try.prog 81 4 bq N m
  ok : LostR (srR p E) w m
  oq : ws.heap.size ≤ bq
section
variable {ws W W' : World} {p : PP} {bs bq N N' c : Nat} {gv ev : Value} {A : Option Addr} {E : Int} {w : List PS} {m m' : Lit → Bool}
theorem SrAt.bel' (h : SrAt ws W p bs bq gv ev A c E w m N) (hb : Bel W W') : SrAt ws W' p bs bq gv ev A c E w m N :=
  ⟨h.bel.trans hb, h.row.bel hb, h.mp.bel hb, h.ok, h.oq⟩
theorem SrAt.put (h : SrAt ws W p bs bq gv ev A c E w m N) (hg : W.grownBy W' (some bq)) (hm : BSet W' Try.prog 81 4 bq N' m') (hl : LostR (srR p E) w m') : SrAt ws W' p bs bq gv ev A c E w m' N' := by
  obtain ⟨es, c0, hbq⟩ := bset_blk h.mp
  have hne : ∀ {b : Nat} {e : TypeId} {xs : List Value}, RowAt W b e xs → some b ≠ some bq := fun {b e xs} hb e2 => by
    injection e2 with e2
    subst e2
    unfold RowAt at hb
    rw [hbq] at hb
    cases hb
  exact ⟨bel_gro h.bel hg (fun k hk => by injection hk with hk; subst hk; exact h.oq), h.row.gro hg (hne h.row), hm, hl, h.oq⟩
end
def RtPost (ws W : World) (p : PP) (bs bq : Nat) (gv ev : Value) (A : Option Addr) (c : Nat) (E : Int) (w : List PS) (N : Nat) (ss : List PS) (x : Pt) (last : Int) (e : Ending) (W' : World) : Prop :=
  ∃ v m' N', e = .returned (.tuple #[v, .bool (srR p E ss x last).isSome]) ∧ SrAt ws W' p bs bq gv ev A c E w m' N' ∧ GrsOk W [bq] W' ∧ N' ≤ N + putsM (stepR p) (mostM p) E ss x last ∧
    W'.ownsRow W.heap.size 2 1 v ((srR p E ss x last).getD []).length (((srR p E ss x last).getD []).map (Value.int .i64))
theorem sr_negR {p : PP} {E : Int} {ss : List PS} {x : Pt} {last : Int} (h : x.loc < 0) : srR p E ss x last = none := by
  unfold srR
  cases ss with
  | nil =>
    have : goodM p x = false := by unfold goodM; rw [decide_eq_false (by omega)]; rfl
    simp only [searchM, this]; rfl
  | cons s ss => simp only [searchM]; rw [if_pos h]
theorem own_lit (w : World) {base : Nat} (hb : base ≤ w.heap.size) (e : TypeId) (xs : List Value) (n : Nat) (hx : xs.length = n) (hn : n ≤ maxLen) : (w.alloc (.cells xs.toArray e)).ownsRow base e 1 (.slice (some ⟨w.heap.size, 0, none⟩) n n) n xs :=
  ⟨by omega, .inr ⟨w.heap.size, n, xs.toArray, rfl, hb, heap_alloc_new w _, Nat.le_refl _, hn, by simp [hx], by simp [← hx]⟩⟩
theorem Try.infoI64r : (Try.prog.info? 2).map (fun i => (i.zero, i.size, i.bytes)) = some (some (.int .i64 0), 1, 8) := by kernel_rfl
/-- append([]int64{t}, l...) -/
theorem cons_row {w : World} {base n c : Nat} {A : Option Addr} {l : List Int} (t : Int) (ho : w.ownsRow base 2 1 (.slice A n c) n (l.map (Value.int .i64))) (hn : n ≤ 100000) :
    ∃ v' w', (Builtin.append_ #[70, 70] 70 #[.slice (some ⟨w.heap.size, 0, none⟩) 1 1, .slice A n c]).run Try.prog (w.alloc (.cells #[.int .i64 t] 2)) = .ok v' w' ∧
      w'.ownsRow w.heap.size 2 1 v' (1 + n) ((t :: l).map (Value.int .i64)) ∧ Bel w w' := by
  obtain ⟨i0, hi0, hy0, hy1, hy2⟩ := info_parts Try.infoI64r
  have ho1 := own_lit w (base := w.heap.size) (Nat.le_refl _) 2 [.int .i64 t] 1 rfl (by unfold maxLen; omega)
  have hsrc : (A = none ∧ n = 0) ∨ ∃ ad, A = some ad ∧ ∀ j u, (l.map (Value.int .i64))[j]? = some u → (w.alloc (.cells #[.int .i64 t] 2)).cell? (ad.add j) = some u := by
    rcases ho.2 with ⟨hv, h0⟩ | ⟨g, cap, cur, hv, h2, h3, h4⟩
    · injection hv with hv; exact .inl ⟨hv, h0⟩
    · injection hv with hv
      subst hv
      exact .inr ⟨_, rfl, fun j u hu => (ho.alloc (.cells #[.int .i64 t] 2)).cells (g := g) rfl j u hu⟩
  obtain ⟨v', w', h1, h2, h3⟩ := append_row (w.alloc (.cells #[.int .i64 t] 2)) w.heap.size 70 70 2 i0 _ 1 8 Try.underlying70 hi0 hy0 hy1 hy2 rfl (by decide) _ 1 _ ho1 A n c (l.map (Value.int .i64)) hsrc (by rw [← ho.1]) (by intro u hu; obtain ⟨x, _, rfl⟩ := List.mem_map.mp hu; rfl) (by unfold maxLen; omega) (by omega) (by simp [go_sem])
  exact ⟨v', w', h1, h2, bel_grown (Bel.refl.alloc _) ho1 h3⟩
theorem stepR_cl {p : PP} {n : Nat} (_ : PValid p n) {x : Pt} {a ev : Int} (h : ClOk x.cl) (ha : 0 ≤ a) : ClOk (step n p.edges x a ev).cl := by
  unfold step
  split
  · exact tickJ_ok h ha
  · split
    · exact resetF_ok _ _ (tickJ_ok h ha)
    · exact tickJ_ok h ha
theorem gro_then {w w' w'' : World} {row : Option Nat} (h : w.grownBy w' row) (hb : Bel w' w'') : w.grownBy w'' row :=
  h.trans ⟨hb.os, hb.tape, hb.output, hb.size, fun k hk _ => hb.block k hk⟩
end Go.Proofs.Ythidbmeocifkcaa
