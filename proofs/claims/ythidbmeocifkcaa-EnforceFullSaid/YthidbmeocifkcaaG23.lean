import Derived.Test.YthidbmeocifkcaaG22
import Derived.Test.YthidbmeocifkcaaG26
import Derived.Test.YthidbmeocifkcaaZPrchk
import Derived.Deep.CutRange
import Derived.Test.YthidbmeocifkcaaZPbey
import Derived.Test.YthidbmeocifkcaaG1
/- enforce: the law's own functions small, wide, good, delayed. -/
namespace Go.Proofs.Ythidbmeocifkcaa
open Go.RowKit
def big6 (c : PC) : Bool := decide (6 < c.c)
def smallM (p : PP) : Bool := if rpchk p = 0 then (if 2 < p.clks ∨ 5 < p.good.length ∨ 16 < p.edges.length then false else !anyP (fun e : PE => anyP big6 e.grd) p.edges) else true
theorem anyP_drop {α : Type} {f : α → Bool} {l : List α} {i : Nat} (h : i < l.length) : anyP f (l.drop i) = (f l[i] || anyP f (l.drop (i + 1))) := by
  rw [List.drop_eq_getElem_cons h]
  simp only [anyP]
  cases f l[i] <;> rfl
theorem pcAt_eq {l : List PC} {k : Nat} (h : k < l.length) : pcAt l k = l[k] := by simp [pcAt, List.getD, h]
theorem peAt_eq {l : List PE} {k : Nat} (h : k < l.length) : peAt l k = l[k] := by simp [peAt, List.getD, h]
set_option maxRecDepth 100000 in
set_option maxHeartbeats 8000000 in
theorem small_any (p : PP) (gv ev : Value) (W : World) (h : PropAt W W.heap.size gv ev p) (hs : PSized p) :
    Calls Try.prog 11 #[.agg #[.int .i64 p.evs, .int .i64 p.clks, .int .i64 p.ini, gv, ev]] W fun e W' => e = .returned (.bool (smallM p)) ∧ Bel W W' := by
  have HC := Lib.hid (fun (V : World) (hV : Bel W V) => rcheck35_any p gv ev V (h.bel hV) hs)
  have HP := Lib.hid h
  have HS := Lib.hid hs
  obtain ⟨A1, k1, rfl, _⟩ := h.g.form
  obtain ⟨A2, k2, rfl, _⟩ := h.e.form
  have HE := Lib.hid h.e
  clear h hs
  go_enter Try.func11, Try.ntmps11
  go_upto_region 1 with (fail)
  generalize hW1 : World.alloc W _ = W1 at *
  have rb : RowAt W1 W.heap.size 25 [.int .i64 p.evs, .int .i64 p.clks, .int .i64 p.ini, .slice A1 p.good.length k1, .slice A2 p.edges.length k2] := by rw [← hW1]; exact RowAt.new _ _ _
  have hB1 : Bel W W1 := by rw [← hW1]; exact Bel.refl.alloc _
  clear hW1
  obtain ⟨bp, hbp⟩ : ∃ b, b = W.heap.size := ⟨_, rfl⟩
  rw [← hbp] at rb ⊢
  clear hbp
  have q0 := rb.cell (i := 0) rfl
  have q1 := rb.cell (i := 1) rfl
  have q2 := rb.cell (i := 2) rfl
  have q3 := rb.cell (i := 3) rfl
  have q4 := rb.cell (i := 4) rfl
  have qz := rb.lt
  have HRB := Lib.hid rb
  have HB1 := Lib.hid hB1
  clear rb hB1
  go_wp2_with fail
  refine (HC.out W1 HB1.out).mono ?_
  rintro e W2 ⟨rfl, hB⟩
  clear q0 q1 q2 q3 q4 qz HC
  have HB2 := Lib.hid (HB1.out.trans hB)
  have HR2 := Lib.hid (HRB.out.bel hB)
  clear HB1 HRB hB
  have q1 := HR2.out.cell (i := 1) rfl
  have q3 := HR2.out.cell (i := 3) rfl
  have q4 := HR2.out.cell (i := 4) rfl
  have qz := HR2.out.lt
  by_cases hc : rpchk p = 0
  case neg =>
    have HR : Hid (smallM p = true) := Lib.hid (by unfold smallM; rw [if_neg hc])
    have t1 : (rpchk p == 0) = false := by simpa using hc
    have t2 : (rpchk p != 0) = true := by simpa using hc
    generalize rpchk p = er at *
    clear hc
    go_wp2
    go_ret
    exact ⟨ret_bool HR.out.symm, HB2.out⟩
  have HR1 : Hid (smallM p = if 2 < p.clks ∨ 5 < p.good.length ∨ 16 < p.edges.length then false else !anyP (fun e : PE => anyP big6 e.grd) p.edges) := Lib.hid (by unfold smallM; rw [if_pos hc])
  rw [hc]
  clear hc
  by_cases hbg : 2 < p.clks ∨ 5 < p.good.length ∨ 16 < p.edges.length
  · have HR : Hid (smallM p = false) := Lib.hid (by rw [HR1.out, if_pos hbg])
    have d1 : decide ((5 : Int) < (p.good.length : Int)) = decide (5 < p.good.length) := by rw [Bool.eq_iff_iff]; simp; omega
    have d2 : decide ((16 : Int) < (p.edges.length : Int)) = decide (16 < p.edges.length) := by rw [Bool.eq_iff_iff]; simp; omega
    cases h1 : decide (2 < p.clks) <;> cases h2 : decide (5 < p.good.length) <;> cases h3 : decide (16 < p.edges.length)
    · exfalso
      have := of_decide_eq_false h1
      have := of_decide_eq_false h2
      have := of_decide_eq_false h3
      omega
    all_goals
      rw [h2] at d1
      rw [h3] at d2
      clear hbg
      go_wp2
      go_ret
      exact ⟨ret_bool HR.out.symm, HB2.out⟩
  have HR : Hid (smallM p = !anyP (fun e : PE => anyP big6 e.grd) p.edges) := Lib.hid (by rw [HR1.out, if_neg hbg])
  have h1 : decide (2 < p.clks) = false := decide_eq_false (by omega)
  have h2 : decide (5 < p.good.length) = false := decide_eq_false (by omega)
  have h3 : decide (16 < p.edges.length) = false := decide_eq_false (by omega)
  have d1 : decide ((5 : Int) < (p.good.length : Int)) = false := decide_eq_false (by omega)
  have d2 : decide ((16 : Int) < (p.edges.length : Int)) = false := decide_eq_false (by omega)
  have hes := HS.out.e
  clear hbg HR1
  go_wp2
  go_loopw [3] (fun s3 wq => ∃ (i : Nat) (z : Ext W2), i ≤ p.edges.length ∧ s3 = .int .i64 i ∧ wq = z.w ∧ smallM p = !anyP (fun e : PE => anyP big6 e.grd) (p.edges.drop i)) (fun s3 _ => p.edges.length - (intOf s3).toNat)
  case atStart => exact ⟨0, ⟨W2, Bel.refl⟩, Nat.zero_le _, rfl, rfl, HR.out⟩
  case round =>
    clear HR h1 h2 h3 d1 d2
    obtain ⟨i, z, hi, rfl, rfl, hr⟩ := hrel
    have HR := Lib.hid hr
    clear hr
    by_cases hli : i < p.edges.length
    · have hild : decide ((i : Int) < (p.edges.length : Int)) = true := by simp; omega
      have hiL : (i : Int) < (p.edges.length : Int) := by omega
      obtain ⟨b, off, rfl, hb, hA⟩ := HE.out.at_ (by omega)
      obtain ⟨cv, rv, ⟨c0, c1, c2, c3, c4⟩, hcv, hrv⟩ := hA i hli
      obtain ⟨B2, m2, rfl, _⟩ := hcv.form
      have hgl := (HS.out.x _ (pe_mem hli)).1
      have HCV := Lib.hid hcv
      have HR2' : Hid (smallM p = !(anyP big6 ((peAt p.edges i).grd.drop 0) || anyP (fun e : PE => anyP big6 e.grd) (p.edges.drop (i + 1)))) := Lib.hid (by
        rw [HR.out, anyP_drop hli, ← peAt_eq hli]; rfl)
      replace c3 := ((HB2.out.trans z.bel).cells _ _ hb).trans c3
      have hbz := Nat.lt_of_lt_of_le hb (HB2.out.trans z.bel).le
      have q4 := (z.bel.cells _ _ qz).trans q4
      have qz := Nat.lt_of_lt_of_le qz z.bel.le
      have HZB := Lib.hid z.bel
      clear hA hrv hcv c0 c1 c2 c4 HR
      generalize z.w = wz at *
      clear z
      generalize (peAt p.edges i).grd = gd at *
      go_wp2
      go_loopw [4] (fun s4 wq => ∃ (k : Nat) (z : Ext wz), k ≤ gd.length ∧ s4 = .int .i64 k ∧ wq = z.w ∧ smallM p = !(anyP big6 (gd.drop k) || anyP (fun e : PE => anyP big6 e.grd) (p.edges.drop (i + 1)))) (fun s4 _ => gd.length - (intOf s4).toNat)
      case atStart => exact ⟨0, ⟨wz, Bel.refl⟩, Nat.zero_le _, rfl, rfl, HR2'.out⟩
      case round =>
        clear HR2'
        obtain ⟨k, z, hk, rfl, rfl, hr⟩ := hrel
        have HR := Lib.hid hr
        clear hr
        by_cases hlk : k < gd.length
        · have hkld : decide ((k : Int) < (gd.length : Int)) = true := by simp; omega
          have hkL : (k : Int) < (gd.length : Int) := by omega
          obtain ⟨b3, off3, rfl, hb3, hA3⟩ := HCV.out.at_ (by omega)
          obtain ⟨e0, e1, e2, e3⟩ := hA3 k hlk
          replace e3 := ((HB2.out.trans (HZB.out.trans z.bel)).cells _ _ hb3).trans e3
          have hbz3 := Nat.lt_of_lt_of_le hb3 (HB2.out.trans (HZB.out.trans z.bel)).le
          have hstp := anyP_drop (f := big6) hlk
          rw [← pcAt_eq hlk] at hstp
          have HB3 := Lib.hid (HB2.out.trans (HZB.out.trans z.bel))
          clear hA3 e0 e1 e2
          cases hq : decide (6 < (pcAt gd k).c)
          · have HR3 : Hid (smallM p = !(anyP big6 (gd.drop (k + 1)) || anyP (fun e : PE => anyP big6 e.grd) (p.edges.drop (i + 1)))) := Lib.hid (by
              rw [HR.out, hstp]
              have : big6 (pcAt gd k) = false := hq
              rw [this]; rfl)
            clear hstp HR
            go_wp2
            go_roundw
            case rel => exact ⟨k + 1, z, by omega, by go_num, rfl, HR3.out⟩
            case measure => simp [intOf]; omega
          · have HR3 : Hid (smallM p = false) := Lib.hid (by
              rw [HR.out, hstp]
              have : big6 (pcAt gd k) = true := hq
              rw [this]; rfl)
            clear hstp HR
            go_wp2
            go_ret
            exact ⟨ret_bool HR3.out.symm, HB3.out⟩
        · obtain rfl : k = gd.length := by omega
          have hkld : decide ((gd.length : Int) < (gd.length : Int)) = false := by simp
          have HR3 : Hid (smallM p = !anyP (fun e : PE => anyP big6 e.grd) (p.edges.drop (i + 1))) := Lib.hid (by
            rw [HR.out, List.drop_length]; rfl)
          obtain ⟨z2, hz2⟩ := ext_of (HZB.out.trans z.bel)
          have HZ2 := Lib.hid hz2
          clear HR hz2
          go_wp2
          go_roundw
          case rel => exact ⟨i + 1, z2, by omega, by go_num, HZ2.out, HR3.out⟩
          case measure => simp [intOf]; omega
    · obtain rfl : i = p.edges.length := by omega
      have hild : decide ((p.edges.length : Int) < (p.edges.length : Int)) = false := by simp
      have HR3 : Hid (smallM p = true) := Lib.hid (by rw [HR.out, List.drop_length]; rfl)
      go_wp2
      go_ret
      exact ⟨ret_bool HR3.out.symm, HB2.out.trans z.bel⟩
theorem small_most {p : PP} (h : smallM p = true) (hc : rpchk p = 0) : mostM p ≤ 6 := by
  unfold smallM at h
  rw [if_pos hc] at h
  split at h
  · cases h
  · have h2 : anyP (fun e : PE => anyP big6 e.grd) p.edges = false := by simpa using h
    have h3 := (anyP_iff _ _).mp h2
    refine (mostE_le p.edges 0).2.2 6 (by omega) (fun e he c hc => ?_)
    have h4 := (anyP_iff _ _).mp (h3 e he) c hc
    unfold big6 at h4
    simpa using h4
def spreadW (w : List PS) : Int := IntKind.i64.wrap ((psAt w (w.length - 1)).at_ - (psAt w 0).at_)
def wideM (w : List PS) : Bool := decide (7 < w.length) && decide (w.length ≤ 40) || decide (500 < w.length) || (decide (0 < w.length) && decide (30 < spreadW w) && decide (spreadW w ≤ 200))
set_option maxRecDepth 100000 in
set_option maxHeartbeats 8000000 in
theorem wide_any (sv : Value) (w : List PS) (W : World) (h : StampsAt W W.heap.size sv w) :
    Calls Try.prog 12 #[sv] W fun e W' => e = .returned (.bool (wideM w)) ∧ Bel W W' := by
  have H := Lib.hid h
  obtain ⟨A, c, rfl, _⟩ := h.form
  clear h
  go_enter Try.func12, Try.ntmps12
  go_upto_region 1 with (fail)
  have d1 : decide ((7 : Int) < (w.length : Int)) = decide (7 < w.length) := by rw [Bool.eq_iff_iff]; simp; omega
  have d2 : decide ((w.length : Int) ≤ (40 : Int)) = decide (w.length ≤ 40) := by rw [Bool.eq_iff_iff]; simp only [decide_eq_true_eq]; omega
  have d3 : decide ((500 : Int) < (w.length : Int)) = decide (500 < w.length) := by rw [Bool.eq_iff_iff]; simp; omega
  have d4 : decide ((0 : Int) < (w.length : Int)) = decide (0 < w.length) := by rw [Bool.eq_iff_iff]; simp only [decide_eq_true_eq]; omega
  by_cases h500 : 500 < w.length
  · have h1 : decide (7 < w.length) = true := decide_eq_true (by omega)
    have h2 : decide (w.length ≤ 40) = false := decide_eq_false (by omega)
    have h3 : decide (500 < w.length) = true := decide_eq_true h500
    have HR : Hid (wideM w = true) := Lib.hid (by unfold wideM; rw [h3]; simp)
    rw [h1] at d1
    rw [h2] at d2
    rw [h3] at d3
    clear h500
    (refine wp_region_ext (wb := W) (by (repeat (first | exact Ext.bel _ | exact Bel.refl | refine Bel.alloc ?_ _ | refine Bel.drew ?_ | refine Bel.drewN ?_ _))) (by kernel_rfl) (by kernel_rfl) ?_; (repeat (any_goals (first | go_big_quiet_step (fail) | quiet_step (fail) | (refine wpQuiet_step (fun K hK => ?_); go_simp; split <;> (refine hK _ ?_; clear hK K))))); all_goals (refine wpQuiet_nil ?_; intro _ hw'; obtain ⟨y, hw''⟩ := hw'; subst hw''))
    go_wp2
    go_ret
    exact ⟨ret_bool HR.out.symm, y.bel⟩
  by_cases h0 : 0 < w.length
  · obtain ⟨b, off, rfl, hb, hA⟩ := H.out.at_ h0
    obtain ⟨a0, _⟩ := hA 0 h0
    obtain ⟨e0, _⟩ := hA (w.length - 1) (by omega)
    have h3 : decide (500 < w.length) = false := decide_eq_false h500
    have hw0 : IntKind.i64.wrap ((w.length : Int) - 1) = ((w.length - 1 : Nat) : Int) := by
      rw [show (w.length : Int) - 1 = ((w.length - 1 : Nat) : Int) by omega]
      exact IntWalk.i64_in _ (by omega)
    have hws : IntKind.i64.wrap ((psAt w (w.length - 1)).at_ - (psAt w 0).at_) = spreadW w := rfl
    have hwm : wideM w = (decide (7 < w.length) && decide (w.length ≤ 40) || decide (500 < w.length) || (decide (0 < w.length) && decide (30 < spreadW w) && decide (spreadW w ≤ 200))) := rfl
    have HWM := Lib.hid hwm
    have hlt1 : ((w.length - 1 : Nat) : Int) < (w.length : Int) := by omega
    have hlt0 : (0 : Int) < (w.length : Int) := by omega
    clear hwm
    generalize spreadW w = sp at *
    generalize hq : w.length - 1 = q at *
    have HQ := Lib.hid hq
    simp only [Nat.zero_mul, Nat.add_zero] at a0
    have h4 : decide (0 < w.length) = true := decide_eq_true h0
    clear hA hq h0
    cases h1 : decide (7 < w.length) <;> cases h2 : decide (w.length ≤ 40) <;> cases h5 : decide (30 < sp) <;> cases h6 : decide (sp ≤ 200)
    all_goals
      have HR : Hid (wideM w = _) := Lib.hid HWM.out
      rw [h1, h2, h3, h4, h5, h6] at HR
      rw [h1] at d1
      rw [h2] at d2
      rw [h3] at d3
      rw [h4] at d4
      simp only [Bool.true_and, Bool.and_true, Bool.and_false, Bool.false_and, Bool.or_true, Bool.or_false, Bool.true_or, Bool.false_or] at HR
      (refine wp_region_ext (wb := W) (by (repeat (first | exact Ext.bel _ | exact Bel.refl | refine Bel.alloc ?_ _ | refine Bel.drew ?_ | refine Bel.drewN ?_ _))) (by kernel_rfl) (by kernel_rfl) ?_; (repeat (any_goals (first | go_big_quiet_step (fail) | quiet_step (fail) | (refine wpQuiet_step (fun K hK => ?_); go_simp; split <;> (refine hK _ ?_; clear hK K))))); all_goals (refine wpQuiet_nil ?_; intro _ hw'; obtain ⟨y, hw''⟩ := hw'; subst hw''))
      go_wp2
      go_ret
      exact ⟨ret_bool HR.out.symm, y.bel⟩
  · have h4 : decide (0 < w.length) = false := decide_eq_false h0
    have h1 : decide (7 < w.length) = false := decide_eq_false (by omega)
    have h3 : decide (500 < w.length) = false := decide_eq_false (by omega)
    have HR : Hid (wideM w = false) := Lib.hid (by unfold wideM; rw [h1, h3, h4]; rfl)
    rw [h1] at d1
    rw [h3] at d3
    rw [h4] at d4
    (refine wp_region_ext (wb := W) (by (repeat (first | exact Ext.bel _ | exact Bel.refl | refine Bel.alloc ?_ _ | refine Bel.drew ?_ | refine Bel.drewN ?_ _))) (by kernel_rfl) (by kernel_rfl) ?_; (repeat (any_goals (first | go_big_quiet_step (fail) | quiet_step (fail) | (refine wpQuiet_step (fun K hK => ?_); go_simp; split <;> (refine hK _ ?_; clear hK K))))); all_goals (refine wpQuiet_nil ?_; intro _ hw'; obtain ⟨y, hw''⟩ := hw'; subst hw''))
    go_wp2
    go_ret
    exact ⟨ret_bool HR.out.symm, y.bel⟩
/-- a word that rises -/
def RiseW (u : List PS) : Prop := ∀ i, i < u.length → (if i = 0 then 0 else (psAt u (i - 1)).at_) ≤ (psAt u i).at_ ∧ (psAt u i).at_ ≤ 1000000000
def goodW (p : PP) (u : List PS) : Bool := goodM p (runE (stepR p) (start p) 0 u).1
set_option maxRecDepth 100000 in
set_option maxHeartbeats 2000000 in
theorem good_any (p : PP) (gv ev sv : Value) (u : List PS) (W : World) (h : PropAt W W.heap.size gv ev p) (hs : PSized p) (hv : PValid p p.clks.toNat) (hu : StampsAt W W.heap.size sv u) (hr : RiseW u) (hl : u.length ≤ 1000000) :
    Calls Try.prog 23 #[.agg #[.int .i64 p.evs, .int .i64 p.clks, .int .i64 p.ini, gv, ev], sv] W fun e W' => e = .returned (.bool (goodW p u)) ∧ Bel W W' := by
  have HST := Lib.hid (fun (V : World) (hV : Bel W V) => rstart_any p gv ev V (h.bel hV))
  have HP := Lib.hid h
  have HS := Lib.hid hs
  have HV := Lib.hid hv
  have HU := Lib.hid hu
  have HRI := Lib.hid hr
  obtain ⟨A1, k1, rfl, _⟩ := h.g.form
  obtain ⟨A2, k2, rfl, _⟩ := h.e.form
  obtain ⟨A, c, rfl, _⟩ := hu.form
  clear h hs hv hu hr
  go_enter Try.func23, Try.ntmps23
  go_upto_region 1 with (fail)
  generalize hW1 : World.alloc W _ = W1 at *
  have rb : RowAt W1 W.heap.size 25 [.int .i64 p.evs, .int .i64 p.clks, .int .i64 p.ini, .slice A1 p.good.length k1, .slice A2 p.edges.length k2] := by rw [← hW1]; exact RowAt.new _ _ _
  have hB1 : Bel W W1 := by rw [← hW1]; exact Bel.refl.alloc _
  clear hW1
  obtain ⟨bp, hbp⟩ : ∃ b, b = W.heap.size := ⟨_, rfl⟩
  rw [← hbp] at rb ⊢
  clear hbp
  have q0 := rb.cell (i := 0) rfl
  have q1 := rb.cell (i := 1) rfl
  have q2 := rb.cell (i := 2) rfl
  have q3 := rb.cell (i := 3) rfl
  have q4 := rb.cell (i := 4) rfl
  have qz := rb.lt
  have HRB := Lib.hid rb
  have HB1 := Lib.hid hB1
  clear rb hB1
  go_wp2_with fail
  refine (HST.out W1 HB1.out).mono ?_
  rintro e W2 ⟨rfl, hB⟩
  clear q0 q1 q2 q3 q4 qz HST
  have HB2 := Lib.hid (HB1.out.trans hB)
  have HR2 := Lib.hid (HRB.out.bel hB)
  clear HB1 HRB hB
  go_upto_region 2 with (fail)
  generalize hW3 : World.alloc W2 _ = W3 at *
  have rx : RowAt W3 W2.heap.size 43 [.int .i64 p.ini, .int .i64 0, .int .i64 0, .int .i64 0] := by rw [← hW3]; exact RowAt.new _ _ _
  have hB3 : Bel W2 W3 := by rw [← hW3]; exact Bel.refl.alloc _
  clear hW3
  have HB3 := Lib.hid hB3
  have HX : Hid (RowAt W3 W2.heap.size 43 ((fun x : Pt => ([.int .i64 x.loc, .int .i64 (x.cl.getD 0 0), .int .i64 (x.cl.getD 1 0), .int .i64 (x.cl.getD 2 0)] : List Value)) (runE (stepR p) (start p) 0 (u.take 0)).1)) := Lib.hid rx
  clear rx hB3
  have HNX : Hid (W2.heap.size ≤ W2.heap.size) := Lib.hid (Nat.le_refl _)
  obtain ⟨bx, hbx⟩ : ∃ b, b = W2.heap.size := ⟨_, rfl⟩
  have HNX : Hid (W2.heap.size ≤ bx) := Lib.hid (by omega)
  rw [← hbx] at HX ⊢
  clear hbx
  have HIN : Hid (ClOk (runE (stepR p) (start p) 0 (u.take 0)).1.cl ∧ LocOk p (runE (stepR p) (start p) 0 (u.take 0)).1) := Lib.hid ⟨(start_ok HV.out).2, (start_ok HV.out).1⟩
  go_wp2
  go_loopw [6, 7] (fun s6 s7 wq => ∃ i, i ≤ u.length ∧ s7 = .int .i64 i ∧ s6 = .int .i64 (runE (stepR p) (start p) 0 (u.take i)).2 ∧ Bel W2 wq ∧ RowAt wq bx 43 ((fun x : Pt => ([.int .i64 x.loc, .int .i64 (x.cl.getD 0 0), .int .i64 (x.cl.getD 1 0), .int .i64 (x.cl.getD 2 0)] : List Value)) (runE (stepR p) (start p) 0 (u.take i)).1) ∧ ClOk (runE (stepR p) (start p) 0 (u.take i)).1.cl ∧ LocOk p (runE (stepR p) (start p) 0 (u.take i)).1) (fun _ s7 _ => u.length - (intOf s7).toNat)
  case atStart => exact ⟨0, Nat.zero_le _, rfl, rfl, HB3.out, HX.out, HIN.out.1, HIN.out.2⟩
  case round =>
    clear HB3 HX HIN
    obtain ⟨i, hi, rfl, rfl, hB, hX, hcl, hlo⟩ := hrel
    have HB := Lib.hid hB
    have HX := Lib.hid hX
    have HCL := Lib.hid hcl
    have HLO := Lib.hid hlo
    clear hB hX hcl hlo
    have HP2 := Lib.hid (HR2.out.bel HB.out)
    by_cases hlt : i < u.length
    · have hdl : decide ((i : Int) < (u.length : Int)) = true := by simp; omega
      have hil : (i : Int) < (u.length : Int) := by omega
      obtain ⟨r1, r2⟩ := HRI.out i hlt
      have htt : (runE (stepR p) (start p) 0 (u.take i)).2 = if i = 0 then 0 else (psAt u (i - 1)).at_ := by
        cases i with
        | zero => rfl
        | succ j => rw [runE_time _ _ _ (by omega)]; rfl
      have ht0 : 0 ≤ (if i = 0 then 0 else (psAt u (i - 1)).at_) := by
        have key : ∀ j, j < u.length → 0 ≤ (psAt u j).at_ := by
          intro j
          induction j with
          | zero => intro hj; have := (HRI.out 0 hj).1; simpa using this
          | succ j ih => intro hj; have h1 := (HRI.out (j + 1) hj).1; have h2 := ih (by omega); rw [if_neg (by omega)] at h1; simp at h1; omega
        split
        · exact Int.le_refl _
        · exact key (i - 1) (by omega)
      rw [← htt] at r1 ht0
      have HX1 : Hid (runE (stepR p) (start p) 0 (u.take (i + 1)) = (step p.clks.toNat p.edges (runE (stepR p) (start p) 0 (u.take i)).1 ((psAt u i).at_ - (runE (stepR p) (start p) 0 (u.take i)).2) (psAt u i).ev, (psAt u i).at_)) := Lib.hid (by
        rw [ps_take hlt, runE_snoc]; rfl)
      obtain ⟨bu, ou, rfl, hbu, hA⟩ := HU.out.at_ (by omega)
      obtain ⟨o0, o1⟩ := hA i hlt
      have HBW := Lib.hid (HB2.out.trans HB.out)
      have HO0 := Lib.hid o0
      replace o0 := (HBW.out.cells _ _ hbu).trans o0
      replace o1 := (HBW.out.cells _ _ hbu).trans o1
      have oz := Nat.lt_of_lt_of_le hbu HBW.out.le
      clear hA htt
      generalize runE (stepR p) (start p) 0 (u.take i) = XT at *
      obtain ⟨⟨xl, xc⟩, xt⟩ := XT
      obtain ⟨x0, x1, x2, rfl⟩ : ∃ x0 x1 x2, xc = [x0, x1, x2] := by
        have h3 := HCL.out.1
        match xc, h3 with
        | [x0, x1, x2], _ => exact ⟨x0, x1, x2, rfl⟩
      dsimp only at HX1 r1 ht0 HCL HLO
      have hwx : IntKind.i64.wrap ((psAt u i).at_ - xt) = (psAt u i).at_ - xt := IntWalk.i64_in _ (by omega)
      have hnk := stepR_cl (p := p) HV.out (x := ⟨xl, [x0, x1, x2]⟩) (a := (psAt u i).at_ - xt) (ev := (psAt u i).ev) HCL.out (by omega)
      have hnl := step_loc HV.out (x := ⟨xl, [x0, x1, x2]⟩) HLO.out ((psAt u i).at_ - xt) (psAt u i).ev
      have HST := Lib.hid (fun W' (hW' : Bel wr W') => rstep_any p p.clks.toNat _ _ ⟨xl, [x0, x1, x2]⟩ ((psAt u i).at_ - xt) (psAt u i).ev W' HV.out.cn HV.out.n3 (HP.out.bel (HBW.out.trans hW')) HS.out HV.out.ed HCL.out (by omega) (by omega))
      generalize step p.clks.toNat p.edges ⟨xl, [x0, x1, x2]⟩ ((psAt u i).at_ - xt) (psAt u i).ev = nx at *
      obtain ⟨nl, ncl⟩ := nx
      obtain ⟨d0, d1, d2, rfl⟩ : ∃ d0 d1 d2, ncl = [d0, d1, d2] := by
        match ncl, hnk.1 with
        | [x, y, z], _ => exact ⟨x, y, z, rfl⟩
      have HSTP : Hid (∀ W', Bel wr W' → Calls Try.prog 37 #[.agg #[.int .i64 p.evs, .int .i64 p.clks, .int .i64 p.ini, .slice A1 p.good.length k1, .slice A2 p.edges.length k2], .agg #[.int .i64 xl, .int .i64 x0, .int .i64 x1, .int .i64 x2], .int .i64 ((psAt u i).at_ - xt), .int .i64 (psAt u i).ev] W' fun en w' => en = .returned (.agg #[.int .i64 nl, .int .i64 d0, .int .i64 d1, .int .i64 d2]) ∧ Bel W' w') := Lib.hid HST.out
      have HNK := Lib.hid hnk
      have HNL := Lib.hid hnl
      clear hnk hnl HST r1 r2 ht0
      generalize (psAt u i).at_ = oa at *
      generalize (psAt u i).ev = oe at *
      have q0 := HP2.out.cell (i := 0) rfl
      have q1 := HP2.out.cell (i := 1) rfl
      have q2 := HP2.out.cell (i := 2) rfl
      have q3 := HP2.out.cell (i := 3) rfl
      have q4 := HP2.out.cell (i := 4) rfl
      have qz := HP2.out.lt
      have y0 := HX.out.cell (i := 0) rfl
      have y1 := HX.out.cell (i := 1) rfl
      have y2 := HX.out.cell (i := 2) rfl
      have y3 := HX.out.cell (i := 3) rfl
      have yz := HX.out.lt
      go_upto_region 5 with (fail)
      (refine wp_region_qtail 15 (wb := wr) (by (repeat (first | exact Ext.bel _ | exact Bel.refl | refine Bel.alloc ?_ _ | refine Bel.drew ?_ | refine Bel.drewN ?_ _))) (by kernel_rfl) (by kernel_rfl) ?_; simp only [List.take_succ_cons, List.take_zero, List.drop_succ_cons, List.drop_zero]; (repeat (any_goals (first | go_big_quiet_step ((go_at_call 37; with_reducible exact ext_call (HSTP.out _ (Ext.bel _)))) | quiet_step ((go_at_call 37; with_reducible exact ext_call (HSTP.out _ (Ext.bel _)))) | (refine wpQuiet_step (fun K hK => ?_); go_simp; split <;> (refine hK _ ?_; clear hK K))))); all_goals (refine wpQuiet_nil ?_; intro _ hw'; obtain ⟨y, hw''⟩ := hw'; subst hw''))
      have HX7 := Lib.hid (HX.out.bel y.bel)
      have HB7 := Lib.hid (HB.out.trans y.bel)
      clear o0 o1 q0 q1 q2 q3 q4 qz y0 y1 y2 y3 yz HX HB HSTP HBW HP2 oz
      generalize y.w = w7 at *
      clear y
      have y0 := HX7.out.cell (i := 0) rfl
      have y1 := HX7.out.cell (i := 1) rfl
      have y2 := HX7.out.cell (i := 2) rfl
      have y3 := HX7.out.cell (i := 3) rfl
      have z0 := HX7.out.frozen 0
      have z1 := HX7.out.frozen 1
      have z2 := HX7.out.frozen 2
      have z3 := HX7.out.frozen 3
      have yz := HX7.out.lt
      go_upto_region 6 with (fail)
      have HX8 := Lib.hid ((((HX7.out.set 0 (.int .i64 nl)).set 1 (.int .i64 d0)).set 2 (.int .i64 d1)).set 3 (.int .i64 d2))
      have HB8 := Lib.hid ((((HB7.out.set (p := ⟨bx, 0, none⟩) HNX.out (.int .i64 nl)).set (p := ⟨bx, 1, none⟩) HNX.out (.int .i64 d0)).set (p := ⟨bx, 2, none⟩) HNX.out (.int .i64 d1)).set (p := ⟨bx, 3, none⟩) HNX.out (.int .i64 d2))
      clear y0 y1 y2 y3 z0 z1 z2 z3 yz HX7 HB7
      generalize World.setCell (World.setCell (World.setCell (World.setCell _ _ _) _ _) _ _) _ _ = w8 at *
      have o0 := ((HB2.out.trans HB8.out).cells _ _ hbu).trans HO0.out
      have oz := Nat.lt_of_lt_of_le hbu (HB2.out.trans HB8.out).le
      go_wp2
      go_roundw
      case rel =>
        refine ⟨i + 1, by omega, by go_num, by rw [HX1.out], HB8.out, ?_, ?_, ?_⟩
        · rw [HX1.out]; exact HX8.out
        · rw [HX1.out]; exact HNK.out
        · rw [HX1.out]; exact HNL.out
      case measure => simp [intOf]; omega
    · obtain rfl : i = u.length := by omega
      have hdl : decide ((u.length : Int) < (u.length : Int)) = false := by simp
      rw [List.take_length] at HX HCL HLO
      have HBW := Lib.hid (HB2.out.trans HB.out)
      obtain ⟨xl, x0, x1, x2, xt, hxe⟩ : ∃ xl x0 x1 x2 xt, runE (stepR p) (start p) 0 u = (⟨xl, [x0, x1, x2]⟩, xt) := by
        have h3 := HCL.out.1
        clear HX HLO HCL
        generalize runE (stepR p) (start p) 0 u = XT at *
        obtain ⟨⟨xl, xc⟩, xt⟩ := XT
        match xc, h3 with
        | [x0, x1, x2], _ => exact ⟨xl, x0, x1, x2, xt, rfl⟩
      have HR : Hid (goodW p u = goodM p ⟨xl, [x0, x1, x2]⟩) := Lib.hid (by unfold goodW; rw [hxe])
      rw [hxe] at HX HCL HLO
      have HG := Lib.hid (fun (V : World) (hV : Bel wr V) => rgood_any p _ _ ⟨xl, [x0, x1, x2]⟩ V (HP.out.bel (HBW.out.trans hV)) HLO.out HCL.out.1 HS.out.g)
      clear hxe
      have HGG : Hid (∀ V, Bel wr V → Calls Try.prog 39 #[.agg #[.int .i64 p.evs, .int .i64 p.clks, .int .i64 p.ini, .slice A1 p.good.length k1, .slice A2 p.edges.length k2], .agg #[.int .i64 xl, .int .i64 x0, .int .i64 x1, .int .i64 x2]] V fun e w' => e = .returned (.bool (goodM p ⟨xl, [x0, x1, x2]⟩)) ∧ Bel V w') := Lib.hid HG.out
      have q0 := HP2.out.cell (i := 0) rfl
      have q1 := HP2.out.cell (i := 1) rfl
      have q2 := HP2.out.cell (i := 2) rfl
      have q3 := HP2.out.cell (i := 3) rfl
      have q4 := HP2.out.cell (i := 4) rfl
      have qz := HP2.out.lt
      have y0 := HX.out.cell (i := 0) rfl
      have y1 := HX.out.cell (i := 1) rfl
      have y2 := HX.out.cell (i := 2) rfl
      have y3 := HX.out.cell (i := 3) rfl
      have yz := HX.out.lt
      clear HG
      generalize goodM p ⟨xl, [x0, x1, x2]⟩ = gd at *
      go_wp2_with fail
      refine (HGG.out _ Bel.refl).mono ?_
      rintro _ w9 ⟨rfl, hB⟩
      have HB9 := Lib.hid (HBW.out.trans hB)
      clear hB q0 q1 q2 q3 q4 qz y0 y1 y2 y3 yz HP2 HX HGG
      go_wp2
      go_ret
      exact ⟨ret_bool HR.out.symm, HB9.out⟩
end Go.Proofs.Ythidbmeocifkcaa
/- enforce: delayed. -/
namespace Go.Proofs.Ythidbmeocifkcaa
open Go.RowKit
/-- is a word a delay of a beginning of another one -/
structure DelW (a w : List PS) : Prop where
  len : a.length ≤ w.length
  at_ : ∀ i, i < a.length → (psAt a i).ev = (psAt w i).ev ∧ (psAt w i).at_ ≤ (psAt a i).at_ ∧ (0 < i → (psAt a (i - 1)).at_ ≤ (psAt a i).at_)
set_option maxRecDepth 100000 in
set_option maxHeartbeats 1000000 in
theorem delayed_any (va vw : Value) (a w : List PS) (W : World) (ha : StampsAt W W.heap.size va a) (hw : StampsAt W W.heap.size vw w) (hd : DelW a w) (hl : a.length ≤ 1000000) (hl2 : w.length ≤ 1000000) :
    Calls Try.prog 24 #[va, vw] W fun e W' => e = .returned (.bool true) ∧ Bel W W' := by
  have HA := Lib.hid ha
  have HW := Lib.hid hw
  have HD := Lib.hid hd
  obtain ⟨A1, c1, rfl, _⟩ := ha.form
  obtain ⟨A2, c2, rfl, _⟩ := hw.form
  have hlen := hd.len
  have d0 : decide ((w.length : Int) < (a.length : Int)) = false := decide_eq_false (by omega)
  clear ha hw hd
  go_enter Try.func24, Try.ntmps24
  go_wp2
  clear d0
  go_loopw [5] (fun s5 wq => ∃ (i : Nat) (z : Ext W), i ≤ a.length ∧ s5 = .int .i64 i ∧ wq = z.w) (fun s5 _ => a.length - (intOf s5).toNat)
  case atStart => exact ⟨0, ⟨W, Bel.refl⟩, Nat.zero_le _, rfl, rfl⟩
  case round =>
    obtain ⟨i, z, hi, rfl, rfl⟩ := hrel
    by_cases hlt : i < a.length
    · have hdl : decide ((i : Int) < (a.length : Int)) = true := by simp; omega
      have hil : (i : Int) < (a.length : Int) := by omega
      have hil2 : (i : Int) < (w.length : Int) := by omega
      obtain ⟨b1, o1, rfl, hb1, hA1⟩ := HA.out.at_ (by omega)
      obtain ⟨b2, o2, rfl, hb2, hA2⟩ := HW.out.at_ (by omega)
      obtain ⟨x0, x1⟩ := hA1 i hlt
      obtain ⟨y0, y1⟩ := hA2 i (by omega)
      obtain ⟨e1, e2, e3⟩ := HD.out.at_ i hlt
      have t1 : ((psAt a i).ev != (psAt w i).ev) = false := by rw [e1]; simp
      have t2 : decide ((psAt a i).at_ < (psAt w i).at_) = false := decide_eq_false (by omega)
      rw [e1] at x1 t1
      by_cases h0 : 0 < i
      · have t3 : decide ((0 : Int) < (i : Int)) = true := decide_eq_true (by omega)
        have t4 : decide (0 < i) = true := decide_eq_true h0
        obtain ⟨p0, _⟩ := hA1 (i - 1) (by omega)
        have t5 : decide ((psAt a i).at_ < (psAt a (i - 1)).at_) = false := decide_eq_false (by have := e3 h0; omega)
        have hw0 : IntKind.i64.wrap ((i : Int) - 1) = ((i - 1 : Nat) : Int) := by
          rw [show (i : Int) - 1 = ((i - 1 : Nat) : Int) by omega]
          exact IntWalk.i64_in _ (by omega)
        have hj : ((i - 1 : Nat) : Int) < (a.length : Int) := by omega
        generalize hq : i - 1 = q at *
        have HQ := Lib.hid hq
        generalize (psAt a i).at_ = u1 at *
        generalize (psAt w i).at_ = u2 at *
        generalize (psAt w i).ev = u3 at *
        generalize (psAt a q).at_ = u4 at *
        clear hA1 hA2 e1 e2 e3 hq h0
        go_upto_region 6 with (fail)
        (refine wp_region_ext (wb := z.w) (by (repeat (first | exact Ext.bel _ | exact Bel.refl | refine Bel.alloc ?_ _ | refine Bel.drew ?_ | refine Bel.drewN ?_ _))) (by kernel_rfl) (by kernel_rfl) ?_; (repeat (any_goals (first | go_big_quiet_step (fail) | quiet_step (fail) | (refine wpQuiet_step (fun K hK => ?_); go_simp; split <;> (refine hK _ ?_; clear hK K))))); all_goals (refine wpQuiet_nil ?_; intro _ hw'; obtain ⟨y, hw''⟩ := hw'; subst hw''))
        obtain ⟨z2, hz2⟩ := ext_of (z.bel.trans y.bel)
        have HZ2 := Lib.hid hz2
        clear hz2 x0 x1 y0 y1 p0
        go_wp2
        go_roundw
        case rel => exact ⟨i + 1, z2, by omega, by go_num, HZ2.out⟩
        case measure => simp [intOf]; omega
      · have t3 : decide ((0 : Int) < (i : Int)) = false := decide_eq_false (by omega)
        have t4 : decide (0 < i) = false := decide_eq_false h0
        generalize (psAt a i).at_ = u1 at *
        generalize (psAt w i).at_ = u2 at *
        generalize (psAt w i).ev = u3 at *
        clear hA1 hA2 e1 e2 e3 h0
        go_upto_region 6 with (fail)
        (refine wp_region_ext (wb := z.w) (by (repeat (first | exact Ext.bel _ | exact Bel.refl | refine Bel.alloc ?_ _ | refine Bel.drew ?_ | refine Bel.drewN ?_ _))) (by kernel_rfl) (by kernel_rfl) ?_; (repeat (any_goals (first | go_big_quiet_step (fail) | quiet_step (fail) | (refine wpQuiet_step (fun K hK => ?_); go_simp; split <;> (refine hK _ ?_; clear hK K))))); all_goals (refine wpQuiet_nil ?_; intro _ hw'; obtain ⟨y, hw''⟩ := hw'; subst hw''))
        obtain ⟨z2, hz2⟩ := ext_of (z.bel.trans y.bel)
        have HZ2 := Lib.hid hz2
        clear hz2 x0 x1 y0 y1
        go_wp2
        go_roundw
        case rel => exact ⟨i + 1, z2, by omega, by go_num, HZ2.out⟩
        case measure => simp [intOf]; omega
    · obtain rfl : i = a.length := by omega
      have hdl : decide ((a.length : Int) < (a.length : Int)) = false := by simp
      go_wp2
      go_ret
      exact ⟨rfl, z.bel⟩
end Go.Proofs.Ythidbmeocifkcaa
/- enforce: what the laws need: a copy of a word; bounds; the order of a word. -/
namespace Go.Proofs.Ythidbmeocifkcaa
open Go.RowKit
set_option maxRecDepth 100000 in
theorem copy_word {w : World} {A : Option Addr} {c : Nat} {l : List PS} (h : StampsAt w w.heap.size (.slice A l.length c) l) (hn : l.length ≤ 1000000) :
    ∃ v' w', (Builtin.append_ #[26, 26] 26 #[.slice (some ⟨w.heap.size, 0, none⟩) 0 0, .slice A l.length c]).run Try.prog (w.alloc (.cells #[] 48)) = .ok v' w' ∧
      w'.ownsRow w.heap.size 48 2 v' l.length (l.flatMap psC) ∧ Bel w w' := by
  obtain ⟨j0, hj0, hy0, hy1, hy2⟩ := info_parts Try.infoStamp
  have ho0 := World.ownsRow_made w #[] 0 (base := w.heap.size) (e := 48) (size := 2) (Nat.le_refl _) (by unfold maxLen; omega) (by simp)
  have hb : Bel w (w.alloc (.cells #[] 48)) := Bel.refl.alloc _
  obtain ⟨A', c', e, _, hA, hs⟩ := srcOf_stamps h
  injection e with e1 _ e3
  subst e1 e3
  have hsrc : (A = none ∧ l.length = 0) ∨ ∃ ad, A = some ad ∧ ∀ j u, (l.flatMap psC)[j]? = some u → (w.alloc (.cells #[] 48)).cell? (ad.add j) = some u := by
    cases A with
    | none => exact .inl ⟨rfl, hA rfl⟩
    | some ad =>
      refine .inr ⟨ad, rfl, fun j u hu => ?_⟩
      have h0 : 0 < l.length := by
        have := (List.getElem?_eq_some_iff.1 hu).1
        rw [flat_len psC_len] at this
        omega
      obtain ⟨b, off, e, hbb, hc⟩ := hs h0
      injection e with e
      subst e
      rw [add_ofs2]
      exact (hb.cells _ _ hbb).trans (hc j u hu)
  obtain ⟨v', w', h1, h2, h3⟩ := append_row (w.alloc (.cells #[] 48)) w.heap.size 26 26 48 j0 _ 2 16 Try.underlying26 hj0 hy0 hy1 hy2 rfl (by decide) _ 0 _ ho0 A l.length c (l.flatMap psC) hsrc (flat_len psC_len l) psC_one (by unfold maxLen; omega) (by omega) (by simp [go_sem])
  refine ⟨v', w', h1, by simpa using h2, bel_grown hb ho0 h3⟩
theorem word_mono {evs : Int} {w : List PS} (h : wordF evs 0 w = true) : ∀ d i, i + d < w.length → (psAt w i).at_ ≤ (psAt w (i + d)).at_
  | 0, i, hi => Int.le_refl _
  | d + 1, i, hi => by
    have h1 := word_mono h d i (by omega)
    have h2 := (word_at w 0 (Int.le_refl _) h (i + (d + 1)) hi).1
    rw [if_neg (by omega), show i + (d + 1) - 1 = i + d by omega] at h2
    omega
theorem cnt38 : ∀ k, k ≤ 7 → cntB 38 k + 1 < 9223372036854775807 := by decide
theorem wide_len {p : PP} {w : List PS} (hc : rpword p w = 0) (hl : longW w = false) (hw : wideM w = false) : w.length ≤ 7 ∧ (0 < w.length → (psAt w (w.length - 1)).at_ - (psAt w 0).at_ ≤ 30) := by
  have hok := wordOk hc
  unfold longW at hl
  unfold wideM at hw
  simp only [Bool.or_eq_false_iff, Bool.and_eq_false_iff, decide_eq_false_iff_not] at hl hw
  obtain ⟨h40, hl1⟩ := hl
  obtain ⟨⟨h1, h2⟩, h3⟩ := hw
  refine ⟨by omega, fun h0 => ?_⟩
  rw [endW_at h0] at hl1
  have o1 := hok.ok _ (ps_mem (l := w) (k := w.length - 1) (by omega))
  have o2 := hok.ok _ (ps_mem (l := w) (k := 0) (by omega))
  have hs : spreadW w = (psAt w (w.length - 1)).at_ - (psAt w 0).at_ := by
    unfold spreadW
    exact IntWalk.i64_in _ (by omega)
  rw [hs] at h3
  omega
theorem best_puts {stp : Pt → Int → Int → Pt} {p : PP} {w : List PS} (hc : rpword p w = 0) (hl : longW w = false) (hs : smallM p = true) (hw : wideM w = false) :
    ∀ k ≤ w.length, putsM stp (mostM p) (endL 0 (w.take k)) (w.take k) (start p) 0 + 1 < 9223372036854775807 := by
  intro k hk
  obtain ⟨h7, hsp⟩ := wide_len hc hl hw
  have hck := (rpword_ok hc).1
  have hf := (rpword_ok hc).2.2
  have hv := pvalid_of hck
  obtain ⟨hM0, _, _⟩ := most_bd hv
  have hM6 := small_most hs hck
  have hok := wordOk hc
  have hlen : (w.take k).length = k := by simp; omega
  have h1 := puts_le2 (stp := stp) (E := endL 0 (w.take k)) (S := 38) hM0 (w.take k) (start p) 0 (fun s hs => by
    cases k with
    | zero => simp at hs
    | succ k =>
      have hs0 : s = psAt w 0 := by
        cases w with
        | nil => simp at hk
        | cons a b => simp at hs; simp [psAt, hs]
      have hE : endL 0 (w.take (k + 1)) = (psAt w k).at_ := by
        unfold endL
        rw [if_pos (by omega), hlen, Nat.add_sub_cancel]
        congr 1
        simp [psAt, List.getD, List.getElem?_take]
      have o0 := hok.ok _ (ps_mem (l := w) (k := 0) (by omega))
      have hm1 := word_mono hf k 0 (by omega)
      have hm2 := word_mono hf (w.length - 1 - k) k (by omega)
      rw [Nat.zero_add] at hm1
      rw [show k + (w.length - 1 - k) = w.length - 1 by omega] at hm2
      have hs1 := hsp (by omega)
      rw [hE, hs0]
      have e1 : mx 0 (psAt w 0).at_ = (psAt w 0).at_ := by unfold mx; split <;> omega
      rw [e1]
      rcases mx_or (psAt w 0).at_ (psAt w k).at_ with e | e <;> rw [e] <;> omega)
  rw [hlen] at h1
  have := cnt38 k (by omega)
  omega
theorem bestK_len (tm : List PS → Option (List Int)) (w : List PS) : ∀ k, (bestK tm w k).1.length ≤ w.length
  | 0 => by
    simp only [bestK]
    split
    · simp [madeM]; omega
    · simp
  | k + 1 => by
    simp only [bestK]
    split
    · simp [madeM]; omega
    · exact bestK_len tm w k
theorem best_len (p : PP) (w : List PS) : (bestP p w).1.length ≤ w.length := by
  unfold bestP bestM
  split
  · split
    · simp
    · exact bestK_len _ _ _
  · simp
end Go.Proofs.Ythidbmeocifkcaa
