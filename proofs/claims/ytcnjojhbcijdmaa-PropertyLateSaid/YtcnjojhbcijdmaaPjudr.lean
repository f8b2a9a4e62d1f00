import Derived.Test.YtcnjojhbcijdmaaPrunr
import Derived.Test.YtcnjojhbcijdmaaQtail
import Derived.Deep.RegionHeld3
namespace Go.Proofs.Ytcnjojhbcijdmaa
open Go.RowKit
theorem step_clen {n : Nat} {es : List PE} {x : Pt} {a ev : Int} (hx : x.cl.length = 3) : (step n es x a ev).cl.length = 3 := by
  have hr : ∀ (r cl : List Int), cl.length = 3 → (resetF cl r).length = 3 := by
    intro r
    induction r with
    | nil => intro cl h; exact h
    | cons c r ih => intro cl h; exact ih _ (by simp [h])
  unfold step
  split
  · exact tickJ_len _ _ _
  · split
    · exact hr _ _ (tickJ_len _ _ _)
    · exact tickJ_len _ _ _
theorem runM_clen {n : Nat} {es : List PE} : ∀ (l : List PS) (x : Pt) (a : Int) (i : Nat), x.cl.length = 3 → (runM n es x a l i).1.cl.length = 3
  | [], x, a, i, hx => hx
  | s :: ss, x, a, i, hx => by
    have hy := step_clen (n := n) (es := es) (a := s.at_ - a) (ev := s.ev) hx
    by_cases hl : (step n es x (s.at_ - a) s.ev).loc < 0
    · rw [runM_t hl]; exact hy
    · rw [runM_f hl]; exact runM_clen ss _ _ _ hy
theorem runP_form (p : PP) (l : List PS) : ∃ loc u0 u1 u2 idx, runP p l = (⟨loc, [u0, u1, u2]⟩, idx) := by
  have h : (runP p l).1.cl.length = 3 := runM_clen l _ _ _ rfl
  generalize runP p l = rr at *
  obtain ⟨⟨loc, cl⟩, idx⟩ := rr
  match cl, h with
  | [x, y, z], _ => exact ⟨loc, x, y, z, idx, rfl⟩
set_option maxRecDepth 100000 in
set_option maxHeartbeats 8000000 in
theorem rjudge_ok (a1 a2 a3 loc u0 u1 u2 idx : Int) (g : Bool) (A1 A2 A : Option Addr) (n1 k1 n2 k2 n c : Nat) (w : World)
    (HWD : Hid (∀ W, Bel w W → Calls Try.prog 14 #[.agg #[.int .i64 a1, .int .i64 a2, .int .i64 a3, .slice A1 n1 k1, .slice A2 n2 k2], .slice A n c] W fun e w' => e = .returned (.int .i64 0) ∧ Bel W w'))
    (HRN : Hid (∀ W, Bel w W → Calls Try.prog 21 #[.agg #[.int .i64 a1, .int .i64 a2, .int .i64 a3, .slice A1 n1 k1, .slice A2 n2 k2], .slice A n c] W fun e w' => e = .returned (.tuple #[.agg #[.int .i64 loc, .int .i64 u0, .int .i64 u1, .int .i64 u2], .int .i64 idx]) ∧ Bel W w'))
    (HGD : Hid (∀ W, Bel w W → Calls Try.prog 22 #[.agg #[.int .i64 a1, .int .i64 a2, .int .i64 a3, .slice A1 n1 k1, .slice A2 n2 k2], .agg #[.int .i64 loc, .int .i64 u0, .int .i64 u1, .int .i64 u2]] W fun e w' => e = .returned (.bool g) ∧ Bel W w')) :
    Calls Try.prog 10 #[.agg #[.int .i64 a1, .int .i64 a2, .int .i64 a3, .slice A1 n1 k1, .slice A2 n2 k2], .slice A n c] w fun e w' => e = .returned (.tuple #[.bool g, .int .i64 idx, .int .i64 0]) ∧ Bel w w' := by
  go_enter Try.func10, Try.ntmps10
  go_upto_region 1 with (fail)
  (generalize hW : World.alloc _ _ = wb; have q0_0 := (congrArg (fun W : World => W.cell? ⟨w.heap.size, 0, none⟩) hW).symm; simp [go_sem] at q0_0; have q0_1 := (congrArg (fun W : World => W.cell? ⟨w.heap.size, 1, none⟩) hW).symm; simp [go_sem] at q0_1; have q0_2 := (congrArg (fun W : World => W.cell? ⟨w.heap.size, 2, none⟩) hW).symm; simp [go_sem] at q0_2; have q0_3 := (congrArg (fun W : World => W.cell? ⟨w.heap.size, 3, none⟩) hW).symm; simp [go_sem] at q0_3; have q0_4 := (congrArg (fun W : World => W.cell? ⟨w.heap.size, 4, none⟩) hW).symm; simp [go_sem] at q0_4; have qz0 : w.heap.size < wb.heap.size := (by rw [← hW]; simp [go_sem]; try omega); have HBW : Hid (Bel w wb) := Lib.hid (by rw [← hW]; (repeat (first | exact Ext.bel _ | exact Bel.refl | refine Bel.alloc ?_ _ | refine Bel.drew ?_ | refine Bel.drewN ?_ _))); clear hW; have hkw := HBW.out.cells)
  go_upto_region 5 with (first | (go_at_call 14; (with_reducible refine (HWD.out _ (HBW.out.trans (by (repeat (first | exact Ext.bel _ | exact Bel.refl | refine Bel.alloc ?_ _ | refine Bel.drew ?_ | refine Bel.drewN ?_ _))))).mono ?_); rintro e w2 ⟨rfl, hb2⟩; obtain ⟨x, rfl⟩ : ∃ x : Ext wb, w2 = x.w := ext_of (hb2.after (by (repeat (first | exact Ext.bel _ | exact Bel.refl | refine Bel.alloc ?_ _ | refine Bel.drew ?_ | refine Bel.drewN ?_ _)))); clear hb2) | (go_at_call 21; (with_reducible refine (HRN.out _ (HBW.out.trans (by (repeat (first | exact Ext.bel _ | exact Bel.refl | refine Bel.alloc ?_ _ | refine Bel.drew ?_ | refine Bel.drewN ?_ _))))).mono ?_); rintro e w2 ⟨rfl, hb2⟩; obtain ⟨x, rfl⟩ : ∃ x : Ext wb, w2 = x.w := ext_of (hb2.after (by (repeat (first | exact Ext.bel _ | exact Bel.refl | refine Bel.alloc ?_ _ | refine Bel.drew ?_ | refine Bel.drewN ?_ _)))); clear hb2))
  go_wp2_with (first | (go_at_call 22; (with_reducible refine (HGD.out _ (HBW.out.trans (by (repeat (first | exact Ext.bel _ | exact Bel.refl | refine Bel.alloc ?_ _ | refine Bel.drew ?_ | refine Bel.drewN ?_ _))))).mono ?_); rintro e w2 ⟨rfl, hb2⟩; obtain ⟨x, rfl⟩ : ∃ x : Ext wb, w2 = x.w := ext_of (hb2.after (by (repeat (first | exact Ext.bel _ | exact Bel.refl | refine Bel.alloc ?_ _ | refine Bel.drew ?_ | refine Bel.drewN ?_ _)))); clear hb2))
  go_ret3
  exact ⟨rfl, HBW.out.trans x.bel⟩
set_option maxRecDepth 100000 in
set_option maxHeartbeats 8000000 in
theorem rjudge_no (a1 a2 a3 er : Int) (A1 A2 A : Option Addr) (n1 k1 n2 k2 n c : Nat) (w : World) (her : (er == 0) = false)
    (HWD : Hid (∀ W, Bel w W → Calls Try.prog 14 #[.agg #[.int .i64 a1, .int .i64 a2, .int .i64 a3, .slice A1 n1 k1, .slice A2 n2 k2], .slice A n c] W fun e w' => e = .returned (.int .i64 er) ∧ Bel W w')) :
    Calls Try.prog 10 #[.agg #[.int .i64 a1, .int .i64 a2, .int .i64 a3, .slice A1 n1 k1, .slice A2 n2 k2], .slice A n c] w fun e w' => e = .returned (.tuple #[.bool false, .int .i64 0, .int .i64 er]) ∧ Bel w w' := by
  go_enter Try.func10, Try.ntmps10
  go_upto_region 1 with (fail)
  (generalize hW : World.alloc _ _ = wb; have q0_0 := (congrArg (fun W : World => W.cell? ⟨w.heap.size, 0, none⟩) hW).symm; simp [go_sem] at q0_0; have q0_1 := (congrArg (fun W : World => W.cell? ⟨w.heap.size, 1, none⟩) hW).symm; simp [go_sem] at q0_1; have q0_2 := (congrArg (fun W : World => W.cell? ⟨w.heap.size, 2, none⟩) hW).symm; simp [go_sem] at q0_2; have q0_3 := (congrArg (fun W : World => W.cell? ⟨w.heap.size, 3, none⟩) hW).symm; simp [go_sem] at q0_3; have q0_4 := (congrArg (fun W : World => W.cell? ⟨w.heap.size, 4, none⟩) hW).symm; simp [go_sem] at q0_4; have qz0 : w.heap.size < wb.heap.size := (by rw [← hW]; simp [go_sem]; try omega); have HBW : Hid (Bel w wb) := Lib.hid (by rw [← hW]; (repeat (first | exact Ext.bel _ | exact Bel.refl | refine Bel.alloc ?_ _ | refine Bel.drew ?_ | refine Bel.drewN ?_ _))); clear hW; have hkw := HBW.out.cells)
  go_wp2_with (first | (go_at_call 14; (with_reducible refine (HWD.out _ (HBW.out.trans (by (repeat (first | exact Ext.bel _ | exact Bel.refl | refine Bel.alloc ?_ _ | refine Bel.drew ?_ | refine Bel.drewN ?_ _))))).mono ?_); rintro e w2 ⟨rfl, hb2⟩; obtain ⟨x, rfl⟩ : ∃ x : Ext wb, w2 = x.w := ext_of (hb2.after (by (repeat (first | exact Ext.bel _ | exact Bel.refl | refine Bel.alloc ?_ _ | refine Bel.drew ?_ | refine Bel.drewN ?_ _)))); clear hb2))
  go_ret3
  exact ⟨rfl, HBW.out.trans x.bel⟩
theorem judgeM_ok {p : PP} {l : List PS} (h : rpword p l = 0) : judgeM p l = (goodM p (runP p l).1, (runP p l).2, 0) := by unfold judgeM; rw [if_pos h]
theorem judgeM_no {p : PP} {l : List PS} (h : rpword p l ≠ 0) : judgeM p l = (false, 0, rpword p l) := by unfold judgeM; rw [if_neg h]
theorem runP_ok {p : PP} {l : List PS} (h : rpword p l = 0) : PValid p p.clks.toNat ∧ LocOk p (runP p l).1 ∧ (runP p l).1.cl.length = 3 :=
  have hv := pvalid_of (rpword_ok h).1
  ⟨hv, runM_ok hv l _ _ _ (start_ok hv).1, runM_clen l _ _ _ rfl⟩
theorem rjudge_any (p : PP) (gv ev sv : Value) (l : List PS) (w : World) (h : PropAt w w.heap.size gv ev p) (hs : PSized p) (hl : StampsAt w w.heap.size sv l) (hll : l.length ≤ 1000000) :
    Calls Try.prog 10 #[.agg #[.int .i64 p.evs, .int .i64 p.clks, .int .i64 p.ini, gv, ev], sv] w fun e w' => e = .returned (.tuple #[.bool (judgeM p l).1, .int .i64 (judgeM p l).2.1, .int .i64 (judgeM p l).2.2]) ∧ Bel w w' := by
  have HWD := fun (W : World) (hW : Bel w W) => rword_any p gv ev sv l W (h.bel hW) hs (hl.bel hW) hll
  obtain ⟨A1, k1, rfl, hk1⟩ := h.g.form
  obtain ⟨A2, k2, rfl, hk2⟩ := h.e.form
  obtain ⟨A, c, rfl, hc⟩ := hl.form
  by_cases h0 : rpword p l = 0
  · have HRN := fun (W : World) (hW : Bel w W) => rrun_any p _ _ _ l W (h.bel hW) hs (hl.bel hW) h0
    obtain ⟨_, h2, h3⟩ := runP_ok h0
    have HGD := fun (W : World) (hW : Bel w W) => rgood_any p _ _ (runP p l).1 W (h.bel hW) h2 h3 hs.g
    rw [judgeM_ok h0]
    rw [h0] at HWD
    obtain ⟨loc, u0, u1, u2, idx, hr⟩ := runP_form p l
    rw [hr] at HRN HGD ⊢
    exact rjudge_ok _ _ _ loc u0 u1 u2 idx _ _ _ _ _ _ _ _ _ _ w (Lib.hid HWD) (Lib.hid HRN) (Lib.hid HGD)
  · rw [judgeM_no h0]
    exact rjudge_no _ _ _ _ _ _ _ _ _ _ _ _ _ w (by simpa using h0) (Lib.hid HWD)
end Go.Proofs.Ytcnjojhbcijdmaa
