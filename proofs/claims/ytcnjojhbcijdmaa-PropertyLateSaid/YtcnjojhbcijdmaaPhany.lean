import Derived.Test.YtcnjojhbcijdmaaPhop
import Derived.Test.YtcnjojhbcijdmaaPhopr
import Derived.Test.YtcnjojhbcijdmaaPjudge
import Derived.Test.YtcnjojhbcijdmaaPjudr
namespace Go.Proofs.Ytcnjojhbcijdmaa
open Go.RowKit
theorem runM_cl {n : Nat} {es : List PE} {evs : Int} : ∀ (l : List PS) (x : Pt) (a : Int) (i : Nat), ClOk x.cl → wordF evs a l = true → ClOk (runM n es x a l i).1.cl
  | [], _, _, _, h, _ => h
  | s :: ss, x, a, i, h, hw => by
    by_cases hb : stampBad evs a s = true
    · rw [wordF_t hb] at hw; cases hw
    · have hb0 : stampBad evs a s = false := by simpa using hb
      have hs := stampBad_false.mp hb0
      rw [wordF_f hb0] at hw
      have h2 := step_ok (n := n) (es := es) (a := s.at_ - a) (ev := s.ev) h (by omega)
      by_cases hl : (step n es x (s.at_ - a) s.ev).loc < 0
      · rw [runM_t hl]; exact h2
      · rw [runM_f hl]; exact runM_cl ss _ _ _ h2 hw
theorem runP_pt {p : PP} {l : List PS} (h : rpword p l = 0) : PtOk p (runP p l).1 := by
  obtain ⟨h1, h2, _⟩ := runP_ok h
  exact ⟨h2, runM_cl l _ _ _ (start_ok h1).2 (rpword_ok h).2.2⟩
theorem valid_bd {p : PP} (h : rpchk p = 0) : p.good.length ≤ 12 ∧ 0 ≤ p.evs ∧ p.evs ≤ 8 := by
  unfold rpchk at h
  cases hh : headBad p
  · obtain ⟨h1, h2, h3, h4, h5, h6, h7, h8, h9⟩ := headBad_false.mp hh
    omega
  · rw [hh, if_pos rfl] at h; cases h
theorem ptWf_of {p : PP} {y : Pt} (h : PtOk p y) (hg : p.good.length ≤ 12) : PtWf y := h.wf hg
set_option maxRecDepth 100000 in
set_option maxHeartbeats 4000000 in
theorem phope_no (a1 a2 a3 er : Int) (A1 A2 A : Option Addr) (n1 k1 n2 k2 n c : Nat) (w : World) (her : (er == 0) = false)
    (HRN : Hid (∀ W, Bel w W → Calls Try.prog 19 #[.agg #[.int .i64 a1, .int .i64 a2, .int .i64 a3, .slice A1 n1 k1, .slice A2 n2 k2], .slice A n c] W fun e w' => e = .returned (.tuple #[.pointer none, .int .i64 0, .int .i64 er]) ∧ Bel W w')) :
    Calls Try.prog 16 #[.agg #[.int .i64 a1, .int .i64 a2, .int .i64 a3, .slice A1 n1 k1, .slice A2 n2 k2], .slice A n c] w fun e w' => e = .returned (.tuple #[.bool false, .int .i64 er]) ∧ Bel w w' := by
  go_enter Try.func16, Try.ntmps16
  go_upto_region 1 with (fail)
  (generalize hW : World.alloc _ _ = wb; have q0_0 := (congrArg (fun W : World => W.cell? ⟨w.heap.size, 0, none⟩) hW).symm; simp [go_sem] at q0_0; have q0_1 := (congrArg (fun W : World => W.cell? ⟨w.heap.size, 1, none⟩) hW).symm; simp [go_sem] at q0_1; have q0_2 := (congrArg (fun W : World => W.cell? ⟨w.heap.size, 2, none⟩) hW).symm; simp [go_sem] at q0_2; have q0_3 := (congrArg (fun W : World => W.cell? ⟨w.heap.size, 3, none⟩) hW).symm; simp [go_sem] at q0_3; have q0_4 := (congrArg (fun W : World => W.cell? ⟨w.heap.size, 4, none⟩) hW).symm; simp [go_sem] at q0_4; have qz0 : w.heap.size < wb.heap.size := (by rw [← hW]; simp [go_sem]; try omega); have HBW : Hid (Bel w wb) := Lib.hid (by rw [← hW]; (repeat (first | exact Ext.bel _ | exact Bel.refl | refine Bel.alloc ?_ _ | refine Bel.drew ?_ | refine Bel.drewN ?_ _))); clear hW; have hkw := HBW.out.cells)
  go_wp2_with (first | (go_at_call 19; (with_reducible refine (HRN.out _ (HBW.out.trans (by (repeat (first | exact Ext.bel _ | exact Bel.refl | refine Bel.alloc ?_ _ | refine Bel.drew ?_ | refine Bel.drewN ?_ _))))).mono ?_); rintro e w2 ⟨rfl, hb2⟩; obtain ⟨x, rfl⟩ : ∃ x : Ext wb, w2 = x.w := ext_of (hb2.after (by (repeat (first | exact Ext.bel _ | exact Bel.refl | refine Bel.alloc ?_ _ | refine Bel.drew ?_ | refine Bel.drewN ?_ _)))); clear hb2))
  go_ret2
  exact ⟨rfl, HBW.out.trans x.bel⟩
set_option maxRecDepth 100000 in
set_option maxHeartbeats 4000000 in
theorem rhope_no (a1 a2 a3 er : Int) (A1 A2 A : Option Addr) (n1 k1 n2 k2 n c : Nat) (w : World) (her : (er == 0) = false)
    (HWD : Hid (∀ W, Bel w W → Calls Try.prog 14 #[.agg #[.int .i64 a1, .int .i64 a2, .int .i64 a3, .slice A1 n1 k1, .slice A2 n2 k2], .slice A n c] W fun e w' => e = .returned (.int .i64 er) ∧ Bel W w')) :
    Calls Try.prog 17 #[.agg #[.int .i64 a1, .int .i64 a2, .int .i64 a3, .slice A1 n1 k1, .slice A2 n2 k2], .slice A n c] w fun e w' => e = .returned (.tuple #[.bool false, .int .i64 er]) ∧ Bel w w' := by
  go_enter Try.func17, Try.ntmps17
  go_upto_region 1 with (fail)
  (generalize hW : World.alloc _ _ = wb; have q0_0 := (congrArg (fun W : World => W.cell? ⟨w.heap.size, 0, none⟩) hW).symm; simp [go_sem] at q0_0; have q0_1 := (congrArg (fun W : World => W.cell? ⟨w.heap.size, 1, none⟩) hW).symm; simp [go_sem] at q0_1; have q0_2 := (congrArg (fun W : World => W.cell? ⟨w.heap.size, 2, none⟩) hW).symm; simp [go_sem] at q0_2; have q0_3 := (congrArg (fun W : World => W.cell? ⟨w.heap.size, 3, none⟩) hW).symm; simp [go_sem] at q0_3; have q0_4 := (congrArg (fun W : World => W.cell? ⟨w.heap.size, 4, none⟩) hW).symm; simp [go_sem] at q0_4; have qz0 : w.heap.size < wb.heap.size := (by rw [← hW]; simp [go_sem]; try omega); have HBW : Hid (Bel w wb) := Lib.hid (by rw [← hW]; (repeat (first | exact Ext.bel _ | exact Bel.refl | refine Bel.alloc ?_ _ | refine Bel.drew ?_ | refine Bel.drewN ?_ _))); clear hW; have hkw := HBW.out.cells)
  go_wp2_with (first | (go_at_call 14; (with_reducible refine (HWD.out _ (HBW.out.trans (by (repeat (first | exact Ext.bel _ | exact Bel.refl | refine Bel.alloc ?_ _ | refine Bel.drew ?_ | refine Bel.drewN ?_ _))))).mono ?_); rintro e w2 ⟨rfl, hb2⟩; obtain ⟨x, rfl⟩ : ∃ x : Ext wb, w2 = x.w := ext_of (hb2.after (by (repeat (first | exact Ext.bel _ | exact Bel.refl | refine Bel.alloc ?_ _ | refine Bel.drew ?_ | refine Bel.drewN ?_ _)))); clear hb2))
  go_ret2
  exact ⟨rfl, HBW.out.trans x.bel⟩
theorem phope_any (p : PP) (gv ev sv : Value) (l : List PS) (w : World) (h : PropAt w w.heap.size gv ev p) (hs : PSized p) (hl : StampsAt w w.heap.size sv l) (hll : l.length ≤ 1000000) :
    Calls Try.prog 16 #[.agg #[.int .i64 p.evs, .int .i64 p.clks, .int .i64 p.ini, gv, ev], sv] w fun e w' => e = .returned (.tuple #[.bool (hopeM p l).1, .int .i64 (hopeM p l).2]) ∧ Bel w w' := by
  by_cases h0 : rpword p l = 0
  · have HRN := fun (W : World) (hW : Bel w W) => prun_any p gv ev sv l W (h.bel hW) hs (hl.bel hW) hll h0
    have hpt := runP_pt h0
    obtain ⟨hb1, hb2⟩ := valid_bd (rpword_ok h0).1
    have hv := (runP_ok h0).1
    obtain ⟨A1, k1, rfl, hk1⟩ := h.g.form
    obtain ⟨A2, k2, rfl, hk2⟩ := h.e.form
    obtain ⟨A, c, rfl, hc⟩ := hl.form
    rw [hopeM_ok h0]
    obtain ⟨loc, u0, u1, u2, idx, hr⟩ := runP_form p l
    rw [hr] at HRN hpt ⊢
    exact phope_ok p A1 A2 A k1 k2 _ _ idx loc u0 u1 u2 w (ptWf_of hpt hb1) (Lib.hid h) (Lib.hid hs) (Lib.hid hv) (Lib.hid hb1) (Lib.hid hb2) _ (Lib.hid rfl) (Lib.hid hpt) (Lib.hid HRN)
  · have HRN := fun (W : World) (hW : Bel w W) => prun_fail p gv ev sv l W (h.bel hW) hs (hl.bel hW) hll h0
    obtain ⟨A1, k1, rfl, hk1⟩ := h.g.form
    obtain ⟨A2, k2, rfl, hk2⟩ := h.e.form
    obtain ⟨A, c, rfl, hc⟩ := hl.form
    rw [hopeM_no h0]
    exact phope_no _ _ _ _ _ _ _ _ _ _ _ _ _ w (by simpa using h0) (Lib.hid HRN)
theorem rhope_any (p : PP) (gv ev sv : Value) (l : List PS) (w : World) (h : PropAt w w.heap.size gv ev p) (hs : PSized p) (hl : StampsAt w w.heap.size sv l) (hll : l.length ≤ 1000000) :
    Calls Try.prog 17 #[.agg #[.int .i64 p.evs, .int .i64 p.clks, .int .i64 p.ini, gv, ev], sv] w fun e w' => e = .returned (.tuple #[.bool (hopeM p l).1, .int .i64 (hopeM p l).2]) ∧ Bel w w' := by
  have HWD := fun (W : World) (hW : Bel w W) => rword_any p gv ev sv l W (h.bel hW) hs (hl.bel hW) hll
  by_cases h0 : rpword p l = 0
  · have HRN := fun (W : World) (hW : Bel w W) => rrun_any p gv ev sv l W (h.bel hW) hs (hl.bel hW) h0
    have hpt := runP_pt h0
    obtain ⟨hb1, hb2⟩ := valid_bd (rpword_ok h0).1
    have hv := (runP_ok h0).1
    rw [h0] at HWD
    obtain ⟨A1, k1, rfl, hk1⟩ := h.g.form
    obtain ⟨A2, k2, rfl, hk2⟩ := h.e.form
    obtain ⟨A, c, rfl, hc⟩ := hl.form
    rw [hopeM_ok h0]
    obtain ⟨loc, u0, u1, u2, idx, hr⟩ := runP_form p l
    rw [hr] at HRN hpt ⊢
    exact rhope_ok p A1 A2 A k1 k2 _ _ idx loc u0 u1 u2 w (ptWf_of hpt hb1) (Lib.hid h) (Lib.hid hs) (Lib.hid hv) (Lib.hid hb1) (Lib.hid hb2) _ (Lib.hid rfl) (Lib.hid hpt) (Lib.hid HWD) (Lib.hid HRN)
  · obtain ⟨A1, k1, rfl, hk1⟩ := h.g.form
    obtain ⟨A2, k2, rfl, hk2⟩ := h.e.form
    obtain ⟨A, c, rfl, hc⟩ := hl.form
    rw [hopeM_no h0]
    exact rhope_no _ _ _ _ _ _ _ _ _ _ _ _ _ w (by simpa using h0) (Lib.hid HWD)
end Go.Proofs.Ytcnjojhbcijdmaa
