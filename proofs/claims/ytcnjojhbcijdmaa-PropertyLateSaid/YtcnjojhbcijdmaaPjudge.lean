import Derived.Test.YtcnjojhbcijdmaaPrun
import Derived.Test.YtcnjojhbcijdmaaPgood
namespace Go.Proofs.Ytcnjojhbcijdmaa
open Go.RowKit
set_option maxRecDepth 100000 in
set_option maxHeartbeats 4000000 in
theorem pjudge_no (a1 a2 a3 er : Int) (A1 A2 A : Option Addr) (n1 k1 n2 k2 n c : Nat) (w : World) (her : (er == 0) = false)
    (HRN : Hid (∀ W, Bel w W → Calls Try.prog 19 #[.agg #[.int .i64 a1, .int .i64 a2, .int .i64 a3, .slice A1 n1 k1, .slice A2 n2 k2], .slice A n c] W fun e w' => e = .returned (.tuple #[.pointer none, .int .i64 0, .int .i64 er]) ∧ Bel W w')) :
    Calls Try.prog 9 #[.agg #[.int .i64 a1, .int .i64 a2, .int .i64 a3, .slice A1 n1 k1, .slice A2 n2 k2], .slice A n c] w fun e w' => e = .returned (.tuple #[.bool false, .int .i64 0, .int .i64 er]) ∧ Bel w w' := by
  go_enter Try.func9, Try.ntmps9
  go_upto_region 1 with (fail)
  (generalize hW : World.alloc _ _ = wb; have q0_0 := (congrArg (fun W : World => W.cell? ⟨w.heap.size, 0, none⟩) hW).symm; simp [go_sem] at q0_0; have q0_1 := (congrArg (fun W : World => W.cell? ⟨w.heap.size, 1, none⟩) hW).symm; simp [go_sem] at q0_1; have q0_2 := (congrArg (fun W : World => W.cell? ⟨w.heap.size, 2, none⟩) hW).symm; simp [go_sem] at q0_2; have q0_3 := (congrArg (fun W : World => W.cell? ⟨w.heap.size, 3, none⟩) hW).symm; simp [go_sem] at q0_3; have q0_4 := (congrArg (fun W : World => W.cell? ⟨w.heap.size, 4, none⟩) hW).symm; simp [go_sem] at q0_4; have qz0 : w.heap.size < wb.heap.size := (by rw [← hW]; simp [go_sem]; try omega); have HBW : Hid (Bel w wb) := Lib.hid (by rw [← hW]; (repeat (first | exact Ext.bel _ | exact Bel.refl | refine Bel.alloc ?_ _ | refine Bel.drew ?_ | refine Bel.drewN ?_ _))); clear hW; have hkw := HBW.out.cells)
  go_wp2_with (first | (go_at_call 19; (with_reducible refine (HRN.out _ (HBW.out.trans (by (repeat (first | exact Ext.bel _ | exact Bel.refl | refine Bel.alloc ?_ _ | refine Bel.drew ?_ | refine Bel.drewN ?_ _))))).mono ?_); rintro e w2 ⟨rfl, hb2⟩; obtain ⟨x, rfl⟩ : ∃ x : Ext wb, w2 = x.w := ext_of (hb2.after (by (repeat (first | exact Ext.bel _ | exact Bel.refl | refine Bel.alloc ?_ _ | refine Bel.drew ?_ | refine Bel.drewN ?_ _)))); clear hb2))
  go_ret3
  exact ⟨rfl, HBW.out.trans x.bel⟩
set_option maxRecDepth 100000 in
set_option maxHeartbeats 4000000 in
theorem pjudge_ok (p : PP) (A1 A2 A : Option Addr) (k1 k2 n c : Nat) (idx loc u0 u1 u2 : Int) (g : Bool) (w : World)
    (HRN : Hid (∀ W, Bel w W → Calls Try.prog 19 #[.agg #[.int .i64 p.evs, .int .i64 p.clks, .int .i64 p.ini, .slice A1 p.good.length k1, .slice A2 p.edges.length k2], .slice A n c] W fun e w' => ∃ br a, e = .returned (.tuple #[.pointer (some ⟨br, 0, none⟩), .int .i64 idx, .int .i64 0]) ∧ Bel W w' ∧ W.heap.size ≤ br ∧ RowAt w' br 54 (runnerL p (.slice A1 p.good.length k1) (.slice A2 p.edges.length k2) ⟨loc, [u0, u1, u2]⟩ a)))
    (HGD : Hid (∀ br a W, Bel w W → RowAt W br 54 (runnerL p (.slice A1 p.good.length k1) (.slice A2 p.edges.length k2) ⟨loc, [u0, u1, u2]⟩ a) → Calls Try.prog 20 #[.pointer (some ⟨br, 0, none⟩), .agg #[.int .i64 loc, .int .i64 u0, .int .i64 u1, .int .i64 u2]] W fun e w' => e = .returned (.bool g) ∧ Bel W w')) :
    Calls Try.prog 9 #[.agg #[.int .i64 p.evs, .int .i64 p.clks, .int .i64 p.ini, .slice A1 p.good.length k1, .slice A2 p.edges.length k2], .slice A n c] w fun e w' => e = .returned (.tuple #[.bool g, .int .i64 idx, .int .i64 0]) ∧ Bel w w' := by
  go_enter Try.func9, Try.ntmps9
  go_upto_region 1 with (fail)
  (generalize hW : World.alloc _ _ = wb; have q0_0 := (congrArg (fun W : World => W.cell? ⟨w.heap.size, 0, none⟩) hW).symm; simp [go_sem] at q0_0; have q0_1 := (congrArg (fun W : World => W.cell? ⟨w.heap.size, 1, none⟩) hW).symm; simp [go_sem] at q0_1; have q0_2 := (congrArg (fun W : World => W.cell? ⟨w.heap.size, 2, none⟩) hW).symm; simp [go_sem] at q0_2; have q0_3 := (congrArg (fun W : World => W.cell? ⟨w.heap.size, 3, none⟩) hW).symm; simp [go_sem] at q0_3; have q0_4 := (congrArg (fun W : World => W.cell? ⟨w.heap.size, 4, none⟩) hW).symm; simp [go_sem] at q0_4; have qz0 : w.heap.size < wb.heap.size := (by rw [← hW]; simp [go_sem]; try omega); have HBW : Hid (Bel w wb) := Lib.hid (by rw [← hW]; (repeat (first | exact Ext.bel _ | exact Bel.refl | refine Bel.alloc ?_ _ | refine Bel.drew ?_ | refine Bel.drewN ?_ _))); clear hW; have hkw := HBW.out.cells)
  go_upto_region 4 with (first | (go_at_call 19; (with_reducible refine (HRN.out _ HBW.out).mono ?_); rintro en wr ⟨br, a, rfl, hb1, hb2, hr1⟩; have HR1 := Lib.hid hr1; have HB1 := Lib.hid hb1; clear hb1 hr1))
  have r5 : wr.cell? ⟨br, 5, none⟩ = some (.int .i64 loc) := HR1.out.cell (i := 5) rfl
  have r6 : wr.cell? ⟨br, 6, none⟩ = some (.int .i64 u0) := HR1.out.cell (i := 6) rfl
  have r7 : wr.cell? ⟨br, 7, none⟩ = some (.int .i64 u1) := HR1.out.cell (i := 7) rfl
  have r8 : wr.cell? ⟨br, 8, none⟩ = some (.int .i64 u2) := HR1.out.cell (i := 8) rfl
  have hrl := HR1.out.lt
  have HG := Lib.hid (HGD.out br a wr (HBW.out.trans HB1.out) HR1.out)
  go_wp2_with (first | (go_at_call 20; (with_reducible refine (HG.out).mono ?_); rintro e w2 ⟨rfl, hb2⟩; obtain ⟨x, rfl⟩ : ∃ x : Ext wr, w2 = x.w := ext_of (hb2.after (by (repeat (first | exact Ext.bel _ | exact Bel.refl | refine Bel.alloc ?_ _ | refine Bel.drew ?_ | refine Bel.drewN ?_ _)))); clear hb2))

  go_ret3
  exact ⟨rfl, (HBW.out.trans HB1.out).trans x.bel⟩
theorem pjudge_any (p : PP) (gv ev sv : Value) (l : List PS) (w : World) (h : PropAt w w.heap.size gv ev p) (hs : PSized p) (hl : StampsAt w w.heap.size sv l) (hll : l.length ≤ 1000000) :
    Calls Try.prog 9 #[.agg #[.int .i64 p.evs, .int .i64 p.clks, .int .i64 p.ini, gv, ev], sv] w fun e w' => e = .returned (.tuple #[.bool (judgeM p l).1, .int .i64 (judgeM p l).2.1, .int .i64 (judgeM p l).2.2]) ∧ Bel w w' := by
  by_cases h0 : rpword p l = 0
  · have HRN := fun (W : World) (hW : Bel w W) => prun_any p gv ev sv l W (h.bel hW) hs (hl.bel hW) hll h0
    obtain ⟨_, h2, h3⟩ := runP_ok h0
    have HGD := fun br a (W : World) (hW : Bel w W) hr => pgood_any p gv ev br (runP p l).1 (runP p l).1 a w W h hW hr h2 h3 hs.g
    obtain ⟨A1, k1, rfl, hk1⟩ := h.g.form
    obtain ⟨A2, k2, rfl, hk2⟩ := h.e.form
    obtain ⟨A, c, rfl, hc⟩ := hl.form
    rw [judgeM_ok h0]
    obtain ⟨loc, u0, u1, u2, idx, hr⟩ := runP_form p l
    rw [hr] at HRN HGD ⊢
    exact pjudge_ok p A1 A2 A k1 k2 _ _ idx loc u0 u1 u2 _ w (Lib.hid HRN) (Lib.hid HGD)
  · have HRN := fun (W : World) (hW : Bel w W) => prun_fail p gv ev sv l W (h.bel hW) hs (hl.bel hW) hll h0
    obtain ⟨A1, k1, rfl, hk1⟩ := h.g.form
    obtain ⟨A2, k2, rfl, hk2⟩ := h.e.form
    obtain ⟨A, c, rfl, hc⟩ := hl.form
    rw [judgeM_no h0]
    exact pjudge_no _ _ _ _ _ _ _ _ _ _ _ _ _ w (by simpa using h0) (Lib.hid HRN)
end Go.Proofs.Ytcnjojhbcijdmaa
