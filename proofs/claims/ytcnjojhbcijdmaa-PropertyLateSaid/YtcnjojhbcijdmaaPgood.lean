import Derived.Test.YtcnjojhbcijdmaaPnext
namespace Go.Proofs.Ytcnjojhbcijdmaa
open Go.RowKit
set_option maxRecDepth 100000 in
set_option maxHeartbeats 4000000 in
theorem pgood_any (p : PP) (gv ev : Value) (br : Nat) (x y : Pt) (a : Int) (w w1 : World) (h : PropAt w w.heap.size gv ev p) (hW : Bel w w1) (hr : RowAt w1 br 54 (runnerL p gv ev x a)) (hl : LocOk p y) (hc : y.cl.length = 3) (hg : p.good.length ≤ 1000000) :
    Calls Try.prog 20 #[.pointer (some ⟨br, 0, none⟩), y.V] w1 fun e w' => e = .returned (.bool (goodM p y)) ∧ Bel w1 w' := by
  have HG := Lib.hid h.g
  obtain ⟨A1, k1, rfl, hk1⟩ := h.g.form
  clear h
  obtain ⟨loc, cl⟩ := y
  obtain ⟨u0, u1, u2, rfl⟩ : ∃ u0 u1 u2, cl = [u0, u1, u2] := by
    match cl, hc with
    | [x, y, z], _ => exact ⟨x, y, z, rfl⟩
  have HV : Hid ((⟨loc, [u0, u1, u2]⟩ : Pt).V = .agg #[.int .i64 loc, .int .i64 u0, .int .i64 u1, .int .i64 u2]) := Lib.hid rfl
  rw [HV.out]
  obtain ⟨hl1, hl2⟩ := hl
  simp only at hl1 hl2
  have r3 : w1.cell? ⟨br, 3, none⟩ = some (.slice A1 p.good.length k1) := hr.cell (i := 3) rfl
  have hrl := hr.lt
  clear hr
  by_cases h0 : loc < 0
  · have HR : Hid (goodM p ⟨loc, [u0, u1, u2]⟩ = false) := Lib.hid (by simp [goodM]; omega)
    have hd : decide (0 ≤ loc) = false := by simp; omega
    go_enter Try.func20, Try.ntmps20
    go_upto_region 1 with (fail)
    (generalize hW : World.alloc _ _ = wb; have q0_0 := (congrArg (fun W : World => W.cell? ⟨w1.heap.size, 0, none⟩) hW).symm; simp [go_sem] at q0_0; have q0_1 := (congrArg (fun W : World => W.cell? ⟨w1.heap.size, 1, none⟩) hW).symm; simp [go_sem] at q0_1; have q0_2 := (congrArg (fun W : World => W.cell? ⟨w1.heap.size, 2, none⟩) hW).symm; simp [go_sem] at q0_2; have q0_3 := (congrArg (fun W : World => W.cell? ⟨w1.heap.size, 3, none⟩) hW).symm; simp [go_sem] at q0_3; have qz0 : w1.heap.size < wb.heap.size := (by rw [← hW]; simp [go_sem]; try omega); have HBW : Hid (Bel w1 wb) := Lib.hid (by rw [← hW]; (repeat (first | exact Ext.bel _ | exact Bel.refl | refine Bel.alloc ?_ _ | refine Bel.drew ?_ | refine Bel.drewN ?_ _))); clear hW; have hkw := HBW.out.cells)
    (refine wp_region_ext (wb := wb) (by (repeat (first | exact Ext.bel _ | exact Bel.refl | refine Bel.alloc ?_ _ | refine Bel.drew ?_ | refine Bel.drewN ?_ _))) (by kernel_rfl) (by kernel_rfl) ?_; (repeat (any_goals (first | go_big_quiet_step (fail) | quiet_step (fail) | (refine wpQuiet_step (fun K hK => ?_); go_simp; split <;> (refine hK _ ?_; clear hK K))))); all_goals (refine wpQuiet_nil ?_; intro _ hw'; obtain ⟨y, hw''⟩ := hw'; subst hw''))
    go_wp2
    go_ret
    exact ⟨ret_bool HR.out.symm, HBW.out.trans (Ext.bel _)⟩
  · obtain ⟨m, rfl⟩ : ∃ m : Nat, loc = (m : Int) := ⟨loc.toNat, by omega⟩
    obtain ⟨b, off, rfl, hb, hA⟩ := HG.out.at_ (by omega)
    have c0 : w1.cell? ⟨b, off + m, none⟩ = some (.bool (p.good.getD m false)) := (hW.cells b (off + m) hb).trans (by have := hA m (by omega); simpa using this)
    have hbW : b < w1.heap.size := Nat.lt_of_lt_of_le hb hW.le
    have HR : Hid (goodM p ⟨(m : Int), [u0, u1, u2]⟩ = p.good.getD m false) := Lib.hid (by simp [goodM])
    generalize p.good.getD m false = g at *
    have hd : decide (0 ≤ (m : Int)) = true := by simp
    clear hA h0
    go_enter Try.func20, Try.ntmps20
    go_upto_region 1 with (fail)
    (generalize hW : World.alloc _ _ = wb; have q0_0 := (congrArg (fun W : World => W.cell? ⟨w1.heap.size, 0, none⟩) hW).symm; simp [go_sem] at q0_0; have q0_1 := (congrArg (fun W : World => W.cell? ⟨w1.heap.size, 1, none⟩) hW).symm; simp [go_sem] at q0_1; have q0_2 := (congrArg (fun W : World => W.cell? ⟨w1.heap.size, 2, none⟩) hW).symm; simp [go_sem] at q0_2; have q0_3 := (congrArg (fun W : World => W.cell? ⟨w1.heap.size, 3, none⟩) hW).symm; simp [go_sem] at q0_3; have qz0 : w1.heap.size < wb.heap.size := (by rw [← hW]; simp [go_sem]; try omega); have HBW : Hid (Bel w1 wb) := Lib.hid (by rw [← hW]; (repeat (first | exact Ext.bel _ | exact Bel.refl | refine Bel.alloc ?_ _ | refine Bel.drew ?_ | refine Bel.drewN ?_ _))); clear hW; have hkw := HBW.out.cells; have : br < wb.heap.size := (Nat.lt_of_lt_of_le (by first | assumption | omega) HBW.out.le); have : b < wb.heap.size := (Nat.lt_of_lt_of_le (by first | assumption | omega) HBW.out.le))
    (refine wp_region_ext (wb := wb) (by (repeat (first | exact Ext.bel _ | exact Bel.refl | refine Bel.alloc ?_ _ | refine Bel.drew ?_ | refine Bel.drewN ?_ _))) (by kernel_rfl) (by kernel_rfl) ?_; (repeat (any_goals (first | go_big_quiet_step (fail) | quiet_step (fail) | (refine wpQuiet_step (fun K hK => ?_); go_simp; split <;> (refine hK _ ?_; clear hK K))))); all_goals (refine wpQuiet_nil ?_; intro _ hw'; obtain ⟨y, hw''⟩ := hw'; subst hw''))
    go_wp2
    go_ret
    exact ⟨ret_bool HR.out.symm, HBW.out.trans (Ext.bel _)⟩
end Go.Proofs.Ytcnjojhbcijdmaa
