import Derived.Test.YtehifcgfgejjcaaRleaf
namespace Go.Proofs.Ytehifcgfgejjcaa
open Go.RowKit
/-- a ratio -/
structure Rt where
  num : Int
  den : Int
  deriving DecidableEq
def Rt.V (a : Rt) : Value := .agg #[.int .i64 a.num, .int .i64 a.den]
structure Rt.wf (a : Rt) : Prop where
  n : i64 a.num
  d : i64 a.den
def rval (a : Rt) : Bool := decide (0 < a.den) && decide (a.den ≤ 2147483647) && decide (absU a.num ≤ 2147483647) && decide (gcdU (absU a.num) a.den = 1)
set_option maxHeartbeats 1000000 in
theorem pval_any (a : Rt) (w : World) (h : a.wf) :
    Calls Try.prog 26 #[a.V] w fun e w' => e = .returned (.bool (rval a)) ∧ Bel w w' := by
  obtain ⟨n, d⟩ := a
  have HA := Lib.hid fun (W : World) => pabs_any n W h.n
  have HG := Lib.hid fun (W : World) (hd : 0 ≤ d) => pgcd_any (absU n) d W (absU_u n h.n) ⟨hd, by have := h.d; unfold i64 at this; simp at this; omega⟩
  obtain ⟨hd1, hd2⟩ := h.d
  obtain ⟨hb1, hb2⟩ := absU_u n h.n
  simp only at hd1 hd2
  have HR : Hid (rval ⟨n, d⟩ = (decide (0 < d) && decide (d ≤ 2147483647) && decide (absU n ≤ 2147483647) && decide (gcdU (absU n) d = 1))) := Lib.hid rfl
  generalize absU n = an at *
  unfold Rt.V
  clear h
  go_enter Try.func26, Try.ntmps26
  go_wp2
  (generalize hW : World.alloc _ _ = wb; have q0_0 := (congrArg (fun W : World => W.cell? ⟨w.heap.size, 0, none⟩) hW).symm; simp [go_sem] at q0_0; have q0_1 := (congrArg (fun W : World => W.cell? ⟨w.heap.size, 1, none⟩) hW).symm; simp [go_sem] at q0_1; have qz0 : w.heap.size < wb.heap.size := (by rw [← hW]; simp [go_sem]; try omega); have HBW : Hid (Bel w wb) := Lib.hid (by rw [← hW]; (repeat (first | exact Ext.bel _ | exact Bel.refl | refine Bel.alloc ?_ _ | refine Bel.drew ?_ | refine Bel.drewN ?_ _))); clear hW; have hkw := HBW.out.cells)
  (refine wp_region_ext (wb := wb) (by (repeat (first | exact Ext.bel _ | exact Bel.refl | refine Bel.alloc ?_ _ | refine Bel.drew ?_ | refine Bel.drewN ?_ _))) (by kernel_rfl) (by kernel_rfl) ?_; (repeat (any_goals (first | go_big_quiet_step (first | (go_at_call 46; with_reducible exact ext_call (HA.out _)) | (go_at_call 47; with_reducible exact ext_call (HG.out _ (by omega)))) | quiet_step (first | (go_at_call 46; with_reducible exact ext_call (HA.out _)) | (go_at_call 47; with_reducible exact ext_call (HG.out _ (by omega)))) | (refine wpQuiet_step (fun K hK => ?_); go_simp; split <;> (refine hK _ ?_; clear hK K))))); all_goals (refine wpQuiet_nil ?_; intro _ hw'; obtain ⟨y, hw''⟩ := hw'; subst hw''))
  all_goals go_wp2
  all_goals go_ret
  all_goals exact ⟨ret_bool (by rw [HR.out, Bool.eq_iff_iff]; simp; omega), HBW.out.trans y.bel⟩
set_option maxHeartbeats 1000000 in
theorem rval_any (a : Rt) (w : World) (h : a.wf) :
    Calls Try.prog 32 #[a.V] w fun e w' => e = .returned (.bool (rval a)) ∧ Bel w w' := by
  obtain ⟨n, d⟩ := a
  have HN := Lib.hid h.n
  have HD := Lib.hid h.d
  have HG := Lib.hid fun (W : World) => rdiv_any (absU n) (absU d) W (absU_u n h.n) (absU_u d h.d)
  have HLE : Hid (absU n ≤ 2147483647 ↔ (-2147483647 ≤ n ∧ n ≤ 2147483647)) := Lib.hid (by unfold absU; omega)
  have HDE : Hid (0 < d → absU d = d) := Lib.hid (by unfold absU; omega)
  obtain ⟨hn1, hn2⟩ := h.n
  simp only at hn1 hn2
  obtain ⟨hc1, hc2⟩ := absU_u d h.d
  obtain ⟨hd1, hd2⟩ := h.d
  obtain ⟨hb1, hb2⟩ := absU_u n h.n
  simp only at hd1 hd2
  have HR : Hid (rval ⟨n, d⟩ = (decide (0 < d) && decide (d ≤ 2147483647) && decide (absU n ≤ 2147483647) && decide (gcdU (absU n) d = 1))) := Lib.hid rfl
  unfold Rt.V
  clear h
  go_enter Try.func32, Try.ntmps32
  go_wp2
  (generalize hW : World.alloc _ _ = wb; have q0_0 := (congrArg (fun W : World => W.cell? ⟨w.heap.size, 0, none⟩) hW).symm; simp [go_sem] at q0_0; have q0_1 := (congrArg (fun W : World => W.cell? ⟨w.heap.size, 1, none⟩) hW).symm; simp [go_sem] at q0_1; have qz0 : w.heap.size < wb.heap.size := (by rw [← hW]; simp [go_sem]; try omega); have HBW : Hid (Bel w wb) := Lib.hid (by rw [← hW]; (repeat (first | exact Ext.bel _ | exact Bel.refl | refine Bel.alloc ?_ _ | refine Bel.drew ?_ | refine Bel.drewN ?_ _))); clear hW; have hkw := HBW.out.cells)
  (refine wp_region_ext (wb := wb) (by (repeat (first | exact Ext.bel _ | exact Bel.refl | refine Bel.alloc ?_ _ | refine Bel.drew ?_ | refine Bel.drewN ?_ _))) (by kernel_rfl) (by kernel_rfl) ?_; (repeat (any_goals (first | go_big_quiet_step (first | (go_at_call 49; with_reducible exact ext_call (rsize_any _ _ (by first | exact HN.out | exact HD.out))) | (go_at_call 48; with_reducible exact ext_call (HG.out _))) | quiet_step (first | (go_at_call 49; with_reducible exact ext_call (rsize_any _ _ (by first | exact HN.out | exact HD.out))) | (go_at_call 48; with_reducible exact ext_call (HG.out _))) | (refine wpQuiet_step (fun K hK => ?_); go_simp; split <;> (refine hK _ ?_; clear hK K))))); all_goals (refine wpQuiet_nil ?_; intro _ hw'; obtain ⟨y, hw''⟩ := hw'; subst hw''))
  all_goals go_wp2
  all_goals go_ret
  all_goals exact ⟨ret_bool (by have h1 := HLE.out; rw [HR.out, Bool.eq_iff_iff]; first | (have h2 := HDE.out (by omega); simp [h2]; omega) | (simp; omega)), HBW.out.trans y.bel⟩
end Go.Proofs.Ytehifcgfgejjcaa
