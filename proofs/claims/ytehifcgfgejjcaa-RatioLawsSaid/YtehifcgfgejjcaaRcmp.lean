import Derived.Test.YtehifcgfgejjcaaRops3
namespace Go.Proofs.Ytehifcgfgejjcaa
open Go.RowKit
set_option maxHeartbeats 4000000 in
theorem prcmp_any (a b : Rt) (w : World) (ha : a.wf) (hb : b.wf) : Calls Try.prog 16 #[a.V, b.V] w fun e w' => e = .returned (intV (rcmp a b)) ∧ Bel w w' := by
  obtain ⟨an, ad⟩ := a
  obtain ⟨bn, bd⟩ := b
  have HV := fun W => pvalid2_any ⟨an, ad⟩ ⟨bn, bd⟩ W ha hb
  unfold Rt.V at *
  cases hab : rval ⟨an, ad⟩ && rval ⟨bn, bd⟩
  · have HR : Hid (rcmp ⟨an, ad⟩ ⟨bn, bd⟩ = (0, 2)) := Lib.hid (by unfold rcmp; rw [hab]; rfl)
    rw [hab] at HV
    replace HV := Lib.hid HV
    clear hab ha hb
    go_enter Try.func16, Try.ntmps16
    go_upto_region 1 with (fail)
    (generalize hW : World.alloc _ _ = wb; have q0_0 := (congrArg (fun W : World => W.cell? ⟨w.heap.size, 0, none⟩) hW).symm; simp [go_sem] at q0_0; have q0_1 := (congrArg (fun W : World => W.cell? ⟨w.heap.size, 1, none⟩) hW).symm; simp [go_sem] at q0_1; have qz0 : w.heap.size < wb.heap.size := (by rw [← hW]; simp [go_sem]; try omega); have q1_0 := (congrArg (fun W : World => W.cell? ⟨w.heap.size + 1, 0, none⟩) hW).symm; simp [go_sem] at q1_0; have q1_1 := (congrArg (fun W : World => W.cell? ⟨w.heap.size + 1, 1, none⟩) hW).symm; simp [go_sem] at q1_1; have qz1 : w.heap.size + 1 < wb.heap.size := (by rw [← hW]; simp [go_sem]; try omega); have HBW : Hid (Bel w wb) := Lib.hid (by rw [← hW]; (repeat (first | exact Ext.bel _ | exact Bel.refl | refine Bel.alloc ?_ _ | refine Bel.drew ?_ | refine Bel.drewN ?_ _))); clear hW; have hkw := HBW.out.cells)
    go_wp2_with (go_at_call 45; (with_reducible refine (HV.out _).mono ?_); rintro e w2 ⟨rfl, hb2⟩; obtain ⟨x, rfl⟩ : ∃ x : Ext wb, w2 = x.w := ext_of (hb2.after (by (repeat (first | exact Ext.bel _ | exact Bel.refl | refine Bel.alloc ?_ _ | refine Bel.drew ?_ | refine Bel.drewN ?_ _)))); clear hb2)
    go_ret2
    exact ⟨by rw [HR.out]; rfl, HBW.out.trans x.bel⟩
  have hva : rval ⟨an, ad⟩ = true := by revert hab; cases rval ⟨an, ad⟩ <;> simp
  have hvb : rval ⟨bn, bd⟩ = true := by revert hab; cases rval ⟨bn, bd⟩ <;> simp
  rw [hab] at HV
  replace HV := Lib.hid HV
  obtain ⟨a1, a2, a3, a4⟩ := rvalB hva
  obtain ⟨b1, b2, b3, b4⟩ := rvalB hvb
  simp only at a1 a2 a3 a4 b1 b2 b3 b4
  obtain ⟨m0, m0'⟩ := prodB (x := an) (y := bd) (by omega) (by omega) (by omega) (by omega)
  obtain ⟨m1, m1'⟩ := prodB (x := bn) (y := ad) (by omega) (by omega) (by omega) (by omega)
  have HR : Hid (rcmp ⟨an, ad⟩ ⟨bn, bd⟩ = (if an * bd < bn * ad then -1 else if bn * ad < an * bd then 1 else 0, 0)) := Lib.hid (by unfold rcmp; rw [hab]; rfl)
  clear hab hva hvb ha hb
  rcases Int.lt_trichotomy (an * bd) (bn * ad) with hlt | heq | hgt
  · have HR2 : Hid (rcmp ⟨an, ad⟩ ⟨bn, bd⟩ = (-1, 0)) := Lib.hid (by rw [HR.out, if_pos hlt])
    clear HR
    have h1 : an * bd - bn * ad < 0 := by omega
    go_enter Try.func16, Try.ntmps16
    go_upto_region 1 with (fail)
    (generalize hW : World.alloc _ _ = wb; have q0_0 := (congrArg (fun W : World => W.cell? ⟨w.heap.size, 0, none⟩) hW).symm; simp [go_sem] at q0_0; have q0_1 := (congrArg (fun W : World => W.cell? ⟨w.heap.size, 1, none⟩) hW).symm; simp [go_sem] at q0_1; have qz0 : w.heap.size < wb.heap.size := (by rw [← hW]; simp [go_sem]; try omega); have q1_0 := (congrArg (fun W : World => W.cell? ⟨w.heap.size + 1, 0, none⟩) hW).symm; simp [go_sem] at q1_0; have q1_1 := (congrArg (fun W : World => W.cell? ⟨w.heap.size + 1, 1, none⟩) hW).symm; simp [go_sem] at q1_1; have qz1 : w.heap.size + 1 < wb.heap.size := (by rw [← hW]; simp [go_sem]; try omega); have HBW : Hid (Bel w wb) := Lib.hid (by rw [← hW]; (repeat (first | exact Ext.bel _ | exact Bel.refl | refine Bel.alloc ?_ _ | refine Bel.drew ?_ | refine Bel.drewN ?_ _))); clear hW; have hkw := HBW.out.cells)
    go_wp2_with (go_at_call 45; (with_reducible refine (HV.out _).mono ?_); rintro e w2 ⟨rfl, hb2⟩; obtain ⟨x, rfl⟩ : ∃ x : Ext wb, w2 = x.w := ext_of (hb2.after (by (repeat (first | exact Ext.bel _ | exact Bel.refl | refine Bel.alloc ?_ _ | refine Bel.drew ?_ | refine Bel.drewN ?_ _)))); clear hb2)
    go_ret2
    exact ⟨by rw [HR2.out]; rfl, HBW.out.trans x.bel⟩
  · have HR2 : Hid (rcmp ⟨an, ad⟩ ⟨bn, bd⟩ = (0, 0)) := Lib.hid (by rw [HR.out, if_neg (by omega), if_neg (by omega)])
    clear HR
    have h1 : ¬ an * bd - bn * ad < 0 := by omega
    have h2 : ¬ 0 < an * bd - bn * ad := by omega
    replace heq := Lib.hid heq
    go_enter Try.func16, Try.ntmps16
    go_upto_region 1 with (fail)
    (generalize hW : World.alloc _ _ = wb; have q0_0 := (congrArg (fun W : World => W.cell? ⟨w.heap.size, 0, none⟩) hW).symm; simp [go_sem] at q0_0; have q0_1 := (congrArg (fun W : World => W.cell? ⟨w.heap.size, 1, none⟩) hW).symm; simp [go_sem] at q0_1; have qz0 : w.heap.size < wb.heap.size := (by rw [← hW]; simp [go_sem]; try omega); have q1_0 := (congrArg (fun W : World => W.cell? ⟨w.heap.size + 1, 0, none⟩) hW).symm; simp [go_sem] at q1_0; have q1_1 := (congrArg (fun W : World => W.cell? ⟨w.heap.size + 1, 1, none⟩) hW).symm; simp [go_sem] at q1_1; have qz1 : w.heap.size + 1 < wb.heap.size := (by rw [← hW]; simp [go_sem]; try omega); have HBW : Hid (Bel w wb) := Lib.hid (by rw [← hW]; (repeat (first | exact Ext.bel _ | exact Bel.refl | refine Bel.alloc ?_ _ | refine Bel.drew ?_ | refine Bel.drewN ?_ _))); clear hW; have hkw := HBW.out.cells)
    go_wp2_with (go_at_call 45; (with_reducible refine (HV.out _).mono ?_); rintro e w2 ⟨rfl, hb2⟩; obtain ⟨x, rfl⟩ : ∃ x : Ext wb, w2 = x.w := ext_of (hb2.after (by (repeat (first | exact Ext.bel _ | exact Bel.refl | refine Bel.alloc ?_ _ | refine Bel.drew ?_ | refine Bel.drewN ?_ _)))); clear hb2)
    go_ret2
    exact ⟨by rw [HR2.out]; rfl, HBW.out.trans x.bel⟩
  · have HR2 : Hid (rcmp ⟨an, ad⟩ ⟨bn, bd⟩ = (1, 0)) := Lib.hid (by rw [HR.out, if_neg (by omega), if_pos hgt])
    clear HR
    have h1 : ¬ an * bd - bn * ad < 0 := by omega
    have h2 : 0 < an * bd - bn * ad := by omega
    go_enter Try.func16, Try.ntmps16
    go_upto_region 1 with (fail)
    (generalize hW : World.alloc _ _ = wb; have q0_0 := (congrArg (fun W : World => W.cell? ⟨w.heap.size, 0, none⟩) hW).symm; simp [go_sem] at q0_0; have q0_1 := (congrArg (fun W : World => W.cell? ⟨w.heap.size, 1, none⟩) hW).symm; simp [go_sem] at q0_1; have qz0 : w.heap.size < wb.heap.size := (by rw [← hW]; simp [go_sem]; try omega); have q1_0 := (congrArg (fun W : World => W.cell? ⟨w.heap.size + 1, 0, none⟩) hW).symm; simp [go_sem] at q1_0; have q1_1 := (congrArg (fun W : World => W.cell? ⟨w.heap.size + 1, 1, none⟩) hW).symm; simp [go_sem] at q1_1; have qz1 : w.heap.size + 1 < wb.heap.size := (by rw [← hW]; simp [go_sem]; try omega); have HBW : Hid (Bel w wb) := Lib.hid (by rw [← hW]; (repeat (first | exact Ext.bel _ | exact Bel.refl | refine Bel.alloc ?_ _ | refine Bel.drew ?_ | refine Bel.drewN ?_ _))); clear hW; have hkw := HBW.out.cells)
    go_wp2_with (go_at_call 45; (with_reducible refine (HV.out _).mono ?_); rintro e w2 ⟨rfl, hb2⟩; obtain ⟨x, rfl⟩ : ∃ x : Ext wb, w2 = x.w := ext_of (hb2.after (by (repeat (first | exact Ext.bel _ | exact Bel.refl | refine Bel.alloc ?_ _ | refine Bel.drew ?_ | refine Bel.drewN ?_ _)))); clear hb2)
    go_ret2
    exact ⟨by rw [HR2.out]; rfl, HBW.out.trans x.bel⟩
set_option maxHeartbeats 4000000 in
theorem rrcmp_any (a b : Rt) (w : World) (ha : a.wf) (hb : b.wf) : Calls Try.prog 25 #[a.V, b.V] w fun e w' => e = .returned (intV (rcmp a b)) ∧ Bel w w' := by
  obtain ⟨an, ad⟩ := a
  obtain ⟨bn, bd⟩ := b
  have HV := fun W => rval_any ⟨an, ad⟩ W ha
  have HU := fun W => rval_any ⟨bn, bd⟩ W hb
  unfold Rt.V at *
  cases hab : rval ⟨an, ad⟩ && rval ⟨bn, bd⟩
  · have HR : Hid (rcmp ⟨an, ad⟩ ⟨bn, bd⟩ = (0, 2)) := Lib.hid (by unfold rcmp; rw [hab]; rfl)
    cases hva : rval ⟨an, ad⟩ <;> rw [hva] at HV hab <;> simp at hab <;> replace HV := Lib.hid HV
    case true =>
      rw [hab] at HU
      replace HU := Lib.hid HU
      clear hab hva ha hb
      go_enter Try.func25, Try.ntmps25
      go_upto_region 1 with (fail)
      (generalize hW : World.alloc _ _ = wb; have q0_0 := (congrArg (fun W : World => W.cell? ⟨w.heap.size, 0, none⟩) hW).symm; simp [go_sem] at q0_0; have q0_1 := (congrArg (fun W : World => W.cell? ⟨w.heap.size, 1, none⟩) hW).symm; simp [go_sem] at q0_1; have qz0 : w.heap.size < wb.heap.size := (by rw [← hW]; simp [go_sem]; try omega); have q1_0 := (congrArg (fun W : World => W.cell? ⟨w.heap.size + 1, 0, none⟩) hW).symm; simp [go_sem] at q1_0; have q1_1 := (congrArg (fun W : World => W.cell? ⟨w.heap.size + 1, 1, none⟩) hW).symm; simp [go_sem] at q1_1; have qz1 : w.heap.size + 1 < wb.heap.size := (by rw [← hW]; simp [go_sem]; try omega); have HBW : Hid (Bel w wb) := Lib.hid (by rw [← hW]; (repeat (first | exact Ext.bel _ | exact Bel.refl | refine Bel.alloc ?_ _ | refine Bel.drew ?_ | refine Bel.drewN ?_ _))); clear hW; have hkw := HBW.out.cells)
      go_wp2_with (first | (go_at_call 32; (with_reducible refine (HV.out _).mono ?_); rintro e w2 ⟨rfl, hb2⟩; obtain ⟨x, rfl⟩ : ∃ x : Ext wb, w2 = x.w := ext_of (hb2.after (by (repeat (first | exact Ext.bel _ | exact Bel.refl | refine Bel.alloc ?_ _ | refine Bel.drew ?_ | refine Bel.drewN ?_ _)))); clear hb2) | (go_at_call 32; (with_reducible refine (HU.out _).mono ?_); rintro e w2 ⟨rfl, hb2⟩; obtain ⟨x, rfl⟩ : ∃ x : Ext wb, w2 = x.w := ext_of (hb2.after (by (repeat (first | exact Ext.bel _ | exact Bel.refl | refine Bel.alloc ?_ _ | refine Bel.drew ?_ | refine Bel.drewN ?_ _)))); clear hb2))
      go_ret2
      exact ⟨by rw [HR.out]; rfl, HBW.out.trans x.bel⟩
    case false =>
      replace HU := Lib.hid HU
      clear hva ha hb
      go_enter Try.func25, Try.ntmps25
      go_upto_region 1 with (fail)
      (generalize hW : World.alloc _ _ = wb; have q0_0 := (congrArg (fun W : World => W.cell? ⟨w.heap.size, 0, none⟩) hW).symm; simp [go_sem] at q0_0; have q0_1 := (congrArg (fun W : World => W.cell? ⟨w.heap.size, 1, none⟩) hW).symm; simp [go_sem] at q0_1; have qz0 : w.heap.size < wb.heap.size := (by rw [← hW]; simp [go_sem]; try omega); have q1_0 := (congrArg (fun W : World => W.cell? ⟨w.heap.size + 1, 0, none⟩) hW).symm; simp [go_sem] at q1_0; have q1_1 := (congrArg (fun W : World => W.cell? ⟨w.heap.size + 1, 1, none⟩) hW).symm; simp [go_sem] at q1_1; have qz1 : w.heap.size + 1 < wb.heap.size := (by rw [← hW]; simp [go_sem]; try omega); have HBW : Hid (Bel w wb) := Lib.hid (by rw [← hW]; (repeat (first | exact Ext.bel _ | exact Bel.refl | refine Bel.alloc ?_ _ | refine Bel.drew ?_ | refine Bel.drewN ?_ _))); clear hW; have hkw := HBW.out.cells)
      go_wp2_with (first | (go_at_call 32; (with_reducible refine (HV.out _).mono ?_); rintro e w2 ⟨rfl, hb2⟩; obtain ⟨x, rfl⟩ : ∃ x : Ext wb, w2 = x.w := ext_of (hb2.after (by (repeat (first | exact Ext.bel _ | exact Bel.refl | refine Bel.alloc ?_ _ | refine Bel.drew ?_ | refine Bel.drewN ?_ _)))); clear hb2) | (go_at_call 32; (with_reducible refine (HU.out _).mono ?_); rintro e w2 ⟨rfl, hb2⟩; obtain ⟨x, rfl⟩ : ∃ x : Ext wb, w2 = x.w := ext_of (hb2.after (by (repeat (first | exact Ext.bel _ | exact Bel.refl | refine Bel.alloc ?_ _ | refine Bel.drew ?_ | refine Bel.drewN ?_ _)))); clear hb2))
      go_ret2
      exact ⟨by rw [HR.out]; rfl, HBW.out.trans x.bel⟩
  have hva : rval ⟨an, ad⟩ = true := by revert hab; cases rval ⟨an, ad⟩ <;> simp
  have hvb : rval ⟨bn, bd⟩ = true := by revert hab; cases rval ⟨bn, bd⟩ <;> simp
  rw [hva] at HV
  rw [hvb] at HU
  replace HU := Lib.hid HU
  replace HV := Lib.hid HV
  obtain ⟨a1, a2, a3, a4⟩ := rvalB hva
  obtain ⟨b1, b2, b3, b4⟩ := rvalB hvb
  simp only at a1 a2 a3 a4 b1 b2 b3 b4
  obtain ⟨m0, m0'⟩ := prodB (x := an) (y := bd) (by omega) (by omega) (by omega) (by omega)
  obtain ⟨m1, m1'⟩ := prodB (x := bn) (y := ad) (by omega) (by omega) (by omega) (by omega)
  have HR : Hid (rcmp ⟨an, ad⟩ ⟨bn, bd⟩ = (if an * bd < bn * ad then -1 else if bn * ad < an * bd then 1 else 0, 0)) := Lib.hid (by unfold rcmp; rw [hab]; rfl)
  clear hab hva hvb ha hb
  have hw0 : IntKind.i64.wrap (an * bd) = an * bd := IntWalk.i64_in _ (by omega)
  have hw1 : IntKind.i64.wrap (bn * ad) = bn * ad := IntWalk.i64_in _ (by omega)
  rcases Int.lt_trichotomy (an * bd) (bn * ad) with hlt | heq | hgt
  · have HR2 : Hid (rcmp ⟨an, ad⟩ ⟨bn, bd⟩ = (-1, 0)) := Lib.hid (by rw [HR.out, if_pos hlt])
    clear HR
    have h1 : an * bd < bn * ad := hlt
    go_enter Try.func25, Try.ntmps25
    go_upto_region 1 with (fail)
    (generalize hW : World.alloc _ _ = wb; have q0_0 := (congrArg (fun W : World => W.cell? ⟨w.heap.size, 0, none⟩) hW).symm; simp [go_sem] at q0_0; have q0_1 := (congrArg (fun W : World => W.cell? ⟨w.heap.size, 1, none⟩) hW).symm; simp [go_sem] at q0_1; have qz0 : w.heap.size < wb.heap.size := (by rw [← hW]; simp [go_sem]; try omega); have q1_0 := (congrArg (fun W : World => W.cell? ⟨w.heap.size + 1, 0, none⟩) hW).symm; simp [go_sem] at q1_0; have q1_1 := (congrArg (fun W : World => W.cell? ⟨w.heap.size + 1, 1, none⟩) hW).symm; simp [go_sem] at q1_1; have qz1 : w.heap.size + 1 < wb.heap.size := (by rw [← hW]; simp [go_sem]; try omega); have HBW : Hid (Bel w wb) := Lib.hid (by rw [← hW]; (repeat (first | exact Ext.bel _ | exact Bel.refl | refine Bel.alloc ?_ _ | refine Bel.drew ?_ | refine Bel.drewN ?_ _))); clear hW; have hkw := HBW.out.cells)
    go_wp2_with (first | (go_at_call 32; (with_reducible refine (HV.out _).mono ?_); rintro e w2 ⟨rfl, hb2⟩; obtain ⟨x, rfl⟩ : ∃ x : Ext wb, w2 = x.w := ext_of (hb2.after (by (repeat (first | exact Ext.bel _ | exact Bel.refl | refine Bel.alloc ?_ _ | refine Bel.drew ?_ | refine Bel.drewN ?_ _)))); clear hb2) | (go_at_call 32; (with_reducible refine (HU.out _).mono ?_); rintro e w2 ⟨rfl, hb2⟩; obtain ⟨x, rfl⟩ : ∃ x : Ext wb, w2 = x.w := ext_of (hb2.after (by (repeat (first | exact Ext.bel _ | exact Bel.refl | refine Bel.alloc ?_ _ | refine Bel.drew ?_ | refine Bel.drewN ?_ _)))); clear hb2))
    (refine wp_region_ext (wb := wb) (by (repeat (first | exact Ext.bel _ | exact Bel.refl | refine Bel.alloc ?_ _ | refine Bel.drew ?_ | refine Bel.drewN ?_ _))) (by kernel_rfl) (by kernel_rfl) ?_; (repeat (any_goals (first | go_big_quiet_step (fail) | quiet_step (fail) | (refine wpQuiet_step (fun K hK => ?_); go_simp; split <;> (refine hK _ ?_; clear hK K))))); all_goals (refine wpQuiet_nil ?_; intro _ hw'; obtain ⟨y, hw''⟩ := hw'; subst hw''))
    go_wp2
    go_ret2
    exact ⟨by rw [HR2.out]; rfl, HBW.out.trans y.bel⟩
  · have HR2 : Hid (rcmp ⟨an, ad⟩ ⟨bn, bd⟩ = (0, 0)) := Lib.hid (by rw [HR.out, if_neg (by omega), if_neg (by omega)])
    clear HR
    have h1 : ¬ an * bd < bn * ad := by omega
    have h2 : ¬ bn * ad < an * bd := by omega
    replace heq := Lib.hid heq
    go_enter Try.func25, Try.ntmps25
    go_upto_region 1 with (fail)
    (generalize hW : World.alloc _ _ = wb; have q0_0 := (congrArg (fun W : World => W.cell? ⟨w.heap.size, 0, none⟩) hW).symm; simp [go_sem] at q0_0; have q0_1 := (congrArg (fun W : World => W.cell? ⟨w.heap.size, 1, none⟩) hW).symm; simp [go_sem] at q0_1; have qz0 : w.heap.size < wb.heap.size := (by rw [← hW]; simp [go_sem]; try omega); have q1_0 := (congrArg (fun W : World => W.cell? ⟨w.heap.size + 1, 0, none⟩) hW).symm; simp [go_sem] at q1_0; have q1_1 := (congrArg (fun W : World => W.cell? ⟨w.heap.size + 1, 1, none⟩) hW).symm; simp [go_sem] at q1_1; have qz1 : w.heap.size + 1 < wb.heap.size := (by rw [← hW]; simp [go_sem]; try omega); have HBW : Hid (Bel w wb) := Lib.hid (by rw [← hW]; (repeat (first | exact Ext.bel _ | exact Bel.refl | refine Bel.alloc ?_ _ | refine Bel.drew ?_ | refine Bel.drewN ?_ _))); clear hW; have hkw := HBW.out.cells)
    go_wp2_with (first | (go_at_call 32; (with_reducible refine (HV.out _).mono ?_); rintro e w2 ⟨rfl, hb2⟩; obtain ⟨x, rfl⟩ : ∃ x : Ext wb, w2 = x.w := ext_of (hb2.after (by (repeat (first | exact Ext.bel _ | exact Bel.refl | refine Bel.alloc ?_ _ | refine Bel.drew ?_ | refine Bel.drewN ?_ _)))); clear hb2) | (go_at_call 32; (with_reducible refine (HU.out _).mono ?_); rintro e w2 ⟨rfl, hb2⟩; obtain ⟨x, rfl⟩ : ∃ x : Ext wb, w2 = x.w := ext_of (hb2.after (by (repeat (first | exact Ext.bel _ | exact Bel.refl | refine Bel.alloc ?_ _ | refine Bel.drew ?_ | refine Bel.drewN ?_ _)))); clear hb2))
    (refine wp_region_ext (wb := wb) (by (repeat (first | exact Ext.bel _ | exact Bel.refl | refine Bel.alloc ?_ _ | refine Bel.drew ?_ | refine Bel.drewN ?_ _))) (by kernel_rfl) (by kernel_rfl) ?_; (repeat (any_goals (first | go_big_quiet_step (fail) | quiet_step (fail) | (refine wpQuiet_step (fun K hK => ?_); go_simp; split <;> (refine hK _ ?_; clear hK K))))); all_goals (refine wpQuiet_nil ?_; intro _ hw'; obtain ⟨y, hw''⟩ := hw'; subst hw''))
    go_wp2
    go_ret2
    exact ⟨by rw [HR2.out]; rfl, HBW.out.trans y.bel⟩
  · have HR2 : Hid (rcmp ⟨an, ad⟩ ⟨bn, bd⟩ = (1, 0)) := Lib.hid (by rw [HR.out, if_neg (by omega), if_pos hgt])
    clear HR
    have h1 : ¬ an * bd < bn * ad := by omega
    have h2 : bn * ad < an * bd := hgt
    go_enter Try.func25, Try.ntmps25
    go_upto_region 1 with (fail)
    (generalize hW : World.alloc _ _ = wb; have q0_0 := (congrArg (fun W : World => W.cell? ⟨w.heap.size, 0, none⟩) hW).symm; simp [go_sem] at q0_0; have q0_1 := (congrArg (fun W : World => W.cell? ⟨w.heap.size, 1, none⟩) hW).symm; simp [go_sem] at q0_1; have qz0 : w.heap.size < wb.heap.size := (by rw [← hW]; simp [go_sem]; try omega); have q1_0 := (congrArg (fun W : World => W.cell? ⟨w.heap.size + 1, 0, none⟩) hW).symm; simp [go_sem] at q1_0; have q1_1 := (congrArg (fun W : World => W.cell? ⟨w.heap.size + 1, 1, none⟩) hW).symm; simp [go_sem] at q1_1; have qz1 : w.heap.size + 1 < wb.heap.size := (by rw [← hW]; simp [go_sem]; try omega); have HBW : Hid (Bel w wb) := Lib.hid (by rw [← hW]; (repeat (first | exact Ext.bel _ | exact Bel.refl | refine Bel.alloc ?_ _ | refine Bel.drew ?_ | refine Bel.drewN ?_ _))); clear hW; have hkw := HBW.out.cells)
    go_wp2_with (first | (go_at_call 32; (with_reducible refine (HV.out _).mono ?_); rintro e w2 ⟨rfl, hb2⟩; obtain ⟨x, rfl⟩ : ∃ x : Ext wb, w2 = x.w := ext_of (hb2.after (by (repeat (first | exact Ext.bel _ | exact Bel.refl | refine Bel.alloc ?_ _ | refine Bel.drew ?_ | refine Bel.drewN ?_ _)))); clear hb2) | (go_at_call 32; (with_reducible refine (HU.out _).mono ?_); rintro e w2 ⟨rfl, hb2⟩; obtain ⟨x, rfl⟩ : ∃ x : Ext wb, w2 = x.w := ext_of (hb2.after (by (repeat (first | exact Ext.bel _ | exact Bel.refl | refine Bel.alloc ?_ _ | refine Bel.drew ?_ | refine Bel.drewN ?_ _)))); clear hb2))
    (refine wp_region_ext (wb := wb) (by (repeat (first | exact Ext.bel _ | exact Bel.refl | refine Bel.alloc ?_ _ | refine Bel.drew ?_ | refine Bel.drewN ?_ _))) (by kernel_rfl) (by kernel_rfl) ?_; (repeat (any_goals (first | go_big_quiet_step (fail) | quiet_step (fail) | (refine wpQuiet_step (fun K hK => ?_); go_simp; split <;> (refine hK _ ?_; clear hK K))))); all_goals (refine wpQuiet_nil ?_; intro _ hw'; obtain ⟨y, hw''⟩ := hw'; subst hw''))
    go_wp2
    go_ret2
    exact ⟨by rw [HR2.out]; rfl, HBW.out.trans y.bel⟩
end Go.Proofs.Ytehifcgfgejjcaa
