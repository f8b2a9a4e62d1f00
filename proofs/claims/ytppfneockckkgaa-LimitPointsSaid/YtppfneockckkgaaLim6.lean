import Derived.Test.YtppfneockckkgaaLim5
namespace Go.Proofs.Ytppfneockckkgaa
open Go.RowKit
set_option maxHeartbeats 2000000 in
theorem rmeets_any (d : Rt) (l : Int) (w : World) (hd : d.wf) (hl : i64 l) : Calls Try.prog 14 #[d.V, .int .i64 l] w fun e w' => e = .returned (meetV (lmeets d l)) ∧ Bel w w' := by
  obtain ⟨n, dn⟩ := d
  have HV := fun W => rlval_any l W hl
  have HD := fun W => rval_any ⟨n, dn⟩ W hd
  unfold Rt.V at *
  cases hr : rval ⟨n, dn⟩
  · rw [hr] at HD
    replace HD := Lib.hid HD
    have HR : Hid (lmeets ⟨n, dn⟩ l = (false, 2)) := Lib.hid (by unfold lmeets; simp [hr])
    clear hr HV hd hl
    go_enter Try.func14, Try.ntmps14
    go_wp2_with (go_at_call 16; (with_reducible refine (HD.out _).mono ?_); rintro e w2 ⟨rfl, hb2⟩; obtain ⟨x, rfl⟩ : ∃ x : Ext w, w2 = x.w := ext_of (hb2.after (by (repeat (first | exact Ext.bel _ | exact Bel.refl | refine Bel.alloc ?_ _ | refine Bel.drew ?_ | refine Bel.drewN ?_ _)))); clear hb2)
    go_ret2
    exact ⟨by rw [HR.out]; rfl, x.bel⟩
  rw [hr] at HD
  replace HD := Lib.hid HD
  cases hv : lval l
  · rw [hv] at HV
    replace HV := Lib.hid HV
    have HR : Hid (lmeets ⟨n, dn⟩ l = (false, 2)) := Lib.hid (by unfold lmeets; simp [hv])
    clear hr hv hd hl
    go_enter Try.func14, Try.ntmps14
    go_wp2_with (first | (go_at_call 16; (with_reducible refine (HD.out _).mono ?_); rintro e w2 ⟨rfl, hb2⟩; obtain ⟨x, rfl⟩ : ∃ x : Ext w, w2 = x.w := ext_of (hb2.after (by (repeat (first | exact Ext.bel _ | exact Bel.refl | refine Bel.alloc ?_ _ | refine Bel.drew ?_ | refine Bel.drewN ?_ _)))); clear hb2) | (go_at_call 17; (with_reducible refine (HV.out _).mono ?_); rintro e w2 ⟨rfl, rfl⟩))
    go_ret2
    exact ⟨by rw [HR.out]; rfl, x.bel⟩
  rw [hv] at HV
  replace HV := Lib.hid HV
  by_cases hn : l = 1099511627776
  · have HR : Hid (lmeets ⟨n, dn⟩ l = (true, 0)) := Lib.hid (by unfold lmeets; rw [hr, hv, if_pos hn]; rfl)
    have HS : Hid (∀ W, Calls Try.prog 24 #[.int .i64 l] W fun e w' => e = .returned (.tuple #[.int .i64 0, .bool false, .int .i64 4]) ∧ W = w') := Lib.hid (fun W => rsplit_at l W hl (by rw [hn, lsplit_none]) (by rw [hn, lsplit_none]) (by rw [hn, lsplit_none]))
    clear hr hv hd hl hn
    go_enter Try.func14, Try.ntmps14
    go_wp2_with (first | (go_at_call 16; (with_reducible refine (HD.out _).mono ?_); rintro e w2 ⟨rfl, hb2⟩; obtain ⟨x, rfl⟩ : ∃ x : Ext w, w2 = x.w := ext_of (hb2.after (by (repeat (first | exact Ext.bel _ | exact Bel.refl | refine Bel.alloc ?_ _ | refine Bel.drew ?_ | refine Bel.drewN ?_ _)))); clear hb2) | (go_at_call 17; (with_reducible refine (HV.out _).mono ?_); rintro e w2 ⟨rfl, rfl⟩) | (go_at_call 24; (with_reducible refine (HS.out _).mono ?_); rintro e w2 ⟨rfl, rfl⟩))
    go_ret2
    exact ⟨by rw [HR.out]; rfl, x.bel⟩
  obtain ⟨b1, b2⟩ := meet_prod hr hv hn
  simp only at b1 b2
  have HR : Hid (lmeets ⟨n, dn⟩ l = (if lodd l then decide (n < l / 2 * dn) else decide (n ≤ l / 2 * dn), 0)) := Lib.hid (by unfold lmeets; simp [hr, hv, hn])
  have hz : (l == 1099511627776) = false := by simpa using hn
  have hw : IntKind.i64.wrap (l / 2 * dn) = l / 2 * dn := IntWalk.i64_in _ (by omega)
  have HS : Hid (∀ W, Calls Try.prog 24 #[.int .i64 l] W fun e w' => e = .returned (.tuple #[.int .i64 (l / 2), .bool (lodd l), .int .i64 0]) ∧ W = w') := Lib.hid (fun W => rsplit_at l W hl (by rw [lsplit_ok hv hn]) (by rw [lsplit_ok hv hn]) (by rw [lsplit_ok hv hn]))
  clear hr hv hd hl hn
  cases ho : lodd l <;> rw [ho] at HS HR
  all_goals
    clear ho
    go_enter Try.func14, Try.ntmps14
    go_upto_region 1 with (fail)
    (generalize hW : World.alloc _ _ = wb; have q0_0 := (congrArg (fun W : World => W.cell? ⟨w.heap.size, 0, none⟩) hW).symm; simp [go_sem] at q0_0; have q0_1 := (congrArg (fun W : World => W.cell? ⟨w.heap.size, 1, none⟩) hW).symm; simp [go_sem] at q0_1; have qz0 : w.heap.size < wb.heap.size := (by rw [← hW]; simp [go_sem]; try omega); have HBW : Hid (Bel w wb) := Lib.hid (by rw [← hW]; (repeat (first | exact Ext.bel _ | exact Bel.refl | refine Bel.alloc ?_ _ | refine Bel.drew ?_ | refine Bel.drewN ?_ _))); clear hW; have hkw := HBW.out.cells)
    go_wp2_with (first | (go_at_call 16; (with_reducible refine (HD.out _).mono ?_); rintro e w2 ⟨rfl, hb2⟩; obtain ⟨x, rfl⟩ : ∃ x : Ext wb, w2 = x.w := ext_of (hb2.after (by (repeat (first | exact Ext.bel _ | exact Bel.refl | refine Bel.alloc ?_ _ | refine Bel.drew ?_ | refine Bel.drewN ?_ _)))); clear hb2) | (go_at_call 17; (with_reducible refine (HV.out _).mono ?_); rintro e w2 ⟨rfl, rfl⟩) | (go_at_call 24; (with_reducible refine (HS.out _).mono ?_); rintro e w2 ⟨rfl, rfl⟩))
    all_goals go_ret2
    all_goals exact ⟨ret_meet (by rw [HR.out, Bool.eq_iff_iff]; simp; try omega) (by rw [HR.out]), HBW.out.trans x.bel⟩
end Go.Proofs.Ytppfneockckkgaa
