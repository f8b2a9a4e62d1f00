import Derived.Test.YtppfneockckkgaaLim4
namespace Go.Proofs.Ytppfneockckkgaa
open Go.RowKit
def meetV (p : Bool × Int) : Value := .tuple #[.bool p.1, .int .i64 p.2]
theorem mul_bd {a b A B : Int} (h1 : -A ≤ a) (h2 : a ≤ A) (h3 : -B ≤ b) (h4 : b ≤ B) : -(A * B) ≤ a * b ∧ a * b ≤ A * B := by
  have hA : 0 ≤ A := by omega
  have hB : 0 ≤ B := by omega
  have h5 : a.natAbs * b.natAbs ≤ A.natAbs * B.natAbs := Nat.mul_le_mul (by omega) (by omega)
  rw [← Int.natAbs_mul, ← Int.natAbs_mul] at h5
  have h6 : 0 ≤ A * B := Int.mul_nonneg hA hB
  omega
theorem rval_bd {d : Rt} (h : rval d = true) : 0 < d.den ∧ d.den ≤ 2147483647 ∧ -2147483647 ≤ d.num ∧ d.num ≤ 2147483647 := by
  unfold rval at h
  simp only [Bool.and_eq_true, decide_eq_true_eq] at h
  obtain ⟨⟨⟨h1, h2⟩, h3⟩, _⟩ := h
  unfold absU at h3
  omega
theorem meet_prod {d : Rt} {l : Int} (hd : rval d = true) (hl : lval l = true) (hn : l ≠ 1099511627776) : -2305843009213693952 ≤ l / 2 * d.den ∧ l / 2 * d.den ≤ 2305843009213693952 := by
  obtain ⟨h1, h2, _⟩ := rval_bd hd
  obtain ⟨h3, h4⟩ := lval_bounds hl hn
  have := mul_bd (a := l / 2) (b := d.den) (A := 1073741824) (B := 2147483648) (by omega) (by omega) (by omega) (by omega)
  omega
theorem ret_meet {a : Bool} {p : Bool × Int} (h : p.1 = a) (h2 : p.2 = 0) : Ending.returned (.tuple #[.bool a, .int .i64 0]) = .returned (meetV p) := by
  unfold meetV; rw [h, h2]
set_option maxHeartbeats 2000000 in
theorem pmeets_any (d : Rt) (l : Int) (w : World) (hd : d.wf) (hl : i64 l) : Calls Try.prog 13 #[d.V, .int .i64 l] w fun e w' => e = .returned (meetV (lmeets d l)) ∧ Bel w w' := by
  obtain ⟨n, dn⟩ := d
  have HV := fun W => plval_any l W hl
  have HD := fun W => pval_any ⟨n, dn⟩ W hd
  have HC := Lib.hid fun W => pconst_any l W hl
  have HS := Lib.hid fun W => pstrict_any l W hl
  unfold Rt.V at *
  cases hr : rval ⟨n, dn⟩
  · rw [hr] at HD
    replace HD := Lib.hid HD
    have HR : Hid (lmeets ⟨n, dn⟩ l = (false, 2)) := Lib.hid (by unfold lmeets; simp [hr])
    clear hr HV hd hl
    go_enter Try.func13, Try.ntmps13
    go_wp2_with (go_at_call 33; (with_reducible refine (HD.out _).mono ?_); rintro e w2 ⟨rfl, hb2⟩; obtain ⟨x, rfl⟩ : ∃ x : Ext w, w2 = x.w := ext_of (hb2.after (by (repeat (first | exact Ext.bel _ | exact Bel.refl | refine Bel.alloc ?_ _ | refine Bel.drew ?_ | refine Bel.drewN ?_ _)))); clear hb2)
    go_ret2
    exact ⟨by rw [HR.out]; rfl, x.bel⟩
  rw [hr] at HD
  replace HD := Lib.hid HD
  cases hv : lval l
  · rw [hv] at HV
    replace HV := Lib.hid HV
    have HR : Hid (lmeets ⟨n, dn⟩ l = (false, 2)) := Lib.hid (by unfold lmeets; simp [hv])
    clear hr hv hd hl
    go_enter Try.func13, Try.ntmps13
    go_wp2_with (first | (go_at_call 33; (with_reducible refine (HD.out _).mono ?_); rintro e w2 ⟨rfl, hb2⟩; obtain ⟨x, rfl⟩ : ∃ x : Ext w, w2 = x.w := ext_of (hb2.after (by (repeat (first | exact Ext.bel _ | exact Bel.refl | refine Bel.alloc ?_ _ | refine Bel.drew ?_ | refine Bel.drewN ?_ _)))); clear hb2) | (go_at_call 15; (with_reducible refine (HV.out _).mono ?_); rintro e w2 ⟨rfl, rfl⟩))
    go_ret2
    exact ⟨by rw [HR.out]; rfl, x.bel⟩
  rw [hv] at HV
  replace HV := Lib.hid HV
  by_cases hn : l = 1099511627776
  · have HR : Hid (lmeets ⟨n, dn⟩ l = (true, 0)) := Lib.hid (by unfold lmeets; rw [hr, hv, if_pos hn]; rfl)
    subst hn
    clear hr hv hd hl
    go_enter Try.func13, Try.ntmps13
    go_wp2_with (first | (go_at_call 33; (with_reducible refine (HD.out _).mono ?_); rintro e w2 ⟨rfl, hb2⟩; obtain ⟨x, rfl⟩ : ∃ x : Ext w, w2 = x.w := ext_of (hb2.after (by (repeat (first | exact Ext.bel _ | exact Bel.refl | refine Bel.alloc ?_ _ | refine Bel.drew ?_ | refine Bel.drewN ?_ _)))); clear hb2) | (go_at_call 15; (with_reducible refine (HV.out _).mono ?_); rintro e w2 ⟨rfl, rfl⟩))
    go_ret2
    exact ⟨by rw [HR.out]; rfl, x.bel⟩
  obtain ⟨b1, b2⟩ := meet_prod hr hv hn
  simp only at b1 b2
  have HR : Hid (lmeets ⟨n, dn⟩ l = (if lodd l then decide (n < l / 2 * dn) else decide (n ≤ l / 2 * dn), 0)) := Lib.hid (by unfold lmeets; simp [hr, hv, hn])
  have hz : (l == 1099511627776) = false := by simpa using hn
  have hw : IntKind.i64.wrap (l / 2 * dn) = l / 2 * dn := IntWalk.i64_in _ (by omega)
  clear hr hv hd hl hn
  cases ho : lodd l <;> rw [ho] at HS HR
  all_goals
    clear ho
    go_enter Try.func13, Try.ntmps13
    go_upto_region 1 with (fail)
    (generalize hW : World.alloc _ _ = wb; have q0_0 := (congrArg (fun W : World => W.cell? ⟨w.heap.size, 0, none⟩) hW).symm; simp [go_sem] at q0_0; have q0_1 := (congrArg (fun W : World => W.cell? ⟨w.heap.size, 1, none⟩) hW).symm; simp [go_sem] at q0_1; have qz0 : w.heap.size < wb.heap.size := (by rw [← hW]; simp [go_sem]; try omega); have HBW : Hid (Bel w wb) := Lib.hid (by rw [← hW]; (repeat (first | exact Ext.bel _ | exact Bel.refl | refine Bel.alloc ?_ _ | refine Bel.drew ?_ | refine Bel.drewN ?_ _))); clear hW; have hkw := HBW.out.cells)
    go_upto_region 5 with (first | (go_at_call 33; (with_reducible refine (HD.out _).mono ?_); rintro e w2 ⟨rfl, hb2⟩; obtain ⟨x, rfl⟩ : ∃ x : Ext wb, w2 = x.w := ext_of (hb2.after (by (repeat (first | exact Ext.bel _ | exact Bel.refl | refine Bel.alloc ?_ _ | refine Bel.drew ?_ | refine Bel.drewN ?_ _)))); clear hb2) | (go_at_call 15; (with_reducible refine (HV.out _).mono ?_); rintro e w2 ⟨rfl, rfl⟩))
    (refine wp_region_ext (wb := wb) (by (repeat (first | exact Ext.bel _ | exact Bel.refl | refine Bel.alloc ?_ _ | refine Bel.drew ?_ | refine Bel.drewN ?_ _))) (by kernel_rfl) (by kernel_rfl) ?_; (repeat (any_goals (first | go_big_quiet_step ((go_at_call 28; with_reducible exact ext_call ((HC.out _).mono fun _ _ h => ⟨h.1, h.2 ▸ Bel.refl⟩))) | quiet_step ((go_at_call 28; with_reducible exact ext_call ((HC.out _).mono fun _ _ h => ⟨h.1, h.2 ▸ Bel.refl⟩))) | (refine wpQuiet_step (fun K hK => ?_); go_simp; split <;> (refine hK _ ?_; clear hK K))))); all_goals (refine wpQuiet_nil ?_; intro _ hw'; obtain ⟨y, hw''⟩ := hw'; subst hw''))
    clear hw
    go_wp2_with (go_at_call 30; (with_reducible refine (HS.out _).mono ?_); rintro e w2 ⟨rfl, rfl⟩)
    all_goals go_ret2
    all_goals exact ⟨ret_meet (by rw [HR.out, Bool.eq_iff_iff]; simp; try omega) (by rw [HR.out]), HBW.out.trans y.bel⟩
end Go.Proofs.Ytppfneockckkgaa
