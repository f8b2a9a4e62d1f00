import Derived.Test.YtppfneockckkgaaLim3
namespace Go.Proofs.Ytppfneockckkgaa
open Go.RowKit
set_option maxHeartbeats 2000000 in
theorem radd_any (a b : Int) (w : World) (ha : i64 a) (hb : i64 b) : Calls Try.prog 9 #[.int .i64 a, .int .i64 b] w fun e w' => e = .returned (lofV (ladd a b)) ∧ w = w' := by
  have HV := fun W => rlval_any a W ha
  have HW := fun W => rlval_any b W hb
  cases hv : lval a
  · rw [hv] at HV
    have HR := Lib.hid (ladd_bad (a := a) (b := b) (.inl hv))
    replace HV := Lib.hid HV
    clear hv HW ha hb
    go_enter Try.func9, Try.ntmps9
    go_wp2_with (go_at_call 17; (with_reducible refine (HV.out _).mono ?_); rintro e w2 ⟨rfl, rfl⟩)
    go_ret2
    exact ⟨by rw [HR.out]; rfl, rfl⟩
  cases hu : lval b
  · rw [hu] at HW
    rw [hv] at HV
    have HR := Lib.hid (ladd_bad (a := a) (b := b) (.inr hu))
    replace HV := Lib.hid HV
    replace HW := Lib.hid HW
    clear hv hu ha hb
    go_enter Try.func9, Try.ntmps9
    go_wp2_with (first | (go_at_call 17; (with_reducible refine (HV.out _).mono ?_); rintro e w2 ⟨rfl, rfl⟩) | (go_at_call 17; (with_reducible refine (HW.out _).mono ?_); rintro e w2 ⟨rfl, rfl⟩))
    go_ret2
    exact ⟨by rw [HR.out]; rfl, rfl⟩
  rw [hu] at HW
  rw [hv] at HV
  replace HV := Lib.hid HV
  replace HW := Lib.hid HW
  by_cases h1 : a = 1099511627776
  · have HSA : Hid (∀ W, Calls Try.prog 24 #[.int .i64 a] W fun e w' => e = .returned (.tuple #[.int .i64 0, .bool false, .int .i64 4]) ∧ W = w') := Lib.hid (fun W => rsplit_at a W ha (by rw [h1, lsplit_none]) (by rw [h1, lsplit_none]) (by rw [h1, lsplit_none]))
    have HSB := Lib.hid (fun W => rsplit_at b W hb rfl rfl rfl)
    generalize (lsplit b).1 = cb at *
    generalize (lsplit b).2.1 = sb at *
    generalize (lsplit b).2.2 = eb at *
    have HR := Lib.hid (ladd_none hv hu (.inl h1))
    subst h1
    clear hv hu ha hb
    go_enter Try.func9, Try.ntmps9
    go_wp2_with (first | (go_at_call 17; (with_reducible refine (HV.out _).mono ?_); rintro e w2 ⟨rfl, rfl⟩) | (go_at_call 17; (with_reducible refine (HW.out _).mono ?_); rintro e w2 ⟨rfl, rfl⟩) | (go_at_call 24; (with_reducible refine (HSA.out _).mono ?_); rintro e w2 ⟨rfl, rfl⟩) | (go_at_call 24; (with_reducible refine (HSB.out _).mono ?_); rintro e w2 ⟨rfl, rfl⟩))
    go_ret2
    exact ⟨by rw [HR.out]; rfl, rfl⟩
  have HSA : Hid (∀ W, Calls Try.prog 24 #[.int .i64 a] W fun e w' => e = .returned (.tuple #[.int .i64 (a / 2), .bool (lodd a), .int .i64 0]) ∧ W = w') := Lib.hid (fun W => rsplit_at a W ha (by rw [lsplit_ok hv h1]) (by rw [lsplit_ok hv h1]) (by rw [lsplit_ok hv h1]))
  by_cases h2 : b = 1099511627776
  · have HSB : Hid (∀ W, Calls Try.prog 24 #[.int .i64 b] W fun e w' => e = .returned (.tuple #[.int .i64 0, .bool false, .int .i64 4]) ∧ W = w') := Lib.hid (fun W => rsplit_at b W hb (by rw [h2, lsplit_none]) (by rw [h2, lsplit_none]) (by rw [h2, lsplit_none]))
    have HR := Lib.hid (ladd_none hv hu (.inr h2))
    subst h2
    have hz : (a == 1099511627776) = false := by simpa using h1
    clear hv hu ha hb h1
    go_enter Try.func9, Try.ntmps9
    go_wp2_with (first | (go_at_call 17; (with_reducible refine (HV.out _).mono ?_); rintro e w2 ⟨rfl, rfl⟩) | (go_at_call 17; (with_reducible refine (HW.out _).mono ?_); rintro e w2 ⟨rfl, rfl⟩) | (go_at_call 24; (with_reducible refine (HSA.out _).mono ?_); rintro e w2 ⟨rfl, rfl⟩) | (go_at_call 24; (with_reducible refine (HSB.out _).mono ?_); rintro e w2 ⟨rfl, rfl⟩))
    go_ret2
    exact ⟨by rw [HR.out]; rfl, rfl⟩
  have HSB : Hid (∀ W, Calls Try.prog 24 #[.int .i64 b] W fun e w' => e = .returned (.tuple #[.int .i64 (b / 2), .bool (lodd b), .int .i64 0]) ∧ W = w') := Lib.hid (fun W => rsplit_at b W hb (by rw [lsplit_ok hu h2]) (by rw [lsplit_ok hu h2]) (by rw [lsplit_ok hu h2]))
  have HR := Lib.hid (ladd_ok hv hu h1 h2)
  obtain ⟨b1, b2⟩ := lval_bounds hv h1
  obtain ⟨b3, b4⟩ := lval_bounds hu h2
  have hz : (a == 1099511627776) = false := by simpa using h1
  have hz2 : (b == 1099511627776) = false := by simpa using h2
  have HL : Hid (∀ W, Calls Try.prog 32 #[.int .i64 (a / 2 + b / 2), .bool (lodd a || lodd b)] W fun e w' => e = .returned (.tuple #[.int .i64 (lof (a / 2 + b / 2) (lodd a || lodd b)).1, .int .i64 (lof (a / 2 + b / 2) (lodd a || lodd b)).2]) ∧ W = w') := Lib.hid (fun W => rlim_any _ _ W (by unfold i64; omega))
  clear hv hu ha hb h1 h2
  cases hoa : lodd a <;> rw [hoa] at HSA HL HR <;> simp only [Bool.false_or, Bool.true_or] at HL HR <;> clear hoa
  all_goals
    go_enter Try.func9, Try.ntmps9
    go_wp2_with (first | (go_at_call 17; (with_reducible refine (HV.out _).mono ?_); rintro e w2 ⟨rfl, rfl⟩) | (go_at_call 17; (with_reducible refine (HW.out _).mono ?_); rintro e w2 ⟨rfl, rfl⟩) | (go_at_call 24; (with_reducible refine (HSA.out _).mono ?_); rintro e w2 ⟨rfl, rfl⟩) | (go_at_call 24; (with_reducible refine (HSB.out _).mono ?_); rintro e w2 ⟨rfl, rfl⟩) | (go_at_call 32; (with_reducible refine (HL.out _).mono ?_); rintro e w2 ⟨rfl, rfl⟩))
    go_ret2
    exact ⟨by rw [HR.out]; rfl, rfl⟩
end Go.Proofs.Ytppfneockckkgaa
