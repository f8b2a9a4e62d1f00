import Derived.Test.YtppfneockckkgaaLim2
namespace Go.Proofs.Ytppfneockckkgaa
open Go.RowKit
def ladd (a b : Int) : Int × Int := if lval a && lval b then (if a = 1099511627776 ∨ b = 1099511627776 then (1099511627776, 0) else lof (a / 2 + b / 2) (lodd a || lodd b)) else (0, 2)
def lnot (a : Int) : Int × Int := if lval a then (if a = 1099511627776 then (0, 4) else (1 - a, 0)) else (0, 2)
def lmeets (d : Rt) (l : Int) : Bool × Int := if rval d && lval l then (if l = 1099511627776 then (true, 0) else (if lodd l then decide (d.num < l / 2 * d.den) else decide (d.num ≤ l / 2 * d.den), 0)) else (false, 2)
/-- what Split says, told apart -/
inductive Spl (l : Int) : Int → Bool → Int → Prop
  | bad : lval l = false → Spl l 0 false 2
  | none : lval l = true → l = 1099511627776 → Spl l 0 false 4
  | ok : lval l = true → l ≠ 1099511627776 → -2147483648 ≤ l → l ≤ 2147483649 → Spl l (l / 2) (lodd l) 0
theorem spl (l : Int) : Spl l (lsplit l).1 (lsplit l).2.1 (lsplit l).2.2 := by
  cases hv : lval l
  · rw [lsplit_bad hv]; exact .bad hv
  · by_cases hn : l = 1099511627776
    · subst hn; rw [lsplit_none]; exact .none hv rfl
    · rw [lsplit_ok hv hn]; have := lval_bounds hv hn; exact .ok hv hn this.1 this.2
theorem psplit_at (l : Int) (W : World) (h : i64 l) {c : Int} {s : Bool} {e : Int} (h1 : (lsplit l).1 = c) (h2 : (lsplit l).2.1 = s) (h3 : (lsplit l).2.2 = e) : Calls Try.prog 23 #[.int .i64 l] W fun e' w' => e' = .returned (.tuple #[.int .i64 c, .bool s, .int .i64 e]) ∧ W = w' := by
  subst h1 h2 h3; exact psplit_any l W h
theorem rsplit_at (l : Int) (W : World) (h : i64 l) {c : Int} {s : Bool} {e : Int} (h1 : (lsplit l).1 = c) (h2 : (lsplit l).2.1 = s) (h3 : (lsplit l).2.2 = e) : Calls Try.prog 24 #[.int .i64 l] W fun e' w' => e' = .returned (.tuple #[.int .i64 c, .bool s, .int .i64 e]) ∧ W = w' := by
  subst h1 h2 h3; exact rsplit_any l W h
theorem lof_not {a : Int} (h1 : -2147483648 ≤ a) (h2 : a ≤ 2147483649) : lof (-(a / 2)) (!lodd a) = (1 - a, 0) := by
  unfold lof lodd
  rw [if_neg (by omega)]
  by_cases h : a % 2 = 0 <;> simp [h] <;> omega
set_option maxHeartbeats 1000000 in
theorem pnot_any (a : Int) (w : World) (h : i64 a) : Calls Try.prog 10 #[.int .i64 a] w fun e w' => e = .returned (lofV (lnot a)) ∧ w = w' := by
  have HC := fun W => psplit_at a W h rfl rfl rfl
  have HN : lnot a = if (lsplit a).2.2 = 0 then (1 - a, 0) else (0, (lsplit a).2.2) := by
    unfold lnot lsplit
    cases hv : lval a
    · simp
    · by_cases hn : a = 1099511627776 <;> simp [hn]
  have hs := spl a
  generalize (lsplit a).1 = c at *
  generalize (lsplit a).2.1 = s at *
  generalize (lsplit a).2.2 = e at *
  replace HC := Lib.hid HC
  unfold i64 at h
  cases hs
  case bad hv =>
    replace HN := Lib.hid HN
    clear hv
    go_enter Try.func10, Try.ntmps10
    go_wp2_with (go_at_call 23; (with_reducible refine (HC.out _).mono ?_); rintro e w2 ⟨rfl, rfl⟩)
    go_ret2
    exact ⟨by rw [HN.out]; rfl, rfl⟩
  case none hv hl =>
    subst hl
    replace HN := Lib.hid HN
    clear hv
    go_enter Try.func10, Try.ntmps10
    go_wp2_with (go_at_call 23; (with_reducible refine (HC.out _).mono ?_); rintro e w2 ⟨rfl, rfl⟩)
    go_ret2
    exact ⟨by rw [HN.out]; rfl, rfl⟩
  case ok hv hl h1 h2 =>
    replace HN := Lib.hid HN
    clear hv hl
    go_enter Try.func10, Try.ntmps10
    go_wp2_with (go_at_call 23; (with_reducible refine (HC.out _).mono ?_); rintro e w2 ⟨rfl, rfl⟩)
    go_ret2
    exact ⟨by rw [HN.out]; rfl, rfl⟩
set_option maxHeartbeats 1000000 in
theorem rnot_any (a : Int) (w : World) (h : i64 a) : Calls Try.prog 11 #[.int .i64 a] w fun e w' => e = .returned (lofV (lnot a)) ∧ w = w' := by
  have HC := fun W => rsplit_at a W h rfl rfl rfl
  have hs := spl a
  generalize (lsplit a).1 = c at *
  generalize (lsplit a).2.1 = s at *
  generalize (lsplit a).2.2 = e at *
  replace HC := Lib.hid HC
  unfold i64 at h
  cases hs
  case bad hv =>
    have HN : Hid (lnot a = (0, 2)) := Lib.hid (by unfold lnot; simp [hv])
    clear hv
    go_enter Try.func11, Try.ntmps11
    go_wp2_with (go_at_call 24; (with_reducible refine (HC.out _).mono ?_); rintro e w2 ⟨rfl, rfl⟩)
    go_ret2
    exact ⟨by rw [HN.out]; rfl, rfl⟩
  case none hv hl =>
    subst hl
    clear hv
    go_enter Try.func11, Try.ntmps11
    go_wp2_with (go_at_call 24; (with_reducible refine (HC.out _).mono ?_); rintro e w2 ⟨rfl, rfl⟩)
    go_ret2
    exact ⟨rfl, rfl⟩
  case ok hv hl h1 h2 =>
    have HN : Hid (lnot a = (1 - a, 0)) := Lib.hid (by unfold lnot; simp [hv, hl])
    have HL : Hid (∀ W, Calls Try.prog 32 #[.int .i64 (-(a / 2)), .bool (!lodd a)] W fun e w' => e = .returned (.tuple #[.int .i64 (1 - a), .int .i64 0]) ∧ W = w') := Lib.hid (fun W => by
      have := rlim_any (-(a / 2)) (!lodd a) W (by unfold i64; omega)
      rw [lof_not h1 h2] at this
      exact this)
    clear hv hl
    go_enter Try.func11, Try.ntmps11
    go_wp2_with (first | (go_at_call 24; (with_reducible refine (HC.out _).mono ?_); rintro e w2 ⟨rfl, rfl⟩) | (go_at_call 32; (with_reducible refine (HL.out _).mono ?_); rintro e w2 ⟨rfl, rfl⟩))
    go_ret2
    exact ⟨by rw [HN.out]; rfl, rfl⟩
theorem ladd_bad {a b : Int} (h : lval a = false ∨ lval b = false) : ladd a b = (0, 2) := by
  unfold ladd; rcases h with h | h <;> simp [h]
theorem ladd_none {a b : Int} (h1 : lval a = true) (h2 : lval b = true) (h : a = 1099511627776 ∨ b = 1099511627776) : ladd a b = (1099511627776, 0) := by
  unfold ladd; simp [h1, h2, h]
theorem ladd_ok {a b : Int} (h1 : lval a = true) (h2 : lval b = true) (h3 : a ≠ 1099511627776) (h4 : b ≠ 1099511627776) : ladd a b = lof (a / 2 + b / 2) (lodd a || lodd b) := by
  unfold ladd; simp [h1, h2, h3, h4]
set_option maxHeartbeats 2000000 in
theorem padd_any (a b : Int) (w : World) (ha : i64 a) (hb : i64 b) : Calls Try.prog 8 #[.int .i64 a, .int .i64 b] w fun e w' => e = .returned (lofV (ladd a b)) ∧ w = w' := by
  have HV := fun W => plval_any a W ha
  have HW := fun W => plval_any b W hb
  have HI := fun W => bothi_any a b W ha hb
  have HB := fun W => bothb_any a b W ha hb
  replace HI := Lib.hid HI
  replace HB := Lib.hid HB
  cases hv : lval a
  · rw [hv] at HV
    have HR := Lib.hid (ladd_bad (a := a) (b := b) (.inl hv))
    replace HV := Lib.hid HV
    clear hv HW ha hb
    go_enter Try.func8, Try.ntmps8
    go_wp2_with (go_at_call 15; (with_reducible refine (HV.out _).mono ?_); rintro e w2 ⟨rfl, rfl⟩)
    go_ret2
    exact ⟨by rw [HR.out]; rfl, rfl⟩
  cases hu : lval b
  · rw [hu] at HW
    rw [hv] at HV
    have HR := Lib.hid (ladd_bad (a := a) (b := b) (.inr hu))
    replace HV := Lib.hid HV
    replace HW := Lib.hid HW
    clear hv hu ha hb
    go_enter Try.func8, Try.ntmps8
    go_wp2_with (first | (go_at_call 15; (with_reducible refine (HV.out _).mono ?_); rintro e w2 ⟨rfl, rfl⟩) | (go_at_call 15; (with_reducible refine (HW.out _).mono ?_); rintro e w2 ⟨rfl, rfl⟩))
    go_ret2
    exact ⟨by rw [HR.out]; rfl, rfl⟩
  rw [hu] at HW
  rw [hv] at HV
  replace HV := Lib.hid HV
  replace HW := Lib.hid HW
  by_cases h1 : a = 1099511627776
  · have HR := Lib.hid (ladd_none hv hu (.inl h1))
    subst h1
    clear hv hu ha hb
    go_enter Try.func8, Try.ntmps8
    go_wp2_with (first | (go_at_call 15; (with_reducible refine (HV.out _).mono ?_); rintro e w2 ⟨rfl, rfl⟩) | (go_at_call 15; (with_reducible refine (HW.out _).mono ?_); rintro e w2 ⟨rfl, rfl⟩))
    go_ret2
    exact ⟨by rw [HR.out]; rfl, rfl⟩
  by_cases h2 : b = 1099511627776
  · have HR := Lib.hid (ladd_none hv hu (.inr h2))
    subst h2
    have hz : (a == 1099511627776) = false := by simpa using h1
    clear hv hu ha hb h1
    go_enter Try.func8, Try.ntmps8
    go_wp2_with (first | (go_at_call 15; (with_reducible refine (HV.out _).mono ?_); rintro e w2 ⟨rfl, rfl⟩) | (go_at_call 15; (with_reducible refine (HW.out _).mono ?_); rintro e w2 ⟨rfl, rfl⟩))
    go_ret2
    exact ⟨by rw [HR.out]; rfl, rfl⟩
  have HR := Lib.hid (ladd_ok hv hu h1 h2)
  obtain ⟨b1, b2⟩ := lval_bounds hv h1
  obtain ⟨b3, b4⟩ := lval_bounds hu h2
  have hz : (a == 1099511627776) = false := by simpa using h1
  have hz2 : (b == 1099511627776) = false := by simpa using h2
  have HL : Hid (∀ W, Calls Try.prog 31 #[.int .i64 (a / 2 + b / 2), .bool (lodd a || lodd b)] W fun e w' => e = .returned (.tuple #[.int .i64 (lof (a / 2 + b / 2) (lodd a || lodd b)).1, .int .i64 (lof (a / 2 + b / 2) (lodd a || lodd b)).2]) ∧ W = w') := Lib.hid (fun W => pof_any _ _ W (by unfold i64; omega))
  clear hv hu ha hb h1 h2
  cases hoa : lodd a <;> rw [hoa] at HB HL HR <;> simp only [Bool.false_or, Bool.true_or] at HL HR <;> clear hoa
  all_goals
    go_enter Try.func8, Try.ntmps8
    go_wp2_with (first | (go_at_call 15; (with_reducible refine (HV.out _).mono ?_); rintro e w2 ⟨rfl, rfl⟩) | (go_at_call 15; (with_reducible refine (HW.out _).mono ?_); rintro e w2 ⟨rfl, rfl⟩) | (go_at_call 27; (with_reducible refine (HI.out _).mono ?_); rintro e w2 ⟨rfl, rfl⟩) | (go_at_call 29; (with_reducible refine (HB.out _).mono ?_); rintro e w2 ⟨rfl, rfl⟩) | (go_at_call 31; (with_reducible refine (HL.out _).mono ?_); rintro e w2 ⟨rfl, rfl⟩))
    go_ret2
    exact ⟨by rw [HR.out]; rfl, rfl⟩
end Go.Proofs.Ytppfneockckkgaa
