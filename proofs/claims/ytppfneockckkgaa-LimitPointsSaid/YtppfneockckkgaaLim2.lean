import Derived.Test.YtppfneockckkgaaLim
namespace Go.Proofs.Ytppfneockckkgaa
open Go.RowKit
theorem tmod_two (l : Int) : l.tmod 2 = 0 ↔ l % 2 = 0 := by
  rw [Int.tmod_eq_emod]
  split
  · omega
  · rename_i h
    simp at h ⊢
    omega
theorem tdiv_even {l : Int} (h : l % 2 = 0) : l.tdiv 2 = l / 2 := by
  rw [Int.tdiv_eq_ediv]
  have : (2 : Int) ∣ l := by omega
  simp [this]
theorem tdiv_odd {l : Int} (h : ¬ l % 2 = 0) : (l - 1).tdiv 2 = l / 2 := by
  rw [tdiv_even (by omega)]
  omega
def lofV (p : Int × Int) : Value := .tuple #[.int .i64 p.1, .int .i64 p.2]
set_option maxHeartbeats 1000000 in
theorem pweak_any (c : Int) (w : World) (h : i64 c) : Calls Try.prog 19 #[.int .i64 c] w fun e w' => e = .returned (lofV (lof c false)) ∧ w = w' := by
  have HL := Lib.hid h
  go_enter Try.func19, Try.ntmps19
  go_wp2_with (go_at_call 31; (with_reducible refine (pof_any _ _ _ HL.out).mono ?_); rintro e w2 ⟨rfl, rfl⟩)
  all_goals (go_ret2; exact ⟨rfl, rfl⟩)
set_option maxHeartbeats 1000000 in
theorem pstrictf_any (c : Int) (w : World) (h : i64 c) : Calls Try.prog 21 #[.int .i64 c] w fun e w' => e = .returned (lofV (lof c true)) ∧ w = w' := by
  have HL := Lib.hid h
  go_enter Try.func21, Try.ntmps21
  go_wp2_with (go_at_call 31; (with_reducible refine (pof_any _ _ _ HL.out).mono ?_); rintro e w2 ⟨rfl, rfl⟩)
  all_goals (go_ret2; exact ⟨rfl, rfl⟩)
set_option maxHeartbeats 1000000 in
theorem rweak_any (c : Int) (w : World) (h : i64 c) : Calls Try.prog 20 #[.int .i64 c] w fun e w' => e = .returned (lofV (lof c false)) ∧ w = w' := by
  have HL := Lib.hid h
  go_enter Try.func20, Try.ntmps20
  go_wp2_with (go_at_call 32; (with_reducible refine (rlim_any _ _ _ HL.out).mono ?_); rintro e w2 ⟨rfl, rfl⟩)
  all_goals (go_ret2; exact ⟨rfl, rfl⟩)
set_option maxHeartbeats 1000000 in
theorem rstrictf_any (c : Int) (w : World) (h : i64 c) : Calls Try.prog 22 #[.int .i64 c] w fun e w' => e = .returned (lofV (lof c true)) ∧ w = w' := by
  have HL := Lib.hid h
  go_enter Try.func22, Try.ntmps22
  go_wp2_with (go_at_call 32; (with_reducible refine (rlim_any _ _ _ HL.out).mono ?_); rintro e w2 ⟨rfl, rfl⟩)
  all_goals (go_ret2; exact ⟨rfl, rfl⟩)
def splitV (p : Int × Bool × Int) : Value := .tuple #[.int .i64 p.1, .bool p.2.1, .int .i64 p.2.2]
theorem lsplit_bad {l : Int} (h : lval l = false) : lsplit l = (0, false, 2) := by unfold lsplit; simp [h]
theorem lsplit_none : lsplit 1099511627776 = (0, false, 4) := by decide
theorem lsplit_ok {l : Int} (h : lval l = true) (h2 : l ≠ 1099511627776) : lsplit l = (l / 2, lodd l, 0) := by unfold lsplit; simp [h, h2]
theorem lval_bounds {l : Int} (h : lval l = true) (h2 : l ≠ 1099511627776) : -2147483648 ≤ l ∧ l ≤ 2147483649 := by
  unfold lval at h; simp [h2] at h; exact h
set_option maxHeartbeats 1000000 in
theorem psplit_any (l : Int) (w : World) (h : i64 l) : Calls Try.prog 23 #[.int .i64 l] w fun e w' => e = .returned (splitV (lsplit l)) ∧ w = w' := by
  have HL := Lib.hid h
  have HV := Lib.hid (plval_any l w h)
  cases hv : lval l
  · have HS := Lib.hid (lsplit_bad hv)
    rw [hv] at HV
    clear hv
    go_enter Try.func23, Try.ntmps23
    go_wp2_with (go_at_call 15; (with_reducible refine (HV.out).mono ?_); rintro e w2 ⟨rfl, rfl⟩)
    go_ret3
    exact ⟨by rw [HS.out]; rfl, rfl⟩
  · rw [hv] at HV
    by_cases hn : l = 1099511627776
    · subst hn
      clear hv
      go_enter Try.func23, Try.ntmps23
      go_wp2_with (go_at_call 15; (with_reducible refine (HV.out).mono ?_); rintro e w2 ⟨rfl, rfl⟩)
      go_ret3
      exact ⟨by rw [lsplit_none]; rfl, rfl⟩
    · have HS := Lib.hid (lsplit_ok hv hn)
      have hz : (l == 1099511627776) = false := by simpa using hn
      clear hv hn
      go_enter Try.func23, Try.ntmps23
      go_wp2_with (first | (go_at_call 15; (with_reducible refine (HV.out).mono ?_); rintro e w2 ⟨rfl, rfl⟩) | (go_at_call 28; (with_reducible refine (pconst_any _ _ HL.out).mono ?_); rintro e w2 ⟨rfl, rfl⟩) | (go_at_call 30; (with_reducible refine (pstrict_any _ _ HL.out).mono ?_); rintro e w2 ⟨rfl, rfl⟩))
      go_ret3
      exact ⟨by rw [HS.out]; rfl, rfl⟩
set_option maxHeartbeats 1000000 in
theorem rsplit_any (l : Int) (w : World) (h : i64 l) : Calls Try.prog 24 #[.int .i64 l] w fun e w' => e = .returned (splitV (lsplit l)) ∧ w = w' := by
  have HV := Lib.hid (rlval_any l w h)
  unfold i64 at h
  obtain ⟨h1, h2⟩ := h
  cases hv : lval l
  · have HS := Lib.hid (lsplit_bad hv)
    rw [hv] at HV
    clear hv
    go_enter Try.func24, Try.ntmps24
    go_wp2_with (go_at_call 17; (with_reducible refine (HV.out).mono ?_); rintro e w2 ⟨rfl, rfl⟩)
    go_ret3
    exact ⟨by rw [HS.out]; rfl, rfl⟩
  · rw [hv] at HV
    by_cases hn : l = 1099511627776
    · subst hn
      clear hv
      go_enter Try.func24, Try.ntmps24
      go_wp2_with (go_at_call 17; (with_reducible refine (HV.out).mono ?_); rintro e w2 ⟨rfl, rfl⟩)
      go_ret3
      exact ⟨by rw [lsplit_none]; rfl, rfl⟩
    · have HS := Lib.hid (lsplit_ok hv hn)
      obtain ⟨hb1, hb2⟩ := lval_bounds hv hn
      have hz : (l == 1099511627776) = false := by simpa using hn
      clear hv hn
      go_enter Try.func24, Try.ntmps24
      go_wp2_with (go_at_call 17; (with_reducible refine (HV.out).mono ?_); rintro e w2 ⟨rfl, rfl⟩)
      · go_ret3
        have ht : l % 2 = 0 := (tmod_two l).1 (by simpa using (show (l.tmod 2 == 0) = true by assumption))
        refine ⟨?_, rfl⟩
        rw [HS.out]
        simp only [splitV, lodd, tdiv_even ht, decide_eq_true ht]
        rfl
      · go_ret3
        have ht : ¬ l % 2 = 0 := fun h0 => by have h3 := (tmod_two l).2 h0; have h4 := (show (l.tmod 2 == 0) = false by assumption); rw [h3] at h4; cases h4
        refine ⟨?_, rfl⟩
        rw [HS.out]
        simp only [splitV, lodd, tdiv_odd ht, decide_eq_false ht]
        rfl
set_option maxHeartbeats 1000000 in
theorem bothi_any (a b : Int) (w : World) (ha : i64 a) (hb : i64 b) : Calls Try.prog 27 #[.int .i64 a, .int .i64 b, .func (.func 28) #[] #[]] w fun e w' => e = .returned (.tuple #[.int .i64 (a / 2), .int .i64 (b / 2)]) ∧ w = w' := by
  have HA := Lib.hid ha
  have HB := Lib.hid hb
  go_enter Try.func27, Try.ntmps27
  go_wp2_with (go_at_call 28; (with_reducible refine (pconst_any _ _ (by first | exact HA.out | exact HB.out)).mono ?_); rintro e w2 ⟨rfl, rfl⟩)
  go_ret2
  exact ⟨rfl, rfl⟩
set_option maxHeartbeats 1000000 in
theorem bothb_any (a b : Int) (w : World) (ha : i64 a) (hb : i64 b) : Calls Try.prog 29 #[.int .i64 a, .int .i64 b, .func (.func 30) #[] #[]] w fun e w' => e = .returned (.tuple #[.bool (lodd a), .bool (lodd b)]) ∧ w = w' := by
  have HA := Lib.hid ha
  have HB := Lib.hid hb
  go_enter Try.func29, Try.ntmps29
  go_wp2_with (go_at_call 30; (with_reducible refine (pstrict_any _ _ (by first | exact HA.out | exact HB.out)).mono ?_); rintro e w2 ⟨rfl, rfl⟩)
  go_ret2
  exact ⟨rfl, rfl⟩
end Go.Proofs.Ytppfneockckkgaa
