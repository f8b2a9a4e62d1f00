import Derived.Test.YtppfneockckkgaaLshow
namespace Go.Proofs.Ytppfneockckkgaa
open Go.RowKit
/-! the plain laws of sums of limits -/
def lmk (c : Int) (s : Bool) : Int := if s then 2 * c else 2 * c + 1
theorem lof_ok {c : Int} (s : Bool) (h1 : -1073741824 ≤ c) (h2 : c ≤ 1073741824) : lof c s = (lmk c s, 0) := by
  unfold lof lmk; rw [if_neg (by omega)]
theorem lof_no {c : Int} (s : Bool) (h : (lof c s).2 = 0) : -1073741824 ≤ c ∧ c ≤ 1073741824 := by
  unfold lof at h
  by_cases hc : c < -1073741824 ∨ 1073741824 < c
  · rw [if_pos hc] at h; cases h
  · omega
theorem lof_err (c : Int) (s : Bool) : (lof c s).2 = 0 ∨ lof c s = (0, 7) := by
  unfold lof; split <;> simp
theorem lmk_val {c : Int} (s : Bool) (h1 : -1073741824 ≤ c) (h2 : c ≤ 1073741824) : lval (lmk c s) = true := by
  unfold lval lmk; cases s <;> simp <;> omega
theorem lmk_ne {c : Int} (s : Bool) (h2 : c ≤ 1073741824) : lmk c s ≠ 1099511627776 := by
  unfold lmk; cases s <;> simp <;> omega
theorem lmk_div (c : Int) (s : Bool) : lmk c s / 2 = c := by
  unfold lmk; cases s <;> simp <;> omega
theorem lmk_odd (c : Int) (s : Bool) : lodd (lmk c s) = s := by
  unfold lmk lodd; cases s <;> simp <;> omega
theorem lmk_of (l : Int) : lmk (l / 2) (lodd l) = l := by
  unfold lmk lodd; by_cases h : l % 2 = 0 <;> simp [h] <;> omega
theorem lval_nl : lval 1099511627776 = true := by decide
theorem half_bd {l : Int} (h : lval l = true) (h2 : l ≠ 1099511627776) : -1073741824 ≤ l / 2 ∧ l / 2 ≤ 1073741824 := by
  have := lval_bounds h h2; omega
theorem ladd_nl_l {y : Int} (hy : lval y = true) : ladd 1099511627776 y = (1099511627776, 0) := ladd_none lval_nl hy (.inl rfl)
theorem ladd_nl_r {x : Int} (hx : lval x = true) : ladd x 1099511627776 = (1099511627776, 0) := ladd_none hx lval_nl (.inr rfl)
theorem ladd_comm (x y : Int) : ladd x y = ladd y x := by
  unfold ladd
  rw [Bool.and_comm (lval x), Int.add_comm, Bool.or_comm (lodd x)]
  congr 1
  by_cases h1 : x = 1099511627776 <;> by_cases h2 : y = 1099511627776 <;> simp [h1, h2]
/-- a sum that is in range, told apart -/
theorem ladd_cases {x y : Int} (hx : lval x = true) (hy : lval y = true) (h : (ladd x y).2 = 0) :
    ((x = 1099511627776 ∨ y = 1099511627776) ∧ ladd x y = (1099511627776, 0)) ∨
    (x ≠ 1099511627776 ∧ y ≠ 1099511627776 ∧ -1073741824 ≤ x / 2 + y / 2 ∧ x / 2 + y / 2 ≤ 1073741824 ∧ ladd x y = (lmk (x / 2 + y / 2) (lodd x || lodd y), 0)) := by
  by_cases h1 : x = 1099511627776
  · exact .inl ⟨.inl h1, ladd_none hx hy (.inl h1)⟩
  by_cases h2 : y = 1099511627776
  · exact .inl ⟨.inr h2, ladd_none hx hy (.inr h2)⟩
  rw [ladd_ok hx hy h1 h2] at h ⊢
  obtain ⟨b1, b2⟩ := lof_no _ h
  exact .inr ⟨h1, h2, b1, b2, lof_ok _ b1 b2⟩
theorem ladd_val {x y : Int} (hx : lval x = true) (hy : lval y = true) (h : (ladd x y).2 = 0) : lval (ladd x y).1 = true := by
  rcases ladd_cases hx hy h with ⟨_, e⟩ | ⟨_, _, b1, b2, e⟩ <;> rw [e]
  · exact lval_nl
  · exact lmk_val _ b1 b2
theorem ladd_assoc {x y z : Int} (hx : lval x = true) (hy : lval y = true) (hz : lval z = true) (h1 : (ladd x y).2 = 0) (h2 : (ladd y z).2 = 0) :
    ladd (ladd x y).1 z = ladd x (ladd y z).1 := by
  have va := ladd_val hx hy h1
  have vc := ladd_val hy hz h2
  rcases ladd_cases hx hy h1 with ⟨hn, e⟩ | ⟨nx, ny, b1, b2, e⟩
  · rw [e] at va ⊢
    rw [ladd_nl_l hz]
    rcases hn with rfl | rfl
    · rw [ladd_nl_l vc]
    · rw [ladd_nl_l hz, ladd_nl_r hx]
  · rcases ladd_cases hy hz h2 with ⟨hn, e'⟩ | ⟨_, nz, b3, b4, e'⟩
    · rcases hn with hn | rfl
      · exact absurd hn ny
      · rw [e', ladd_nl_r va, ladd_nl_r hx]
    · rw [e, e', ladd_ok (by rw [e] at va; exact va) hz (lmk_ne _ b2) nz, ladd_ok hx (by rw [e'] at vc; exact vc) nx (lmk_ne _ b4), lmk_div, lmk_div, lmk_odd, lmk_odd, Int.add_assoc, Bool.or_assoc]
theorem ladd_mono {x y z : Int} (hx : lval x = true) (hy : lval y = true) (hz : lval z = true) (h1 : (ladd x y).2 = 0) (h2 : (ladd x z).2 = 0) (hyz : y ≤ z) :
    (ladd x y).1 ≤ (ladd x z).1 := by
  rcases ladd_cases hx hy h1 with ⟨hn, e⟩ | ⟨nx, ny, b1, b2, e⟩
  · rcases hn with rfl | rfl
    · rw [e, ladd_nl_l hz]; exact Int.le_refl _
    · have : z = 1099511627776 := by
        by_cases hzn : z = 1099511627776
        · exact hzn
        · have := lval_bounds hz hzn; omega
      subst this
      exact Int.le_refl _
  · rcases ladd_cases hx hz h2 with ⟨hn, e'⟩ | ⟨_, nz, b3, b4, e'⟩
    · rw [e, e']
      show lmk _ _ ≤ 1099511627776
      unfold lmk; split <;> omega
    · rw [e, e']
      show lmk _ _ ≤ lmk _ _
      unfold lmk lodd
      by_cases p1 : x % 2 = 0 <;> by_cases p2 : y % 2 = 0 <;> by_cases p3 : z % 2 = 0 <;> simp [p1, p2, p3] <;> omega
theorem ladd_i64 (x y : Int) : i64 (ladd x y).1 ∧ i64 (ladd x y).2 := by
  have hl : ∀ c s, i64 (lof c s).1 ∧ i64 (lof c s).2 := fun c s => by
    unfold lof i64
    split
    · simp
    · simp; split <;> omega
  unfold ladd
  split
  · split
    · unfold i64; simp
    · exact hl _ _
  · unfold i64; simp
theorem lnot_ok {x : Int} (hx : lval x = true) (hn : x ≠ 1099511627776) : lnot x = (1 - x, 0) := by unfold lnot; simp [hx, hn]
theorem lval_not {x : Int} (hx : lval x = true) (hn : x ≠ 1099511627776) : lval (1 - x) = true ∧ 1 - x ≠ 1099511627776 := by
  have := lval_bounds hx hn
  unfold lval
  simp
  omega
end Go.Proofs.Ytppfneockckkgaa
