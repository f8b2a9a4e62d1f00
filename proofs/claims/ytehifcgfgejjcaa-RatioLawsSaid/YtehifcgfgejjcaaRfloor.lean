import Derived.Test.YtehifcgfgejjcaaRops
namespace Go.Proofs.Ytehifcgfgejjcaa
open Go.RowKit
theorem fl_pos {n d : Int} (hn : 0 ≤ n) (hd : 0 < d) : 0 ≤ n / d ∧ n / d ≤ n ∧ 0 ≤ n / d * d ∧ n / d * d ≤ n := by
  have h1 := Int.ediv_nonneg hn (Int.le_of_lt hd)
  have h2 := Int.ediv_le_self d hn
  have h3 := Int.mul_nonneg h1 (Int.le_of_lt hd)
  have h4 := Int.ediv_mul_le n (b := d) (by omega)
  exact ⟨h1, h2, h3, h4⟩
theorem fl_neg {n d : Int} (hn : n < 0) (hd : 0 < d) : n ≤ n.tdiv d ∧ n.tdiv d ≤ 0 ∧ n ≤ n.tdiv d * d ∧ n.tdiv d * d ≤ 0 ∧ n.tmod d ≤ 0 ∧ -d < n.tmod d ∧
    ((n < n.tdiv d * d ∧ n.tmod d < 0 ∧ n / d = n.tdiv d - 1) ∨ (n.tdiv d * d = n ∧ n.tmod d = 0 ∧ n / d = n.tdiv d)) := by
  obtain ⟨m, rfl⟩ : ∃ m : Int, n = -m := ⟨-n, by omega⟩
  have hm : 0 ≤ m := by omega
  rw [Int.neg_tdiv, Int.neg_tmod, Int.tdiv_eq_ediv_of_nonneg hm, Int.tmod_eq_emod_of_nonneg hm]
  obtain ⟨p1, p2, p3, p4⟩ := fl_pos hm hd
  have e := Int.mul_ediv_add_emod m d
  have r1 := Int.emod_nonneg m (b := d) (by omega)
  have r2 := Int.emod_lt_of_pos m hd
  rw [Int.mul_comm] at e
  rw [Int.neg_mul]
  refine ⟨by omega, by omega, by omega, by omega, by omega, by omega, ?_⟩
  by_cases h0 : m % d = 0
  · refine .inr ⟨by omega, by omega, ?_⟩
    rw [Int.ediv_eq_iff_of_pos hd]
    · rw [Int.neg_mul]; omega
  · refine .inl ⟨by omega, by omega, ?_⟩
    rw [Int.ediv_eq_iff_of_pos hd]
    · have : (-(m / d) - 1) * d = -(m / d * d) - d := by rw [Int.sub_mul, Int.neg_mul, Int.one_mul]
      have h2 : (-(m / d) - 1 + 1) * d = -(m / d * d) := by rw [show -(m / d) - 1 + 1 = -(m / d) by omega, Int.neg_mul]
      rw [this]
      omega
end Go.Proofs.Ytehifcgfgejjcaa
