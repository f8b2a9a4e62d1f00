/- ratio (plain): ratios are rational numbers. -/
import Derived.Test.YtalphoebmefgoaaG36
namespace Go.Proofs.Ytalphoebmefgoaa
open Go.RowKit
/-- a rational number as a ratio, if it fits -/
def ofQ (q : Rat) : Rt × Int := if 2147483647 < absU q.num ∨ 2147483647 < (q.den : Int) then (⟨0, 0⟩, 7) else (⟨q.num, q.den⟩, 0)
def Rt.q (a : Rt) : Rat := Rat.divInt a.num a.den
theorem gcd_abs (n d : Int) : gcdU (absU n) (absU d) = ((d.gcd n : Nat) : Int) := by
  unfold gcdU absU
  rw [Int.toNat_natCast, Int.toNat_natCast, Nat.gcd_comm]; rfl
theorem tdiv_abs (n : Int) (g : Nat) (h : (g : Int) ∣ n) : (if n < 0 then -(absU n / g) else absU n / g) = n / g := by
  obtain ⟨k, rfl⟩ := h
  unfold absU
  by_cases hg : g = 0
  · subst hg; simp
  have hg2 : (g : Int) ≠ 0 := by omega
  have hgp : (0 : Int) < g := by omega
  have e : (((g : Int) * k).natAbs : Int) = g * (k.natAbs : Nat) := by rw [Int.natAbs_mul]; simp
  rw [e, Int.mul_ediv_cancel_left _ hg2, Int.mul_ediv_cancel_left _ hg2]
  have hk : ((g : Int) * k < 0) ↔ k < 0 := by
    constructor
    · intro h
      rcases Int.lt_or_le k 0 with h1 | h1
      · exact h1
      · have := Int.mul_nonneg (Int.le_of_lt hgp) h1; omega
    · intro h; exact Int.mul_neg_of_pos_of_neg hgp h
  by_cases h1 : k < 0
  · rw [if_pos (hk.mpr h1)]; omega
  · rw [if_neg (fun h => h1 (hk.mp h))]; omega
theorem rmake_q (n d : Int) (h : d ≠ 0) : rmake n d = ofQ (Rat.divInt n d) := by
  unfold rmake ofQ
  rw [if_neg h, gcd_abs]
  have hg : (0 : Int) < (d.gcd n : Nat) := by have := Int.gcd_pos_of_ne_zero_left n h; omega
  have hdn : ((d.gcd n : Nat) : Int) ∣ n := Int.gcd_dvd_right ..
  have hdd : ((d.gcd n : Nat) : Int) ∣ d := Int.gcd_dvd_left ..
  have e1 : ((Rat.divInt n d).den : Int) = absU d / (d.gcd n : Nat) := by
    rw [Rat.den_divInt, if_neg h]; unfold absU; simp
  have e2 : (Rat.divInt n d).num = if (n < 0) ≠ (d < 0) then -(absU n / (d.gcd n : Nat)) else absU n / (d.gcd n : Nat) := by
    rw [Rat.num_divInt]
    have hs := tdiv_abs n (d.gcd n) hdn
    have hq : d.sign * n / ((d.gcd n : Nat) : Int) = d.sign * (n / (d.gcd n : Nat)) := Int.mul_ediv_assoc _ hdn
    rw [hq]
    rcases Int.lt_trichotomy d 0 with h1 | h1 | h1
    · rw [Int.sign_eq_neg_one_of_neg h1, ← hs]
      by_cases h2 : n < 0 <;> simp [h1, h2]
    · exact absurd h1 h
    · rw [Int.sign_eq_one_of_pos h1, ← hs]
      have h3 : ¬ d < 0 := by omega
      by_cases h2 : n < 0 <;> simp [h3, h2]
  have e3 : absU (Rat.divInt n d).num = absU n / (d.gcd n : Nat) := by
    rw [e2]
    have : 0 ≤ absU n / (d.gcd n : Nat) := Int.ediv_nonneg (by unfold absU; omega) (by omega)
    generalize absU n / (d.gcd n : Nat) = t at *
    unfold absU
    split <;> omega
  rw [e3, ← e2, e1]
theorem val_q {a : Rt} (h : rval a = true) : a.q.num = a.num ∧ (a.q.den : Int) = a.den ∧ 0 < a.den ∧ ofQ a.q = (a, 0) := by
  unfold rval at h
  simp only [Bool.and_eq_true, decide_eq_true_eq] at h
  obtain ⟨⟨⟨h1, h2⟩, h3⟩, h4⟩ := h
  have h5 : a.den ≠ 0 := by omega
  have h6 : absU a.den = a.den := by unfold absU; omega
  have hg : a.den.gcd a.num = 1 := by rw [← h6, gcd_abs] at h4; omega
  have e1 : a.q.num = a.num := by unfold Rt.q; rw [Rat.num_divInt, hg, Int.sign_eq_one_of_pos h1]; simp
  have e2 : (a.q.den : Int) = a.den := by unfold Rt.q; rw [Rat.den_divInt, hg, if_neg h5]; simp; omega
  refine ⟨e1, e2, h1, ?_⟩
  unfold ofQ
  rw [e1, e2, if_neg (by omega)]
theorem q_inj {a b : Rt} (ha : rval a = true) (hb : rval b = true) (h : a.q = b.q) : a = b := by
  have h1 := (val_q ha).2.2.2
  have h2 := (val_q hb).2.2.2
  rw [h, h2] at h1
  exact (congrArg Prod.fst h1).symm
theorem ofQ_ok {q : Rat} {a : Rt} (h : ofQ q = (a, 0)) : rval a = true ∧ a.q = q := by
  unfold ofQ at h
  split at h
  · cases h
  · rename_i hb
    obtain rfl : (⟨q.num, q.den⟩ : Rt) = a := congrArg Prod.fst h
    have hd := q.den_pos
    have hr : Nat.gcd q.num.natAbs q.den = 1 := q.reduced
    constructor
    · unfold rval
      simp only [Bool.and_eq_true, decide_eq_true_eq]
      refine ⟨⟨⟨by omega, by omega⟩, by omega⟩, ?_⟩
      unfold gcdU absU
      rw [Int.toNat_natCast, Int.toNat_natCast, hr]; rfl
    · unfold Rt.q; exact Rat.num_divInt_den q
theorem ofQ_cases (q : Rat) : (∃ a, ofQ q = (a, 0) ∧ rval a = true ∧ a.q = q) ∨ ofQ q = (⟨0, 0⟩, 7) := by
  by_cases hb : 2147483647 < absU q.num ∨ 2147483647 < (q.den : Int)
  · right; unfold ofQ; rw [if_pos hb]
  · left
    have : ofQ q = (⟨q.num, q.den⟩, 0) := by unfold ofQ; rw [if_neg hb]
    exact ⟨_, this, ofQ_ok this⟩
section
variable {a b : Rt} (ha : rval a = true) (hb : rval b = true)
include ha hb
theorem radd_q : radd a b = ofQ (a.q + b.q) := by
  have h1 := (val_q ha).2.2.1
  have h2 := (val_q hb).2.2.1
  unfold radd Rt.q
  rw [ha, hb, Rat.divInt_add_divInt _ _ (by omega) (by omega), ← rmake_q]
  · rfl
  · exact Int.mul_ne_zero (by omega) (by omega)
theorem rsub_q : rsub a b = ofQ (a.q - b.q) := by
  have h1 := (val_q ha).2.2.1
  have h2 := (val_q hb).2.2.1
  unfold rsub Rt.q
  rw [ha, hb, Rat.divInt_sub_divInt _ _ (by omega) (by omega), ← rmake_q]
  · rfl
  · exact Int.mul_ne_zero (by omega) (by omega)
theorem rmul_q : rmul a b = ofQ (a.q * b.q) := by
  have h1 := (val_q ha).2.2.1
  have h2 := (val_q hb).2.2.1
  unfold rmul Rt.q
  rw [ha, hb, Rat.divInt_mul_divInt, ← rmake_q]
  · rfl
  · exact Int.mul_ne_zero (by omega) (by omega)
theorem rquo_q (h0 : b.num ≠ 0) : rquo a b = ofQ (a.q / b.q) := by
  have h1 := (val_q ha).2.2.1
  have h2 := (val_q hb).2.2.1
  unfold rquo Rt.q
  rw [ha, hb, Rat.div_def, Rat.inv_divInt, Rat.divInt_mul_divInt, ← rmake_q]
  · rfl
  · exact Int.mul_ne_zero (by omega) h0
theorem q_lt : a.q < b.q ↔ a.num * b.den < b.num * a.den := by
  obtain ⟨h1, h2, _⟩ := val_q ha
  obtain ⟨h3, h4, _⟩ := val_q hb
  rw [Rat.lt_iff, h1, h2, h3, h4]
theorem rcmp_q : rcmp a b = (if a.q < b.q then -1 else if b.q < a.q then 1 else 0, 0) := by
  have h1 := q_lt ha hb
  have h2 := q_lt hb ha
  unfold rcmp
  rw [ha, hb]
  simp only [h1, h2, Bool.and_self, if_true]
end
end Go.Proofs.Ytalphoebmefgoaa
