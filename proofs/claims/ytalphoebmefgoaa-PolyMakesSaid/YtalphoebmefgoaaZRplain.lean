import Derived.Test.YtalphoebmefgoaaZRratq
import Derived.Test.YtalphoebmefgoaaZRsimp
namespace Go.Proofs.Ytalphoebmefgoaa
open Go.RowKit
section
variable {x y z : Rt} (hx : rval x = true) (hy : rval y = true) (hz : rval z = true)
include hx hy
theorem laws_add : (∃ a, radd x y = (a, 0) ∧ radd y x = (a, 0) ∧ rsub a y = (x, 0)) ∨ (radd x y = (⟨0, 0⟩, 7) ∧ radd y x = (⟨0, 0⟩, 7)) := by
  rw [radd_q hx hy, radd_q hy hx, Rat.add_comm y.q x.q]
  rcases ofQ_cases (x.q + y.q) with ⟨a, h1, h2, h3⟩ | h1
  · left
    refine ⟨a, h1, h1, ?_⟩
    rw [rsub_q h2 hy, h3, show x.q + y.q - y.q = x.q by grind]
    exact (val_q hx).2.2.2
  · exact .inr ⟨h1, h1⟩
theorem laws_mul : (∃ c, rmul x y = (c, 0) ∧ rmul y x = (c, 0) ∧ (y.num ≠ 0 → rquo c y = (x, 0))) ∨ (rmul x y = (⟨0, 0⟩, 7) ∧ rmul y x = (⟨0, 0⟩, 7)) := by
  rw [rmul_q hx hy, rmul_q hy hx, Rat.mul_comm y.q x.q]
  rcases ofQ_cases (x.q * y.q) with ⟨a, h1, h2, h3⟩ | h1
  · left
    refine ⟨a, h1, h1, fun h0 => ?_⟩
    have h4 : y.q ≠ 0 := by
      intro h
      have := (val_q hy).1
      rw [h] at this
      exact h0 this.symm
    rw [rquo_q h2 hy h0, h3, show x.q * y.q / y.q = x.q by rw [Rat.div_def, Rat.mul_assoc, Rat.mul_inv_cancel _ h4, Rat.mul_one]]
    exact (val_q hx).2.2.2
  · exact .inr ⟨h1, h1⟩
/-- the sign of the difference -/
theorem laws_cmp : ∃ k, rcmp x y = (k, 0) ∧ (k = 0 ↔ x = y) ∧ ((∃ a, rsub x y = (a, 0) ∧ (k < 0 ↔ a.num < 0) ∧ (k = 0 ↔ a.num = 0)) ∨ rsub x y = (⟨0, 0⟩, 7)) := by
  refine ⟨_, rcmp_q hx hy, ?_, ?_⟩
  · constructor
    · intro h
      apply q_inj hx hy
      split at h
      · omega
      · split at h
        · omega
        · apply Rat.le_antisymm <;> rw [← Rat.not_lt] <;> assumption
    · rintro rfl
      rw [if_neg (fun h => Rat.lt_irrefl h), if_neg (fun h => Rat.lt_irrefl h)]
  · rw [rsub_q hx hy]
    rcases ofQ_cases (x.q - y.q) with ⟨a, h1, h2, h3⟩ | h1
    · left
      refine ⟨a, h1, ?_⟩
      have h4 := (val_q h2).1
      rw [h3] at h4
      have h5 : a.num < 0 ↔ x.q < y.q := by
        have h6 : (x.q - y.q).num < 0 ↔ x.q - y.q < 0 := by rw [Rat.lt_iff]; simp
        rw [← h4, h6]
        constructor <;> intro h <;> grind
      have h6 : a.num = 0 ↔ x.q = y.q := by
        rw [← h4, Rat.num_eq_zero]
        constructor <;> intro h <;> grind
      rw [h5, h6]
      by_cases h7 : x.q < y.q
      · have h8 : x.q ≠ y.q := fun h => by rw [h] at h7; exact Rat.lt_irrefl h7
        simp [h7, h8]
      · rw [if_neg h7]
        by_cases h9 : y.q < x.q
        · have h8 : x.q ≠ y.q := fun h => by rw [h] at h9; exact Rat.lt_irrefl h9
          simp [h7, h8, h9]
        · rw [if_neg h9]
          have h8 : x.q = y.q := by apply Rat.le_antisymm <;> rw [← Rat.not_lt] <;> assumption
          simp [h8]
    · exact .inr h1
include hz
theorem laws_assoc (h1 : (radd x y).2 = 0) (h2 : (radd y z).2 = 0) : radd (radd x y).1 z = radd x (radd y z).1 := by
  rw [radd_q hx hy] at *
  rw [radd_q hy hz] at *
  rcases ofQ_cases (x.q + y.q) with ⟨a, e1, e2, e3⟩ | e1
  · rcases ofQ_cases (y.q + z.q) with ⟨b, f1, f2, f3⟩ | f1
    · rw [e1, f1]
      show radd a z = radd x b
      rw [radd_q e2 hz, radd_q hx f2, e3, f3, Rat.add_assoc]
    · rw [f1] at h2; cases h2
  · rw [e1] at h1; cases h1
theorem laws_dist (h1 : (radd y z).2 = 0) (h2 : (rmul x (radd y z).1).2 = 0) (h3 : (rmul x y).2 = 0) (h4 : (rmul x z).2 = 0) :
    radd (rmul x y).1 (rmul x z).1 = ((rmul x (radd y z).1).1, 0) := by
  rw [radd_q hy hz] at *
  rw [rmul_q hx hy] at *
  rw [rmul_q hx hz] at *
  rcases ofQ_cases (y.q + z.q) with ⟨a, e1, e2, e3⟩ | e1
  · rw [e1] at h2 ⊢
    simp only at h2 ⊢
    rw [rmul_q hx e2, e3, Rat.mul_add] at h2 ⊢
    rcases ofQ_cases (x.q * y.q) with ⟨b, f1, f2, f3⟩ | f1
    · rcases ofQ_cases (x.q * z.q) with ⟨c, g1, g2, g3⟩ | g1
      · rw [f1, g1]
        show radd b c = _
        rw [radd_q f2 g2, f3, g3]
        rcases ofQ_cases (x.q * y.q + x.q * z.q) with ⟨d, i1, i2, i3⟩ | i1
        · rw [i1]
        · rw [i1] at h2; cases h2
      · rw [g1] at h4; cases h4
    · rw [f1] at h3; cases h3
  · rw [e1] at h1; cases h1
end
theorem rcmp_lt {a b : Rt} (h : rcmp a b = (-1, 0)) : rval a = true ∧ rval b = true ∧ a.num * b.den < b.num * a.den := by
  rcases rcmp_cases a b with ⟨h1, _⟩ | ⟨h1, h2, _, ⟨h3, _⟩ | ⟨_, h3⟩ | ⟨_, h3⟩⟩
  · rw [h] at h1; cases h1
  · exact ⟨h1, h2, h3⟩
  · rw [h] at h3; cases h3
  · rw [h] at h3; cases h3
theorem rcmp_of_lt {a b : Rt} (h1 : rval a = true) (h2 : rval b = true) (h : a.num * b.den < b.num * a.den) : rcmp a b = (-1, 0) := by
  unfold rcmp; rw [h1, h2, if_pos h]; rfl
theorem cross_lt {n d p q a b : Int} (hq : 0 < q) (hb : 0 < b) (e : a * q = p * b) (h : n * q < p * d) : n * b < a * d := by
  have h1 : n * q * b < p * d * b := Int.mul_lt_mul_of_pos_right h hb
  have h2 : n * b * q < a * d * q := by
    have e1 : n * b * q = n * q * b := by grind
    have e2 : a * d * q = p * d * b := by grind
    omega
  exact Int.lt_of_mul_lt_mul_right h2 (by omega)
theorem cross_gt {n d p q a b : Int} (hq : 0 < q) (hb : 0 < b) (e : a * q = p * b) (h : p * d < n * q) : a * d < n * b := by
  have h1 : p * d * b < n * q * b := Int.mul_lt_mul_of_pos_right h hb
  have h2 : a * d * q < n * b * q := by
    have e1 : n * b * q = n * q * b := by grind
    have e2 : a * d * q = p * d * b := by grind
    omega
  exact Int.lt_of_mul_lt_mul_right h2 (by omega)
/-- Middle lies between, and nothing that lies between is simpler -/
theorem laws_mid {x y : Rt} (h : rcmp x y = (-1, 0)) : rmid x y = (⟨0, 0⟩, 7) ∨ ∃ a, rmid x y = (a, 0) ∧ rcmp x a = (-1, 0) ∧ rcmp a y = (-1, 0) ∧
    ∀ c, rcmp x c = (-1, 0) → rcmp c y = (-1, 0) → a.den < c.den ∨ (a.den = c.den ∧ a.num ≤ c.num) := by
  obtain ⟨hx, hy, hlt⟩ := rcmp_lt h
  obtain ⟨hcf, hfu⟩ := cf_start hx hy hlt
  have h0 : 0 < y.den := (val_q hy).2.2.1
  obtain ⟨p, q, e, hq, h1, h2, h3⟩ := simp_top hcf hfu h0
  rw [rmid_ok (by rw [h]) (by rw [h]), e]
  simp only
  rw [rmake_q _ _ (by omega)]
  rcases ofQ_cases (Rat.divInt p q) with ⟨a, g1, g2, g3⟩ | g1
  · right
    have hd := (val_q g2).2.2.1
    have hc : a.num * q = p * a.den := by
      unfold Rt.q at g3
      exact (Rat.divInt_eq_divInt_iff (by omega) (by omega)).mp g3
    have hle : a.den ≤ q := by
      have e2 := (val_q g2).2.1
      rw [g3, Rat.den_divInt, if_neg (by omega)] at e2
      have e3 : ((q.natAbs / q.gcd p : Nat) : Int) ≤ (q.natAbs : Nat) := by exact_mod_cast Nat.div_le_self _ _
      omega
    refine ⟨a, g1, rcmp_of_lt hx g2 (cross_lt (by omega) hd hc h1), rcmp_of_lt g2 hy (cross_gt (by omega) hd hc h2), fun c i1 i2 => ?_⟩
    obtain ⟨_, hcv, j1⟩ := rcmp_lt i1
    obtain ⟨_, _, j2⟩ := rcmp_lt i2
    have hcd := (val_q hcv).2.2.1
    obtain ⟨k1, k2⟩ := h3 c.num c.den (by omega) j1 j2
    by_cases hl : a.den < c.den
    · exact .inl hl
    · have e3 : q = c.den := by omega
      have e4 : a.den = q := by omega
      have e5 : a.num = p := by
        rw [e4] at hc
        exact Int.eq_of_mul_eq_mul_right (by omega) hc
      exact .inr ⟨by omega, by have := k2 e3; omega⟩
  · exact .inl g1
end Go.Proofs.Ytalphoebmefgoaa
