import Derived.Test.YtppfneockckkgaaLlaw
import Derived.Test.YtppfneockckkgaaRops
namespace Go.Proofs.Ytppfneockckkgaa
open Go.RowKit
theorem lmeets_ok {x : Rt} {a : Int} (hx : rval x = true) (ha : lval a = true) (hn : a ≠ 1099511627776) :
    lmeets x a = (if lodd a then decide (x.num < a / 2 * x.den) else decide (x.num ≤ a / 2 * x.den), 0) := by unfold lmeets; simp [hx, ha, hn]
theorem lmeets_nl {x : Rt} (hx : rval x = true) : lmeets x 1099511627776 = (true, 0) := by unfold lmeets; simp [hx, lval_nl]
theorem lmeets_fine {x : Rt} {a : Int} (hx : rval x = true) (ha : lval a = true) : (lmeets x a).2 = 0 := by
  by_cases hn : a = 1099511627776
  · subst hn; rw [lmeets_nl hx]
  · rw [lmeets_ok hx ha hn]
theorem rval_neg {x : Rt} (hx : rval x = true) : rval ⟨-x.num, x.den⟩ = true := by
  unfold rval absU at *
  simpa using hx
theorem lmeets_not {x : Rt} {a : Int} (hx : rval x = true) (ha : lval a = true) (hn : a ≠ 1099511627776) : lmeets ⟨-x.num, x.den⟩ (1 - a) = (!(lmeets x a).1, 0) := by
  obtain ⟨v1, v2⟩ := lval_not ha hn
  rw [lmeets_ok hx ha hn, lmeets_ok (rval_neg hx) v1 v2]
  congr 1
  unfold lodd
  by_cases h : a % 2 = 0
  · have h1 : ¬ (1 - a) % 2 = 0 := by omega
    have h2 : (1 - a) / 2 = -(a / 2) := by omega
    simp only [h, h1, h2, Int.neg_mul, decide_true, decide_false, if_true]
    rw [Bool.eq_iff_iff]
    simp
    try omega
  · have h1 : (1 - a) % 2 = 0 := by omega
    have h2 : (1 - a) / 2 = -(a / 2) := by omega
    simp only [h, h1, h2, Int.neg_mul, decide_true, decide_false, if_true]
    rw [Bool.eq_iff_iff]
    simp
    try omega
/-- what Make makes is in lowest terms, and the same number -/
theorem rmake_ok {N D : Int} (hD : 0 < D) (h : (rmake N D).2 = 0) : rval (rmake N D).1 = true ∧ ∃ g : Int, 1 ≤ g ∧ (rmake N D).1.num * g = N ∧ (rmake N D).1.den * g = D := by
  have h0 : D ≠ 0 := by omega
  have g1 := gcdU_pos (a := absU N) h0
  unfold rmake at h ⊢
  rw [if_neg h0] at h ⊢
  by_cases hr : 2147483647 < absU N / gcdU (absU N) (absU D) ∨ 2147483647 < absU D / gcdU (absU N) (absU D)
  · rw [if_pos hr] at h; cases h
  rw [if_neg hr]
  have hd : (D < 0) = False := by simp; omega
  have eD : absU D = D := by unfold absU; omega
  -- in natural numbers
  obtain ⟨m, hm⟩ : ∃ m : Nat, absU N = m := ⟨N.natAbs, rfl⟩
  obtain ⟨k, hk⟩ : ∃ k : Nat, D = k := ⟨D.toNat, by omega⟩
  have eg : gcdU (absU N) (absU D) = (Nat.gcd m k : Nat) := by unfold gcdU; rw [eD, hm, hk]; simp
  rw [eg] at hr g1 ⊢
  rw [eD, hm, hk] at hr ⊢
  have hg : 0 < Nat.gcd m k := by omega
  obtain ⟨u, hu⟩ := Nat.gcd_dvd_left m k
  obtain ⟨v, hv⟩ := Nat.gcd_dvd_right m k
  have d1 : m / Nat.gcd m k = u := Nat.div_eq_of_eq_mul_right hg hu
  have d2 : k / Nat.gcd m k = v := Nat.div_eq_of_eq_mul_right hg hv
  have c1 : Nat.gcd u v = 1 := by have := Nat.gcd_div (Nat.gcd_dvd_left m k) (Nat.gcd_dvd_right m k); rw [d1, d2, Nat.div_self hg] at this; exact this
  have e1 : ((m : Int) / ((Nat.gcd m k : Nat) : Int)) = (u : Int) := by rw [← d1]; simp
  have e2 : ((k : Int) / ((Nat.gcd m k : Nat) : Int)) = (v : Int) := by rw [← d2]; simp
  rw [e1, e2] at hr ⊢
  have hv0 : 0 < v := by
    rcases Nat.eq_zero_or_pos v with h | h
    · rw [h] at hv; simp at hv; omega
    · exact h
  have hN : N = m ∨ N = -(m : Int) := by unfold absU at hm; omega
  have mm : (m : Int) = (u : Int) * ((Nat.gcd m k : Nat) : Int) := by
    have : ((m : Nat) : Int) = ((Nat.gcd m k * u : Nat) : Int) := by rw [← hu]
    rw [Int.natCast_mul, Int.mul_comm] at this
    exact this
  have kk : (k : Int) = (v : Int) * ((Nat.gcd m k : Nat) : Int) := by
    have : ((k : Nat) : Int) = ((Nat.gcd m k * v : Nat) : Int) := by rw [← hv]
    rw [Int.natCast_mul, Int.mul_comm] at this
    exact this
  rw [hk] at hd
  refine ⟨?_, ((Nat.gcd m k : Nat) : Int), g1, ?_, kk.symm⟩
  · unfold rval
    have ea : absU (if (N < 0) ≠ ((k : Int) < 0) then -(u : Int) else u) = u := by unfold absU; split <;> omega
    simp only [ea, Bool.and_eq_true, decide_eq_true_eq]
    refine ⟨⟨⟨by omega, by omega⟩, by omega⟩, ?_⟩
    unfold gcdU
    simp [c1]
  · by_cases hneg : N < 0
    · have : ((N < 0) ≠ ((k : Int) < 0)) := by simp [hneg]
      simp only [if_pos this]
      rw [Int.neg_mul, ← mm]
      omega
    · have : ¬ ((N < 0) ≠ ((k : Int) < 0)) := by simp [hneg]
      simp only [if_neg this]
      rw [← mm]
      omega
theorem lmeets_lt {x : Rt} {a : Int} (hx : rval x = true) (ha : lval a = true) (hn : a ≠ 1099511627776) (h : (lmeets x a).1 = true) : x.num ≤ a / 2 * x.den ∧ (lodd a = true → x.num < a / 2 * x.den) := by
  rw [lmeets_ok hx ha hn] at h
  cases ho : lodd a <;> rw [ho] at h <;> simp at h
  · exact ⟨h, fun h => by cases h⟩
  · exact ⟨by omega, fun _ => h⟩
theorem radd_ok {x y s : Rt} (hx : rval x = true) (hy : rval y = true) (h : radd x y = (s, 0)) : rval s = true ∧ ∃ g : Int, 1 ≤ g ∧ s.num * g = x.num * y.den + y.num * x.den ∧ s.den * g = x.den * y.den := by
  unfold radd at h
  rw [hx, hy] at h
  simp only [Bool.and_self, if_true] at h
  have := rmake_ok (N := x.num * y.den + y.num * x.den) (D := x.den * y.den) (Int.mul_pos (rvalB hx).1 (rvalB hy).1) (by rw [h])
  rw [h] at this
  exact this
theorem lmeets_sum {x y s : Rt} {a b c : Int} (hx : rval x = true) (hy : rval y = true) (ha : lval a = true) (hb : lval b = true) (h1 : (lmeets x a).1 = true) (h2 : (lmeets y b).1 = true)
    (hs : radd x y = (s, 0)) (hc : ladd a b = (c, 0)) : lmeets s c = (true, 0) := by
  obtain ⟨vs, g, hg, en, ed⟩ := radd_ok hx hy hs
  have vc : lval c = true := by have := ladd_val ha hb (by rw [hc]); rw [hc] at this; exact this
  rcases ladd_cases ha hb (by rw [hc]) with ⟨_, e⟩ | ⟨na, nb, b1, b2, e⟩
  · rw [hc] at e
    injection e with e _
    subst e
    exact lmeets_nl vs
  · rw [hc] at e
    injection e with e _
    have nc : c ≠ 1099511627776 := by rw [e]; exact lmk_ne _ b2
    rw [lmeets_ok vs vc nc, e, lmk_odd, lmk_div]
    obtain ⟨p1, p2⟩ := lmeets_lt hx ha na h1
    obtain ⟨q1, q2⟩ := lmeets_lt hy hb nb h2
    have dx := (rvalB hx).1
    have dy := (rvalB hy).1
    -- everything times g
    have t1 : x.num * y.den ≤ a / 2 * x.den * y.den := Int.mul_le_mul_of_nonneg_right p1 (by omega)
    have t2 : y.num * x.den ≤ b / 2 * y.den * x.den := Int.mul_le_mul_of_nonneg_right q1 (by omega)
    have e3 : (a / 2 + b / 2) * s.den * g = a / 2 * x.den * y.den + b / 2 * y.den * x.den := by
      rw [Int.mul_assoc, ed, Int.add_mul, ← Int.mul_assoc, Int.mul_comm x.den y.den, ← Int.mul_assoc]
    have le : s.num ≤ (a / 2 + b / 2) * s.den := by
      refine Int.le_of_mul_le_mul_right (a := g) ?_ (by omega)
      rw [en, e3]
      omega
    have lt : lodd a = true ∨ lodd b = true → s.num < (a / 2 + b / 2) * s.den := by
      intro ho
      refine Int.lt_of_mul_lt_mul_right (a := g) ?_ (by omega)
      rw [en, e3]
      rcases ho with ho | ho
      · have := Int.mul_lt_mul_of_pos_right (p2 ho) dy
        omega
      · have := Int.mul_lt_mul_of_pos_right (q2 ho) dx
        omega
    cases hoa : lodd a <;> cases hob : lodd b <;> simp [hoa, hob] at lt ⊢
    · exact le
    · exact lt
    · exact lt
    · exact lt
end Go.Proofs.Ytppfneockckkgaa
