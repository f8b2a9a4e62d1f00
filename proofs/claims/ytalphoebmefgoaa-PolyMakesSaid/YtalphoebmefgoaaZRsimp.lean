import Derived.Test.YtalphoebmefgoaaG37
namespace Go.Proofs.Ytalphoebmefgoaa
open Go.RowKit
/-- what is computed is the simplest number between n / d and m / e -/
structure Simp (n d m e : Int) (r : Int × Int) : Prop where
  p1 : 1 ≤ r.1
  p2 : r.1 ≤ n + m
  q1 : 1 ≤ r.2
  q2 : r.2 ≤ d + e
  lo : n * r.2 < r.1 * d
  hi : e = 0 ∨ r.1 * e < m * r.2
  least : ∀ s t, 1 ≤ t → n * t < s * d → (e = 0 ∨ s * e < m * t) → r.1 ≤ s ∧ r.2 ≤ t
theorem fl_bd2 (n : Int) {d : Int} (hd : 0 < d) (h1 : -2147483647 ≤ n) (h2 : n ≤ 2147483647) : -2147483647 ≤ n / d ∧ n / d ≤ 2147483647 := by
  constructor
  · apply Int.le_ediv_of_mul_le hd
    have := Int.mul_le_mul_of_nonneg_left (show (1 : Int) ≤ d by omega) (show (0 : Int) ≤ 2147483647 by omega)
    omega
  · by_cases h : 0 ≤ n
    · have := Int.ediv_le_self d h; omega
    · have := Int.ediv_neg_of_neg_of_pos (a := n) (b := d) (by omega) hd; omega
theorem cstep_ex {k p q : Int} (h1 : -2147483647 ≤ k) (h2 : k ≤ 2147483647) (h3 : 0 ≤ p) (h4 : p ≤ 4294967294) (h5 : 0 ≤ q) (h6 : q ≤ 4294967294) : cstep k (p, q) = (k * p + q, p) := by
  have := mulb (a := k) (b := p) (A := 2147483647) (B := 4294967294) (by omega) (by omega) (by omega) (by omega)
  unfold cstep
  simp only
  rw [wrap_small (k * p) (by omega) (by omega), wrap_small _ (by omega) (by omega)]
theorem simp_any : ∀ (f : Nat) (n d m e : Int), Cf n d m e → 0 ≤ n → 1 ≤ m → (d + e).toNat < f → Simp n d m e (cfold (cfF f n d m e))
  | 0, _, _, _, _, _, _, _, h => by omega
  | f + 1, n, d, m, e, hc, h0, hm, hf => by
    have hk := fl_bd2 n hc.d1 hc.n1 hc.n2
    obtain ⟨hk1, hk2⟩ := hc.kd
    have hk0 : 0 ≤ n / d := Int.ediv_nonneg h0 (by have := hc.d1; omega)
    have hd := hc.d1
    have he := hc.e1
    have hkn : n / d ≤ n := Int.ediv_le_self d h0
    by_cases hs : e = 0 ∨ (n / d + 1) * e < m
    · rw [cfF_stop hs, cfold_one (by omega) (by omega)]
      generalize n / d = k at *
      refine ⟨by simp; omega, by simp; omega, by simp, by simp; omega, by simp; grind, by simpa using hs, fun s t ht h1 h2 => ⟨?_, by simpa using ht⟩⟩
      have h3 : n * 1 ≤ n * t := Int.mul_le_mul_of_nonneg_left ht h0
      have h4 : k * d < s * d := by omega
      have := Int.lt_of_mul_lt_mul_right h4 (by omega)
      simp only
      omega
    · obtain ⟨hn, hlt⟩ := hc.next hs
      have ih := simp_any f _ _ _ _ hn he hd (by have := hn.d1; have := hn.e1; omega)
      rw [cfF_go hs, cfold_cons]
      have b1 := hc.n2
      have b2 := hc.d2
      have b3 := hc.m2
      have b4 := hc.e2
      have hd' := hn.d1
      have he' := hn.e1
      generalize cfold (cfF f e (m - n / d * e) d (n - n / d * d)) = r at *
      obtain ⟨p, q⟩ := r
      obtain ⟨i1, i2, i3, i4, i5, i6, i7⟩ := ih
      simp only at i1 i2 i3 i4 i5 i6 i7
      rw [cstep_ex (by omega) (by omega) (by omega) (by omega) (by omega) (by omega)]
      generalize n / d = k at *
      have hkp := Int.mul_nonneg hk0 (show 0 ≤ p by omega)
      refine ⟨?_, ?_, ?_, ?_, ?_, ?_, ?_⟩ <;> simp only
      · omega
      · have h1 : k * p ≤ k * (e + d) := Int.mul_le_mul_of_nonneg_left i2 hk0
        grind
      · omega
      · omega
      · rcases i6 with i6 | i6
        · have := Int.mul_pos (show 0 < q by omega) hd
          have e1 : n * p = k * d * p := by rw [show n = k * d by omega]
          have e2 : (k * p + q) * d = k * d * p + q * d := by grind
          omega
        · grind
      · right; grind
      · intro s t ht h1 h2
        have hne : ¬ e = 0 := fun h => hs (.inl h)
        have h3 : s * e < m * t := h2.resolve_left hne
        have h4 : 0 < (s - k * t) * d := by
          have := Int.mul_nonneg he' (show 0 ≤ t by omega)
          grind
        have h5 : 0 < s - k * t := Int.pos_of_mul_pos_left h4 hd
        obtain ⟨j1, j2⟩ := i7 t (s - k * t) (by omega) (by grind) (.inr (by grind))
        have h6 : k * p ≤ k * t := Int.mul_le_mul_of_nonneg_left j1 hk0
        exact ⟨by omega, j1⟩
/-- the same at the top, where n / d may be negative -/
theorem simp_top {f : Nat} {n d m e : Int} (hc : Cf n d m e) (hf : (d + e).toNat < f) (h0 : 0 < e) :
    ∃ p q, cfold (cfF f n d m e) = (p, q) ∧ 1 ≤ q ∧ n * q < p * d ∧ p * e < m * q ∧ ∀ s t, 1 ≤ t → n * t < s * d → s * e < m * t → q ≤ t ∧ (q = t → p ≤ s) := by
  cases f with
  | zero => omega
  | succ f =>
  have hk := fl_bd2 n hc.d1 hc.n1 hc.n2
  obtain ⟨hk1, hk2⟩ := hc.kd
  have hd := hc.d1
  by_cases hs : e = 0 ∨ (n / d + 1) * e < m
  · rw [cfF_stop hs, cfold_one (by omega) (by omega)]
    generalize n / d = k at *
    refine ⟨_, _, rfl, by omega, by grind, by rcases hs with hs | hs <;> omega, fun s t ht h1 h2 => ⟨ht, ?_⟩⟩
    rintro rfl
    have h4 : k * d < s * d := by omega
    exact Int.lt_of_mul_lt_mul_right h4 (by omega)
  · obtain ⟨hn, hlt⟩ := hc.next hs
    have ih := simp_any f _ _ _ _ hn (by omega) hd (by have := hn.d1; have := hn.e1; omega)
    rw [cfF_go hs, cfold_cons]
    have b1 := hc.n2
    have b2 := hc.d2
    have b3 := hc.m2
    have b4 := hc.e2
    have hd' := hn.d1
    have he' := hn.e1
    generalize cfold (cfF f e (m - n / d * e) d (n - n / d * d)) = r at *
    obtain ⟨p, q⟩ := r
    obtain ⟨i1, i2, i3, i4, i5, i6, i7⟩ := ih
    simp only at i1 i2 i3 i4 i5 i6 i7
    rw [cstep_ex (by omega) (by omega) (by omega) (by omega) (by omega) (by omega)]
    generalize n / d = k at *
    refine ⟨_, _, rfl, i1, ?_, by grind, ?_⟩
    · rcases i6 with i6 | i6
      · have := Int.mul_pos (show 0 < q by omega) hd
        have e1 : n * p = k * d * p := by rw [show n = k * d by omega]
        have e2 : (k * p + q) * d = k * d * p + q * d := by grind
        omega
      · grind
    · intro s t ht h1 h3
      have h4 : 0 < (s - k * t) * d := by
        have := Int.mul_nonneg he' (show 0 ≤ t by omega)
        grind
      have h5 : 0 < s - k * t := Int.pos_of_mul_pos_left h4 hd
      obtain ⟨j1, j2⟩ := i7 t (s - k * t) (by omega) (by grind) (.inr (by grind))
      refine ⟨j1, ?_⟩
      rintro rfl
      omega
end Go.Proofs.Ytalphoebmefgoaa
