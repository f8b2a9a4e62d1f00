import Derived.Test.YtehifcgfgejjcaaRcmp
namespace Go.Proofs.Ytehifcgfgejjcaa
open Go.RowKit
/-- the whole parts of the simplest number between n / d and m / e -/
def cfF : Nat → Int → Int → Int → Int → List Int
  | 0, _, _, _, _ => []
  | f + 1, n, d, m, e => if e = 0 ∨ (n / d + 1) * e < m then [n / d + 1] else n / d :: cfF f e (m - n / d * e) d (n - n / d * d)
def cstep (k : Int) (p : Int × Int) : Int × Int := (wrap64 (wrap64 (k * p.1) + p.2), p.1)
def cfold (l : List Int) : Int × Int := l.foldr cstep (1, 0)
def rmid (a b : Rt) : Rt × Int := if (rcmp a b).2 = 0 ∧ (rcmp a b).1 < 0 then rmake (cfold (cfF 4294967297 a.num a.den b.num b.den)).1 (cfold (cfF 4294967297 a.num a.den b.num b.den)).2 else (⟨0, 0⟩, 2)
/-- what holds of the four numbers on the way -/
structure Cf (n d m e : Int) : Prop where
  n1 : -2147483647 ≤ n
  n2 : n ≤ 2147483647
  d1 : 0 < d
  d2 : d ≤ 2147483647
  m1 : -2147483647 ≤ m
  m2 : m ≤ 2147483647
  e1 : 0 ≤ e
  e2 : e ≤ 2147483647
  lt : e = 0 ∨ n * e < m * d
theorem Cf.k {n d m e : Int} (h : Cf n d m e) : -2147483648 ≤ n / d ∧ n / d ≤ 2147483648 := fl_bd n h.d1 h.n1 h.n2
theorem Cf.kd {n d m e : Int} (h : Cf n d m e) : n / d * d ≤ n ∧ n < n / d * d + d := by
  have h1 := Int.ediv_mul_le n (b := d) (by have := h.d1; omega)
  have h2 := Int.lt_ediv_add_one_mul_self n h.d1
  rw [Int.add_mul, Int.one_mul] at h2
  exact ⟨h1, h2⟩
theorem Cf.ke {n d m e : Int} (h : Cf n d m e) : -4611686018427387904 ≤ n / d * e ∧ n / d * e ≤ 4611686018427387904 := by
  have hk := h.k
  have := mulb (a := n / d) (b := e) (A := 2147483648) (B := 2147483648) (by omega) (by omega) (by have := h.e1; omega) (by have := h.e2; omega)
  omega
theorem Cf.ke1 {n d m e : Int} (h : Cf n d m e) : (n / d + 1) * e = n / d * e + e := by rw [Int.add_mul, Int.one_mul]
theorem Cf.next {n d m e : Int} (h : Cf n d m e) (hs : ¬ (e = 0 ∨ (n / d + 1) * e < m)) : Cf e (m - n / d * e) d (n - n / d * d) ∧ (m - n / d * e) + (n - n / d * d) < d + e := by
  have hkd := h.kd
  rw [h.ke1] at hs
  have he : 0 < e := by have := h.e1; omega
  have hlt : n * e < m * d := by rcases h.lt with h0 | h0; · omega
                                 · exact h0
  have h1 : n / d * d * e ≤ n * e := Int.mul_le_mul_of_nonneg_right hkd.1 (by omega)
  have h2 : n / d * e < m := by
    refine Int.lt_of_mul_lt_mul_right (a := d) ?_ (by have := h.d1; omega)
    rw [Int.mul_assoc, Int.mul_comm e d, ← Int.mul_assoc]
    omega
  have a1 := h.d1
  have a2 := h.d2
  have a3 := h.e2
  refine ⟨⟨by omega, by omega, by omega, by omega, by omega, by omega, by omega, by omega, .inr ?_⟩, by omega⟩
  rw [Int.mul_sub, Int.mul_sub]
  have e1 : e * (n / d * d) = d * (n / d * e) := by rw [Int.mul_comm e, Int.mul_assoc, Int.mul_comm d e, ← Int.mul_assoc, Int.mul_comm]
  have e2 : e * n = n * e := Int.mul_comm _ _
  have e3 : d * m = m * d := Int.mul_comm _ _
  omega
theorem cfF_stop {f : Nat} {n d m e : Int} (h : e = 0 ∨ (n / d + 1) * e < m) : cfF (f + 1) n d m e = [n / d + 1] := by simp only [cfF, if_pos h]
theorem cfF_go {f : Nat} {n d m e : Int} (h : ¬ (e = 0 ∨ (n / d + 1) * e < m)) : cfF (f + 1) n d m e = n / d :: cfF f e (m - n / d * e) d (n - n / d * d) := by simp only [cfF, if_neg h]
/-- the fuel does not matter -/
theorem cfF_fuel : ∀ (f g : Nat) (n d m e : Int), Cf n d m e → (d + e).toNat < f → (d + e).toNat < g → cfF f n d m e = cfF g n d m e
  | 0, _, _, _, _, _, _, h, _ => by omega
  | _ + 1, 0, _, _, _, _, _, _, h => by omega
  | f + 1, g + 1, n, d, m, e, hc, h1, h2 => by
    by_cases hs : e = 0 ∨ (n / d + 1) * e < m
    · rw [cfF_stop hs, cfF_stop hs]
    · obtain ⟨hn, hlt⟩ := hc.next hs
      have hd := hn.d1
      have he := hn.e1
      rw [cfF_go hs, cfF_go hs, cfF_fuel f g _ _ _ _ hn (by omega) (by omega)]
theorem wrap_i64 (a : Int) : i64 (wrap64 a) := by unfold i64 wrap64; omega
theorem cfold_cons (k : Int) (l : List Int) : cfold (k :: l) = cstep k (cfold l) := rfl
theorem cfold_one {k : Int} (h1 : -2147483648 ≤ k) (h2 : k ≤ 2147483649) : cfold [k] = (k, 1) := by
  show (wrap64 (wrap64 (k * 1) + 0), 1) = (k, 1)
  rw [Int.mul_one, Int.add_zero, wrap_small k (by omega) (by omega), wrap_small k (by omega) (by omega)]
theorem cfold_i64 : ∀ l, i64 (cfold l).1 ∧ i64 (cfold l).2
  | [] => by unfold cfold i64; simp
  | k :: l => by
    rw [cfold_cons]
    exact ⟨wrap_i64 _, (cfold_i64 l).1⟩
end Go.Proofs.Ytehifcgfgejjcaa
