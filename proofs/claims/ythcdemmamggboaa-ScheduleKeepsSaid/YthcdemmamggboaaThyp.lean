import Derived.Test.YthcdemmamggboaaTrchk
import Derived.Test.YthcdemmamggboaaTeq
namespace Go.Proofs.Ythcdemmamggboaa
open Go.RowKit
/-- after a check that says OK: every task is right -/
theorem rchk_ok_T : ∀ (l pre : List Tsk), rchkT pre l = 0 → ∀ i, i < l.length → tskBad (tskAt l i) = false ∧ rsecsOk (tskAt l i) = true
  | [], _, _, i, hi => by simp at hi
  | t :: ts, pre, h, i, hi => by
    unfold rchkT at h
    cases hb : tskBad t <;> cases hs : rsecsOk t <;> simp [hb, hs] at h
    cases i with
    | zero => exact ⟨hb, hs⟩
    | succ i =>
      cases hw : twinAny t pre <;> simp [hw] at h
      exact rchk_ok_T ts _ h i (by simpa using hi)
theorem rchk_ok {l : List Tsk} (h : rchk l = 0) : l.length ≤ 8 ∧ ∀ i, i < l.length → tskBad (tskAt l i) = false ∧ rsecsOk (tskAt l i) = true := by
  unfold rchk at h
  by_cases h8 : 8 < l.length
  · simp [h8] at h
  · refine ⟨by omega, ?_⟩
    cases hm : manySecs l <;> simp [h8, hm] at h
    by_cases h0 : l = []
    · subst h0; intro i hi; simp at hi
    · simp [h0] at h; exact rchk_ok_T l [] h
def hypT : List Tsk → Int → Int × Int
  | [], h => (h, 0)
  | t :: ts, h => if 20000 < h / (Int.gcd h t.per : Int) * t.per then (0, 7) else hypT ts (h / (Int.gcd h t.per : Int) * t.per)
def hyp (l : List Tsk) : Int × Int := if rchk l = 0 then hypT l 1 else (0, rchk l)
theorem gcd_pos_i (x y : Int) (h : 1 ≤ y) : 1 ≤ (Int.gcd x y : Int) := by
  have : 0 < Int.gcd x y := Int.gcd_pos_of_ne_zero_right x (by omega)
  omega
theorem lcm_bd (x y : Int) (hx : 1 ≤ x) (hx2 : x ≤ 20000) (hy : 1 ≤ y) (hy2 : y ≤ 1000) : 1 ≤ x / (Int.gcd x y : Int) * y ∧ x / (Int.gcd x y : Int) * y ≤ 20000000 ∧ 1 ≤ x / (Int.gcd x y : Int) ∧ x / (Int.gcd x y : Int) ≤ 20000 := by
  have hg := gcd_pos_i x y hy
  have hd : (Int.gcd x y : Int) ∣ x := Int.gcd_dvd_left ..
  obtain ⟨q, hq⟩ := hd
  generalize (Int.gcd x y : Int) = g at *
  have hq2 : x / g = q := by rw [hq]; exact Int.mul_ediv_cancel_left _ (by omega)
  rw [hq2]
  have h1 : 1 ≤ q := by
    rcases Int.lt_or_le 0 q with h | h
    · omega
    · have := Int.mul_nonpos_of_nonneg_of_nonpos (show 0 ≤ g by omega) h
      omega
  have h2 : 1 * q ≤ g * q := Int.mul_le_mul_of_nonneg_right hg (by omega)
  have h3 : 1 * 1 ≤ q * y := Int.mul_le_mul h1 hy (by omega) (by omega)
  have h4 : q * y ≤ 20000 * 1000 := Int.mul_le_mul (by omega) hy2 (by omega) (by omega)
  omega

end Go.Proofs.Ythcdemmamggboaa
