/- TopMachines: the greatest responses of an executive (plain). -/
import Derived.Test.YtbilfpoghohddaaZMkp
namespace Go.Proofs.Ytbilfpoghohddaa
open Go.RowKit
def wrS (w : List Int) (y : Don) : List Int := w.set y.tk (max (w.getD y.tk 0) y.resp)
def worstL (w : List Int) (ds : List Don) : List Int := ds.foldl wrS w
theorem worst_len (ds : List Don) : ∀ w : List Int, (worstL w ds).length = w.length := by
  induction ds with
  | nil => intro w; rfl
  | cons y ds ih => intro w; unfold worstL; rw [List.foldl_cons]; have := ih (wrS w y); unfold worstL at this; rw [this]; simp [wrS]
/-- what a list of responses leaves -/
theorem worst_at {i : Nat} : ∀ (ds : List Don) (w : List Int), i < w.length → (∀ y ∈ ds, y.tk < w.length) → w.getD i 0 ≤ (worstL w ds).getD i 0 ∧ ((worstL w ds).getD i 0 = w.getD i 0 ∨ ∃ y ∈ ds, y.tk = i ∧ (worstL w ds).getD i 0 = y.resp) ∧ ∀ y ∈ ds, y.tk = i → y.resp ≤ (worstL w ds).getD i 0
  | [], w, hi, _ => ⟨Int.le_refl _, .inl rfl, fun y h => by cases h⟩
  | y :: ds, w, hi, hd => by
    have hy := hd y (by simp)
    have hw : (wrS w y).length = w.length := by simp [wrS]
    have hat : (wrS w y).getD i 0 = if i = y.tk then max (w.getD y.tk 0) y.resp else w.getD i 0 := getD_set hy
    obtain ⟨a, b, c⟩ := worst_at (i := i) ds (wrS w y) (by omega) (fun z hz => by rw [hw]; exact hd z (by simp [hz]))
    have e : worstL w (y :: ds) = worstL (wrS w y) ds := rfl
    rw [e]
    by_cases h : i = y.tk
    · rw [if_pos h, ← h] at hat
      refine ⟨by omega, ?_, fun z hz hzi => ?_⟩
      · rcases b with b | ⟨z, hz, b⟩
        · rcases Int.le_total (w.getD i 0) y.resp with h1 | h1
          · exact .inr ⟨y, by simp, h.symm, by omega⟩
          · exact .inl (by omega)
        · exact .inr ⟨z, by simp [hz], b⟩
      · rcases List.mem_cons.mp hz with rfl | hz
        · omega
        · exact c z hz hzi
    · rw [if_neg h] at hat
      refine ⟨by omega, ?_, fun z hz hzi => ?_⟩
      · rcases b with b | ⟨z, hz, b⟩
        · exact .inl (by omega)
        · exact .inr ⟨z, by simp [hz], b⟩
      · rcases List.mem_cons.mp hz with rfl | hz
        · exact absurd hzi.symm h
        · exact c z hz hzi
structure FullW (l : List Tsk) (xs : List Int) (t : Nat) (w : List Int) : Prop where
  ln : w.length = l.length
  nn : ∀ i, i < l.length → 0 ≤ w.getD i 0
  is : ∀ i, i < l.length → w.getD i 0 = 0 ∨ ∃ c x : Nat, c * perN l i + x ≤ t ∧ w.getD i 0 = x ∧ FinAt l xs i c x
  ge : ∀ i, i < l.length → ∀ c x : Nat, FinAt l xs i c x → c * perN l i + x ≤ t → (x : Int) ≤ w.getD i 0
structure LessW (l : List Tsk) (xs : List Int) (t : Nat) (w : List Int) : Prop where
  ln : w.length = l.length
  nn : ∀ i, i < l.length → 0 ≤ w.getD i 0
  le : ∀ i, i < l.length → w.getD i 0 = 0 ∨ ∃ c : Nat, c * perN l i < t ∧ ∀ x, FinAt l xs i c x → w.getD i 0 ≤ x
section
variable {l : List Tsk} {xs : List Int} {t : Nat} {w : List Int}
theorem rep0_at (n i : Nat) : (List.replicate n (0 : Int)).getD i 0 = 0 := by
  simp only [List.getD, List.getElem?_replicate]
  split <;> rfl
theorem fullW_0 (S : Srv l xs) : FullW l xs 0 (List.replicate l.length 0) :=
  ⟨by simp, fun i _ => by rw [rep0_at]; exact Int.le_refl _, fun i _ => .inl (rep0_at _ _), fun i _ c x h hx => by have := h.x1; omega⟩
theorem lessW_0 : LessW l xs 0 (List.replicate l.length 0) :=
  ⟨by simp, fun i _ => by rw [rep0_at]; exact Int.le_refl _, fun i _ => .inl (rep0_at _ _)⟩
theorem FullW.step (S : Srv l xs) (h : FullW l xs t w) {st : ExS} (hnow : st.now = t) (P : PreT l xs True t st.js) {ns : List Int} (hn : ns = (relL t 0 l).map (fun i => (tskAt l i).cost)) : FullW l xs (t + 1) (worstL w (tickX l xs st ns).done) := by
  obtain ⟨h1, h2⟩ := full_tick S hnow P hn
  have hlt : ∀ y ∈ (tickX l xs st ns).done, y.tk < w.length := fun y hy => by obtain ⟨x, a, _⟩ := h1 y hy; rw [h.ln]; exact a
  refine ⟨by rw [worst_len]; exact h.ln, fun i hi => ?_, fun i hi => ?_, fun i hi c x hf hx => ?_⟩ <;> obtain ⟨a, b, d⟩ := worst_at (i := i) (tickX l xs st ns).done w (by rw [h.ln]; exact hi) hlt
  · have := h.nn i hi; omega
  · rcases b with b | ⟨y, hy, rfl, b⟩
    · rcases h.is i hi with h3 | ⟨c, x, h3, h4, h5⟩
      · exact .inl (by omega)
      · exact .inr ⟨c, x, by omega, by omega, h5⟩
    · obtain ⟨x, _, h4, h5, h6⟩ := h1 y hy
      exact .inr ⟨_, x, by rw [h6]; exact Nat.le_refl _, by rw [b, h4], h5⟩
  · rcases Nat.lt_or_ge t (c * perN l i + x) with h3 | h3
    · have hx1 := hf.x1
      have hxp := hf.xp
      have hc : t / perN l i = c := by
        have e : t = c * perN l i + (x - 1) := by omega
        rw [e, Nat.mul_comm, Nat.mul_add_div (by omega), Nat.div_eq_of_lt (by omega)]; rfl
      obtain ⟨y, hy, h4, h5⟩ := h2 i x hi (by rw [hc]; exact hf) (by unfold bg; rw [hc]; omega)
      have := d y hy h4
      omega
    · have := h.ge i hi c x hf h3; omega
theorem LessW.step (S : Srv l xs) (h : LessW l xs t w) {st : ExS} (hnow : st.now = t) (P : PreT l xs False t st.js) {ns : List Int} (hn : needOk l (relL t 0 l) ns = true) (hc : ns.length = (relL t 0 l).length) : LessW l xs (t + 1) (worstL w (tickX l xs st ns).done) := by
  have h1 := less_tick S hnow P hn hc
  have hlt : ∀ y ∈ (tickX l xs st ns).done, y.tk < w.length := fun y hy => by rw [h.ln]; exact (h1 y hy).1
  refine ⟨by rw [worst_len]; exact h.ln, fun i hi => ?_, fun i hi => ?_⟩ <;> obtain ⟨a, b, d⟩ := worst_at (i := i) (tickX l xs st ns).done w (by rw [h.ln]; exact hi) hlt
  · have := h.nn i hi; omega
  · rcases b with b | ⟨y, hy, rfl, b⟩
    · rcases h.le i hi with h3 | ⟨c, h3, h4⟩
      · exact .inl (by omega)
      · exact .inr ⟨c, by omega, fun x hx => by rw [b]; exact h4 x hx⟩
    · refine .inr ⟨t / perN l y.tk, ?_, fun x hx => by rw [b]; exact (h1 y hy).2 x hx⟩
      have := Nat.div_mul_le_self t (perN l y.tk)
      omega
/-- jobs that need less are not done later -/
theorem less_full (S : Srv l xs) {n : Nat} {v : List Int} (hf : FullW l xs (n * xs.length) w) (hl : LessW l xs (n * xs.length) v) {i : Nat} (hi : i < l.length) : v.getD i 0 ≤ w.getD i 0 := by
  rcases hl.le i hi with h | ⟨c, h1, h2⟩
  · rw [h]; exact hf.nn i hi
  · obtain ⟨x, hx⟩ := fin_ex S hi c
    obtain ⟨_, hp, m, hm⟩ := S.per i hi
    have hle : c * perN l i + perN l i ≤ n * xs.length := by
      rw [hm, Nat.mul_left_comm, Nat.mul_comm] at h1 ⊢
      have h3 : c < n * m := Nat.lt_of_mul_lt_mul_left h1
      have h4 := Nat.mul_le_mul_left (perN l i) (show c + 1 ≤ n * m from h3)
      rw [Nat.mul_add, Nat.mul_one] at h4
      exact h4
    have a := h2 x hx
    have b := hf.ge i hi c x hx (by have := hx.xp; omega)
    omega
end
end Go.Proofs.Ytbilfpoghohddaa
