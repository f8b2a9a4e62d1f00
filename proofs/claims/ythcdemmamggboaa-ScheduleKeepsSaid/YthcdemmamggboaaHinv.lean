import Derived.Test.YthcdemmamggboaaHrank
/- schedule: what holds of every state of the run. -/
namespace Go.Proofs.Ythcdemmamggboaa
open Go.RowKit
theorem Inv0 (l : List Tsk) : Inv l (-1) ⟨[], [], []⟩ := ⟨fun j h => by simp at h, by simp, by simp, by simp, fun d h => by simp at h⟩
theorem JobOk.mono {l : List Tsk} {t u : Int} {n m : Nat} {j : Job} (h : JobOk l t n j) (ht : t ≤ u) (hn : n ≤ m) : JobOk l u m j :=
  ⟨h.tk, h.n0, by have := h.n1; omega, h.r0, by have := h.r1; omega, h.d0, h.d1, by have := h.ps; omega⟩
theorem num_bd {l : List Tsk} (h0 : rchk l = 0) {i : Nat} (hi : i < l.length) {t : Int} (h : (tskAt l i).off ≤ t) : 0 ≤ numJ t (tskAt l i) ∧ numJ t (tskAt l i) ≤ t := by
  have hp := (tok_at h0 hi).p1
  obtain ⟨_, _, _, _, _, o1, _⟩ := tskBad_false.1 ((rchk_ok h0).2 i hi).1
  unfold numJ
  have := Int.ediv_le_self (a := t - (tskAt l i).off) (tskAt l i).per (by omega)
  exact ⟨Int.ediv_nonneg (by omega) (by omega), by omega⟩
theorem due_off {t : Int} {x : Tsk} (h : dueJ t x = true) : x.off ≤ t ∧ (t - x.off) % x.per = 0 := by simpa [dueJ] using h
/-- the releases of a tick -/
theorem rel_inv {l : List Tsk} (h0 : rchk l = 0) {t : Int} (ht : 0 ≤ t) : ∀ (xs : List Tsk) (i : Nat) (s : St), xs = l.drop i → i ≤ l.length →
    (∀ j ∈ s.ready, JobOk l t s.jobs.length j) → s.ready.length ≤ s.jobs.length → (s.jobs.length : Int) ≤ l.length * t + i → (∀ d ∈ s.jobs, d.tk < l.length ∧ 0 ≤ d.rel ∧ d.rel ≤ t) →
    (∀ j ∈ (relJ t i xs s).ready, JobOk l t (relJ t i xs s).jobs.length j) ∧ (relJ t i xs s).ready.length ≤ (relJ t i xs s).jobs.length ∧ ((relJ t i xs s).jobs.length : Int) ≤ l.length * (t + 1) ∧
      (∀ d ∈ (relJ t i xs s).jobs, d.tk < l.length ∧ 0 ≤ d.rel ∧ d.rel ≤ t) ∧ (relJ t i xs s).stints = s.stints
  | [], i, s, hx, hi, h1, h2, h3, h4 => by
    have : i = l.length := by
      have := congrArg List.length hx
      simp at this; omega
    subst this
    exact ⟨h1, h2, by simp only [relJ]; rw [Int.mul_add]; omega, h4, rfl⟩
  | x :: xs, i, s, hx, hi, h1, h2, h3, h4 => by
    have hlt : i < l.length := by
      rcases Nat.lt_or_ge i l.length with h | h
      · exact h
      · rw [List.drop_eq_nil_of_le h] at hx; cases hx
    rw [tsks_drop hlt] at hx
    injection hx with e1 e2
    subst e1
    simp only [relJ]
    cases hd : dueJ t (tskAt l i)
    · simp only [Bool.false_eq_true, if_false]
      exact rel_inv h0 ht xs (i + 1) s e2 (by omega) h1 h2 (by omega) h4
    · simp only [if_true]
      obtain ⟨ho, _⟩ := due_off hd
      obtain ⟨n0, n1⟩ := num_bd h0 hlt ho
      have hc := (tok_at h0 hlt).c1
      have := rel_inv h0 ht xs (i + 1) { s with ready := s.ready ++ [⟨i, numJ t (tskAt l i), t, 0, s.jobs.length⟩], jobs := s.jobs ++ [⟨i, numJ t (tskAt l i), t, -1, false⟩] } e2 (by omega)
        (fun j hj => by
          rcases List.mem_append.mp hj with hj | hj
          · exact (h1 j hj).mono (Int.le_refl _) (by simp)
          · simp at hj; subst hj; exact ⟨hlt, n0, n1, ht, Int.le_refl _, Int.le_refl _, by dsimp only; omega, by simp⟩)
        (by simp; omega) (by simp; omega) (fun d hd => by
          rcases List.mem_append.mp hd with hd | hd
          · exact h4 d hd
          · simp at hd; subst hd; exact ⟨hlt, ht, Int.le_refl _⟩)
      exact this
theorem stintsM_len (t : Int) (j : Job) (ss : List Stn) : (stintsM t j ss).length ≤ ss.length + 1 := by unfold stintsM; split <;> simp
/-- the execution of a tick -/
theorem exe_inv {l : List Tsk} {pol t : Int} {s : St} (h : Inv l t s) (hs : (s.stints.length : Int) ≤ t) : Inv l t (exeM l pol t s) := by
  unfold exeM
  split
  · exact h
  · next hn =>
    generalize bestM l pol s.ready = b
    have hl := stintsM_len t (jbAt s.ready b) s.stints
    unfold runOne
    dsimp only
    split
    · refine ⟨fun j hj => ?_, ?_, by simpa using h.jl, by dsimp only; omega, fun d hd => ?_⟩
      · have := h.rd j (List.mem_of_mem_eraseIdx hj)
        simpa using this
      · have := h.rl; simp only [List.length_set]; rw [List.length_eraseIdx]; split <;> omega
      · rcases List.mem_or_eq_of_mem_set hd with hd | hd
        · exact h.dt d hd
        · by_cases hp : (jbAt s.ready b).pos < s.jobs.length
          · have := h.dt (dnAt s.jobs (jbAt s.ready b).pos) (by simp [dnAt, List.getD, hp])
            subst hd; exact this
          · rw [List.set_eq_of_length_le (by omega)] at *
            exact h.dt d (by assumption)
    · next hc =>
      refine ⟨fun j hj => ?_, by have := h.rl; simpa using this, h.jl, by dsimp only; omega, h.dt⟩
      by_cases hb : b < s.ready.length
      · rcases List.mem_or_eq_of_mem_set hj with hj | hj
        · exact h.rd j hj
        · have hm := h.rd (jbAt s.ready b) (by simp [jbAt, List.getD, hb])
          subst hj
          exact ⟨hm.tk, hm.n0, hm.n1, hm.r0, hm.r1, by have := hm.d0; dsimp only; omega, by have := hm.d1; dsimp only at *; omega, hm.ps⟩
      · rw [List.set_eq_of_length_le (by omega)] at hj
        exact h.rd j hj
theorem tick_inv {l : List Tsk} (h0 : rchk l = 0) {pol t : Int} {s : St} (ht : 0 ≤ t) (h : Inv l (t - 1) s) : Inv l t (relJ t 0 l s) ∧ ((relJ t 0 l s).stints.length : Int) ≤ t ∧ Inv l t (tickM l pol t s) := by
  have hjl := h.jl
  rw [show t - 1 + 1 = t by omega] at hjl
  obtain ⟨a1, a2, a3, a4, a5⟩ := rel_inv h0 ht l 0 s (by simp) (by omega) (fun j hj => (h.rd j hj).mono (by omega) (Nat.le_refl _)) h.rl (by simpa using hjl) (fun d hd => by have := h.dt d hd; omega)
  have hsl := h.sl
  have hI : Inv l t (relJ t 0 l s) := ⟨a1, a2, a3, by rw [a5]; omega, a4⟩
  exact ⟨hI, by rw [a5]; omega, exe_inv hI (by rw [a5]; omega)⟩
end Go.Proofs.Ythcdemmamggboaa
