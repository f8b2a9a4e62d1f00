import Derived.Test.YtcnjojhbcijdmaaPgoes
/- property: the plain law of PropertyLate. -/
namespace Go.Proofs.Ytcnjojhbcijdmaa
def inc (s : PS) : PS := ⟨s.at_ + 1, s.ev⟩
def lateL : List PS → Nat → List PS
  | l, 0 => l.map inc
  | [], _ + 1 => []
  | s :: ss, k + 1 => s :: lateL ss k
theorem lateL_len : ∀ (l : List PS) (k : Nat), (lateL l k).length = l.length
  | [], 0 => rfl
  | _ :: _, 0 => by simp [lateL]
  | [], _ + 1 => rfl
  | s :: ss, k + 1 => by simp [lateL, lateL_len ss k]
theorem lateL_at : ∀ (l : List PS) (k i : Nat), i < l.length → psAt (lateL l k) i = if k ≤ i then inc (psAt l i) else psAt l i
  | [], _, _, h => by simp at h
  | s :: ss, 0, i, h => by
    simp only [lateL, psAt, List.getD_eq_getElem?_getD, List.getElem?_map]
    rw [List.getElem?_eq_getElem h]
    simp
  | s :: ss, k + 1, 0, _ => by simp [lateL, psAt]
  | s :: ss, k + 1, i + 1, h => by
    have := lateL_at ss k i (by simpa using h)
    simp only [psAt, lateL, List.getD_cons_succ] at this ⊢
    rw [this]
    simp
theorem word_ge {evs : Int} : ∀ (l : List PS) (a : Int), wordF evs a l = true → ∀ t ∈ l, a ≤ t.at_
  | [], _, _, t, h => by simp at h
  | s :: ss, a, h, t, ht => by
    by_cases hb : stampBad evs a s = true
    · rw [wordF_t hb] at h; cases h
    · have hb0 : stampBad evs a s = false := by simpa using hb
      rw [wordF_f hb0] at h
      have h1 := (stampBad_f hb0).1
      rcases List.mem_cons.mp ht with rfl | ht
      · exact h1
      · have := word_ge ss _ h t ht; omega
theorem word_le {evs : Int} : ∀ (l : List PS) (a : Int), wordF evs a l = true → ∀ t ∈ l, t.at_ ≤ (psAt l (l.length - 1)).at_
  | [], _, _, t, h => by simp at h
  | s :: ss, a, h, t, ht => by
    by_cases hb : stampBad evs a s = true
    · rw [wordF_t hb] at h; cases h
    · have hb0 : stampBad evs a s = false := by simpa using hb
      rw [wordF_f hb0] at h
      cases ss with
      | nil => simp at ht; subst ht; simp [psAt]
      | cons u us =>
        have e : psAt (s :: u :: us) ((s :: u :: us).length - 1) = psAt (u :: us) ((u :: us).length - 1) := by simp [psAt]
        rw [e]
        rcases List.mem_cons.mp ht with rfl | ht
        · have h1 := word_ge (u :: us) _ h u (by simp)
          have h2 := word_le (u :: us) _ h u (by simp)
          omega
        · exact word_le (u :: us) _ h t ht
theorem word_inc {evs : Int} : ∀ (l : List PS) (a a' : Int), wordF evs a l = true → a' ≤ a + 1 → (∀ s ∈ l, s.at_ < 1000000) → wordF evs a' (l.map inc) = true
  | [], _, _, _, _, _ => rfl
  | s :: ss, a, a', h, ha, hl => by
    by_cases hb : stampBad evs a s = true
    · rw [wordF_t hb] at h; cases h
    · have hb0 : stampBad evs a s = false := by simpa using hb
      rw [wordF_f hb0] at h
      have h1 := stampBad_f hb0
      have h2 := hl s (by simp)
      have hb1 : stampBad evs a' (inc s) = false := stampBad_false.mpr (by simp [inc]; omega)
      rw [List.map_cons, wordF_f hb1]
      exact word_inc ss s.at_ _ h (by simp [inc]) (fun x hx => hl x (by simp [hx]))
theorem word_late {evs : Int} : ∀ (l : List PS) (k : Nat) (a : Int), wordF evs a l = true → (∀ s ∈ l, s.at_ < 1000000) → wordF evs a (lateL l k) = true
  | [], 0, _, _, _ => rfl
  | s :: ss, 0, a, h, hl => word_inc (s :: ss) a a h (by omega) hl
  | [], _ + 1, _, _, _ => rfl
  | s :: ss, k + 1, a, h, hl => by
    by_cases hb : stampBad evs a s = true
    · rw [wordF_t hb] at h; cases h
    · have hb0 : stampBad evs a s = false := by simpa using hb
      rw [wordF_f hb0] at h
      show wordF evs a (s :: lateL ss k) = true
      rw [wordF_f hb0]
      exact word_late ss k _ h (fun x hx => hl x (by simp [hx]))
theorem run_inc {n : Nat} {es : List PE} : ∀ (l : List PS) (x : Pt) (a : Int) (i : Nat), runM n es x (a + 1) (l.map inc) i = runM n es x a l i
  | [], _, _, _ => rfl
  | s :: ss, x, a, i => by
    have e : (inc s).at_ - (a + 1) = s.at_ - a := by simp [inc]; omega
    have e2 : (inc s).ev = s.ev := rfl
    rw [List.map_cons]
    by_cases hl : (step n es x (s.at_ - a) s.ev).loc < 0
    · rw [runM_t hl, runM_t (by rw [e, e2]; exact hl), e, e2]
    · rw [runM_f hl, runM_f (by rw [e, e2]; exact hl), e, e2]
      exact run_inc ss _ s.at_ (i + 1)
theorem run_late {n : Nat} {es : List PE} {evs : Int} : ∀ (l : List PS) (k : Nat) (x : Pt) (a : Int) (i : Nat), k < l.length → ClOk x.cl → wordF evs a l = true → 30 < (psAt l k).at_ - (if k = 0 then a else (psAt l (k - 1)).at_) → runM n es x a (lateL l k) i = runM n es x a l i
  | [], _, _, _, _, h, _, _, _ => by simp at h
  | s :: ss, 0, x, a, i, _, hc, _, hd => by
    simp [psAt] at hd
    have e : step n es x ((inc s).at_ - a) s.ev = step n es x (s.at_ - a) s.ev := by
      rw [step_big hc (show 31 ≤ (inc s).at_ - a by simp [inc]; omega), step_big hc (show 31 ≤ s.at_ - a by omega)]
    show runM n es x a (inc s :: ss.map inc) i = _
    have e2 : (inc s).ev = s.ev := rfl
    by_cases hl : (step n es x (s.at_ - a) s.ev).loc < 0
    · rw [runM_t hl, runM_t (by rw [e2, e]; exact hl), e2, e]
    · rw [runM_f hl, runM_f (by rw [e2, e]; exact hl), e2, e]
      exact run_inc ss _ s.at_ (i + 1)
  | s :: ss, k + 1, x, a, i, h, hc, hw, hd => by
    by_cases hb : stampBad evs a s = true
    · rw [wordF_t hb] at hw; cases hw
    · have hb0 : stampBad evs a s = false := by simpa using hb
      rw [wordF_f hb0] at hw
      have h1 := (stampBad_f hb0).1
      show runM n es x a (s :: lateL ss k) i = _
      by_cases hl : (step n es x (s.at_ - a) s.ev).loc < 0
      · rw [runM_t hl, runM_t hl]
      · rw [runM_f hl, runM_f hl]
        refine run_late ss k _ s.at_ (i + 1) (by simpa using h) (step_ok hc (by omega)) hw ?_
        cases k with
        | zero => simpa [psAt] using hd
        | succ k => simpa [psAt] using hd
theorem late_law {p : PP} {l : List PS} {k : Nat} (h : rpword p l = 0) (hk : k < l.length) (hd : 30 < (psAt l k).at_ - (if k = 0 then 0 else (psAt l (k - 1)).at_)) (hm : (psAt l (l.length - 1)).at_ < 1000000) :
    judgeM p (lateL l k) = judgeM p l ∧ (judgeM p l).2.2 = 0 := by
  obtain ⟨h1, h2, h3⟩ := rpword_ok h
  have hv := (runP_ok h).1
  have hlt : ∀ s ∈ l, s.at_ < 1000000 := fun s hs => by have := word_le l 0 h3 s hs; omega
  have h4 : rpword p (lateL l k) = 0 := by
    unfold rpword
    rw [if_pos h1, if_neg (by rw [lateL_len]; omega), if_pos (word_late l k 0 h3 hlt)]
  have hr : runP p (lateL l k) = runP p l := run_late l k (start p) 0 0 hk (start_ok hv).2 h3 hd
  rw [judgeM_ok h, judgeM_ok h4, hr]
  exact ⟨rfl, rfl⟩
end Go.Proofs.Ytcnjojhbcijdmaa
