import Derived.Test.YthcdemmamggboaaTeq
import Derived.Test.YthcdemmamggboaaTphyp
namespace Go.Proofs.Ythcdemmamggboaa
open Go.RowKit
theorem beyondS_all : ∀ (l : List Tsk), beyondS l = false → ∀ i, i < l.length → (tskAt l i).secs.length ≤ 50 ∧ (tskAt l i).name.size ≤ 1000
  | [], _, i, hi => by simp at hi
  | t :: ts, h, i, hi => by
    unfold beyondS at h
    by_cases hc : (decide (50 < t.secs.length) || decide (1000 < t.name.size)) = true
    · rw [if_pos hc] at h; cases h
    · rw [if_neg hc] at h
      cases i with
      | zero => simp at hc; exact ⟨hc.1, hc.2⟩
      | succ i => exact beyondS_all ts h i (by simpa using hi)
theorem sized_of {l : List Tsk} (h : beyond l = false) (hwf : ∀ i, i < l.length → (tskAt l i).wf) : Sized l := by
  unfold beyond at h
  by_cases h5 : 50 < l.length
  · simp [h5] at h
  · rw [if_neg h5] at h
    exact ⟨by omega, fun i hi => by have := beyondS_all l h i hi; omega, hwf⟩
end Go.Proofs.Ythcdemmamggboaa
