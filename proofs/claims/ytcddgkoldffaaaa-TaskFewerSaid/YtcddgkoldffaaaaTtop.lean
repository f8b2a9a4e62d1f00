/- Whatever the task set, foliotlaw31.TaskSets returns true, and the argument reads behind the call as it read before. No condition. -/
import Derived.Test.YtcddgkoldffaaaaTfin
import Derived.Test.YtcddgkoldffaaaaTpchk
namespace Go.Proofs.Ytcddgkoldffaaaa
open Go.RowKit
theorem i64_lit {n : Int} (h : i64 n) : (Lit.int .i64 n).wf = true := by
  obtain ⟨h1, h2⟩ := h
  have e1 : IntKind.i64.min = -9223372036854775808 := by decide
  have e2 : IntKind.i64.max = 9223372036854775807 := by decide
  simp only [Lit.wf, e1, e2, Bool.and_eq_true, decide_eq_true_eq]
  omega
theorem checkP : CheckP := fun v l w h hs => by
  have e : pchk l = rchk l := chk_eq l fun t ht => by
    obtain ⟨i, hi, rfl⟩ := List.getElem_of_mem ht
    have := hs.wf i hi
    simpa [tskAt, List.getD, hi] using this
  rw [← e]
  exact check_any v l w h hs.len hs.parts fun i hi => i64_lit (hs.wf i hi).prio
theorem taskSets_holds : Rows.TaskSetsSaid := taskSets_over checkP
end Go.Proofs.Ytcddgkoldffaaaa
