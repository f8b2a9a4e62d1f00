/- the contract of the program's Check of task sets -/
import Derived.Test.YthcdemmamggboaaG6
import Derived.Test.YthcdemmamggboaaZTpchk
namespace Go.Proofs.Ythcdemmamggboaa
open Go.RowKit
theorem checkP : CheckP := fun v l w h hs => by
  have e : pchk l = rchk l := chk_eq l fun t ht => by
    obtain ⟨i, hi, rfl⟩ := List.getElem_of_mem ht
    have := hs.wf i hi
    simpa [tskAt, List.getD, hi] using this
  rw [← e]
  exact check_any v l w h hs.len hs.parts fun i hi => i64_lit (hs.wf i hi).prio
end Go.Proofs.Ythcdemmamggboaa
