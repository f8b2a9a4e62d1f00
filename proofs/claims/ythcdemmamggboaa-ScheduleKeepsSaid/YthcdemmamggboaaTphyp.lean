import Derived.Test.YthcdemmamggboaaThyp
import Derived.Test.YthcdemmamggboaaTmodq
import Derived.Deep.Cut
namespace Go.Proofs.Ythcdemmamggboaa
open Go.RowKit
structure Sized (l : List Tsk) : Prop where
  len : l.length ≤ 1000000
  parts : ∀ i, i < l.length → (tskAt l i).secs.length ≤ 1000000 ∧ (tskAt l i).name.size ≤ 1000000
  wf : ∀ i, i < l.length → (tskAt l i).wf
/-- what is shown of the program's Check -/
def CheckP : Prop := ∀ (v : Value) (l : List Tsk) (w : World), TsksAt w w.heap.size v l → Sized l →
  Calls Try.prog 35 #[v] w fun e w' => e = .returned (.int .i64 (rchk l)) ∧ Bel w w'
end Go.Proofs.Ythcdemmamggboaa
