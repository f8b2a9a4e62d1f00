import Derived.Test.YthcdemmamggboaaZHrre
import Derived.Test.YthcdemmamggboaaZHrro
namespace Go.Proofs.Ythcdemmamggboaa
open Go.RowKit
theorem rrun_any (v : Value) (l : List Tsk) (pol ticks : Int) (w : World) (h : TsksAt w w.heap.size v l) (hs : Sized l) :
    Calls Try.prog 11 #[v, .int .i64 pol, .int .i64 ticks] w (RunPost (scheduleM l pol ticks) w) := by
  by_cases hc : rchk l = 0 ∧ ¬ (pol ≠ 1 ∧ (pol ≠ 2 ∨ secsB l = true)) ∧ 0 ≤ ticks ∧ ticks ≤ 20000
  · exact rrun_ok v l pol ticks w h hs hc.1 hc.2.1 hc.2.2.1 hc.2.2.2
  · exact rrun_err v l pol ticks w h hs hc
end Go.Proofs.Ythcdemmamggboaa
