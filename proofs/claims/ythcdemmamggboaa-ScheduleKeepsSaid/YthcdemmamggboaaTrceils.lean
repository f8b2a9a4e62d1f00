import Derived.Test.YthcdemmamggboaaThyp
import Derived.Test.YthcdemmamggboaaTceil
import Derived.Test.YthcdemmamggboaaOwn
namespace Go.Proofs.Ythcdemmamggboaa
open Go.RowKit
theorem Try.infoInt : (Try.prog.info? 3).map (fun i => (i.zero, i.size, i.bytes)) = some (some (.int .i64 0), 1, 8) := by kernel_rfl
/-- the ceilings of all resources -/
def ceils (l : List Tsk) : List Int := (List.range 8).map fun (r : Nat) => ceilT (r : Int) l 0
def ceilsTo (l : List Tsk) (k : Nat) : List Int := (List.range k).map fun (r : Nat) => ceilT (r : Int) l 0
theorem ceilsTo_succ (l : List Tsk) (k : Nat) : ceilsTo l (k + 1) = ceilsTo l k ++ [ceilT k l 0] := by simp [ceilsTo, List.range_succ]
theorem ceilsTo_len (l : List Tsk) (k : Nat) : (ceilsTo l k).length = k := by simp [ceilsTo]
/-- what Ceilings hands back -/
def CeilsPost (l : List Tsk) (w : World) (e : Ending) (w' : World) : Prop :=
  ∃ v, e = .returned (.tuple #[v, .int .i64 (rchk l)]) ∧ IntsAt w' w'.heap.size v (if rchk l = 0 then ceils l else []) ∧ Bel w w' ∧ ∀ k, v.ownBlock = some k → w.heap.size ≤ k
end Go.Proofs.Ythcdemmamggboaa
