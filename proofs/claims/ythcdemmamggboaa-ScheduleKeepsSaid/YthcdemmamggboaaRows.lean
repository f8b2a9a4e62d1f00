/-
  No cell of these rows narrows 'for every input' (looked for: loops, veiled, ifaces, maps, wideKeys, modest, calm, conditions, laid).
  DERIVED. THE GIVEN ROWS OF THIS SEAT. 4 by the template 'for every input the law returns true; each argument reads behind the call as it read before'; 0 by the template 'total and deterministic' (their statements: YthcdemmamggboaaTotals.lean).
  GIVEN WITH THE SEED: the statements are not yours to turn. If you find one false, say at which input.
  Laid BY PROGRAM, IN A SANDBOX (cutbox-rows.mjs): the forced cells as the released guide's own fill.sh prints them over the translation 30e52f1069fd79e1… (all of the seat's roots in one cut). By AI agents, Wed Nov 11 2026. No macro, syntax, notation, axiom, sorry.
-/
import Derived.Test.YthcdemmamggboaaChecked
import GoSem.Claim
import GoSem.ClaimJoined
import GoSem.ClaimMapViews
import Derived.JoinedTies
import Derived.KernelRfl
namespace Go.Proofs.Ythcdemmamggboaa
/- THE CELL 'sum', in the pinned program and in every row, IS THE sha256 OF THE DUMP (.gsa) THAT YthcdemmamggboaaProg.lean LOADS. Nothing in Lean hashes anything: it is a label: what it is worth is what the hold of that sum in a sandbox is worth. -/
noncomputable def Try.pinned : Pinned := { name := "ythcdemmamggboaa", sum := "30e52f1069fd79e1fc7f2f4929c371a2f93eef328df537f6799ff05dbfdf75ac", checked := Try.checked }
namespace Rows
def none {H : Type} : Left H := { results := [], args := [] }

/-- 'foliotlaw33.ScheduleRuns': WHATEVER THE INPUT: true; the input reads as it did. -/
def scheduleRunsSpec : ChangeSpec := { name := "scheduleRuns", fn := fun _ => fun
  | [d1, d2, d3] => { results := [.lit (.bool true)], args := [d1, d2, d3] }
  | _ => none }
def scheduleRunsRow : OpenClaim := { program := "ythcdemmamggboaa", sum := "30e52f1069fd79e1fc7f2f4929c371a2f93eef328df537f6799ff05dbfdf75ac", func := "foliot/foliotlaw33.ScheduleRuns", spec := "scheduleRuns", unfollowed := true, recurses := true, apart := false }
def ScheduleRunsSaid : Prop := scheduleRunsRow.holds Try.pinned (OpenSpec.ofChange scheduleRunsSpec)

/-- ITS FALSE NEIGHBOUR: 'it returns false'. Refute it at one input. -/
def scheduleRunsWrong : ChangeSpec := { name := "scheduleRuns", fn := fun _ => fun
  | [d1, d2, d3] => { results := [.lit (.bool false)], args := [d1, d2, d3] }
  | _ => none }
def ScheduleRunsWrongFalsely : Prop := scheduleRunsRow.holds Try.pinned (OpenSpec.ofChange scheduleRunsWrong)

/-- 'foliotlaw33.ScheduleOrder': WHATEVER THE INPUT: true; the input reads as it did. -/
def scheduleOrderSpec : ChangeSpec := { name := "scheduleOrder", fn := fun _ => fun
  | [d1, d2, d3] => { results := [.lit (.bool true)], args := [d1, d2, d3] }
  | _ => none }
def scheduleOrderRow : OpenClaim := { program := "ythcdemmamggboaa", sum := "30e52f1069fd79e1fc7f2f4929c371a2f93eef328df537f6799ff05dbfdf75ac", func := "foliot/foliotlaw33.ScheduleOrder", spec := "scheduleOrder", unfollowed := true, recurses := true, apart := false }
def ScheduleOrderSaid : Prop := scheduleOrderRow.holds Try.pinned (OpenSpec.ofChange scheduleOrderSpec)

/-- ITS FALSE NEIGHBOUR: 'it returns false'. Refute it at one input. -/
def scheduleOrderWrong : ChangeSpec := { name := "scheduleOrder", fn := fun _ => fun
  | [d1, d2, d3] => { results := [.lit (.bool false)], args := [d1, d2, d3] }
  | _ => none }
def ScheduleOrderWrongFalsely : Prop := scheduleOrderRow.holds Try.pinned (OpenSpec.ofChange scheduleOrderWrong)

/-- 'foliotlaw33.ScheduleKeeps': WHATEVER THE INPUT: true; the input reads as it did. -/
def scheduleKeepsSpec : ChangeSpec := { name := "scheduleKeeps", fn := fun _ => fun
  | [d1, d2] => { results := [.lit (.bool true)], args := [d1, d2] }
  | _ => none }
def scheduleKeepsRow : OpenClaim := { program := "ythcdemmamggboaa", sum := "30e52f1069fd79e1fc7f2f4929c371a2f93eef328df537f6799ff05dbfdf75ac", func := "foliot/foliotlaw33.ScheduleKeeps", spec := "scheduleKeeps", unfollowed := true, recurses := true, apart := false }
def ScheduleKeepsSaid : Prop := scheduleKeepsRow.holds Try.pinned (OpenSpec.ofChange scheduleKeepsSpec)

/-- ITS FALSE NEIGHBOUR: 'it returns false'. Refute it at one input. -/
def scheduleKeepsWrong : ChangeSpec := { name := "scheduleKeeps", fn := fun _ => fun
  | [d1, d2] => { results := [.lit (.bool false)], args := [d1, d2] }
  | _ => none }
def ScheduleKeepsWrongFalsely : Prop := scheduleKeepsRow.holds Try.pinned (OpenSpec.ofChange scheduleKeepsWrong)

/-- 'foliotlaw33.ScheduleApart': WHATEVER THE INPUT: true; the input reads as it did. -/
def scheduleApartSpec : ChangeSpec := { name := "scheduleApart", fn := fun _ => fun
  | [d1, d2] => { results := [.lit (.bool true)], args := [d1, d2] }
  | _ => none }
def scheduleApartRow : OpenClaim := { program := "ythcdemmamggboaa", sum := "30e52f1069fd79e1fc7f2f4929c371a2f93eef328df537f6799ff05dbfdf75ac", func := "foliot/foliotlaw33.ScheduleApart", spec := "scheduleApart", unfollowed := true, recurses := true, apart := false }
def ScheduleApartSaid : Prop := scheduleApartRow.holds Try.pinned (OpenSpec.ofChange scheduleApartSpec)

/-- ITS FALSE NEIGHBOUR: 'it returns false'. Refute it at one input. -/
def scheduleApartWrong : ChangeSpec := { name := "scheduleApart", fn := fun _ => fun
  | [d1, d2] => { results := [.lit (.bool false)], args := [d1, d2] }
  | _ => none }
def ScheduleApartWrongFalsely : Prop := scheduleApartRow.holds Try.pinned (OpenSpec.ofChange scheduleApartWrong)

/- THE SECOND FORM. 'bulk': how many values and letters a reading holds, each counted each time it is reached (what is shared counts as often as it is met; a slice's spare places count too). A statement '..UptoSaid' is the law's where the arguments, and the package variables that the reading takes, are together of bulk at most 1048576: NARROWER than '..Said'. Prove '..Said' where nothing that the law and all that it calls make is longer than what came in: it says more and counts as full. Else prove '..UptoSaid'. A law counts once. -/
mutual
def uptoBulk {H : Type} : DataW H → Nat
  | .lit (.string bytes) => bytes.length + 1
  | .lit _ => 1
  | .nil => 1
  | .ptr d => uptoBulk d + 1
  | .slice elems spare => uptoBulkAll elems + uptoBulkAll spare + 1
  | .agg parts => uptoBulkAll parts + 1
  | .iface _ d => uptoBulk d + 1
  | .map entries => uptoBulkEntries entries + 1
  | .held _ => 1
def uptoBulkAll {H : Type} : List (DataW H) → Nat
  | [] => 0
  | d :: r => uptoBulk d + uptoBulkAll r
def uptoBulkEntries {H : Type} : List (Lit × DataW H) → Nat
  | [] => 0
  | x :: r => uptoBulkEntry x + uptoBulkEntries r
def uptoBulkEntry {H : Type} : Lit × DataW H → Nat
  | (.string bytes, d) => bytes.length + uptoBulk d + 1
  | (_, d) => uptoBulk d + 1
 end
def uptoSmall : (H : Type) → List (DataW H) → Bool := fun _ ds => decide (uptoBulkAll ds ≤ 1048576)
def OpenSpec.upto (s : _root_.Go.ChangeSpec) : _root_.Go.OpenSpec := { _root_.Go.OpenSpec.ofChange s with cond := some uptoSmall }

/-- 'foliotlaw33.ScheduleRuns', WHERE WHAT IT READS IS OF BULK AT MOST 1048576: true; the input reads as it did. -/
def scheduleRunsUptoRow : OpenClaim := { program := "ythcdemmamggboaa", sum := "30e52f1069fd79e1fc7f2f4929c371a2f93eef328df537f6799ff05dbfdf75ac", func := "foliot/foliotlaw33.ScheduleRuns", spec := "scheduleRuns", unfollowed := true, recurses := true, apart := false, narrowed := true }
def ScheduleRunsUptoSaid : Prop := scheduleRunsUptoRow.holds Try.pinned (OpenSpec.upto scheduleRunsSpec)

/-- 'foliotlaw33.ScheduleOrder', WHERE WHAT IT READS IS OF BULK AT MOST 1048576: true; the input reads as it did. -/
def scheduleOrderUptoRow : OpenClaim := { program := "ythcdemmamggboaa", sum := "30e52f1069fd79e1fc7f2f4929c371a2f93eef328df537f6799ff05dbfdf75ac", func := "foliot/foliotlaw33.ScheduleOrder", spec := "scheduleOrder", unfollowed := true, recurses := true, apart := false, narrowed := true }
def ScheduleOrderUptoSaid : Prop := scheduleOrderUptoRow.holds Try.pinned (OpenSpec.upto scheduleOrderSpec)

/-- 'foliotlaw33.ScheduleKeeps', WHERE WHAT IT READS IS OF BULK AT MOST 1048576: true; the input reads as it did. -/
def scheduleKeepsUptoRow : OpenClaim := { program := "ythcdemmamggboaa", sum := "30e52f1069fd79e1fc7f2f4929c371a2f93eef328df537f6799ff05dbfdf75ac", func := "foliot/foliotlaw33.ScheduleKeeps", spec := "scheduleKeeps", unfollowed := true, recurses := true, apart := false, narrowed := true }
def ScheduleKeepsUptoSaid : Prop := scheduleKeepsUptoRow.holds Try.pinned (OpenSpec.upto scheduleKeepsSpec)

/-- 'foliotlaw33.ScheduleApart', WHERE WHAT IT READS IS OF BULK AT MOST 1048576: true; the input reads as it did. -/
def scheduleApartUptoRow : OpenClaim := { program := "ythcdemmamggboaa", sum := "30e52f1069fd79e1fc7f2f4929c371a2f93eef328df537f6799ff05dbfdf75ac", func := "foliot/foliotlaw33.ScheduleApart", spec := "scheduleApart", unfollowed := true, recurses := true, apart := false, narrowed := true }
def ScheduleApartUptoSaid : Prop := scheduleApartUptoRow.holds Try.pinned (OpenSpec.upto scheduleApartSpec)

end Rows
end Go.Proofs.Ythcdemmamggboaa
