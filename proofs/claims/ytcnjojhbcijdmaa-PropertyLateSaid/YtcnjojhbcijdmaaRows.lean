/-
  No cell of these rows narrows 'for every input' (looked for: loops, veiled, ifaces, maps, wideKeys, modest, calm, conditions, laid).
  DERIVED. THE GIVEN ROWS OF THIS SEAT. 4 by the template 'for every input the law returns true; each argument reads behind the call as it read before'; 0 by the template 'total and deterministic' (their statements: YtcnjojhbcijdmaaTotals.lean).
  GIVEN WITH THE SEED: the statements are not yours to turn. If you find one false, say at which input.
  Laid BY PROGRAM, IN A SANDBOX (cutbox-rows.mjs): the forced cells as the released guide's own fill.sh prints them over the translation 12a63d7ee11a4d58… (all of the seat's roots in one cut). By AI agents, Wed Nov 11 2026. No macro, syntax, notation, axiom, sorry.
-/
import Derived.Test.YtcnjojhbcijdmaaChecked
import GoSem.Claim
import GoSem.ClaimJoined
import GoSem.ClaimMapViews
import Derived.JoinedTies
import Derived.KernelRfl
namespace Go.Proofs.Ytcnjojhbcijdmaa
/- THE CELL 'sum', in the pinned program and in every row, IS THE sha256 OF THE DUMP (.gsa) THAT YtcnjojhbcijdmaaProg.lean LOADS. Nothing in Lean hashes anything: it is a label: what it is worth is what the hold of that sum in a sandbox is worth. -/
noncomputable def Try.pinned : Pinned := { name := "ytcnjojhbcijdmaa", sum := "12a63d7ee11a4d5800de146d27403a3d99e8c05d3076dcf6ce36d0f906157d22", checked := Try.checked }
namespace Rows
def none {H : Type} : Left H := { results := [], args := [] }

/-- 'foliotlaw35.PropertyJudges': WHATEVER THE INPUT: true; the input reads as it did. -/
def propertyJudgesSpec : ChangeSpec := { name := "propertyJudges", fn := fun _ => fun
  | [d1, d2] => { results := [.lit (.bool true)], args := [d1, d2] }
  | _ => none }
def propertyJudgesRow : OpenClaim := { program := "ytcnjojhbcijdmaa", sum := "12a63d7ee11a4d5800de146d27403a3d99e8c05d3076dcf6ce36d0f906157d22", func := "foliot/foliotlaw35.PropertyJudges", spec := "propertyJudges", unfollowed := true, recurses := true, plainKeys := false, apart := false }
def PropertyJudgesSaid : Prop := propertyJudgesRow.holds Try.pinned (OpenSpec.ofChange propertyJudgesSpec)

/-- ITS FALSE NEIGHBOUR: 'it returns false'. Refute it at one input. -/
def propertyJudgesWrong : ChangeSpec := { name := "propertyJudges", fn := fun _ => fun
  | [d1, d2] => { results := [.lit (.bool false)], args := [d1, d2] }
  | _ => none }
def PropertyJudgesWrongFalsely : Prop := propertyJudgesRow.holds Try.pinned (OpenSpec.ofChange propertyJudgesWrong)

/-- 'foliotlaw35.PropertyHopes': WHATEVER THE INPUT: true; the input reads as it did. -/
def propertyHopesSpec : ChangeSpec := { name := "propertyHopes", fn := fun _ => fun
  | [d1, d2] => { results := [.lit (.bool true)], args := [d1, d2] }
  | _ => none }
def propertyHopesRow : OpenClaim := { program := "ytcnjojhbcijdmaa", sum := "12a63d7ee11a4d5800de146d27403a3d99e8c05d3076dcf6ce36d0f906157d22", func := "foliot/foliotlaw35.PropertyHopes", spec := "propertyHopes", unfollowed := true, recurses := true, plainKeys := false, apart := false }
def PropertyHopesSaid : Prop := propertyHopesRow.holds Try.pinned (OpenSpec.ofChange propertyHopesSpec)

/-- ITS FALSE NEIGHBOUR: 'it returns false'. Refute it at one input. -/
def propertyHopesWrong : ChangeSpec := { name := "propertyHopes", fn := fun _ => fun
  | [d1, d2] => { results := [.lit (.bool false)], args := [d1, d2] }
  | _ => none }
def PropertyHopesWrongFalsely : Prop := propertyHopesRow.holds Try.pinned (OpenSpec.ofChange propertyHopesWrong)

/-- 'foliotlaw35.PropertyGoes': WHATEVER THE INPUT: true; the input reads as it did. -/
def propertyGoesSpec : ChangeSpec := { name := "propertyGoes", fn := fun _ => fun
  | [d1, d2, d3] => { results := [.lit (.bool true)], args := [d1, d2, d3] }
  | _ => none }
def propertyGoesRow : OpenClaim := { program := "ytcnjojhbcijdmaa", sum := "12a63d7ee11a4d5800de146d27403a3d99e8c05d3076dcf6ce36d0f906157d22", func := "foliot/foliotlaw35.PropertyGoes", spec := "propertyGoes", unfollowed := true, recurses := true, plainKeys := false, apart := false }
def PropertyGoesSaid : Prop := propertyGoesRow.holds Try.pinned (OpenSpec.ofChange propertyGoesSpec)

/-- ITS FALSE NEIGHBOUR: 'it returns false'. Refute it at one input. -/
def propertyGoesWrong : ChangeSpec := { name := "propertyGoes", fn := fun _ => fun
  | [d1, d2, d3] => { results := [.lit (.bool false)], args := [d1, d2, d3] }
  | _ => none }
def PropertyGoesWrongFalsely : Prop := propertyGoesRow.holds Try.pinned (OpenSpec.ofChange propertyGoesWrong)

/-- 'foliotlaw35.PropertyLate': WHATEVER THE INPUT: true; the input reads as it did. -/
def propertyLateSpec : ChangeSpec := { name := "propertyLate", fn := fun _ => fun
  | [d1, d2, d3] => { results := [.lit (.bool true)], args := [d1, d2, d3] }
  | _ => none }
def propertyLateRow : OpenClaim := { program := "ytcnjojhbcijdmaa", sum := "12a63d7ee11a4d5800de146d27403a3d99e8c05d3076dcf6ce36d0f906157d22", func := "foliot/foliotlaw35.PropertyLate", spec := "propertyLate", unfollowed := true, recurses := true, plainKeys := false, apart := false }
def PropertyLateSaid : Prop := propertyLateRow.holds Try.pinned (OpenSpec.ofChange propertyLateSpec)

/-- ITS FALSE NEIGHBOUR: 'it returns false'. Refute it at one input. -/
def propertyLateWrong : ChangeSpec := { name := "propertyLate", fn := fun _ => fun
  | [d1, d2, d3] => { results := [.lit (.bool false)], args := [d1, d2, d3] }
  | _ => none }
def PropertyLateWrongFalsely : Prop := propertyLateRow.holds Try.pinned (OpenSpec.ofChange propertyLateWrong)

/- THE SECOND FORM. 'bulk': how many values and letters a reading holds, each counted each time it is reached (what is shared counts as often as it is met; a slice's spare places count too). A statement '..UptoSaid' is the law's where the arguments, and the package variables that the reading takes, are together of bulk at most 1048576: NARROWER than '..Said'. Prove '..Said' where nothing that the law and all that it calls make is longer than what came in: it says more and counts as full. Else prove '..UptoSaid'. A law counts once. -/
mutual
def uptoBulk {H : Type} : DataW H → Nat
  | .lit (.string bytes) => bytes.length + 1
  | .lit _ => 1
  | .nil => 1
  | .ptr d => uptoBulk d + 1
  | .slice elems spare => uptoBulkAll elems + uptoBulkAll spare + 1
  | .agg parts => uptoBulkAll parts + 1
  | .iface _ d => uptoBulk d + 1
  | .map entries => uptoBulkEntries entries + 1
  | .held _ => 1
def uptoBulkAll {H : Type} : List (DataW H) → Nat
  | [] => 0
  | d :: r => uptoBulk d + uptoBulkAll r
def uptoBulkEntries {H : Type} : List (Lit × DataW H) → Nat
  | [] => 0
  | x :: r => uptoBulkEntry x + uptoBulkEntries r
def uptoBulkEntry {H : Type} : Lit × DataW H → Nat
  | (.string bytes, d) => bytes.length + uptoBulk d + 1
  | (_, d) => uptoBulk d + 1
 end
def uptoSmall : (H : Type) → List (DataW H) → Bool := fun _ ds => decide (uptoBulkAll ds ≤ 1048576)
def OpenSpec.upto (s : _root_.Go.ChangeSpec) : _root_.Go.OpenSpec := { _root_.Go.OpenSpec.ofChange s with cond := some uptoSmall }

/-- 'foliotlaw35.PropertyJudges', WHERE WHAT IT READS IS OF BULK AT MOST 1048576: true; the input reads as it did. -/
def propertyJudgesUptoRow : OpenClaim := { program := "ytcnjojhbcijdmaa", sum := "12a63d7ee11a4d5800de146d27403a3d99e8c05d3076dcf6ce36d0f906157d22", func := "foliot/foliotlaw35.PropertyJudges", spec := "propertyJudges", unfollowed := true, recurses := true, plainKeys := false, apart := false, narrowed := true }
def PropertyJudgesUptoSaid : Prop := propertyJudgesUptoRow.holds Try.pinned (OpenSpec.upto propertyJudgesSpec)

/-- 'foliotlaw35.PropertyHopes', WHERE WHAT IT READS IS OF BULK AT MOST 1048576: true; the input reads as it did. -/
def propertyHopesUptoRow : OpenClaim := { program := "ytcnjojhbcijdmaa", sum := "12a63d7ee11a4d5800de146d27403a3d99e8c05d3076dcf6ce36d0f906157d22", func := "foliot/foliotlaw35.PropertyHopes", spec := "propertyHopes", unfollowed := true, recurses := true, plainKeys := false, apart := false, narrowed := true }
def PropertyHopesUptoSaid : Prop := propertyHopesUptoRow.holds Try.pinned (OpenSpec.upto propertyHopesSpec)

/-- 'foliotlaw35.PropertyGoes', WHERE WHAT IT READS IS OF BULK AT MOST 1048576: true; the input reads as it did. -/
def propertyGoesUptoRow : OpenClaim := { program := "ytcnjojhbcijdmaa", sum := "12a63d7ee11a4d5800de146d27403a3d99e8c05d3076dcf6ce36d0f906157d22", func := "foliot/foliotlaw35.PropertyGoes", spec := "propertyGoes", unfollowed := true, recurses := true, plainKeys := false, apart := false, narrowed := true }
def PropertyGoesUptoSaid : Prop := propertyGoesUptoRow.holds Try.pinned (OpenSpec.upto propertyGoesSpec)

/-- 'foliotlaw35.PropertyLate', WHERE WHAT IT READS IS OF BULK AT MOST 1048576: true; the input reads as it did. -/
def propertyLateUptoRow : OpenClaim := { program := "ytcnjojhbcijdmaa", sum := "12a63d7ee11a4d5800de146d27403a3d99e8c05d3076dcf6ce36d0f906157d22", func := "foliot/foliotlaw35.PropertyLate", spec := "propertyLate", unfollowed := true, recurses := true, plainKeys := false, apart := false, narrowed := true }
def PropertyLateUptoSaid : Prop := propertyLateUptoRow.holds Try.pinned (OpenSpec.upto propertyLateSpec)

end Rows
end Go.Proofs.Ytcnjojhbcijdmaa
