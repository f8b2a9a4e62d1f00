/-
  No cell of these rows narrows 'for every input' (looked for: loops, veiled, ifaces, maps, wideKeys, modest, calm, conditions, laid).
  DERIVED. THE GIVEN ROWS OF THIS SEAT. 6 by the template 'for every input the law returns true; each argument reads behind the call as it read before'; 0 by the template 'total and deterministic' (their statements: YtalphoebmefgoaaTotals.lean).
  GIVEN WITH THE SEED: the statements are not yours to turn. If you find one false, say at which input.
  Laid BY PROGRAM, IN A SANDBOX (cutbox-rows.mjs): the forced cells as the released guide's own fill.sh prints them over the translation b0027256adc26c93… (all of the seat's roots in one cut). By AI agents, Wed Nov 11 2026. No macro, syntax, notation, axiom, sorry.
-/
import Derived.Test.YtalphoebmefgoaaChecked
import GoSem.Claim
import GoSem.ClaimJoined
import GoSem.ClaimMapViews
import Derived.JoinedTies
import Derived.KernelRfl
namespace Go.Proofs.Ytalphoebmefgoaa
/- THE CELL 'sum', in the pinned program and in every row, IS THE sha256 OF THE DUMP (.gsa) THAT YtalphoebmefgoaaProg.lean LOADS. Nothing in Lean hashes anything: it is a label: what it is worth is what the hold of that sum in a sandbox is worth. -/
noncomputable def Try.pinned : Pinned := { name := "ytalphoebmefgoaa", sum := "b0027256adc26c93dbc3d4ae90eb49d2cfb9ae417d9b4c098a2a91b35a7c54d8", checked := Try.checked }
namespace Rows
def none {H : Type} : Left H := { results := [], args := [] }

/-- 'foliotlaw07.PolyLeaves': WHATEVER THE INPUT: true; the input reads as it did. -/
def polyLeavesSpec : ChangeSpec := { name := "polyLeaves", fn := fun _ => fun
  | [d] => { results := [.lit (.bool true)], args := [d] }
  | _ => none }
def polyLeavesRow : OpenClaim := { program := "ytalphoebmefgoaa", sum := "b0027256adc26c93dbc3d4ae90eb49d2cfb9ae417d9b4c098a2a91b35a7c54d8", func := "foliot/foliotlaw07.PolyLeaves", spec := "polyLeaves", unfollowed := true, recurses := true, apart := false }
def PolyLeavesSaid : Prop := polyLeavesRow.holds Try.pinned (OpenSpec.ofChange polyLeavesSpec)

/-- ITS FALSE NEIGHBOUR: 'it returns false'. Refute it at one input. -/
def polyLeavesWrong : ChangeSpec := { name := "polyLeaves", fn := fun _ => fun
  | [d] => { results := [.lit (.bool false)], args := [d] }
  | _ => none }
def PolyLeavesWrongFalsely : Prop := polyLeavesRow.holds Try.pinned (OpenSpec.ofChange polyLeavesWrong)

/-- 'foliotlaw07.PolyProjects': WHATEVER THE INPUT: true; the input reads as it did. -/
def polyProjectsSpec : ChangeSpec := { name := "polyProjects", fn := fun _ => fun
  | [d] => { results := [.lit (.bool true)], args := [d] }
  | _ => none }
def polyProjectsRow : OpenClaim := { program := "ytalphoebmefgoaa", sum := "b0027256adc26c93dbc3d4ae90eb49d2cfb9ae417d9b4c098a2a91b35a7c54d8", func := "foliot/foliotlaw07.PolyProjects", spec := "polyProjects", unfollowed := true, recurses := true, apart := false }
def PolyProjectsSaid : Prop := polyProjectsRow.holds Try.pinned (OpenSpec.ofChange polyProjectsSpec)

/-- ITS FALSE NEIGHBOUR: 'it returns false'. Refute it at one input. -/
def polyProjectsWrong : ChangeSpec := { name := "polyProjects", fn := fun _ => fun
  | [d] => { results := [.lit (.bool false)], args := [d] }
  | _ => none }
def PolyProjectsWrongFalsely : Prop := polyProjectsRow.holds Try.pinned (OpenSpec.ofChange polyProjectsWrong)

/-- 'foliotlaw07.PolyBelow': WHATEVER THE INPUT: true; the input reads as it did. -/
def polyBelowSpec : ChangeSpec := { name := "polyBelow", fn := fun _ => fun
  | [d] => { results := [.lit (.bool true)], args := [d] }
  | _ => none }
def polyBelowRow : OpenClaim := { program := "ytalphoebmefgoaa", sum := "b0027256adc26c93dbc3d4ae90eb49d2cfb9ae417d9b4c098a2a91b35a7c54d8", func := "foliot/foliotlaw07.PolyBelow", spec := "polyBelow", unfollowed := true, recurses := true, apart := false }
def PolyBelowSaid : Prop := polyBelowRow.holds Try.pinned (OpenSpec.ofChange polyBelowSpec)

/-- ITS FALSE NEIGHBOUR: 'it returns false'. Refute it at one input. -/
def polyBelowWrong : ChangeSpec := { name := "polyBelow", fn := fun _ => fun
  | [d] => { results := [.lit (.bool false)], args := [d] }
  | _ => none }
def PolyBelowWrongFalsely : Prop := polyBelowRow.holds Try.pinned (OpenSpec.ofChange polyBelowWrong)

/-- 'foliotlaw07.PolyMakes': WHATEVER THE INPUT: true; the input reads as it did. -/
def polyMakesSpec : ChangeSpec := { name := "polyMakes", fn := fun _ => fun
  | [d] => { results := [.lit (.bool true)], args := [d] }
  | _ => none }
def polyMakesRow : OpenClaim := { program := "ytalphoebmefgoaa", sum := "b0027256adc26c93dbc3d4ae90eb49d2cfb9ae417d9b4c098a2a91b35a7c54d8", func := "foliot/foliotlaw07.PolyMakes", spec := "polyMakes", unfollowed := true, recurses := true, apart := false }
def PolyMakesSaid : Prop := polyMakesRow.holds Try.pinned (OpenSpec.ofChange polyMakesSpec)

/-- ITS FALSE NEIGHBOUR: 'it returns false'. Refute it at one input. -/
def polyMakesWrong : ChangeSpec := { name := "polyMakes", fn := fun _ => fun
  | [d] => { results := [.lit (.bool false)], args := [d] }
  | _ => none }
def PolyMakesWrongFalsely : Prop := polyMakesRow.holds Try.pinned (OpenSpec.ofChange polyMakesWrong)

/-- 'foliotlaw07.PolyPieces': WHATEVER THE INPUT: true; the input reads as it did. -/
def polyPiecesSpec : ChangeSpec := { name := "polyPieces", fn := fun _ => fun
  | [d] => { results := [.lit (.bool true)], args := [d] }
  | _ => none }
def polyPiecesRow : OpenClaim := { program := "ytalphoebmefgoaa", sum := "b0027256adc26c93dbc3d4ae90eb49d2cfb9ae417d9b4c098a2a91b35a7c54d8", func := "foliot/foliotlaw07.PolyPieces", spec := "polyPieces", unfollowed := true, recurses := true, apart := false }
def PolyPiecesSaid : Prop := polyPiecesRow.holds Try.pinned (OpenSpec.ofChange polyPiecesSpec)

/-- ITS FALSE NEIGHBOUR: 'it returns false'. Refute it at one input. -/
def polyPiecesWrong : ChangeSpec := { name := "polyPieces", fn := fun _ => fun
  | [d] => { results := [.lit (.bool false)], args := [d] }
  | _ => none }
def PolyPiecesWrongFalsely : Prop := polyPiecesRow.holds Try.pinned (OpenSpec.ofChange polyPiecesWrong)

/-- 'foliotlaw07.PolyAsks': WHATEVER THE INPUT: true; the input reads as it did. -/
def polyAsksSpec : ChangeSpec := { name := "polyAsks", fn := fun _ => fun
  | [d] => { results := [.lit (.bool true)], args := [d] }
  | _ => none }
def polyAsksRow : OpenClaim := { program := "ytalphoebmefgoaa", sum := "b0027256adc26c93dbc3d4ae90eb49d2cfb9ae417d9b4c098a2a91b35a7c54d8", func := "foliot/foliotlaw07.PolyAsks", spec := "polyAsks", unfollowed := true, recurses := true, apart := false }
def PolyAsksSaid : Prop := polyAsksRow.holds Try.pinned (OpenSpec.ofChange polyAsksSpec)

/-- ITS FALSE NEIGHBOUR: 'it returns false'. Refute it at one input. -/
def polyAsksWrong : ChangeSpec := { name := "polyAsks", fn := fun _ => fun
  | [d] => { results := [.lit (.bool false)], args := [d] }
  | _ => none }
def PolyAsksWrongFalsely : Prop := polyAsksRow.holds Try.pinned (OpenSpec.ofChange polyAsksWrong)

/- THE SECOND FORM. 'bulk': how many values and letters a reading holds, each counted each time it is reached (what is shared counts as often as it is met; a slice's spare places count too). A statement '..UptoSaid' is the law's where the arguments, and the package variables that the reading takes, are together of bulk at most 1048576: NARROWER than '..Said'. Prove '..Said' where nothing that the law and all that it calls make is longer than what came in: it says more and counts as full. Else prove '..UptoSaid'. A law counts once. -/
mutual
def uptoBulk {H : Type} : DataW H → Nat
  | .lit (.string bytes) => bytes.length + 1
  | .lit _ => 1
  | .nil => 1
  | .ptr d => uptoBulk d + 1
  | .slice elems spare => uptoBulkAll elems + uptoBulkAll spare + 1
  | .agg parts => uptoBulkAll parts + 1
  | .iface _ d => uptoBulk d + 1
  | .map entries => uptoBulkEntries entries + 1
  | .held _ => 1
def uptoBulkAll {H : Type} : List (DataW H) → Nat
  | [] => 0
  | d :: r => uptoBulk d + uptoBulkAll r
def uptoBulkEntries {H : Type} : List (Lit × DataW H) → Nat
  | [] => 0
  | x :: r => uptoBulkEntry x + uptoBulkEntries r
def uptoBulkEntry {H : Type} : Lit × DataW H → Nat
  | (.string bytes, d) => bytes.length + uptoBulk d + 1
  | (_, d) => uptoBulk d + 1
 end
def uptoSmall : (H : Type) → List (DataW H) → Bool := fun _ ds => decide (uptoBulkAll ds ≤ 1048576)
def OpenSpec.upto (s : _root_.Go.ChangeSpec) : _root_.Go.OpenSpec := { _root_.Go.OpenSpec.ofChange s with cond := some uptoSmall }

/-- 'foliotlaw07.PolyLeaves', WHERE WHAT IT READS IS OF BULK AT MOST 1048576: true; the input reads as it did. -/
def polyLeavesUptoRow : OpenClaim := { program := "ytalphoebmefgoaa", sum := "b0027256adc26c93dbc3d4ae90eb49d2cfb9ae417d9b4c098a2a91b35a7c54d8", func := "foliot/foliotlaw07.PolyLeaves", spec := "polyLeaves", unfollowed := true, recurses := true, apart := false, narrowed := true }
def PolyLeavesUptoSaid : Prop := polyLeavesUptoRow.holds Try.pinned (OpenSpec.upto polyLeavesSpec)

/-- 'foliotlaw07.PolyProjects', WHERE WHAT IT READS IS OF BULK AT MOST 1048576: true; the input reads as it did. -/
def polyProjectsUptoRow : OpenClaim := { program := "ytalphoebmefgoaa", sum := "b0027256adc26c93dbc3d4ae90eb49d2cfb9ae417d9b4c098a2a91b35a7c54d8", func := "foliot/foliotlaw07.PolyProjects", spec := "polyProjects", unfollowed := true, recurses := true, apart := false, narrowed := true }
def PolyProjectsUptoSaid : Prop := polyProjectsUptoRow.holds Try.pinned (OpenSpec.upto polyProjectsSpec)

/-- 'foliotlaw07.PolyBelow', WHERE WHAT IT READS IS OF BULK AT MOST 1048576: true; the input reads as it did. -/
def polyBelowUptoRow : OpenClaim := { program := "ytalphoebmefgoaa", sum := "b0027256adc26c93dbc3d4ae90eb49d2cfb9ae417d9b4c098a2a91b35a7c54d8", func := "foliot/foliotlaw07.PolyBelow", spec := "polyBelow", unfollowed := true, recurses := true, apart := false, narrowed := true }
def PolyBelowUptoSaid : Prop := polyBelowUptoRow.holds Try.pinned (OpenSpec.upto polyBelowSpec)

/-- 'foliotlaw07.PolyMakes', WHERE WHAT IT READS IS OF BULK AT MOST 1048576: true; the input reads as it did. -/
def polyMakesUptoRow : OpenClaim := { program := "ytalphoebmefgoaa", sum := "b0027256adc26c93dbc3d4ae90eb49d2cfb9ae417d9b4c098a2a91b35a7c54d8", func := "foliot/foliotlaw07.PolyMakes", spec := "polyMakes", unfollowed := true, recurses := true, apart := false, narrowed := true }
def PolyMakesUptoSaid : Prop := polyMakesUptoRow.holds Try.pinned (OpenSpec.upto polyMakesSpec)

/-- 'foliotlaw07.PolyPieces', WHERE WHAT IT READS IS OF BULK AT MOST 1048576: true; the input reads as it did. -/
def polyPiecesUptoRow : OpenClaim := { program := "ytalphoebmefgoaa", sum := "b0027256adc26c93dbc3d4ae90eb49d2cfb9ae417d9b4c098a2a91b35a7c54d8", func := "foliot/foliotlaw07.PolyPieces", spec := "polyPieces", unfollowed := true, recurses := true, apart := false, narrowed := true }
def PolyPiecesUptoSaid : Prop := polyPiecesUptoRow.holds Try.pinned (OpenSpec.upto polyPiecesSpec)

/-- 'foliotlaw07.PolyAsks', WHERE WHAT IT READS IS OF BULK AT MOST 1048576: true; the input reads as it did. -/
def polyAsksUptoRow : OpenClaim := { program := "ytalphoebmefgoaa", sum := "b0027256adc26c93dbc3d4ae90eb49d2cfb9ae417d9b4c098a2a91b35a7c54d8", func := "foliot/foliotlaw07.PolyAsks", spec := "polyAsks", unfollowed := true, recurses := true, apart := false, narrowed := true }
def PolyAsksUptoSaid : Prop := polyAsksUptoRow.holds Try.pinned (OpenSpec.upto polyAsksSpec)

end Rows
end Go.Proofs.Ytalphoebmefgoaa
