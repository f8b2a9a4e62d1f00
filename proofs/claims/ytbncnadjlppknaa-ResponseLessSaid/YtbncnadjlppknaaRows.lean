/-
  No cell of these rows narrows 'for every input' (looked for: loops, veiled, ifaces, maps, wideKeys, modest, calm, conditions, laid).
  DERIVED. THE GIVEN ROWS OF THIS SEAT. 3 by the template 'for every input the law returns true; each argument reads behind the call as it read before'; 0 by the template 'total and deterministic' (their statements: YtbncnadjlppknaaTotals.lean).
  GIVEN WITH THE SEED: the statements are not yours to turn. If you find one false, say at which input.
  Laid BY PROGRAM, IN A SANDBOX (cutbox-rows.mjs): the forced cells as the released guide's own fill.sh prints them over the translation b260e383fb9e6e55… (all of the seat's roots in one cut). By AI agents, Wed Nov 11 2026. No macro, syntax, notation, axiom, sorry.
-/
import Derived.Test.YtbncnadjlppknaaChecked
import GoSem.Claim
import GoSem.ClaimJoined
import GoSem.ClaimMapViews
import Derived.JoinedTies
import Derived.KernelRfl
namespace Go.Proofs.Ytbncnadjlppknaa
/- THE CELL 'sum', in the pinned program and in every row, IS THE sha256 OF THE DUMP (.gsa) THAT YtbncnadjlppknaaProg.lean LOADS. Nothing in Lean hashes anything: it is a label: what it is worth is what the hold of that sum in a sandbox is worth. -/
noncomputable def Try.pinned : Pinned := { name := "ytbncnadjlppknaa", sum := "b260e383fb9e6e55f3df2ce110379fc7659a09310b459d90d7cadae8db35fc6f", checked := Try.checked }
namespace Rows
def none {H : Type} : Left H := { results := [], args := [] }

/-- 'foliotlaw32.ResponseFinds': WHATEVER THE INPUT: true; the input reads as it did. -/
def responseFindsSpec : ChangeSpec := { name := "responseFinds", fn := fun _ => fun
  | [d] => { results := [.lit (.bool true)], args := [d] }
  | _ => none }
def responseFindsRow : OpenClaim := { program := "ytbncnadjlppknaa", sum := "b260e383fb9e6e55f3df2ce110379fc7659a09310b459d90d7cadae8db35fc6f", func := "foliot/foliotlaw32.ResponseFinds", spec := "responseFinds", unfollowed := true, recurses := true, apart := false }
def ResponseFindsSaid : Prop := responseFindsRow.holds Try.pinned (OpenSpec.ofChange responseFindsSpec)

/-- ITS FALSE NEIGHBOUR: 'it returns false'. Refute it at one input. -/
def responseFindsWrong : ChangeSpec := { name := "responseFinds", fn := fun _ => fun
  | [d] => { results := [.lit (.bool false)], args := [d] }
  | _ => none }
def ResponseFindsWrongFalsely : Prop := responseFindsRow.holds Try.pinned (OpenSpec.ofChange responseFindsWrong)

/-- 'foliotlaw32.ResponseLess': WHATEVER THE INPUT: true; the input reads as it did. -/
def responseLessSpec : ChangeSpec := { name := "responseLess", fn := fun _ => fun
  | [d1, d2] => { results := [.lit (.bool true)], args := [d1, d2] }
  | _ => none }
def responseLessRow : OpenClaim := { program := "ytbncnadjlppknaa", sum := "b260e383fb9e6e55f3df2ce110379fc7659a09310b459d90d7cadae8db35fc6f", func := "foliot/foliotlaw32.ResponseLess", spec := "responseLess", unfollowed := true, recurses := true, apart := false }
def ResponseLessSaid : Prop := responseLessRow.holds Try.pinned (OpenSpec.ofChange responseLessSpec)

/-- ITS FALSE NEIGHBOUR: 'it returns false'. Refute it at one input. -/
def responseLessWrong : ChangeSpec := { name := "responseLess", fn := fun _ => fun
  | [d1, d2] => { results := [.lit (.bool false)], args := [d1, d2] }
  | _ => none }
def ResponseLessWrongFalsely : Prop := responseLessRow.holds Try.pinned (OpenSpec.ofChange responseLessWrong)

/-- 'foliotlaw32.ResponsePoints': WHATEVER THE INPUT: true; the input reads as it did. -/
def responsePointsSpec : ChangeSpec := { name := "responsePoints", fn := fun _ => fun
  | [d] => { results := [.lit (.bool true)], args := [d] }
  | _ => none }
def responsePointsRow : OpenClaim := { program := "ytbncnadjlppknaa", sum := "b260e383fb9e6e55f3df2ce110379fc7659a09310b459d90d7cadae8db35fc6f", func := "foliot/foliotlaw32.ResponsePoints", spec := "responsePoints", unfollowed := true, recurses := true, apart := false }
def ResponsePointsSaid : Prop := responsePointsRow.holds Try.pinned (OpenSpec.ofChange responsePointsSpec)

/-- ITS FALSE NEIGHBOUR: 'it returns false'. Refute it at one input. -/
def responsePointsWrong : ChangeSpec := { name := "responsePoints", fn := fun _ => fun
  | [d] => { results := [.lit (.bool false)], args := [d] }
  | _ => none }
def ResponsePointsWrongFalsely : Prop := responsePointsRow.holds Try.pinned (OpenSpec.ofChange responsePointsWrong)

/- THE SECOND FORM. 'bulk': how many values and letters a reading holds, each counted each time it is reached (what is shared counts as often as it is met; a slice's spare places count too). A statement '..UptoSaid' is the law's where the arguments, and the package variables that the reading takes, are together of bulk at most 1048576: NARROWER than '..Said'. Prove '..Said' where nothing that the law and all that it calls make is longer than what came in: it says more and counts as full. Else prove '..UptoSaid'. A law counts once. -/
mutual
def uptoBulk {H : Type} : DataW H → Nat
  | .lit (.string bytes) => bytes.length + 1
  | .lit _ => 1
  | .nil => 1
  | .ptr d => uptoBulk d + 1
  | .slice elems spare => uptoBulkAll elems + uptoBulkAll spare + 1
  | .agg parts => uptoBulkAll parts + 1
  | .iface _ d => uptoBulk d + 1
  | .map entries => uptoBulkEntries entries + 1
  | .held _ => 1
def uptoBulkAll {H : Type} : List (DataW H) → Nat
  | [] => 0
  | d :: r => uptoBulk d + uptoBulkAll r
def uptoBulkEntries {H : Type} : List (Lit × DataW H) → Nat
  | [] => 0
  | x :: r => uptoBulkEntry x + uptoBulkEntries r
def uptoBulkEntry {H : Type} : Lit × DataW H → Nat
  | (.string bytes, d) => bytes.length + uptoBulk d + 1
  | (_, d) => uptoBulk d + 1
 end
def uptoSmall : (H : Type) → List (DataW H) → Bool := fun _ ds => decide (uptoBulkAll ds ≤ 1048576)
def OpenSpec.upto (s : _root_.Go.ChangeSpec) : _root_.Go.OpenSpec := { _root_.Go.OpenSpec.ofChange s with cond := some uptoSmall }

/-- 'foliotlaw32.ResponseFinds', WHERE WHAT IT READS IS OF BULK AT MOST 1048576: true; the input reads as it did. -/
def responseFindsUptoRow : OpenClaim := { program := "ytbncnadjlppknaa", sum := "b260e383fb9e6e55f3df2ce110379fc7659a09310b459d90d7cadae8db35fc6f", func := "foliot/foliotlaw32.ResponseFinds", spec := "responseFinds", unfollowed := true, recurses := true, apart := false, narrowed := true }
def ResponseFindsUptoSaid : Prop := responseFindsUptoRow.holds Try.pinned (OpenSpec.upto responseFindsSpec)

/-- 'foliotlaw32.ResponseLess', WHERE WHAT IT READS IS OF BULK AT MOST 1048576: true; the input reads as it did. -/
def responseLessUptoRow : OpenClaim := { program := "ytbncnadjlppknaa", sum := "b260e383fb9e6e55f3df2ce110379fc7659a09310b459d90d7cadae8db35fc6f", func := "foliot/foliotlaw32.ResponseLess", spec := "responseLess", unfollowed := true, recurses := true, apart := false, narrowed := true }
def ResponseLessUptoSaid : Prop := responseLessUptoRow.holds Try.pinned (OpenSpec.upto responseLessSpec)

/-- 'foliotlaw32.ResponsePoints', WHERE WHAT IT READS IS OF BULK AT MOST 1048576: true; the input reads as it did. -/
def responsePointsUptoRow : OpenClaim := { program := "ytbncnadjlppknaa", sum := "b260e383fb9e6e55f3df2ce110379fc7659a09310b459d90d7cadae8db35fc6f", func := "foliot/foliotlaw32.ResponsePoints", spec := "responsePoints", unfollowed := true, recurses := true, apart := false, narrowed := true }
def ResponsePointsUptoSaid : Prop := responsePointsUptoRow.holds Try.pinned (OpenSpec.upto responsePointsSpec)

end Rows
end Go.Proofs.Ytbncnadjlppknaa
