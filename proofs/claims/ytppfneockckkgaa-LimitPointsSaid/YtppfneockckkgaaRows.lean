/-
  No cell of these rows narrows 'for every input' (looked for: loops, veiled, ifaces, maps, wideKeys, modest, calm, conditions, laid).
  DERIVED. THE GIVEN ROWS OF THIS SEAT. 5 by the template 'for every input the law returns true; each argument reads behind the call as it read before'; 0 by the template 'total and deterministic' (their statements: YtppfneockckkgaaTotals.lean).
  GIVEN WITH THE SEED: the statements are not yours to turn. If you find one false, say at which input.
  Laid BY PROGRAM, IN A SANDBOX (cutbox-rows.mjs): the forced cells as the released guide's own fill.sh prints them over the translation 72b1d649587e48f1… (all of the seat's roots in one cut). By AI agents, Wed Nov 11 2026. No macro, syntax, notation, axiom, sorry.
-/
import Derived.Test.YtppfneockckkgaaChecked
import GoSem.Claim
import GoSem.ClaimJoined
import GoSem.ClaimMapViews
import Derived.JoinedTies
import Derived.KernelRfl
namespace Go.Proofs.Ytppfneockckkgaa
/- THE CELL 'sum', in the pinned program and in every row, IS THE sha256 OF THE DUMP (.gsa) THAT YtppfneockckkgaaProg.lean LOADS. Nothing in Lean hashes anything: it is a label: what it is worth is what the hold of that sum in a sandbox is worth. -/
noncomputable def Try.pinned : Pinned := { name := "ytppfneockckkgaa", sum := "72b1d649587e48f16dc334973c3ce9659c4b9c678ce8cc2d102c789da3102dae", checked := Try.checked }
namespace Rows
def none {H : Type} : Left H := { results := [], args := [] }

/-- 'foliotlaw02.LimitSums': WHATEVER THE INPUT: true; the input reads as it did. -/
def limitSumsSpec : ChangeSpec := { name := "limitSums", fn := fun _ => fun
  | [d1, d2] => { results := [.lit (.bool true)], args := [d1, d2] }
  | _ => none }
def limitSumsRow : OpenClaim := { program := "ytppfneockckkgaa", sum := "72b1d649587e48f16dc334973c3ce9659c4b9c678ce8cc2d102c789da3102dae", func := "foliot/foliotlaw02.LimitSums", spec := "limitSums", unfollowed := true, recurses := true, apart := false }
def LimitSumsSaid : Prop := limitSumsRow.holds Try.pinned (OpenSpec.ofChange limitSumsSpec)

/-- ITS FALSE NEIGHBOUR: 'it returns false'. Refute it at one input. -/
def limitSumsWrong : ChangeSpec := { name := "limitSums", fn := fun _ => fun
  | [d1, d2] => { results := [.lit (.bool false)], args := [d1, d2] }
  | _ => none }
def LimitSumsWrongFalsely : Prop := limitSumsRow.holds Try.pinned (OpenSpec.ofChange limitSumsWrong)

/-- 'foliotlaw02.LimitMeets': WHATEVER THE INPUT: true; the input reads as it did. -/
def limitMeetsSpec : ChangeSpec := { name := "limitMeets", fn := fun _ => fun
  | [d1, d2] => { results := [.lit (.bool true)], args := [d1, d2] }
  | _ => none }
def limitMeetsRow : OpenClaim := { program := "ytppfneockckkgaa", sum := "72b1d649587e48f16dc334973c3ce9659c4b9c678ce8cc2d102c789da3102dae", func := "foliot/foliotlaw02.LimitMeets", spec := "limitMeets", unfollowed := true, recurses := true, apart := false }
def LimitMeetsSaid : Prop := limitMeetsRow.holds Try.pinned (OpenSpec.ofChange limitMeetsSpec)

/-- ITS FALSE NEIGHBOUR: 'it returns false'. Refute it at one input. -/
def limitMeetsWrong : ChangeSpec := { name := "limitMeets", fn := fun _ => fun
  | [d1, d2] => { results := [.lit (.bool false)], args := [d1, d2] }
  | _ => none }
def LimitMeetsWrongFalsely : Prop := limitMeetsRow.holds Try.pinned (OpenSpec.ofChange limitMeetsWrong)

/-- 'foliotlaw02.LimitLaws': WHATEVER THE INPUT: true; the input reads as it did. -/
def limitLawsSpec : ChangeSpec := { name := "limitLaws", fn := fun _ => fun
  | [d1, d2, d3] => { results := [.lit (.bool true)], args := [d1, d2, d3] }
  | _ => none }
def limitLawsRow : OpenClaim := { program := "ytppfneockckkgaa", sum := "72b1d649587e48f16dc334973c3ce9659c4b9c678ce8cc2d102c789da3102dae", func := "foliot/foliotlaw02.LimitLaws", spec := "limitLaws", unfollowed := true, recurses := true, apart := false }
def LimitLawsSaid : Prop := limitLawsRow.holds Try.pinned (OpenSpec.ofChange limitLawsSpec)

/-- ITS FALSE NEIGHBOUR: 'it returns false'. Refute it at one input. -/
def limitLawsWrong : ChangeSpec := { name := "limitLaws", fn := fun _ => fun
  | [d1, d2, d3] => { results := [.lit (.bool false)], args := [d1, d2, d3] }
  | _ => none }
def LimitLawsWrongFalsely : Prop := limitLawsRow.holds Try.pinned (OpenSpec.ofChange limitLawsWrong)

/-- 'foliotlaw02.LimitPoints': WHATEVER THE INPUT: true; the input reads as it did. -/
def limitPointsSpec : ChangeSpec := { name := "limitPoints", fn := fun _ => fun
  | [d1, d2, d3] => { results := [.lit (.bool true)], args := [d1, d2, d3] }
  | _ => none }
def limitPointsRow : OpenClaim := { program := "ytppfneockckkgaa", sum := "72b1d649587e48f16dc334973c3ce9659c4b9c678ce8cc2d102c789da3102dae", func := "foliot/foliotlaw02.LimitPoints", spec := "limitPoints", unfollowed := true, recurses := true, apart := false }
def LimitPointsSaid : Prop := limitPointsRow.holds Try.pinned (OpenSpec.ofChange limitPointsSpec)

/-- ITS FALSE NEIGHBOUR: 'it returns false'. Refute it at one input. -/
def limitPointsWrong : ChangeSpec := { name := "limitPoints", fn := fun _ => fun
  | [d1, d2, d3] => { results := [.lit (.bool false)], args := [d1, d2, d3] }
  | _ => none }
def LimitPointsWrongFalsely : Prop := limitPointsRow.holds Try.pinned (OpenSpec.ofChange limitPointsWrong)

/-- 'foliotlaw02.LimitForms': WHATEVER THE INPUT: true; the input reads as it did. -/
def limitFormsSpec : ChangeSpec := { name := "limitForms", fn := fun _ => fun
  | [d] => { results := [.lit (.bool true)], args := [d] }
  | _ => none }
def limitFormsRow : OpenClaim := { program := "ytppfneockckkgaa", sum := "72b1d649587e48f16dc334973c3ce9659c4b9c678ce8cc2d102c789da3102dae", func := "foliot/foliotlaw02.LimitForms", spec := "limitForms", unfollowed := true, recurses := true, apart := false }
def LimitFormsSaid : Prop := limitFormsRow.holds Try.pinned (OpenSpec.ofChange limitFormsSpec)

/-- ITS FALSE NEIGHBOUR: 'it returns false'. Refute it at one input. -/
def limitFormsWrong : ChangeSpec := { name := "limitForms", fn := fun _ => fun
  | [d] => { results := [.lit (.bool false)], args := [d] }
  | _ => none }
def LimitFormsWrongFalsely : Prop := limitFormsRow.holds Try.pinned (OpenSpec.ofChange limitFormsWrong)

/- THE SECOND FORM. 'bulk': how many values and letters a reading holds, each counted each time it is reached (what is shared counts as often as it is met; a slice's spare places count too). A statement '..UptoSaid' is the law's where the arguments, and the package variables that the reading takes, are together of bulk at most 1048576: NARROWER than '..Said'. Prove '..Said' where nothing that the law and all that it calls make is longer than what came in: it says more and counts as full. Else prove '..UptoSaid'. A law counts once. -/
mutual
def uptoBulk {H : Type} : DataW H → Nat
  | .lit (.string bytes) => bytes.length + 1
  | .lit _ => 1
  | .nil => 1
  | .ptr d => uptoBulk d + 1
  | .slice elems spare => uptoBulkAll elems + uptoBulkAll spare + 1
  | .agg parts => uptoBulkAll parts + 1
  | .iface _ d => uptoBulk d + 1
  | .map entries => uptoBulkEntries entries + 1
  | .held _ => 1
def uptoBulkAll {H : Type} : List (DataW H) → Nat
  | [] => 0
  | d :: r => uptoBulk d + uptoBulkAll r
def uptoBulkEntries {H : Type} : List (Lit × DataW H) → Nat
  | [] => 0
  | x :: r => uptoBulkEntry x + uptoBulkEntries r
def uptoBulkEntry {H : Type} : Lit × DataW H → Nat
  | (.string bytes, d) => bytes.length + uptoBulk d + 1
  | (_, d) => uptoBulk d + 1
 end
def uptoSmall : (H : Type) → List (DataW H) → Bool := fun _ ds => decide (uptoBulkAll ds ≤ 1048576)
def OpenSpec.upto (s : _root_.Go.ChangeSpec) : _root_.Go.OpenSpec := { _root_.Go.OpenSpec.ofChange s with cond := some uptoSmall }

/-- 'foliotlaw02.LimitSums', WHERE WHAT IT READS IS OF BULK AT MOST 1048576: true; the input reads as it did. -/
def limitSumsUptoRow : OpenClaim := { program := "ytppfneockckkgaa", sum := "72b1d649587e48f16dc334973c3ce9659c4b9c678ce8cc2d102c789da3102dae", func := "foliot/foliotlaw02.LimitSums", spec := "limitSums", unfollowed := true, recurses := true, apart := false, narrowed := true }
def LimitSumsUptoSaid : Prop := limitSumsUptoRow.holds Try.pinned (OpenSpec.upto limitSumsSpec)

/-- 'foliotlaw02.LimitMeets', WHERE WHAT IT READS IS OF BULK AT MOST 1048576: true; the input reads as it did. -/
def limitMeetsUptoRow : OpenClaim := { program := "ytppfneockckkgaa", sum := "72b1d649587e48f16dc334973c3ce9659c4b9c678ce8cc2d102c789da3102dae", func := "foliot/foliotlaw02.LimitMeets", spec := "limitMeets", unfollowed := true, recurses := true, apart := false, narrowed := true }
def LimitMeetsUptoSaid : Prop := limitMeetsUptoRow.holds Try.pinned (OpenSpec.upto limitMeetsSpec)

/-- 'foliotlaw02.LimitLaws', WHERE WHAT IT READS IS OF BULK AT MOST 1048576: true; the input reads as it did. -/
def limitLawsUptoRow : OpenClaim := { program := "ytppfneockckkgaa", sum := "72b1d649587e48f16dc334973c3ce9659c4b9c678ce8cc2d102c789da3102dae", func := "foliot/foliotlaw02.LimitLaws", spec := "limitLaws", unfollowed := true, recurses := true, apart := false, narrowed := true }
def LimitLawsUptoSaid : Prop := limitLawsUptoRow.holds Try.pinned (OpenSpec.upto limitLawsSpec)

/-- 'foliotlaw02.LimitPoints', WHERE WHAT IT READS IS OF BULK AT MOST 1048576: true; the input reads as it did. -/
def limitPointsUptoRow : OpenClaim := { program := "ytppfneockckkgaa", sum := "72b1d649587e48f16dc334973c3ce9659c4b9c678ce8cc2d102c789da3102dae", func := "foliot/foliotlaw02.LimitPoints", spec := "limitPoints", unfollowed := true, recurses := true, apart := false, narrowed := true }
def LimitPointsUptoSaid : Prop := limitPointsUptoRow.holds Try.pinned (OpenSpec.upto limitPointsSpec)

/-- 'foliotlaw02.LimitForms', WHERE WHAT IT READS IS OF BULK AT MOST 1048576: true; the input reads as it did. -/
def limitFormsUptoRow : OpenClaim := { program := "ytppfneockckkgaa", sum := "72b1d649587e48f16dc334973c3ce9659c4b9c678ce8cc2d102c789da3102dae", func := "foliot/foliotlaw02.LimitForms", spec := "limitForms", unfollowed := true, recurses := true, apart := false, narrowed := true }
def LimitFormsUptoSaid : Prop := limitFormsUptoRow.holds Try.pinned (OpenSpec.upto limitFormsSpec)

end Rows
end Go.Proofs.Ytppfneockckkgaa
