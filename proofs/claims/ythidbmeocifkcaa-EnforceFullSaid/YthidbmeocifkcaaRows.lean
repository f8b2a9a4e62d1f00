/-
  No cell of these rows narrows 'for every input' (looked for: loops, veiled, ifaces, maps, wideKeys, modest, calm, conditions, laid).
  DERIVED. THE GIVEN ROWS OF THIS SEAT. 6 by the template 'for every input the law returns true; each argument reads behind the call as it read before'; 0 by the template 'total and deterministic' (their statements: YthidbmeocifkcaaTotals.lean).
  GIVEN WITH THE SEED: the statements are not yours to turn. If you find one false, say at which input.
  Laid BY PROGRAM, IN A SANDBOX (cutbox-rows.mjs): the forced cells as the released guide's own fill.sh prints them over the translation 19d6ab76080624e7… (all of the seat's roots in one cut). By AI agents, Wed Nov 11 2026. No macro, syntax, notation, axiom, sorry.
-/
import Derived.Test.YthidbmeocifkcaaChecked
import GoSem.Claim
import GoSem.ClaimJoined
import GoSem.ClaimMapViews
import Derived.JoinedTies
import Derived.KernelRfl
namespace Go.Proofs.Ythidbmeocifkcaa
/- THE CELL 'sum', in the pinned program and in every row, IS THE sha256 OF THE DUMP (.gsa) THAT YthidbmeocifkcaaProg.lean LOADS. Nothing in Lean hashes anything: it is a label: what it is worth is what the hold of that sum in a sandbox is worth. -/
noncomputable def Try.pinned : Pinned := { name := "ythidbmeocifkcaa", sum := "19d6ab76080624e72c061616a103ad1a211fd2fb604f43ba9f1c39660a66ef11", checked := Try.checked }
namespace Rows
def none {H : Type} : Left H := { results := [], args := [] }

/-- 'foliotlaw36.EnforceBest': WHATEVER THE INPUT: true; the input reads as it did. -/
def enforceBestSpec : ChangeSpec := { name := "enforceBest", fn := fun _ => fun
  | [d1, d2] => { results := [.lit (.bool true)], args := [d1, d2] }
  | _ => none }
def enforceBestRow : OpenClaim := { program := "ythidbmeocifkcaa", sum := "19d6ab76080624e72c061616a103ad1a211fd2fb604f43ba9f1c39660a66ef11", func := "foliot/foliotlaw36.EnforceBest", spec := "enforceBest", unfollowed := true, recurses := true, plainKeys := false, apart := false }
def EnforceBestSaid : Prop := enforceBestRow.holds Try.pinned (OpenSpec.ofChange enforceBestSpec)

/-- ITS FALSE NEIGHBOUR: 'it returns false'. Refute it at one input. -/
def enforceBestWrong : ChangeSpec := { name := "enforceBest", fn := fun _ => fun
  | [d1, d2] => { results := [.lit (.bool false)], args := [d1, d2] }
  | _ => none }
def EnforceBestWrongFalsely : Prop := enforceBestRow.holds Try.pinned (OpenSpec.ofChange enforceBestWrong)

/-- 'foliotlaw36.EnforcePlays': WHATEVER THE INPUT: true; the input reads as it did. -/
def enforcePlaysSpec : ChangeSpec := { name := "enforcePlays", fn := fun _ => fun
  | [d1, d2] => { results := [.lit (.bool true)], args := [d1, d2] }
  | _ => none }
def enforcePlaysRow : OpenClaim := { program := "ythidbmeocifkcaa", sum := "19d6ab76080624e72c061616a103ad1a211fd2fb604f43ba9f1c39660a66ef11", func := "foliot/foliotlaw36.EnforcePlays", spec := "enforcePlays", unfollowed := true, recurses := true, plainKeys := false, apart := false }
def EnforcePlaysSaid : Prop := enforcePlaysRow.holds Try.pinned (OpenSpec.ofChange enforcePlaysSpec)

/-- ITS FALSE NEIGHBOUR: 'it returns false'. Refute it at one input. -/
def enforcePlaysWrong : ChangeSpec := { name := "enforcePlays", fn := fun _ => fun
  | [d1, d2] => { results := [.lit (.bool false)], args := [d1, d2] }
  | _ => none }
def EnforcePlaysWrongFalsely : Prop := enforcePlaysRow.holds Try.pinned (OpenSpec.ofChange enforcePlaysWrong)

/-- 'foliotlaw36.EnforceFull': WHATEVER THE INPUT: true; the input reads as it did. -/
def enforceFullSpec : ChangeSpec := { name := "enforceFull", fn := fun _ => fun
  | [d] => { results := [.lit (.bool true)], args := [d] }
  | _ => none }
def enforceFullRow : OpenClaim := { program := "ythidbmeocifkcaa", sum := "19d6ab76080624e72c061616a103ad1a211fd2fb604f43ba9f1c39660a66ef11", func := "foliot/foliotlaw36.EnforceFull", spec := "enforceFull", unfollowed := true, recurses := true, plainKeys := false, apart := false }
def EnforceFullSaid : Prop := enforceFullRow.holds Try.pinned (OpenSpec.ofChange enforceFullSpec)

/-- ITS FALSE NEIGHBOUR: 'it returns false'. Refute it at one input. -/
def enforceFullWrong : ChangeSpec := { name := "enforceFull", fn := fun _ => fun
  | [d] => { results := [.lit (.bool false)], args := [d] }
  | _ => none }
def EnforceFullWrongFalsely : Prop := enforceFullRow.holds Try.pinned (OpenSpec.ofChange enforceFullWrong)

/-- 'foliotlaw36.EnforceNone': WHATEVER THE INPUT: true; the input reads as it did. -/
def enforceNoneSpec : ChangeSpec := { name := "enforceNone", fn := fun _ => fun
  | [d] => { results := [.lit (.bool true)], args := [d] }
  | _ => none }
def enforceNoneRow : OpenClaim := { program := "ythidbmeocifkcaa", sum := "19d6ab76080624e72c061616a103ad1a211fd2fb604f43ba9f1c39660a66ef11", func := "foliot/foliotlaw36.EnforceNone", spec := "enforceNone", unfollowed := true, recurses := true, plainKeys := false, apart := false }
def EnforceNoneSaid : Prop := enforceNoneRow.holds Try.pinned (OpenSpec.ofChange enforceNoneSpec)

/-- ITS FALSE NEIGHBOUR: 'it returns false'. Refute it at one input. -/
def enforceNoneWrong : ChangeSpec := { name := "enforceNone", fn := fun _ => fun
  | [d] => { results := [.lit (.bool false)], args := [d] }
  | _ => none }
def EnforceNoneWrongFalsely : Prop := enforceNoneRow.holds Try.pinned (OpenSpec.ofChange enforceNoneWrong)

/-- 'foliotlaw36.EnforceMeets': WHATEVER THE INPUT: true; the input reads as it did. -/
def enforceMeetsSpec : ChangeSpec := { name := "enforceMeets", fn := fun _ => fun
  | [d1, d2] => { results := [.lit (.bool true)], args := [d1, d2] }
  | _ => none }
def enforceMeetsRow : OpenClaim := { program := "ythidbmeocifkcaa", sum := "19d6ab76080624e72c061616a103ad1a211fd2fb604f43ba9f1c39660a66ef11", func := "foliot/foliotlaw36.EnforceMeets", spec := "enforceMeets", unfollowed := true, recurses := true, plainKeys := false, apart := false }
def EnforceMeetsSaid : Prop := enforceMeetsRow.holds Try.pinned (OpenSpec.ofChange enforceMeetsSpec)

/-- ITS FALSE NEIGHBOUR: 'it returns false'. Refute it at one input. -/
def enforceMeetsWrong : ChangeSpec := { name := "enforceMeets", fn := fun _ => fun
  | [d1, d2] => { results := [.lit (.bool false)], args := [d1, d2] }
  | _ => none }
def EnforceMeetsWrongFalsely : Prop := enforceMeetsRow.holds Try.pinned (OpenSpec.ofChange enforceMeetsWrong)

/-- 'foliotlaw36.EnforcePasses': WHATEVER THE INPUT: true; the input reads as it did. -/
def enforcePassesSpec : ChangeSpec := { name := "enforcePasses", fn := fun _ => fun
  | [d1, d2] => { results := [.lit (.bool true)], args := [d1, d2] }
  | _ => none }
def enforcePassesRow : OpenClaim := { program := "ythidbmeocifkcaa", sum := "19d6ab76080624e72c061616a103ad1a211fd2fb604f43ba9f1c39660a66ef11", func := "foliot/foliotlaw36.EnforcePasses", spec := "enforcePasses", unfollowed := true, recurses := true, plainKeys := false, apart := false }
def EnforcePassesSaid : Prop := enforcePassesRow.holds Try.pinned (OpenSpec.ofChange enforcePassesSpec)

/-- ITS FALSE NEIGHBOUR: 'it returns false'. Refute it at one input. -/
def enforcePassesWrong : ChangeSpec := { name := "enforcePasses", fn := fun _ => fun
  | [d1, d2] => { results := [.lit (.bool false)], args := [d1, d2] }
  | _ => none }
def EnforcePassesWrongFalsely : Prop := enforcePassesRow.holds Try.pinned (OpenSpec.ofChange enforcePassesWrong)

/- THE SECOND FORM. 'bulk': how many values and letters a reading holds, each counted each time it is reached (what is shared counts as often as it is met; a slice's spare places count too). A statement '..UptoSaid' is the law's where the arguments, and the package variables that the reading takes, are together of bulk at most 1048576: NARROWER than '..Said'. Prove '..Said' where nothing that the law and all that it calls make is longer than what came in: it says more and counts as full. Else prove '..UptoSaid'. A law counts once. -/
mutual
def uptoBulk {H : Type} : DataW H → Nat
  | .lit (.string bytes) => bytes.length + 1
  | .lit _ => 1
  | .nil => 1
  | .ptr d => uptoBulk d + 1
  | .slice elems spare => uptoBulkAll elems + uptoBulkAll spare + 1
  | .agg parts => uptoBulkAll parts + 1
  | .iface _ d => uptoBulk d + 1
  | .map entries => uptoBulkEntries entries + 1
  | .held _ => 1
def uptoBulkAll {H : Type} : List (DataW H) → Nat
  | [] => 0
  | d :: r => uptoBulk d + uptoBulkAll r
def uptoBulkEntries {H : Type} : List (Lit × DataW H) → Nat
  | [] => 0
  | x :: r => uptoBulkEntry x + uptoBulkEntries r
def uptoBulkEntry {H : Type} : Lit × DataW H → Nat
  | (.string bytes, d) => bytes.length + uptoBulk d + 1
  | (_, d) => uptoBulk d + 1
 end
def uptoSmall : (H : Type) → List (DataW H) → Bool := fun _ ds => decide (uptoBulkAll ds ≤ 1048576)
def OpenSpec.upto (s : _root_.Go.ChangeSpec) : _root_.Go.OpenSpec := { _root_.Go.OpenSpec.ofChange s with cond := some uptoSmall }

/-- 'foliotlaw36.EnforceBest', WHERE WHAT IT READS IS OF BULK AT MOST 1048576: true; the input reads as it did. -/
def enforceBestUptoRow : OpenClaim := { program := "ythidbmeocifkcaa", sum := "19d6ab76080624e72c061616a103ad1a211fd2fb604f43ba9f1c39660a66ef11", func := "foliot/foliotlaw36.EnforceBest", spec := "enforceBest", unfollowed := true, recurses := true, plainKeys := false, apart := false, narrowed := true }
def EnforceBestUptoSaid : Prop := enforceBestUptoRow.holds Try.pinned (OpenSpec.upto enforceBestSpec)

/-- 'foliotlaw36.EnforcePlays', WHERE WHAT IT READS IS OF BULK AT MOST 1048576: true; the input reads as it did. -/
def enforcePlaysUptoRow : OpenClaim := { program := "ythidbmeocifkcaa", sum := "19d6ab76080624e72c061616a103ad1a211fd2fb604f43ba9f1c39660a66ef11", func := "foliot/foliotlaw36.EnforcePlays", spec := "enforcePlays", unfollowed := true, recurses := true, plainKeys := false, apart := false, narrowed := true }
def EnforcePlaysUptoSaid : Prop := enforcePlaysUptoRow.holds Try.pinned (OpenSpec.upto enforcePlaysSpec)

/-- 'foliotlaw36.EnforceFull', WHERE WHAT IT READS IS OF BULK AT MOST 1048576: true; the input reads as it did. -/
def enforceFullUptoRow : OpenClaim := { program := "ythidbmeocifkcaa", sum := "19d6ab76080624e72c061616a103ad1a211fd2fb604f43ba9f1c39660a66ef11", func := "foliot/foliotlaw36.EnforceFull", spec := "enforceFull", unfollowed := true, recurses := true, plainKeys := false, apart := false, narrowed := true }
def EnforceFullUptoSaid : Prop := enforceFullUptoRow.holds Try.pinned (OpenSpec.upto enforceFullSpec)

/-- 'foliotlaw36.EnforceNone', WHERE WHAT IT READS IS OF BULK AT MOST 1048576: true; the input reads as it did. -/
def enforceNoneUptoRow : OpenClaim := { program := "ythidbmeocifkcaa", sum := "19d6ab76080624e72c061616a103ad1a211fd2fb604f43ba9f1c39660a66ef11", func := "foliot/foliotlaw36.EnforceNone", spec := "enforceNone", unfollowed := true, recurses := true, plainKeys := false, apart := false, narrowed := true }
def EnforceNoneUptoSaid : Prop := enforceNoneUptoRow.holds Try.pinned (OpenSpec.upto enforceNoneSpec)

/-- 'foliotlaw36.EnforceMeets', WHERE WHAT IT READS IS OF BULK AT MOST 1048576: true; the input reads as it did. -/
def enforceMeetsUptoRow : OpenClaim := { program := "ythidbmeocifkcaa", sum := "19d6ab76080624e72c061616a103ad1a211fd2fb604f43ba9f1c39660a66ef11", func := "foliot/foliotlaw36.EnforceMeets", spec := "enforceMeets", unfollowed := true, recurses := true, plainKeys := false, apart := false, narrowed := true }
def EnforceMeetsUptoSaid : Prop := enforceMeetsUptoRow.holds Try.pinned (OpenSpec.upto enforceMeetsSpec)

/-- 'foliotlaw36.EnforcePasses', WHERE WHAT IT READS IS OF BULK AT MOST 1048576: true; the input reads as it did. -/
def enforcePassesUptoRow : OpenClaim := { program := "ythidbmeocifkcaa", sum := "19d6ab76080624e72c061616a103ad1a211fd2fb604f43ba9f1c39660a66ef11", func := "foliot/foliotlaw36.EnforcePasses", spec := "enforcePasses", unfollowed := true, recurses := true, plainKeys := false, apart := false, narrowed := true }
def EnforcePassesUptoSaid : Prop := enforcePassesUptoRow.holds Try.pinned (OpenSpec.upto enforcePassesSpec)

end Rows
end Go.Proofs.Ythidbmeocifkcaa
