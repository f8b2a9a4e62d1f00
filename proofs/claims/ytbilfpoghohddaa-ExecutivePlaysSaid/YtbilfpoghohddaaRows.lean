/-
  No cell of these rows narrows 'for every input' (looked for: loops, veiled, ifaces, maps, wideKeys, modest, calm, conditions, laid).
  DERIVED. THE GIVEN ROWS OF THIS SEAT. 6 by the template 'for every input the law returns true; each argument reads behind the call as it read before'; 0 by the template 'total and deterministic' (their statements: YtbilfpoghohddaaTotals.lean).
  GIVEN WITH THE SEED: the statements are not yours to turn. If you find one false, say at which input.
  Laid BY PROGRAM, IN A SANDBOX (cutbox-rows.mjs): the forced cells as the released guide's own fill.sh prints them over the translation 2bc28c6313ac0fc0… (all of the seat's roots in one cut). By AI agents, Wed Nov 11 2026. No macro, syntax, notation, axiom, sorry.
-/
import Derived.Test.YtbilfpoghohddaaChecked
import GoSem.Claim
import GoSem.ClaimJoined
import GoSem.ClaimMapViews
import Derived.JoinedTies
import Derived.KernelRfl
namespace Go.Proofs.Ytbilfpoghohddaa
/- THE CELL 'sum', in the pinned program and in every row, IS THE sha256 OF THE DUMP (.gsa) THAT YtbilfpoghohddaaProg.lean LOADS. Nothing in Lean hashes anything: it is a label: what it is worth is what the hold of that sum in a sandbox is worth. -/
noncomputable def Try.pinned : Pinned := { name := "ytbilfpoghohddaa", sum := "2bc28c6313ac0fc0dd5577a51b6f60671e7084e8b230845ff754adb60881dfff", checked := Try.checked }
namespace Rows
def none {H : Type} : Left H := { results := [], args := [] }

/-- 'foliotlaw38.ExecutivePlays': WHATEVER THE INPUT: true; the input reads as it did. -/
def executivePlaysSpec : ChangeSpec := { name := "executivePlays", fn := fun _ => fun
  | [d1, d2, d3] => { results := [.lit (.bool true)], args := [d1, d2, d3] }
  | _ => none }
def executivePlaysRow : OpenClaim := { program := "ytbilfpoghohddaa", sum := "2bc28c6313ac0fc0dd5577a51b6f60671e7084e8b230845ff754adb60881dfff", func := "foliot/foliotlaw38.ExecutivePlays", spec := "executivePlays", unfollowed := true, recurses := true, apart := false }
def ExecutivePlaysSaid : Prop := executivePlaysRow.holds Try.pinned (OpenSpec.ofChange executivePlaysSpec)

/-- ITS FALSE NEIGHBOUR: 'it returns false'. Refute it at one input. -/
def executivePlaysWrong : ChangeSpec := { name := "executivePlays", fn := fun _ => fun
  | [d1, d2, d3] => { results := [.lit (.bool false)], args := [d1, d2, d3] }
  | _ => none }
def ExecutivePlaysWrongFalsely : Prop := executivePlaysRow.holds Try.pinned (OpenSpec.ofChange executivePlaysWrong)

/-- 'foliotlaw38.ExecutiveNone': WHATEVER THE INPUT: true; the input reads as it did. -/
def executiveNoneSpec : ChangeSpec := { name := "executiveNone", fn := fun _ => fun
  | [d1, d2, d3] => { results := [.lit (.bool true)], args := [d1, d2, d3] }
  | _ => none }
def executiveNoneRow : OpenClaim := { program := "ytbilfpoghohddaa", sum := "2bc28c6313ac0fc0dd5577a51b6f60671e7084e8b230845ff754adb60881dfff", func := "foliot/foliotlaw38.ExecutiveNone", spec := "executiveNone", unfollowed := true, recurses := true, apart := false }
def ExecutiveNoneSaid : Prop := executiveNoneRow.holds Try.pinned (OpenSpec.ofChange executiveNoneSpec)

/-- ITS FALSE NEIGHBOUR: 'it returns false'. Refute it at one input. -/
def executiveNoneWrong : ChangeSpec := { name := "executiveNone", fn := fun _ => fun
  | [d1, d2, d3] => { results := [.lit (.bool false)], args := [d1, d2, d3] }
  | _ => none }
def ExecutiveNoneWrongFalsely : Prop := executiveNoneRow.holds Try.pinned (OpenSpec.ofChange executiveNoneWrong)

/-- 'foliotlaw38.ExecutiveKeeps': WHATEVER THE INPUT: true; the input reads as it did. -/
def executiveKeepsSpec : ChangeSpec := { name := "executiveKeeps", fn := fun _ => fun
  | [d1, d2, d3] => { results := [.lit (.bool true)], args := [d1, d2, d3] }
  | _ => none }
def executiveKeepsRow : OpenClaim := { program := "ytbilfpoghohddaa", sum := "2bc28c6313ac0fc0dd5577a51b6f60671e7084e8b230845ff754adb60881dfff", func := "foliot/foliotlaw38.ExecutiveKeeps", spec := "executiveKeeps", unfollowed := true, recurses := true, apart := false }
def ExecutiveKeepsSaid : Prop := executiveKeepsRow.holds Try.pinned (OpenSpec.ofChange executiveKeepsSpec)

/-- ITS FALSE NEIGHBOUR: 'it returns false'. Refute it at one input. -/
def executiveKeepsWrong : ChangeSpec := { name := "executiveKeeps", fn := fun _ => fun
  | [d1, d2, d3] => { results := [.lit (.bool false)], args := [d1, d2, d3] }
  | _ => none }
def ExecutiveKeepsWrongFalsely : Prop := executiveKeepsRow.holds Try.pinned (OpenSpec.ofChange executiveKeepsWrong)

/-- 'foliotlaw37.TablesMakes': WHATEVER THE INPUT: true; the input reads as it did. -/
def tablesMakesSpec : ChangeSpec := { name := "tablesMakes", fn := fun _ => fun
  | [d1, d2, d3] => { results := [.lit (.bool true)], args := [d1, d2, d3] }
  | _ => none }
def tablesMakesRow : OpenClaim := { program := "ytbilfpoghohddaa", sum := "2bc28c6313ac0fc0dd5577a51b6f60671e7084e8b230845ff754adb60881dfff", func := "foliot/foliotlaw37.TablesMakes", spec := "tablesMakes", unfollowed := true, recurses := true, apart := false }
def TablesMakesSaid : Prop := tablesMakesRow.holds Try.pinned (OpenSpec.ofChange tablesMakesSpec)

/-- ITS FALSE NEIGHBOUR: 'it returns false'. Refute it at one input. -/
def tablesMakesWrong : ChangeSpec := { name := "tablesMakes", fn := fun _ => fun
  | [d1, d2, d3] => { results := [.lit (.bool false)], args := [d1, d2, d3] }
  | _ => none }
def TablesMakesWrongFalsely : Prop := tablesMakesRow.holds Try.pinned (OpenSpec.ofChange tablesMakesWrong)

/-- 'foliotlaw37.TablesServe': WHATEVER THE INPUT: true; the input reads as it did. -/
def tablesServeSpec : ChangeSpec := { name := "tablesServe", fn := fun _ => fun
  | [d1, d2] => { results := [.lit (.bool true)], args := [d1, d2] }
  | _ => none }
def tablesServeRow : OpenClaim := { program := "ytbilfpoghohddaa", sum := "2bc28c6313ac0fc0dd5577a51b6f60671e7084e8b230845ff754adb60881dfff", func := "foliot/foliotlaw37.TablesServe", spec := "tablesServe", unfollowed := true, recurses := true, apart := false }
def TablesServeSaid : Prop := tablesServeRow.holds Try.pinned (OpenSpec.ofChange tablesServeSpec)

/-- ITS FALSE NEIGHBOUR: 'it returns false'. Refute it at one input. -/
def tablesServeWrong : ChangeSpec := { name := "tablesServe", fn := fun _ => fun
  | [d1, d2] => { results := [.lit (.bool false)], args := [d1, d2] }
  | _ => none }
def TablesServeWrongFalsely : Prop := tablesServeRow.holds Try.pinned (OpenSpec.ofChange tablesServeWrong)

/-- 'foliottop.TopMachines': WHATEVER THE INPUT: true; the input reads as it did. -/
def topMachinesSpec : ChangeSpec := { name := "topMachines", fn := fun _ => fun
  | [d1, d2] => { results := [.lit (.bool true)], args := [d1, d2] }
  | _ => none }
def topMachinesRow : OpenClaim := { program := "ytbilfpoghohddaa", sum := "2bc28c6313ac0fc0dd5577a51b6f60671e7084e8b230845ff754adb60881dfff", func := "foliot/foliottop.TopMachines", spec := "topMachines", unfollowed := true, recurses := true, apart := false }
def TopMachinesSaid : Prop := topMachinesRow.holds Try.pinned (OpenSpec.ofChange topMachinesSpec)

/-- ITS FALSE NEIGHBOUR: 'it returns false'. Refute it at one input. -/
def topMachinesWrong : ChangeSpec := { name := "topMachines", fn := fun _ => fun
  | [d1, d2] => { results := [.lit (.bool false)], args := [d1, d2] }
  | _ => none }
def TopMachinesWrongFalsely : Prop := topMachinesRow.holds Try.pinned (OpenSpec.ofChange topMachinesWrong)

/- THE SECOND FORM. 'bulk': how many values and letters a reading holds, each counted each time it is reached (what is shared counts as often as it is met; a slice's spare places count too). A statement '..UptoSaid' is the law's where the arguments, and the package variables that the reading takes, are together of bulk at most 1048576: NARROWER than '..Said'. Prove '..Said' where nothing that the law and all that it calls make is longer than what came in: it says more and counts as full. Else prove '..UptoSaid'. A law counts once. -/
mutual
def uptoBulk {H : Type} : DataW H → Nat
  | .lit (.string bytes) => bytes.length + 1
  | .lit _ => 1
  | .nil => 1
  | .ptr d => uptoBulk d + 1
  | .slice elems spare => uptoBulkAll elems + uptoBulkAll spare + 1
  | .agg parts => uptoBulkAll parts + 1
  | .iface _ d => uptoBulk d + 1
  | .map entries => uptoBulkEntries entries + 1
  | .held _ => 1
def uptoBulkAll {H : Type} : List (DataW H) → Nat
  | [] => 0
  | d :: r => uptoBulk d + uptoBulkAll r
def uptoBulkEntries {H : Type} : List (Lit × DataW H) → Nat
  | [] => 0
  | x :: r => uptoBulkEntry x + uptoBulkEntries r
def uptoBulkEntry {H : Type} : Lit × DataW H → Nat
  | (.string bytes, d) => bytes.length + uptoBulk d + 1
  | (_, d) => uptoBulk d + 1
 end
def uptoSmall : (H : Type) → List (DataW H) → Bool := fun _ ds => decide (uptoBulkAll ds ≤ 1048576)
def OpenSpec.upto (s : _root_.Go.ChangeSpec) : _root_.Go.OpenSpec := { _root_.Go.OpenSpec.ofChange s with cond := some uptoSmall }

/-- 'foliotlaw38.ExecutivePlays', WHERE WHAT IT READS IS OF BULK AT MOST 1048576: true; the input reads as it did. -/
def executivePlaysUptoRow : OpenClaim := { program := "ytbilfpoghohddaa", sum := "2bc28c6313ac0fc0dd5577a51b6f60671e7084e8b230845ff754adb60881dfff", func := "foliot/foliotlaw38.ExecutivePlays", spec := "executivePlays", unfollowed := true, recurses := true, apart := false, narrowed := true }
def ExecutivePlaysUptoSaid : Prop := executivePlaysUptoRow.holds Try.pinned (OpenSpec.upto executivePlaysSpec)

/-- 'foliotlaw38.ExecutiveNone', WHERE WHAT IT READS IS OF BULK AT MOST 1048576: true; the input reads as it did. -/
def executiveNoneUptoRow : OpenClaim := { program := "ytbilfpoghohddaa", sum := "2bc28c6313ac0fc0dd5577a51b6f60671e7084e8b230845ff754adb60881dfff", func := "foliot/foliotlaw38.ExecutiveNone", spec := "executiveNone", unfollowed := true, recurses := true, apart := false, narrowed := true }
def ExecutiveNoneUptoSaid : Prop := executiveNoneUptoRow.holds Try.pinned (OpenSpec.upto executiveNoneSpec)

/-- 'foliotlaw38.ExecutiveKeeps', WHERE WHAT IT READS IS OF BULK AT MOST 1048576: true; the input reads as it did. -/
def executiveKeepsUptoRow : OpenClaim := { program := "ytbilfpoghohddaa", sum := "2bc28c6313ac0fc0dd5577a51b6f60671e7084e8b230845ff754adb60881dfff", func := "foliot/foliotlaw38.ExecutiveKeeps", spec := "executiveKeeps", unfollowed := true, recurses := true, apart := false, narrowed := true }
def ExecutiveKeepsUptoSaid : Prop := executiveKeepsUptoRow.holds Try.pinned (OpenSpec.upto executiveKeepsSpec)

/-- 'foliotlaw37.TablesMakes', WHERE WHAT IT READS IS OF BULK AT MOST 1048576: true; the input reads as it did. -/
def tablesMakesUptoRow : OpenClaim := { program := "ytbilfpoghohddaa", sum := "2bc28c6313ac0fc0dd5577a51b6f60671e7084e8b230845ff754adb60881dfff", func := "foliot/foliotlaw37.TablesMakes", spec := "tablesMakes", unfollowed := true, recurses := true, apart := false, narrowed := true }
def TablesMakesUptoSaid : Prop := tablesMakesUptoRow.holds Try.pinned (OpenSpec.upto tablesMakesSpec)

/-- 'foliotlaw37.TablesServe', WHERE WHAT IT READS IS OF BULK AT MOST 1048576: true; the input reads as it did. -/
def tablesServeUptoRow : OpenClaim := { program := "ytbilfpoghohddaa", sum := "2bc28c6313ac0fc0dd5577a51b6f60671e7084e8b230845ff754adb60881dfff", func := "foliot/foliotlaw37.TablesServe", spec := "tablesServe", unfollowed := true, recurses := true, apart := false, narrowed := true }
def TablesServeUptoSaid : Prop := tablesServeUptoRow.holds Try.pinned (OpenSpec.upto tablesServeSpec)

/-- 'foliottop.TopMachines', WHERE WHAT IT READS IS OF BULK AT MOST 1048576: true; the input reads as it did. -/
def topMachinesUptoRow : OpenClaim := { program := "ytbilfpoghohddaa", sum := "2bc28c6313ac0fc0dd5577a51b6f60671e7084e8b230845ff754adb60881dfff", func := "foliot/foliottop.TopMachines", spec := "topMachines", unfollowed := true, recurses := true, apart := false, narrowed := true }
def TopMachinesUptoSaid : Prop := topMachinesUptoRow.holds Try.pinned (OpenSpec.upto topMachinesSpec)

end Rows
end Go.Proofs.Ytbilfpoghohddaa
