/-
  No cell of these rows narrows 'for every input' (looked for: loops, veiled, ifaces, maps, wideKeys, modest, calm, conditions, laid).
  DERIVED. THE GIVEN ROWS OF THIS SEAT. 6 by the template 'for every input the law returns true; each argument reads behind the call as it read before'; 0 by the template 'total and deterministic' (their statements: YtehifcgfgejjcaaTotals.lean).
  GIVEN WITH THE SEED: the statements are not yours to turn. If you find one false, say at which input.
  Laid BY PROGRAM, IN A SANDBOX (cutbox-rows.mjs): the forced cells as the released guide's own fill.sh prints them over the translation 5020aa0c621732cd… (all of the seat's roots in one cut). By AI agents, Wed Nov 11 2026. No macro, syntax, notation, axiom, sorry.
-/
import Derived.Test.YtehifcgfgejjcaaChecked
import GoSem.Claim
import GoSem.ClaimJoined
import GoSem.ClaimMapViews
import Derived.JoinedTies
import Derived.KernelRfl
namespace Go.Proofs.Ytehifcgfgejjcaa
/- THE CELL 'sum', in the pinned program and in every row, IS THE sha256 OF THE DUMP (.gsa) THAT YtehifcgfgejjcaaProg.lean LOADS. Nothing in Lean hashes anything: it is a label: what it is worth is what the hold of that sum in a sandbox is worth. -/
noncomputable def Try.pinned : Pinned := { name := "ytehifcgfgejjcaa", sum := "5020aa0c621732cd16d2a9ccec8c3e9c1edbe97069c29bee14afbc849998a927", checked := Try.checked }
namespace Rows
def none {H : Type} : Left H := { results := [], args := [] }

/-- 'foliotlaw01.RatioMiddles': WHATEVER THE INPUT: true; the input reads as it did. -/
def ratioMiddlesSpec : ChangeSpec := { name := "ratioMiddles", fn := fun _ => fun
  | [d1, d2] => { results := [.lit (.bool true)], args := [d1, d2] }
  | _ => none }
def ratioMiddlesRow : OpenClaim := { program := "ytehifcgfgejjcaa", sum := "5020aa0c621732cd16d2a9ccec8c3e9c1edbe97069c29bee14afbc849998a927", func := "foliot/foliotlaw01.RatioMiddles", spec := "ratioMiddles", unfollowed := true, recurses := true, apart := false }
def RatioMiddlesSaid : Prop := ratioMiddlesRow.holds Try.pinned (OpenSpec.ofChange ratioMiddlesSpec)

/-- ITS FALSE NEIGHBOUR: 'it returns false'. Refute it at one input. -/
def ratioMiddlesWrong : ChangeSpec := { name := "ratioMiddles", fn := fun _ => fun
  | [d1, d2] => { results := [.lit (.bool false)], args := [d1, d2] }
  | _ => none }
def RatioMiddlesWrongFalsely : Prop := ratioMiddlesRow.holds Try.pinned (OpenSpec.ofChange ratioMiddlesWrong)

/-- 'foliotlaw01.RatioTexts': WHATEVER THE INPUT: true; the input reads as it did. -/
def ratioTextsSpec : ChangeSpec := { name := "ratioTexts", fn := fun _ => fun
  | [d1, d2] => { results := [.lit (.bool true)], args := [d1, d2] }
  | _ => none }
def ratioTextsRow : OpenClaim := { program := "ytehifcgfgejjcaa", sum := "5020aa0c621732cd16d2a9ccec8c3e9c1edbe97069c29bee14afbc849998a927", func := "foliot/foliotlaw01.RatioTexts", spec := "ratioTexts", unfollowed := true, recurses := true, apart := false }
def RatioTextsSaid : Prop := ratioTextsRow.holds Try.pinned (OpenSpec.ofChange ratioTextsSpec)

/-- ITS FALSE NEIGHBOUR: 'it returns false'. Refute it at one input. -/
def ratioTextsWrong : ChangeSpec := { name := "ratioTexts", fn := fun _ => fun
  | [d1, d2] => { results := [.lit (.bool false)], args := [d1, d2] }
  | _ => none }
def RatioTextsWrongFalsely : Prop := ratioTextsRow.holds Try.pinned (OpenSpec.ofChange ratioTextsWrong)

/-- 'foliotlaw01.RatioBetween': WHATEVER THE INPUT: true; the input reads as it did. -/
def ratioBetweenSpec : ChangeSpec := { name := "ratioBetween", fn := fun _ => fun
  | [d1, d2, d3] => { results := [.lit (.bool true)], args := [d1, d2, d3] }
  | _ => none }
def ratioBetweenRow : OpenClaim := { program := "ytehifcgfgejjcaa", sum := "5020aa0c621732cd16d2a9ccec8c3e9c1edbe97069c29bee14afbc849998a927", func := "foliot/foliotlaw01.RatioBetween", spec := "ratioBetween", unfollowed := true, recurses := true, apart := false }
def RatioBetweenSaid : Prop := ratioBetweenRow.holds Try.pinned (OpenSpec.ofChange ratioBetweenSpec)

/-- ITS FALSE NEIGHBOUR: 'it returns false'. Refute it at one input. -/
def ratioBetweenWrong : ChangeSpec := { name := "ratioBetween", fn := fun _ => fun
  | [d1, d2, d3] => { results := [.lit (.bool false)], args := [d1, d2, d3] }
  | _ => none }
def RatioBetweenWrongFalsely : Prop := ratioBetweenRow.holds Try.pinned (OpenSpec.ofChange ratioBetweenWrong)

/-- 'foliotlaw01.RatioSums': WHATEVER THE INPUT: true; the input reads as it did. -/
def ratioSumsSpec : ChangeSpec := { name := "ratioSums", fn := fun _ => fun
  | [d1, d2] => { results := [.lit (.bool true)], args := [d1, d2] }
  | _ => none }
def ratioSumsRow : OpenClaim := { program := "ytehifcgfgejjcaa", sum := "5020aa0c621732cd16d2a9ccec8c3e9c1edbe97069c29bee14afbc849998a927", func := "foliot/foliotlaw01.RatioSums", spec := "ratioSums", unfollowed := true, recurses := true, apart := false }
def RatioSumsSaid : Prop := ratioSumsRow.holds Try.pinned (OpenSpec.ofChange ratioSumsSpec)

/-- ITS FALSE NEIGHBOUR: 'it returns false'. Refute it at one input. -/
def ratioSumsWrong : ChangeSpec := { name := "ratioSums", fn := fun _ => fun
  | [d1, d2] => { results := [.lit (.bool false)], args := [d1, d2] }
  | _ => none }
def RatioSumsWrongFalsely : Prop := ratioSumsRow.holds Try.pinned (OpenSpec.ofChange ratioSumsWrong)

/-- 'foliotlaw01.RatioLaws': WHATEVER THE INPUT: true; the input reads as it did. -/
def ratioLawsSpec : ChangeSpec := { name := "ratioLaws", fn := fun _ => fun
  | [d1, d2, d3] => { results := [.lit (.bool true)], args := [d1, d2, d3] }
  | _ => none }
def ratioLawsRow : OpenClaim := { program := "ytehifcgfgejjcaa", sum := "5020aa0c621732cd16d2a9ccec8c3e9c1edbe97069c29bee14afbc849998a927", func := "foliot/foliotlaw01.RatioLaws", spec := "ratioLaws", unfollowed := true, recurses := true, apart := false }
def RatioLawsSaid : Prop := ratioLawsRow.holds Try.pinned (OpenSpec.ofChange ratioLawsSpec)

/-- ITS FALSE NEIGHBOUR: 'it returns false'. Refute it at one input. -/
def ratioLawsWrong : ChangeSpec := { name := "ratioLaws", fn := fun _ => fun
  | [d1, d2, d3] => { results := [.lit (.bool false)], args := [d1, d2, d3] }
  | _ => none }
def RatioLawsWrongFalsely : Prop := ratioLawsRow.holds Try.pinned (OpenSpec.ofChange ratioLawsWrong)

/-- 'foliotlaw01.RatioMakes': WHATEVER THE INPUT: true; the input reads as it did. -/
def ratioMakesSpec : ChangeSpec := { name := "ratioMakes", fn := fun _ => fun
  | [d1, d2] => { results := [.lit (.bool true)], args := [d1, d2] }
  | _ => none }
def ratioMakesRow : OpenClaim := { program := "ytehifcgfgejjcaa", sum := "5020aa0c621732cd16d2a9ccec8c3e9c1edbe97069c29bee14afbc849998a927", func := "foliot/foliotlaw01.RatioMakes", spec := "ratioMakes", unfollowed := true, recurses := true, apart := false }
def RatioMakesSaid : Prop := ratioMakesRow.holds Try.pinned (OpenSpec.ofChange ratioMakesSpec)

/-- ITS FALSE NEIGHBOUR: 'it returns false'. Refute it at one input. -/
def ratioMakesWrong : ChangeSpec := { name := "ratioMakes", fn := fun _ => fun
  | [d1, d2] => { results := [.lit (.bool false)], args := [d1, d2] }
  | _ => none }
def RatioMakesWrongFalsely : Prop := ratioMakesRow.holds Try.pinned (OpenSpec.ofChange ratioMakesWrong)

/- THE SECOND FORM. 'bulk': how many values and letters a reading holds, each counted each time it is reached (what is shared counts as often as it is met; a slice's spare places count too). A statement '..UptoSaid' is the law's where the arguments, and the package variables that the reading takes, are together of bulk at most 1048576: NARROWER than '..Said'. Prove '..Said' where nothing that the law and all that it calls make is longer than what came in: it says more and counts as full. Else prove '..UptoSaid'. A law counts once. -/
mutual
def uptoBulk {H : Type} : DataW H → Nat
  | .lit (.string bytes) => bytes.length + 1
  | .lit _ => 1
  | .nil => 1
  | .ptr d => uptoBulk d + 1
  | .slice elems spare => uptoBulkAll elems + uptoBulkAll spare + 1
  | .agg parts => uptoBulkAll parts + 1
  | .iface _ d => uptoBulk d + 1
  | .map entries => uptoBulkEntries entries + 1
  | .held _ => 1
def uptoBulkAll {H : Type} : List (DataW H) → Nat
  | [] => 0
  | d :: r => uptoBulk d + uptoBulkAll r
def uptoBulkEntries {H : Type} : List (Lit × DataW H) → Nat
  | [] => 0
  | x :: r => uptoBulkEntry x + uptoBulkEntries r
def uptoBulkEntry {H : Type} : Lit × DataW H → Nat
  | (.string bytes, d) => bytes.length + uptoBulk d + 1
  | (_, d) => uptoBulk d + 1
 end
def uptoSmall : (H : Type) → List (DataW H) → Bool := fun _ ds => decide (uptoBulkAll ds ≤ 1048576)
def OpenSpec.upto (s : _root_.Go.ChangeSpec) : _root_.Go.OpenSpec := { _root_.Go.OpenSpec.ofChange s with cond := some uptoSmall }

/-- 'foliotlaw01.RatioMiddles', WHERE WHAT IT READS IS OF BULK AT MOST 1048576: true; the input reads as it did. -/
def ratioMiddlesUptoRow : OpenClaim := { program := "ytehifcgfgejjcaa", sum := "5020aa0c621732cd16d2a9ccec8c3e9c1edbe97069c29bee14afbc849998a927", func := "foliot/foliotlaw01.RatioMiddles", spec := "ratioMiddles", unfollowed := true, recurses := true, apart := false, narrowed := true }
def RatioMiddlesUptoSaid : Prop := ratioMiddlesUptoRow.holds Try.pinned (OpenSpec.upto ratioMiddlesSpec)

/-- 'foliotlaw01.RatioTexts', WHERE WHAT IT READS IS OF BULK AT MOST 1048576: true; the input reads as it did. -/
def ratioTextsUptoRow : OpenClaim := { program := "ytehifcgfgejjcaa", sum := "5020aa0c621732cd16d2a9ccec8c3e9c1edbe97069c29bee14afbc849998a927", func := "foliot/foliotlaw01.RatioTexts", spec := "ratioTexts", unfollowed := true, recurses := true, apart := false, narrowed := true }
def RatioTextsUptoSaid : Prop := ratioTextsUptoRow.holds Try.pinned (OpenSpec.upto ratioTextsSpec)

/-- 'foliotlaw01.RatioBetween', WHERE WHAT IT READS IS OF BULK AT MOST 1048576: true; the input reads as it did. -/
def ratioBetweenUptoRow : OpenClaim := { program := "ytehifcgfgejjcaa", sum := "5020aa0c621732cd16d2a9ccec8c3e9c1edbe97069c29bee14afbc849998a927", func := "foliot/foliotlaw01.RatioBetween", spec := "ratioBetween", unfollowed := true, recurses := true, apart := false, narrowed := true }
def RatioBetweenUptoSaid : Prop := ratioBetweenUptoRow.holds Try.pinned (OpenSpec.upto ratioBetweenSpec)

/-- 'foliotlaw01.RatioSums', WHERE WHAT IT READS IS OF BULK AT MOST 1048576: true; the input reads as it did. -/
def ratioSumsUptoRow : OpenClaim := { program := "ytehifcgfgejjcaa", sum := "5020aa0c621732cd16d2a9ccec8c3e9c1edbe97069c29bee14afbc849998a927", func := "foliot/foliotlaw01.RatioSums", spec := "ratioSums", unfollowed := true, recurses := true, apart := false, narrowed := true }
def RatioSumsUptoSaid : Prop := ratioSumsUptoRow.holds Try.pinned (OpenSpec.upto ratioSumsSpec)

/-- 'foliotlaw01.RatioLaws', WHERE WHAT IT READS IS OF BULK AT MOST 1048576: true; the input reads as it did. -/
def ratioLawsUptoRow : OpenClaim := { program := "ytehifcgfgejjcaa", sum := "5020aa0c621732cd16d2a9ccec8c3e9c1edbe97069c29bee14afbc849998a927", func := "foliot/foliotlaw01.RatioLaws", spec := "ratioLaws", unfollowed := true, recurses := true, apart := false, narrowed := true }
def RatioLawsUptoSaid : Prop := ratioLawsUptoRow.holds Try.pinned (OpenSpec.upto ratioLawsSpec)

/-- 'foliotlaw01.RatioMakes', WHERE WHAT IT READS IS OF BULK AT MOST 1048576: true; the input reads as it did. -/
def ratioMakesUptoRow : OpenClaim := { program := "ytehifcgfgejjcaa", sum := "5020aa0c621732cd16d2a9ccec8c3e9c1edbe97069c29bee14afbc849998a927", func := "foliot/foliotlaw01.RatioMakes", spec := "ratioMakes", unfollowed := true, recurses := true, apart := false, narrowed := true }
def RatioMakesUptoSaid : Prop := ratioMakesUptoRow.holds Try.pinned (OpenSpec.upto ratioMakesSpec)

end Rows
end Go.Proofs.Ytehifcgfgejjcaa
