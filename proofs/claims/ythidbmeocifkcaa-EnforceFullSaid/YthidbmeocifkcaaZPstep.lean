import Derived.Test.YthidbmeocifkcaaZPstepm
import Derived.Deep.CutRange
namespace Go.Proofs.Ythidbmeocifkcaa
open Go.RowKit
/-- the property lies at the start of this block -/
structure PropCells (w : World) (b : Nat) (p : PP) (gv ev : Value) : Prop where
  lt : b < w.heap.size
  c0 : w.cell? ⟨b, 0, none⟩ = some (.int .i64 p.evs)
  c1 : w.cell? ⟨b, 1, none⟩ = some (.int .i64 p.clks)
  c2 : w.cell? ⟨b, 2, none⟩ = some (.int .i64 p.ini)
  c3 : w.cell? ⟨b, 3, none⟩ = some gv
  c4 : w.cell? ⟨b, 4, none⟩ = some ev
def zero4 : List Value := [.int .i64 0, .int .i64 0, .int .i64 0, .int .i64 0]
def openSp (l : List (Int × Int)) (cl : List Int) : Nat → Bool
  | 0 => true
  | k + 1 => openSp l cl k && (decide ((l.getD k (0, 0)).1 ≤ cl.getD k 0) && decide (cl.getD k 0 ≤ (l.getD k (0, 0)).2))
theorem openSp_iff (l : List (Int × Int)) (cl : List Int) : ∀ k, openSp l cl k = true ↔ ∀ i : Nat, i < k → (l.getD i (0, 0)).1 ≤ cl.getD i 0 ∧ cl.getD i 0 ≤ (l.getD i (0, 0)).2
  | 0 => by simp [openSp]
  | k + 1 => by
    simp only [openSp, Bool.and_eq_true, decide_eq_true_eq]
    rw [openSp_iff l cl k]
    constructor
    · rintro ⟨h1, h2⟩ i hi
      by_cases e : i = k
      · subst e; exact h2
      · exact h1 i (by omega)
    · exact fun h => ⟨fun i hi => h i (by omega), h k (by omega)⟩
theorem openSp_eq {n : Nat} {g : List PC} (hg : ∀ c ∈ g, pcBad n c = false) {cl : List Int} (hcl : ClOk cl) (hn : n ≤ 3) : openSp (spansM n g) cl n = openF g cl n := by
  rw [Bool.eq_iff_iff, openSp_iff, openF_spans hg hcl n hn (by omega)]
end Go.Proofs.Ythidbmeocifkcaa
