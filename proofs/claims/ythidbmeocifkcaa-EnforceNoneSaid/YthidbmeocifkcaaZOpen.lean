/- any seat: a slice argument, opened: its elements as a list. -/
import Derived.Test.YthidbmeocifkcaaRows
import Derived.ProofKit
import Derived.OpenShut
import Derived.ChangeOld
import Derived.ChangeArms
import Derived.Deep.Slices
import Derived.Test.YthidbmeocifkcaaG1
namespace Go.Proofs.Ythidbmeocifkcaa
open Go.ChangeShapes Go.WideShapes Go.ChangeAt Go.RowKit Go.Deep
theorem i64_of {n : Int} (h : (Lit.int .i64 n).wf = true) : i64 n := by
  have e1 : IntKind.i64.min = -9223372036854775808 := by decide
  have e2 : IntKind.i64.max = 9223372036854775807 := by decide
  simp only [Lit.wf, e1, e2, Bool.and_eq_true, decide_eq_true_eq] at h
  exact h
theorem lt_of_cell {w : World} {a : Addr} {v : Value} (h : w.cell? a = some v) : a.block < w.heap.size := by
  rcases Nat.lt_or_ge a.block w.heap.size with h1 | h1
  · exact h1
  · unfold World.cell? at h; rw [Array.getElem?_eq_none h1] at h; cases h
theorem add_spot (b off k : Nat) : (⟨b, off, none⟩ : Addr).add k = ⟨b, off + k, none⟩ := by
  unfold Addr.add; split
  · subst_vars; rfl
  · rfl
/-- what is known of a slice argument's value -/
def RowsOf {α : Type} (d : α) (w : World) (v : Value) (l : List α) (size : Nat) (OK : α → List Value → Prop) : Prop :=
  l.length ≤ maxLen ∧ (∀ i, i < l.length → ∃ cs, OK (l.getD i d) cs) ∧ ∃ A c, v = .slice A l.length c ∧ l.length ≤ c ∧
    (0 < l.length → ∃ b off, A = some ⟨b, off, none⟩ ∧ b < w.heap.size ∧ ∀ i, i < l.length → ∃ cs, OK (l.getD i d) cs ∧ ∀ k, k < size → w.cell? ⟨b, off + i * size + k, none⟩ = cs[k]?)
section
variable {H : Type} {enc : TypeId × Value → H} {w : World} {base : Nat} {spare : Nat → Bool} {held : Bool}
theorem rows_open {α : Type} (d : α) {ty e : TypeId} {size : Nat} (hu : Try.prog.underlying ty = some (.slice e)) (hce : Try.prog.cellsOf e = size) (hs : 0 < size) (OK : α → List Value → Prop)
    (hel : ∀ {fuel : Nat} {cs : List Value} {y : DataW H × List MemPlace}, DataW.trod enc Try.prog w base spare held fuel e cs = some y → ∃ x, OK x cs)
    {fuel : Nat} {v : Value} {y : DataW H × List MemPlace} (h : DataW.trod enc Try.prog w base spare held fuel ty [v] = some y) : ∃ l : List α, RowsOf d w v l size OK := by
  rcases open_slice hu h with ⟨hcs, _⟩ | ⟨a, len, cap, m, n, D, Pl, hcs, _, hl, hm, hmm, _, hi⟩
  · simp at hcs; subst hcs
    exact ⟨[], by simp, fun i hi => by simp at hi, none, 0, rfl, by simp, fun h => by simp at h⟩
  · simp at hcs; subst hcs
    rw [hce] at hi
    have hlm : len ≤ m := by rw [hmm]; split <;> omega
    have he : ∀ i, i < len → ∃ p : α × List Value, OK p.1 p.2 ∧ p.2.length = size ∧ ∀ k, k < size → w.cell? ((a.add (i * size)).add k) = p.2[k]? := fun i hii => by
      obtain ⟨cs', hc, ht⟩ := hi i (by omega)
      obtain ⟨x, hx⟩ := hel ht
      obtain ⟨_, hlen, hat⟩ := World.cells?_some hc
      exact ⟨(x, cs'), hx, hlen, hat⟩
    have : ∃ f : Nat → α × List Value, ∀ i, i < len → OK (f i).1 (f i).2 ∧ (f i).2.length = size ∧ ∀ k, k < size → w.cell? ((a.add (i * size)).add k) = (f i).2[k]? :=
      ⟨fun i => if hx : i < len then Classical.choose (he i hx) else (d, []), fun i hx => by simp only [hx, dif_pos]; exact Classical.choose_spec (he i hx)⟩
    obtain ⟨f, hf⟩ := this
    have eq : ∀ i, i < len → ((List.range len).map fun j => (f j).1).getD i d = (f i).1 := fun i hii => by simp [List.getD, hii]
    refine ⟨(List.range len).map fun j => (f j).1, by simp; omega, fun i hii => ?_, some a, cap, by simp, by simpa using hl, fun h0 => ?_⟩
    · simp at hii
      rw [eq i hii]
      exact ⟨_, (hf i hii).1⟩
    · simp at h0
      obtain ⟨_, hl0, hk0⟩ := hf 0 (by omega)
      have hc0 := hk0 0 hs
      have : ∃ u, (f 0).2[0]? = some u := ⟨(f 0).2[0], by rw [List.getElem?_eq_getElem]⟩
      obtain ⟨u, hu0⟩ := this
      rw [hu0] at hc0
      have hsp : a.spot = none := by simpa [Addr.add] using World.cell?_spot hc0
      obtain ⟨b, off, sp⟩ := a
      simp at hsp; subst hsp
      refine ⟨b, off, rfl, by simpa [add_spot] using lt_of_cell hc0, fun i hii => ?_⟩
      simp at hii
      obtain ⟨hok, _, hk⟩ := hf i hii
      simp only [add_spot] at hk
      rw [eq i hii]
      exact ⟨_, hok, hk⟩
end
end Go.Proofs.Ythidbmeocifkcaa
