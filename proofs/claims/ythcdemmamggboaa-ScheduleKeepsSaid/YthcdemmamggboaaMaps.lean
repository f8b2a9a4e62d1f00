import Derived.Test.YthcdemmamggboaaGen
import Derived.Maps.OwnOps
import Derived.Maps.Views
import Derived.Maps.Keyed
import Derived.Maps.OwnSet
namespace Go.Proofs.Ythcdemmamggboaa
open Go.RowKit Go.Maps

/-- block b is a map from k to bools (e), made by the call; m says what each key holds -/
def BSet (w : World) (P : Program) (k e : TypeId) (b n : Nat) (m : Lit → Bool) : Prop :=
  ∃ D : DataW Unit, w.ownsMap P k (plainElem P e) b n D ∧ IsMap D ∧ ∀ kl, WideAt.IsKeyLit kl → D.atKey kl (.lit (.bool false)) = .lit (.bool (m kl))
section
variable {P : Program} {k e t : TypeId} {w w' : World} {b n : Nat} {m : Lit → Bool}
theorem BSet.made (w : World) (P : Program) (k e : TypeId) : BSet (w.alloc (.map #[] 0)) P k e w.heap.size 0 (fun _ => false) :=
  ⟨.map [], World.ownsMap_made w P k _, isMap_empty, fun _ _ => rfl⟩
theorem BSet.lt (h : BSet w P k e b n m) : b < w.heap.size := let ⟨_, h, _⟩ := h; h.lt
theorem BSet.block (h : BSet w P k e b n m) (hb : w'.heap[b]? = w.heap[b]?) : BSet w' P k e b n m := by
  obtain ⟨D, ⟨es, clock, h1, h2⟩, h3⟩ := h
  exact ⟨D, ⟨es, clock, hb.trans h1, h2⟩, h3⟩
theorem BSet.alloc (h : BSet w P k e b n m) (o : Obj) : BSet (w.alloc o) P k e b n m := h.block (Below.heap_alloc w o b h.lt)
theorem BSet.drew (h : BSet w P k e b n m) : BSet w.drew P k e b n m := h
theorem BSet.bel (h : BSet w P k e b n m) (hb : Bel w w') : BSet w' P k e b n m := h.block (Below.block hb b h.lt)
theorem BSet.grown {row : Option Nat} (h : BSet w P k e b n m) (hg : w.grownBy w' row) (hne : some b ≠ row) : BSet w' P k e b n m := h.block (hg.block b h.lt hne)
theorem BSet.mono (h : BSet w P k e b n m) {n' : Nat} (hn : n ≤ n') : BSet w P k e b n' m := let ⟨D, h1, h2⟩ := h; ⟨D, h1.mono hn, h2⟩
theorem BSet.look (h : BSet w P k e b n m) (K : Keyed P k) (ht : P.underlying t = some (.map k e)) (he : P.underlying e = some .bool) (hz : (zeroValue e).run P w = .ok (.bool false) w)
    {key : Value} {kl : Lit} (hkey : keyOf P k key = some kl) (hk : WideAt.IsKeyLit kl) : (Instr.lookup t (.map (some b)) key false).run P w = .ok (.bool (m kl)) w := by
  obtain ⟨D, h1, _, h3⟩ := h
  obtain ⟨v, ps, hrun, hv⟩ := h1.lookup K ht hz (plainElem_bool he false) hkey
  rw [h3 kl hk] at hv
  rw [hrun]
  unfold plainElem at hv
  rw [he] at hv
  cases v <;> simp at hv
  simp [hv]
theorem BSet.put (h : BSet w P k e b n m) (K : Keyed P k) (ht : P.underlying t = some (.map k e)) (he : P.underlying e = some .bool) (hn : n < maxLen)
    {key : Value} {kl : Lit} (hkey : keyOf P k key = some kl) (hk : WideAt.IsKeyLit kl) :
    ∃ w' m', (Instr.mapUpdate t (.map (some b)) key (.bool true)).run P w = .ok () w' ∧ BSet w' P k e b (n + 1) m' ∧ w.grownBy w' (some b) ∧ m' kl = true ∧ ∀ x, x ≠ kl → m' x = m x := by
  obtain ⟨D, h1, h2, h3⟩ := h
  obtain ⟨w', hrun, h1', hg⟩ := h1.update K ht hn hkey (plainElem_bool he true)
  classical
  refine ⟨w', fun x => if x = kl then true else m x, hrun, ⟨_, h1', h2.put kl _, fun x hx => ?_⟩, hg, by simp, fun x hx => by simp [hx]⟩
  by_cases hxk : x = kl
  · subst hxk; rw [atKey_put_same h2 hk]; simp
  · rw [atKey_put_other hxk, h3 x hx]; simp [hxk]
end
end Go.Proofs.Ythcdemmamggboaa
