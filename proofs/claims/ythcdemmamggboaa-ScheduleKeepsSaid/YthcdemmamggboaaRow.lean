import Derived.Test.YthcdemmamggboaaGen
import Derived.Maps.AppendAt
import Derived.Deep.AppendLies
import Derived.OwnWalk
import Derived.Laws.MakeOwn
import Derived.Laws.CopyOwn
namespace Go.Proofs.Ythcdemmamggboaa
open Go.RowKit
/-- block p holds these cells, nothing of it is frozen -/
def RowAt (w : World) (p : Nat) (e : TypeId) (xs : List Value) : Prop := w.heap[p]? = some (.cells xs.toArray e (0, 0))
section
variable {w w' : World} {p : Nat} {e : TypeId} {xs : List Value}
theorem Blk.lt {b : Nat} {o : Obj} (h : w.heap[b]? = some o) : b < w.heap.size := by
  rcases Nat.lt_or_ge b w.heap.size with h1 | h1
  · exact h1
  · rw [Array.getElem?_eq_none h1] at h; cases h
theorem RowAt.lt (h : RowAt w p e xs) : p < w.heap.size := Blk.lt h
theorem RowAt.cell? (h : RowAt w p e xs) (i : Nat) : w.cell? ⟨p, i, none⟩ = xs[i]? := by
  unfold RowAt at h; simp [World.cell?, h]
theorem RowAt.cell (h : RowAt w p e xs) {i : Nat} {v : Value} (hi : xs[i]? = some v) : w.cell? ⟨p, i, none⟩ = some v := (h.cell? i).trans hi
theorem RowAt.frozen (h : RowAt w p e xs) (i : Nat) : w.frozen? ⟨p, i, none⟩ = false := by
  unfold RowAt at h; simp [World.frozen?, h]
theorem RowAt.set (h : RowAt w p e xs) (i : Nat) (v : Value) : RowAt (w.setCell ⟨p, i, none⟩ v) p e (xs.set i v) := by
  unfold RowAt at h ⊢
  simp only [World.setCell, Array.getElem?_modify, h]
  simp
theorem RowAt.block (h : RowAt w p e xs) (hb : w'.heap[p]? = w.heap[p]?) : RowAt w' p e xs := hb.trans h
theorem RowAt.alloc (h : RowAt w p e xs) (o : Obj) : RowAt (w.alloc o) p e xs := h.block (Below.heap_alloc w o p h.lt)
theorem RowAt.drew (h : RowAt w p e xs) : RowAt w.drew p e xs := h
theorem RowAt.drewN (h : RowAt w p e xs) (k : Nat) : RowAt (w.drewN k) p e xs := h
theorem RowAt.bel (h : RowAt w p e xs) (hb : Bel w w') : RowAt w' p e xs := h.block (Below.block hb p h.lt)
theorem RowAt.far (h : RowAt w p e xs) {a : Addr} (ha : p ≠ a.block) (v : Value) : RowAt (w.setCell a v) p e xs := h.block (Below.heap_setCell w a v p ha)
theorem RowAt.new (w : World) (e : TypeId) (xs : List Value) : RowAt (w.alloc (.cells xs.toArray e)) w.heap.size e xs := by
  unfold RowAt; rw [heap_alloc_new]
theorem RowAt.newRep (w : World) (e : TypeId) (n : Nat) (v : Value) : RowAt (w.alloc (.cells (Array.replicate n v) e)) w.heap.size e (List.replicate n v) := by
  have := RowAt.new w e (List.replicate n v)
  simpa using this
end
end Go.Proofs.Ythcdemmamggboaa
