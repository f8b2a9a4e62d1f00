import Derived.Test.YthcdemmamggboaaOwn
import Derived.Laws.MakeOwn
namespace Go.Proofs.Ythcdemmamggboaa
open Go.RowKit
/-- block p is an array of n ints, g says which; nothing of it is frozen -/
def ArrAt (w : World) (p : Nat) (e : TypeId) (n : Nat) (g : Nat → Int) : Prop := w.heap[p]? = some (.cells ((List.range n).map fun r => Value.int .i64 (g r)).toArray e (0, 0))
section
variable {w w' : World} {p : Nat} {e : TypeId} {n : Nat} {g : Nat → Int}
theorem ArrAt.lt (h : ArrAt w p e n g) : p < w.heap.size := Blk1.lt h
theorem ArrAt.cell (h : ArrAt w p e n g) {i : Nat} (hi : i < n) : w.cell? ⟨p, i, none⟩ = some (.int .i64 (g i)) := by
  unfold ArrAt at h; simp [World.cell?, h, hi]
theorem ArrAt.frozen (h : ArrAt w p e n g) (i : Nat) : w.frozen? ⟨p, i, none⟩ = false := by
  unfold ArrAt at h; simp [World.frozen?, h]
theorem ArrAt.set (h : ArrAt w p e n g) (i : Nat) (v : Int) : ArrAt (w.setCell ⟨p, i, none⟩ (.int .i64 v)) p e n (fun r => if r = i then v else g r) := by
  unfold ArrAt at h ⊢
  simp only [World.setCell, Array.getElem?_modify, h]
  simp
  apply List.ext_getElem
  · simp
  · intro j h1 h2
    simp at h1
    by_cases hji : j = i
    · subst hji; simp
    · simp [List.getElem_set, hji, Ne.symm hji]
theorem ArrAt.block (h : ArrAt w p e n g) (hb : w'.heap[p]? = w.heap[p]?) : ArrAt w' p e n g := hb.trans h
theorem ArrAt.alloc (h : ArrAt w p e n g) (o : Obj) : ArrAt (w.alloc o) p e n g := h.block (Below.heap_alloc w o p h.lt)
theorem ArrAt.drew (h : ArrAt w p e n g) : ArrAt w.drew p e n g := h
theorem ArrAt.drewN (h : ArrAt w p e n g) (k : Nat) : ArrAt (w.drewN k) p e n g := h
theorem ArrAt.bel (h : ArrAt w p e n g) (hb : Bel w w') : ArrAt w' p e n g := h.block (Below.block hb p h.lt)
theorem ArrAt.far (h : ArrAt w p e n g) {a : Addr} (ha : p ≠ a.block) (v : Value) : ArrAt (w.setCell a v) p e n g := h.block (Below.heap_setCell w a v p ha)
theorem ArrAt.congr {g' : Nat → Int} (h : ArrAt w p e n g) (hg : ∀ r, r < n → g r = g' r) : ArrAt w p e n g' := by
  unfold ArrAt at *
  rw [h]
  have : ((List.range n).map fun r => Value.int .i64 (g r)) = ((List.range n).map fun r => Value.int .i64 (g' r)) := List.map_congr_left (fun r hr => by rw [hg r (by simpa using hr)])
  rw [this]
theorem ArrAt.made (w : World) (e : TypeId) (n : Nat) : ArrAt (w.alloc (.cells (madeCells (Value.int .i64 0).cells (n * 1)) e)) w.heap.size e n (fun _ => 0) := by
  unfold ArrAt
  rw [heap_alloc_new]
  congr 1
  congr 1
  apply Array.ext
  · simp [madeCells]
  · intro i h1 h2; simp [madeCells, Value.cells, Nat.mod_one]
theorem IntsAt.of_arr (h : ArrAt w p e n g) : IntsAt w w.heap.size (.slice (some ⟨p, 0, none⟩) n n) ((List.range n).map g) := by
  refine ⟨_, n, by simp, by simp, fun _ => ⟨p, 0, rfl, h.lt, fun i hi => ?_⟩⟩
  simp at hi
  rw [Nat.zero_add, h.cell hi]
  simp [List.getD, hi]
/-- make of n ints, length and capacity n -/
theorem make_ints {P : Program} {t e : TypeId} {i : TypeInfo} (ht : P.underlying t = some (.slice e)) (hi : P.info? e = some i) (hz : i.zero = some (.int .i64 0)) (hs : i.size = 1) (hb : i.bytes = 8)
    (n : Nat) (hn : n ≤ 1000000) (W : World) : (Instr.makeSlice t (.int .i64 (n : Int)) (.int .i64 (n : Int))).run P W =
      .ok (.slice (some ⟨W.heap.size, 0, none⟩) n n) (W.alloc (.cells (madeCells (Value.int .i64 0).cells (n * 1)) e)) := by
  have h := run_make (P := P) W t e i _ ht hi hz .i64 .i64 (n : Int) (n : Int) (by omega) (by omega) (by rw [hb]; omega) (by omega)
  rw [hs, Int.toNat_natCast] at h
  exact h
end
end Go.Proofs.Ythcdemmamggboaa
