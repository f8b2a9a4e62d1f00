import Derived.Test.YthcdemmamggboaaG2
import Derived.Test.YthcdemmamggboaaRows
namespace Go.Proofs.Ythcdemmamggboaa
open Go.RowKit
/-- the task set of the chapter, the first priority open -/
def exT (pr : Int) : List Tsk := [⟨⟨#[97]⟩, 4, 0, 4, 1, pr, []⟩, ⟨⟨#[98]⟩, 6, 0, 6, 2, 2, [⟨0, 0, 1⟩]⟩, ⟨⟨#[99]⟩, 12, 0, 12, 3, 1, [⟨0, 0, 3⟩]⟩]
def exCells (a b : Nat) (pr : Int) : Array Value := #[.string ⟨#[97]⟩, .int .i64 4, .int .i64 0, .int .i64 4, .int .i64 1, .int .i64 pr, .slice none 0 0,
  .string ⟨#[98]⟩, .int .i64 6, .int .i64 0, .int .i64 6, .int .i64 2, .int .i64 2, .slice (some ⟨a, 0, none⟩) 1 1,
  .string ⟨#[99]⟩, .int .i64 12, .int .i64 0, .int .i64 12, .int .i64 3, .int .i64 1, .slice (some ⟨b, 0, none⟩) 1 1]
structure ExAt (w : World) (p a b : Nat) (pr : Int) : Prop where
  hp : w.heap[p]? = some (.cells (exCells a b pr) 45 (0, 0))
  ha : w.heap[a]? = some (.cells #[.int .i64 0, .int .i64 0, .int .i64 1] 70 (0, 0))
  hb : w.heap[b]? = some (.cells #[.int .i64 0, .int .i64 0, .int .i64 3] 70 (0, 0))
theorem lt_of_block {w : World} {b : Nat} {o : Obj} (h : w.heap[b]? = some o) : b < w.heap.size := by
  rcases Nat.lt_or_ge b w.heap.size with h1 | h1
  · exact h1
  · rw [Array.getElem?_eq_none h1] at h; cases h
theorem ExAt.block {w w' : World} {p a b : Nat} {pr : Int} (h : ExAt w p a b pr) (hb : Bel w w') : ExAt w' p a b pr :=
  ⟨(Below.block hb p (lt_of_block h.hp)).trans h.hp, (Below.block hb a (lt_of_block h.ha)).trans h.ha, (Below.block hb b (lt_of_block h.hb)).trans h.hb⟩
theorem ExAt.tsks {w : World} {p a b : Nat} {pr : Int} (h : ExAt w p a b pr) : TsksAt w w.heap.size (.slice (some ⟨p, 0, none⟩) 3 3) (exT pr) := by
  have hlt := lt_of_block h.hp
  have hla := lt_of_block h.ha
  have hlb := lt_of_block h.hb
  have cp : ∀ i, w.cell? ⟨p, i, none⟩ = (exCells a b pr)[i]? := fun i => by simp [World.cell?, h.hp]
  have ca : ∀ i, w.cell? ⟨a, i, none⟩ = (#[.int .i64 0, .int .i64 0, .int .i64 1] : Array Value)[i]? := fun i => by simp [World.cell?, h.ha]
  have cb : ∀ i, w.cell? ⟨b, i, none⟩ = (#[.int .i64 0, .int .i64 0, .int .i64 3] : Array Value)[i]? := fun i => by simp [World.cell?, h.hb]
  refine ⟨_, 3, rfl, by simp [exT], fun _ => ⟨p, 0, rfl, hlt, fun i hi => ?_⟩⟩
  simp [exT] at hi
  rcases i with _ | _ | _ | i
  · exact ⟨.slice none 0 0, ⟨by rw [cp]; rfl, by rw [cp]; rfl, by rw [cp]; rfl, by rw [cp]; rfl, by rw [cp]; rfl, by rw [cp]; rfl, by rw [cp]; rfl⟩, ⟨none, 0, rfl, by simp [tskAt, exT], fun h => by simp [tskAt, exT] at h⟩⟩
  · refine ⟨.slice (some ⟨a, 0, none⟩) 1 1, ⟨by rw [cp]; rfl, by rw [cp]; rfl, by rw [cp]; rfl, by rw [cp]; rfl, by rw [cp]; rfl, by rw [cp]; rfl, by rw [cp]; rfl⟩, ⟨_, 1, rfl, by simp [tskAt, exT], fun _ => ⟨a, 0, rfl, hla, fun j hj => ?_⟩⟩⟩
    have : j = 0 := by simp [tskAt, exT] at hj; omega
    subst this
    exact ⟨by rw [ca]; rfl, by rw [ca]; rfl, by rw [ca]; rfl⟩
  · refine ⟨.slice (some ⟨b, 0, none⟩) 1 1, ⟨by rw [cp]; rfl, by rw [cp]; rfl, by rw [cp]; rfl, by rw [cp]; rfl, by rw [cp]; rfl, by rw [cp]; rfl, by rw [cp]; rfl⟩, ⟨_, 1, rfl, by simp [tskAt, exT], fun _ => ⟨b, 0, rfl, hlb, fun j hj => ?_⟩⟩⟩
    have : j = 0 := by simp [tskAt, exT] at hj; omega
    subst this
    exact ⟨by rw [cb]; rfl, by rw [cb]; rfl, by rw [cb]; rfl⟩
  · omega
theorem ExAt.set {w : World} {p a b : Nat} {pr q : Int} (h : ExAt w p a b pr) (hpa : p ≠ a) (hpb : p ≠ b) : ExAt (w.setCell ⟨p, 5, none⟩ (.int .i64 q)) p a b q := by
  refine ⟨?_, (Below.heap_setCell w ⟨p, 5, none⟩ _ a (Ne.symm hpa)).trans h.ha, (Below.heap_setCell w ⟨p, 5, none⟩ _ b (Ne.symm hpb)).trans h.hb⟩
  simp [World.setCell, Array.getElem?_modify, h.hp, exCells]
def ExPost (w : World) (e : Ending) (w' : World) : Prop :=
  ∃ p a b, e = .returned (.slice (some ⟨p, 0, none⟩) 3 3) ∧ ExAt w' p a b 3 ∧ p ≠ a ∧ p ≠ b ∧ w.heap.size ≤ p ∧ Bel w w'
set_option maxRecDepth 100000 in
set_option maxHeartbeats 8000000 in
theorem example_any (w : World) : Calls Try.prog 21 #[] w (ExPost w) := by
  go_enter Try.func21, Try.ntmps21
  go_wp2
  go_ret
  refine ⟨w.heap.size + 1 + 1, w.heap.size, w.heap.size + 1, rfl, ⟨?_, ?_, ?_⟩, by omega, by omega, by omega, ((Bel.refl.alloc _).alloc _).alloc _⟩
  · have := heap_alloc_new ((w.alloc (.cells #[.int .i64 0, .int .i64 0, .int .i64 1] 70)).alloc (.cells #[.int .i64 0, .int .i64 0, .int .i64 3] 70)) (.cells (exCells w.heap.size (w.heap.size + 1) 3) 45)
    rw [show ((w.alloc (.cells #[.int .i64 0, .int .i64 0, .int .i64 1] 70)).alloc (.cells #[.int .i64 0, .int .i64 0, .int .i64 3] 70)).heap.size = w.heap.size + 1 + 1 by simp] at this
    exact this
  · rw [Below.heap_alloc _ _ _ (by simp; omega), Below.heap_alloc _ _ _ (by simp)]; exact heap_alloc_new w _
  · rw [Below.heap_alloc _ _ _ (by simp)]
    have := heap_alloc_new (w.alloc (.cells #[.int .i64 0, .int .i64 0, .int .i64 1] 70)) (.cells #[.int .i64 0, .int .i64 0, .int .i64 3] 70)
    simpa using this
end Go.Proofs.Ythcdemmamggboaa
