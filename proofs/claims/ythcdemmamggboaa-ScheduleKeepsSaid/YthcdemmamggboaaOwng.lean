import Derived.Test.YthcdemmamggboaaGen
import Derived.Maps.AppendAt
import Derived.Deep.AppendLies
import Derived.OwnWalk
namespace Go.Proofs.Ythcdemmamggboaa
open Go.RowKit
section
variable {w w1 w2 : World} {e : TypeId} {size n : Nat} {v : Value} {xs : List Value}
theorem bel_grown (h : Bel w w1) (ho : w1.ownsRow w.heap.size e size v n xs) (hg : w1.grownBy w2 v.ownBlock) : Bel w w2 :=
  Below.grown h hg h.size (fun k hk => (ho.lt k hk).1)
theorem Blk1.lt {b : Nat} {o : Obj} (h : w.heap[b]? = some o) : b < w.heap.size := by
  rcases Nat.lt_or_ge b w.heap.size with h1 | h1
  · exact h1
  · rw [Array.getElem?_eq_none h1] at h; cases h
theorem ownsRow_bel {base : Nat} (ho : w1.ownsRow base e size v n xs) (hb : Bel w1 w2) : w2.ownsRow base e size v n xs := by
  refine ⟨ho.1, ?_⟩
  rcases ho.2 with h | ⟨g, cap, cur, h1, h2, h3, h4⟩
  · exact .inl h
  · exact .inr ⟨g, cap, cur, h1, h2, (Below.block hb g (Blk1.lt h3)).trans h3, h4⟩
theorem add_ofs (g k : Nat) : (⟨g, 0, none⟩ : Addr).add k = ⟨g, k, none⟩ := by
  unfold Addr.add; split
  · subst_vars; rfl
  · simp
theorem cells_new (w : World) (cs : List Value) (e : TypeId) (j : Nat) (u : Value) (h : cs[j]? = some u) : (w.alloc (.cells cs.toArray e)).cell? ((⟨w.heap.size, 0, none⟩ : Addr).add j) = some u := by
  rw [add_ofs]; simp [go_sem, h]
theorem IntsAt.of_own {base : Nat} {l : List Int} (ho : w.ownsRow base e 1 v l.length (l.map (Value.int .i64))) : IntsAt w w.heap.size v l := by
  rcases Nat.eq_zero_or_pos l.length with h0 | h0
  · rcases ho.2 with ⟨rfl, _⟩ | ⟨g, cap, cur, rfl, h2, h3, h4, _⟩
    · exact ⟨none, 0, by rw [h0], by omega, fun h => by omega⟩
    · exact ⟨_, cap, rfl, h4, fun h => by omega⟩
  · rcases ho.2 with ⟨_, h⟩ | ⟨g, cap, cur, rfl, h2, h3, h4, _⟩
    · omega
    · refine ⟨_, cap, rfl, h4, fun _ => ⟨g, 0, rfl, Blk1.lt h3, fun i hi => ?_⟩⟩
      have := ho.cells (g := g) rfl i (.int .i64 (l.getD i 0)) (by simp [List.getD, hi])
      rw [add_ofs] at this
      simpa using this
end
end Go.Proofs.Ythcdemmamggboaa
