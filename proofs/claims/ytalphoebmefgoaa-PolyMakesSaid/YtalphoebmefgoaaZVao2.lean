/- poly, the law: two lines appended to a list of the call's own. -/
import Derived.Test.YtalphoebmefgoaaG46
import Derived.Test.YtalphoebmefgoaaG43
namespace Go.Proofs.Ytalphoebmefgoaa
open Go.RowKit
theorem intsV_set (l : List Int) (k : Nat) (c : Int) : intsV (l.set k c) = (intsV l).set k (.int .i64 c) := by unfold intsV; rw [List.map_set]
theorem own_ints_row {W : World} {B g n : Nat} {l : List Int} (h : RowAt W g 2 (intsV l)) (hb : B ≤ g) (hl : l.length = n) (hn : n ≤ 1000000) : W.ownsRow B 2 1 (.slice (some ⟨g, 0, none⟩) n n) l.length (intsV l) := by
  subst hl
  unfold RowAt at h
  refine ⟨by rw [intsV_len, Nat.mul_one], .inr ⟨g, l.length, (intsV l).toArray, rfl, hb, h, Nat.le_refl _, by unfold maxLen; omega, by simp [intsV], ?_⟩⟩
  rw [List.toList_toArray, Nat.mul_one, ← intsV_len l, List.take_length]
theorem ao_append2 {w0 W : World} {v : Value} {L : List (Value × AL)} {p p2 : Value × AL} {q : Nat} {e2 : TypeId} (hb : Bel w0 W) (h : AO W w0.heap.size v L) (hl : L.length ≤ 1000000) (r : RowAt W q e2 (arC p ++ arC p2)) (hp : W.ownsRow w0.heap.size 2 1 p.1 p.2.a.length (intsV p.2.a)) (hp2 : W.ownsRow w0.heap.size 2 1 p2.1 p2.2.a.length (intsV p2.2.a)) :
    ∃ A c W', (∀ ty, (Builtin.append_ #[22, 22] ty #[v, .slice (some ⟨q, 0, none⟩) 2 2]).run Try.prog W = .ok (.slice A (L.length + 2) c) W') ∧ AO W' w0.heap.size (.slice A (L.length + 2) c) (L ++ [p, p2]) ∧ Bel w0 W' ∧ W.grownBy W' v.ownBlock := by
  obtain ⟨i0, hi, hz0, hz1, hz2⟩ := info_parts3 Try.infoALine
  obtain ⟨A1, c1, e1, _⟩ := own_slice hp
  obtain ⟨A2, c2, e3, _⟩ := own_slice hp2
  obtain ⟨v', W', hrn, ho, hg⟩ := append_row (P := Try.prog) W w0.heap.size 22 22 25 i0 (.agg #[.slice none 0 0, .int .i64 0, .bool false]) 3 40 Try.underlying22 hi hz0 hz1 hz2 rfl (by decide) v L.length (L.flatMap arC) h.own
    (some ⟨q, 0, none⟩) 2 2 (arC p ++ arC p2) (.inr ⟨_, rfl, fun j u hj => by rw [add_ofs, r.cell?, hj]⟩) rfl (fun u hu => by
      rcases List.mem_append.1 hu with hu | hu
      · exact arC_one (by rw [e1]; rfl) u hu
      · exact arC_one (by rw [e3]; rfl) u hu) (by unfold maxLen; omega) (by omega) hb.le
  obtain ⟨g, c, rfl⟩ := ownsRow_succ (k := L.length + 1) ho
  refine ⟨_, c, W', fun ty => hrn, ⟨?_, fun x hx => ?_⟩, bel_grown hb h.own hg, hg⟩
  · rw [List.length_append, List.flatMap_append]
    simpa using ho
  · rcases List.mem_append.1 hx with hx | hx
    · exact (h.at_ x hx).kept hg (own_ne (h.at_ x hx) h.own i64_ne_line)
    · rcases List.mem_cons.1 hx with rfl | hx
      · exact hp.kept hg (own_ne hp h.own i64_ne_line)
      · obtain rfl : x = p2 := by simpa using hx
        exact hp2.kept hg (own_ne hp2 h.own i64_ne_line)
end Go.Proofs.Ytalphoebmefgoaa
