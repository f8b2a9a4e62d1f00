/- poly, the law: slices of ratios appended to a slice of the call's own. -/
import Derived.Test.YtalphoebmefgoaaG41
import Derived.Test.YtalphoebmefgoaaG43
namespace Go.Proofs.Ytalphoebmefgoaa
open Go.RowKit
theorem flat_split {j n : Nat} (h : j < n * 2) : ∃ i r, i < n ∧ r < 2 ∧ j = i * 2 + r := ⟨j / 2, j % 2, by omega, by omega, by omega⟩
theorem rats_flen : ∀ (a : List Rt), (a.flatMap Rt.cells).length = a.length * 2
  | [] => rfl
  | x :: t => by
    rw [List.flatMap_cons, List.length_append, rats_flen t, rcells_len, List.length_cons]; omega
theorem rats_append {w0 W : World} {v sv : Value} {p a : List Rt} (hb : Bel w0 W) (h : W.ownsRow w0.heap.size 41 2 v p.length (p.flatMap Rt.cells)) (hs : RatsAt W W.heap.size sv a) (hp : p.length ≤ 1000000) (ha : a.length ≤ 1000000) :
    ∃ A c W', (∀ ty, (Builtin.append_ #[26, 26] ty #[v, sv]).run Try.prog W = .ok (.slice A (p.length + a.length) c) W') ∧ W'.ownsRow w0.heap.size 41 2 (.slice A (p.length + a.length) c) (p ++ a).length ((p ++ a).flatMap Rt.cells) ∧ Bel w0 W' ∧ W.grownBy W' v.ownBlock := by
  obtain ⟨i0, hi, hz0, hz1, hz2⟩ := info_parts3 Try.infoRtz
  obtain ⟨A, c, rfl, hc⟩ := hs.form
  have hfl := rats_flen a
  have hsrc : (A = none ∧ a.length = 0) ∨ ∃ ad, A = some ad ∧ ∀ j u, (a.flatMap Rt.cells)[j]? = some u → W.cell? (ad.add j) = some u := by
    rcases Nat.eq_zero_or_pos a.length with h0 | h0
    · cases A with
      | none => exact .inl ⟨rfl, h0⟩
      | some ad => exact .inr ⟨ad, rfl, fun j u hj => by
          have := (List.getElem?_eq_some_iff.1 hj).1
          omega⟩
    · obtain ⟨b, off, rfl, hlt, hcl⟩ := hs.at_ h0
      refine .inr ⟨_, rfl, fun j u hj => ?_⟩
      have hj2 : j < a.length * 2 := by have := (List.getElem?_eq_some_iff.1 hj).1; rwa [hfl] at this
      obtain ⟨i, r, hi2, hr2, rfl⟩ := flat_split hj2
      rw [flat_at rcells_len _ _ _ hi2 hr2] at hj
      rw [add_ofs2, ← Nat.add_assoc, hcl i hi2 r hr2, hj]
  obtain ⟨v', W', hrn, ho, hg⟩ := append_row (P := Try.prog) W w0.heap.size 26 26 41 i0 (.agg #[.int .i64 0, .int .i64 0]) 2 16 Try.underlying26 hi hz0 hz1 hz2 rfl (by decide) v p.length (p.flatMap Rt.cells) h
    A a.length c (a.flatMap Rt.cells) hsrc hfl (fun u hu => by obtain ⟨q, _, hq⟩ := List.mem_flatMap.1 hu; exact rcells_one u hq) (by unfold maxLen; omega) (by omega) hb.le
  obtain ⟨A', c', rfl, _⟩ := own_slice ho
  refine ⟨A', c', W', fun ty => hrn, ?_, bel_grown hb h hg, hg⟩
  rw [List.length_append, List.flatMap_append]
  exact ho
theorem rats_take {W : World} {B : Nat} {A : Option Addr} {n c i : Nat} {a : List Rt} (h : RatsAt W B (.slice A n c) a) (hi : i ≤ a.length) (hc : i ≤ c) : RatsAt W B (.slice A i c) (a.take i) := by
  obtain ⟨A', c', e, hc', h⟩ := h
  injection e with e1 e2 e3
  subst e1 e2 e3
  have hl : (a.take i).length = i := by simp; omega
  refine ⟨A, c, by rw [hl], by rw [hl]; exact hc, fun h0 => ?_⟩
  rw [hl] at h0
  obtain ⟨b, off, rfl, hb, h⟩ := h (by omega)
  refine ⟨b, off, rfl, hb, fun j hj r hr => ?_⟩
  have hj2 : j < a.length := by rw [hl] at hj; omega
  rw [h j hj2 r hr]
  simp
theorem rats_drop2 {W : World} {B b off n c i : Nat} {a : List Rt} (h : RatsAt W B (.slice (some ⟨b, off, none⟩) n c) a) (hi : i ≤ a.length) : RatsAt W B (.slice (if c = i then some ⟨b, off, none⟩ else some ⟨b, off + i * 2, none⟩) (a.length - i) (c - i)) (a.drop i) := by
  obtain ⟨A', c', e, hc', h⟩ := h
  injection e with e1 e2 e3
  subst e1 e3
  have hl : (a.drop i).length = a.length - i := by simp
  refine ⟨_, c - i, by rw [hl], by rw [hl]; omega, fun h0 => ?_⟩
  rw [hl] at h0
  obtain ⟨b2, off2, eb, hb, h⟩ := h (by omega)
  injection eb with eb
  injection eb with eb1 eb2
  subst eb1 eb2
  rw [if_neg (by omega)]
  refine ⟨b, off + i * 2, rfl, hb, fun j hj r hr => ?_⟩
  have hj2 : i + j < a.length := by rw [hl] at hj; omega
  have := h (i + j) hj2 r hr
  rw [show off + i * 2 + j * 2 = off + (i + j) * 2 by omega, this]
  simp
end Go.Proofs.Ytalphoebmefgoaa
