/- poly: Without and the shortened point, in plain words. -/
import Derived.Test.YtalphoebmefgoaaZVpnt2
import Derived.Test.YtalphoebmefgoaaG45
namespace Go.Proofs.Ytalphoebmefgoaa
theorem ptX_del {p : List Rt} {i : Nat} (hi : i < p.length) : ptX (p.take i ++ p.drop (i + 1)) = delX (ptX p) i := by
  funext k
  unfold ptX delX rtAt
  dsimp only
  have hl : (p.take i ++ p.drop (i + 1)).length = p.length - 1 := by simp; omega
  rw [hl]
  by_cases hk : k < i
  · rw [if_pos (by omega), if_pos hk, if_pos (by omega), List.getD_eq_getElem?_getD, List.getD_eq_getElem?_getD, List.getElem?_append_left (by simp; omega), List.getElem?_take_of_lt hk]
  · rw [if_neg hk]
    by_cases hk2 : k < p.length - 1
    · rw [if_pos hk2, if_pos (by omega), List.getD_eq_getElem?_getD, List.getD_eq_getElem?_getD, List.getElem?_append_right (by simp; omega), List.getElem?_drop]
      congr 3
      simp
      omega
    · rw [if_neg hk2, if_neg (by omega)]
/-- Without that succeeds, as the leaving of a coordinate -/
theorem without_ok {n i : Int} {l ml : List AL} (h : withoutM n l i = (ml, 0)) : checkM n l = 0 ∧ 0 ≤ i ∧ i < n ∧ (leaveL (padAll l) i.toNat).2 = 0 ∧ padAll ml = (leaveL (padAll l) i.toNat).1 := by
  rw [without_eq] at h
  unfold rwithoutM at h
  split at h
  · rename_i hc; simp only [Prod.mk.injEq] at h; exact absurd h.2 hc
  · rename_i hc
    have hc2 : checkM n l = 0 := by simpa using hc
    split at h
    · simp at h
    · rename_i hi
      have h0 : 0 ≤ i := by omega
      have h1 : i < n := by omega
      have hn := (check_fits hc2).1
      obtain ⟨q1, q2, _⟩ := leave_pad (n := n.toNat) (i := i.toNat) (by omega) (by omega) (check_lenA hc2)
      rw [h] at q1 q2
      exact ⟨hc2, h0, h1, q2.symm, q1⟩
/-- a point of the list, without its coordinate, is a point of what Without tells -/
theorem prj_sound {n i : Int} {l ml : List AL} {p : List Rt} {rest : Bool} (h : withoutM n l i = (ml, 0)) (ha : hasM n l p = (true, 0)) (hr : hasM (n - 1) ml (p.take i.toNat ++ p.drop (i.toNat + 1)) = (rest, 0)) : rest = true := by
  obtain ⟨hc, h0, h1, he, hp⟩ := without_ok h
  have hn := (check_fits hc).1
  obtain ⟨_, a1, a2, a3⟩ := has_q (n := n) (l := l) (p := p) (by rw [ha])
  rw [ha] at a3
  obtain ⟨_, r1, r2, r3⟩ := has_q (n := n - 1) (l := ml) (p := p.take i.toNat ++ p.drop (i.toNat + 1)) (by rw [hr])
  rw [hr] at r3
  refine r3.2 ?_
  rw [ptX_del (by omega), hp]
  exact leave_sound _ (by omega) he (a3.1 rfl)
/-- a line that names a coordinate's value -/
def PinOk (n i : Nat) (p : List Rt) (x : AL) : Prop := ∃ j, j < n ∧ j ≠ i ∧ (rtAt p j).den = 1 ∧ (rtAt p j).num.natAbs ≤ 1000 ∧ (x = ⟨(List.replicate n 0).set j 1, (rtAt p j).num, false⟩ ∨ x = ⟨(List.replicate n 0).set j (-1), -(rtAt p j).num, false⟩)
theorem pin_vl {n j : Nat} (hn : n ≤ 5) (hj : j < n) (s b : Int) (X : Nat → Rat) : vl X (padL ⟨(List.replicate n 0).set j s, b, false⟩) = (s : Rat) * X j := by
  have h1 : n = 1 ∨ n = 2 ∨ n = 3 ∨ n = 4 ∨ n = 5 := by omega
  have h2 : j = 0 ∨ j = 1 ∨ j = 2 ∨ j = 3 ∨ j = 4 := by omega
  rcases h1 with rfl | rfl | rfl | rfl | rfl <;> rcases h2 with rfl | rfl | rfl | rfl | rfl <;> first
    | (exfalso; omega)
    | (simp [vl, padL, List.replicate, List.set]; try grind)
/-- where the shortened point is one of what Without tells, the lines with the other coordinates' values have a point -/
theorem prj_empty {n i : Int} {l ml pins : List AL} {p : List Rt} (hpl : (p.length : Int) = n) (h : withoutM n l i = (ml, 0)) (hr : hasM (n - 1) ml (p.take i.toNat ++ p.drop (i.toNat + 1)) = (true, 0)) (hpin : ∀ x, x ∈ pins → PinOk n.toNat i.toNat p x)
    (hem : (EmptyM n (l ++ pins)).2 = 0) : (EmptyM n (l ++ pins)).1 = false := by
  obtain ⟨hc, h0, h1, he, hp⟩ := without_ok h
  have hn := (check_fits hc).1
  obtain ⟨_, r1, r2, r3⟩ := has_q (n := n - 1) (l := ml) (p := p.take i.toNat ++ p.drop (i.toNat + 1)) (by rw [hr])
  rw [hr] at r3
  have hm := r3.1 rfl
  rw [ptX_del (by omega), hp] at hm
  obtain ⟨t, ht⟩ := leave_complete _ (by omega) he hm
  have hX : ∀ j, j ≠ i.toNat → insX (delX (ptX p) i.toNat) i.toNat t j = ptX p j := fun j hj => by
    unfold insX delX
    by_cases q : j < i.toNat
    · rw [if_pos q, if_pos q]
    · rw [if_neg q, if_neg hj, if_neg (by omega)]
      congr 1
      omega
  generalize insX (delX (ptX p) i.toNat) i.toNat t = X at *
  unfold EmptyM at hem ⊢
  split at hem
  · rename_i q; exact absurd hem q
  · rename_i q
    rw [if_neg q]
    have hcl : checkM n (l ++ pins) = 0 := by simpa using q
    have hz := zb_pad (n := n.toNat) (l := l ++ pins) (by omega) (check_lenA hcl)
    unfold emptyL at hem ⊢
    dsimp only at hem ⊢
    have hiff := empty_iff (n := n.toNat) (by omega) hz hem
    have hX2 : ∃ X, metAll X (padAll (l ++ pins)) := ⟨X, fun y hy => by
      obtain ⟨x, hx, rfl⟩ := List.mem_map.1 hy
      rcases List.mem_append.1 hx with q | q
      · exact ht _ (List.mem_map_of_mem q)
      · obtain ⟨j, hj, hji, hd, hb, hor⟩ := hpin x q
        have hq : ptX p j = ((rtAt p j).num : Rat) := by
          unfold ptX
          rw [if_pos (by omega)]
          have e : rtAt p j = ⟨(rtAt p j).num, 1⟩ := by rw [← hd]
          have e2 := (one_val (c := (rtAt p j).num) (by omega)).2
          rw [← e] at e2
          exact e2
        rcases hor with rfl | rfl
        · refine .inr ⟨rfl, ?_⟩
          rw [pin_vl (by omega) hj, hX j hji, hq]
          show (1 : Rat) * _ = _
          simp [padL]; try grind
        · refine .inr ⟨rfl, ?_⟩
          rw [pin_vl (by omega) hj, hX j hji, hq]
          simp [padL]; try grind⟩
    have : ¬ (0 < (downL 0 n.toNat (tidyL (padAll (l ++ pins)))).1.length) := fun q => hiff.1 q hX2
    simp [this]
end Go.Proofs.Ytalphoebmefgoaa
