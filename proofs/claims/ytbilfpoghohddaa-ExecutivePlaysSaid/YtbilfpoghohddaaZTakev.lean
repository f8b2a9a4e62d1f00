/- any seat: a drawn region with appends and several stores: moves that may come behind a store are taken first, in whatever world; then the reads, all of which come ahead of the first store; then one, two or three operations may come next; the stores follow in their order. -/
import Derived.Test.YtbilfpoghohddaaZTaket
namespace Go.Proofs.Ytbilfpoghohddaa
open Go Region Go.RowKit
def Wld (_ : World) : Type := World
def Wld.w {wc : World} (y : Wld wc) : World := y
instance wldSome {wc : World} : Nonempty (Wld wc) := ⟨(wc : World)⟩
def TV (wc : World) (rs l1 : List Nat) (i : Nat) (w : World) : Prop := l1.contains i = true → ∃ y : Grs wc rs, w = y.w
section
variable {wc : World} {rs l1 r : List Nat} {n : Nat} {done : Array Bool}
theorem tv_1 (h : ((List.range n).all fun j => done.getD j true || l1.contains j) = true) : ∀ j w, j < n → done.getD j true = false → TV wc rs l1 j w → ∃ y : Grs wc rs, w = y.w :=
  fun j _ hj hd t => t (by have := List.all_eq_true.1 h j (List.mem_range.2 hj); rw [hd] at this; simpa using this)
theorem tv_0 : ∀ j w, j < n → done.getD j true = false → TV wc rs l1 j w → ∃ y : Wld wc, w = y.w := fun _ w _ _ _ => ⟨w, rfl⟩
theorem tv_i : ∀ i ∈ r, ∀ w, (∃ y : Grs wc rs, w = y.w) → TV wc rs l1 i w := fun _ _ _ h _ => h
theorem tv_i0 (h : (r.all fun i => !(l1.contains i)) = true) : ∀ i ∈ r, ∀ w, (∃ y : Wld wc, w = y.w) → TV wc rs l1 i w :=
  fun i hi _ _ hc => by have := List.all_eq_true.1 h i hi; rw [hc] at this; simp at this
theorem tv_late {k : Nat} (h : (l1.all fun i => decide (i < k)) = true) : ∀ i, k ≤ i → ∀ w, TV wc rs l1 i w := fun i hi _ hc => by
  have hm : i ∈ l1 := by simpa using hc
  have := List.all_eq_true.1 h i hm
  simp at this
  omega
end
section
variable {P : Program} {md : Region.Mode} {ops : Array Oper} {T : Nat → World → Prop} {Q : Exit → Act → World → Prop}
def StepT (P : Program) (md : Region.Mode) (ops : Array Oper) (Q : Exit → Act → World → Prop) (T : Nat → World → Prop) (f : Nat) (done : Array Bool) (i : Nat) (o : Oper) (a : Act) (w : World) : Prop :=
  ∀ K : Act → World → Prop, (∀ a' w', T i w' → wpAnyT P md ops Q T f (done.setIfInBounds i true) a' w' → K a' w') → if Region.wanted o (yielded ops a.tmps) = true then o.wp P a w K Q else K (a.put o.dst undef) w
theorem stepT_op {i f : Nat} {o : Oper} {done : Array Bool} {a : Act} {w : World} (ho : ops[i]? = some o) (h : StepT P md ops Q T f done i o a w) : wpOp P ops Q i (fun a' w' => T i w' ∧ wpAnyT P md ops Q T f (done.setIfInBounds i true) a' w') a w := by
  unfold wpOp
  simp only [ho]
  have := h (fun a' w' => T i w' ∧ wpAnyT P md ops Q T f (done.setIfInBounds i true) a' w') (fun a' w' h1 h2 => ⟨h1, h2⟩)
  split
  · next hw => rw [if_pos hw] at this; exact .inl this
  · next hw => rw [if_neg hw] at this; exact this
theorem anyT_two {a : Act} {w : World} {done : Array Bool} {f : Nat} (i j : Nat) (oi oj : Oper) (hr : ready md ops done = [i, j]) (hoi : ops[i]? = some oi) (hoj : ops[j]? = some oj)
    (hi : StepT P md ops Q T f done i oi a w) (hj : StepT P md ops Q T f done j oj a w) : wpAnyT P md ops Q T (f + 1) done a w := by
  refine ⟨fun h0 => (by rw [hr] at h0; cases h0), fun k hk => ?_⟩
  rw [hr] at hk
  rcases List.mem_cons.mp hk with rfl | hk
  · exact stepT_op hoi hi
  · obtain rfl : k = j := by simpa using hk
    exact stepT_op hoj hj
theorem anyT_three {a : Act} {w : World} {done : Array Bool} {f : Nat} (i j k : Nat) (oi oj ok : Oper) (hr : ready md ops done = [i, j, k]) (hoi : ops[i]? = some oi) (hoj : ops[j]? = some oj) (hok : ops[k]? = some ok)
    (hi : StepT P md ops Q T f done i oi a w) (hj : StepT P md ops Q T f done j oj a w) (hk : StepT P md ops Q T f done k ok a w) : wpAnyT P md ops Q T (f + 1) done a w := by
  refine ⟨fun h0 => (by rw [hr] at h0; cases h0), fun q hq => ?_⟩
  rw [hr] at hq
  rcases List.mem_cons.mp hq with rfl | hq
  · exact stepT_op hoi hi
  rcases List.mem_cons.mp hq with rfl | hq
  · exact stepT_op hoj hj
  · obtain rfl : q = k := by simpa using hq
    exact stepT_op hok hk
theorem anyT_seq (n : Nat) (hT : ∀ i, n ≤ i → ∀ w, T i w) : ∀ (l : List Oper) (k : Nat) (done : Array Bool) (a : Act) (w : World), n ≤ k → (∀ j, l[j]? = ops[k + j]?) → seqB md ops l.length k done = true → wpList P ops Q l a w → wpAnyT P md ops Q T l.length done a w
  | [], _, _, _, _, _, _, hB, h => ⟨by simpa [seqB] using hB, h⟩
  | o :: l, k, done, a, w, hk, hl, hB, h => by
    have h0 : ops[k]? = some o := by simpa using (hl 0).symm
    simp only [List.length_cons, seqB, Bool.and_eq_true, decide_eq_true_eq] at hB
    refine ⟨fun h1 => (by rw [hB.1] at h1; cases h1), fun i hi => ?_⟩
    rw [hB.1] at hi
    have hik : i = k := by simpa using hi
    subst hik
    have hw : wpOp P ops Q i (wpList P ops Q l) a w := by unfold wpOp; simp only [h0]; exact h
    exact wpOp_mono (fun a' w' h' => ⟨hT i hk w', anyT_seq n hT l (i + 1) _ a' w' (by omega) (fun j => by have := hl (j + 1); simpa [Nat.add_assoc, Nat.add_comm 1 j] using this) hB.2 h'⟩) hw
/-- the rest in its order -/
theorem anyT_tail {l : List Oper} {a : Act} {w : World} {done : Array Bool} {m : Nat} (k : Nat) (hT : ∀ i, k ≤ i → ∀ w, T i w) (hm : m = l.length - k) (hB : seqB md l.toArray (l.length - k) k done = true)
    (h : wpList P l.toArray Q (l.drop k) a w) : wpAnyT P md l.toArray Q T m done a w := by
  subst hm
  have := anyT_seq (P := P) (md := md) (ops := l.toArray) (T := T) (Q := Q) k hT (l.drop k) k done a w (Nat.le_refl _) (fun j => by simp [List.getElem?_drop]) (by rw [List.length_drop]; exact hB) h
  rwa [List.length_drop] at this
end
end Go.Proofs.Ytbilfpoghohddaa
