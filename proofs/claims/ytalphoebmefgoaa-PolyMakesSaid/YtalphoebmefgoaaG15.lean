/- any seat: a drawn region where two operations may come next. -/
import Derived.Test.YtalphoebmefgoaaG1
namespace Go.Proofs.Ytalphoebmefgoaa
open Go Region Go.RowKit
section
variable {P : Program} {md : Region.Mode} {ops : Array Oper} {S : World → Prop} {n : Nat} {Q : Exit → Act → World → Prop}
def StepE (P : Program) (md : Region.Mode) (ops : Array Oper) (Q : Exit → Act → World → Prop) (S : World → Prop) (n f : Nat) (done : Array Bool) (i : Nat) (o : Oper) (a : Act) (w : World) : Prop :=
  ∀ K : Act → World → Prop, (∀ a' w', (i < n → S w') → wpAnyE P md ops Q S n f (done.setIfInBounds i true) a' w' → K a' w') → if Region.wanted o (yielded ops a.tmps) = true then o.wp P a w K Q else K (a.put o.dst undef) w
theorem stepE_op {i f : Nat} {o : Oper} {done : Array Bool} {a : Act} {w : World} (ho : ops[i]? = some o) (h : StepE P md ops Q S n f done i o a w) : wpOp P ops Q i (fun a' w' => (i < n → S w') ∧ wpAnyE P md ops Q S n f (done.setIfInBounds i true) a' w') a w := by
  unfold wpOp
  simp only [ho]
  have := h (fun a' w' => (i < n → S w') ∧ wpAnyE P md ops Q S n f (done.setIfInBounds i true) a' w') (fun a' w' h1 h2 => ⟨h1, h2⟩)
  split
  · next hw => rw [if_pos hw] at this; exact .inl this
  · next hw => rw [if_neg hw] at this; exact this
theorem anyE_two {a : Act} {w : World} {done : Array Bool} {f : Nat} (i j : Nat) (oi oj : Oper) (hr : ready md ops done = [i, j]) (hoi : ops[i]? = some oi) (hoj : ops[j]? = some oj)
    (hi : StepE P md ops Q S n f done i oi a w) (hj : StepE P md ops Q S n f done j oj a w) : wpAnyE P md ops Q S n (f + 1) done a w := by
  refine ⟨fun h0 => (by rw [hr] at h0; cases h0), fun k hk => ?_⟩
  rw [hr] at hk
  rcases List.mem_cons.mp hk with rfl | hk
  · exact stepE_op hoi hi
  · obtain rfl : k = j := by simpa using hk
    exact stepE_op hoj hj
end
end Go.Proofs.Ytalphoebmefgoaa
