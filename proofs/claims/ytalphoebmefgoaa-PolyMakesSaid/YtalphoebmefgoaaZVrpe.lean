/- poly, the reference: the interval, line by line. -/
import Derived.Test.YtalphoebmefgoaaZVrbd
import Derived.Test.YtalphoebmefgoaaG42
namespace Go.Proofs.Ytalphoebmefgoaa
open Go.RowKit
theorem al_drop_pad {D : List AL} {j : Nat} (h : j < D.length) : padAll (D.drop j) = padL (alAt D j) :: padAll (D.drop (j + 1)) := by rw [al_drop h]; rfl
theorem ends_skip {p : List Rt} {x : Ln} {t : List Ln} {lo hi : En} (h : ci x p.length = 0) : endsF p (x :: t) lo hi = endsF p t lo hi := by
  conv => lhs; unfold endsF
  rw [if_pos h]
theorem ends_bad {p : List Rt} {x : Ln} {t : List Ln} {lo hi : En} (h : ci x p.length ≠ 0) (hv : valE x p = none) : endsF p (x :: t) lo hi = (zeroE, zeroE, 7) := by
  conv => lhs; unfold endsF
  rw [if_neg h, hv]
theorem ends_put {p : List Rt} {x : Ln} {t : List Ln} {lo hi : En} {r : Rt} (h : ci x p.length ≠ 0) (hv : valE x p = some r) :
    endsF p (x :: t) lo hi = endsF p t (if 0 < ci x p.length then lo else nearM lo r x.s (-1)) (if 0 < ci x p.length then nearM hi r x.s 1 else hi) := by
  conv => lhs; unfold endsF
  rw [if_neg h, hv]
  dsimp only
  split <;> rfl
theorem bd_wf {lo hi : En} {x : Ln} {p : List Rt} {r : Rt} (h1 : lo.at_.wf) (h2 : hi.at_.wf) (hv : valE x p = some r) (c : Prop) [Decidable c] (o : Bool) :
    (if c then lo else nearM lo r o (-1)).at_.wf ∧ (if c then nearM hi r o 1 else hi).at_.wf := by
  split
  · exact ⟨h1, near_wf h2 (val_wf hv) _ _⟩
  · exact ⟨near_wf h1 (val_wf hv) _ _, h2⟩
end Go.Proofs.Ytalphoebmefgoaa
