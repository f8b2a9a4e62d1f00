import Derived.Test.YthcdemmamggboaaRows
import Derived.Test.YthcdemmamggboaaBase
namespace Go.Proofs.Ythcdemmamggboaa
open Go.RowKit
set_option maxHeartbeats 400000 in
theorem contains_any (a b : Sec) (w : World) :
    Calls Try.prog 48 #[secV a, secV b] w fun e w' => e = .returned (.bool (secIn a b)) ∧ Bel w w' := by
  unfold secV
  go_enter Try.func48, Try.ntmps48
  go_wp2
  all_goals (go_ret; exact ⟨by simp [secIn, *] <;> omega, (Bel.refl.alloc _).alloc _⟩)
set_option maxHeartbeats 400000 in
theorem rcontains_any (a b : Sec) (w : World) :
    Calls Try.prog 41 #[secV a, secV b] w fun e w' => e = .returned (.bool (secIn a b)) ∧ Bel w w' := by
  unfold secV
  go_enter Try.func41, Try.ntmps41
  go_wp2
  all_goals (go_ret; exact ⟨by simp [secIn, *] <;> omega, (Bel.refl.alloc _).alloc _⟩)
set_option maxHeartbeats 400000 in
theorem overlaps_any (a b : Sec) (w : World) :
    Calls Try.prog 50 #[secV a, secV b] w fun e w' => e = .returned (.bool (secLap a b)) ∧ Bel w w' := by
  unfold secV
  go_enter Try.func50, Try.ntmps50
  go_wp2
  all_goals (go_ret; exact ⟨by simp [secLap, *] <;> omega, (Bel.refl.alloc _).alloc _⟩)
set_option maxHeartbeats 400000 in
theorem roverlap_any (a b : Sec) (w : World) :
    Calls Try.prog 40 #[secV a, secV b] w fun e w' => e = .returned (.bool (secLap a b)) ∧ Bel w w' := by
  unfold secV
  go_enter Try.func40, Try.ntmps40
  go_wp2
  all_goals (go_ret; exact ⟨by simp [secLap, *] <;> omega, (Bel.refl.alloc _).alloc _⟩)
set_option maxHeartbeats 400000 in
theorem ends_any (a : Sec) (w : World) :
    Calls Try.prog 47 #[secV a] w fun e w' => e = .returned (.int .i64 (wrap64 (a.frm + a.len))) ∧ Bel w w' := by
  unfold secV
  go_enter Try.func47, Try.ntmps47
  go_wp2
  all_goals (go_ret; exact ⟨rfl, (Bel.refl.alloc _)⟩)
set_option maxHeartbeats 400000 in
theorem sections1_any (a b : Sec) (w : World) :
    Calls Try.prog 49 #[secV a, secV b] w fun e w' => e = .returned (.bool (secIn b a)) ∧ Bel w w' := by
  have HC := fun W => contains_any b a W
  unfold secV at *
  go_enter Try.func49, Try.ntmps49
  go_wp2_with fail
  refine (HC _).mono ?_
  rintro e w' ⟨rfl, hb⟩
  have HB := Lib.hid hb
  clear hb HC
  go_wp2
  go_ret
  exact ⟨rfl, ((Bel.refl.alloc _).alloc _).trans HB.out⟩
end Go.Proofs.Ythcdemmamggboaa
