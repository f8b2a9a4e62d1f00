import Derived.Test.YtcddgkoldffaaaaRows
import Derived.Test.YtcddgkoldffaaaaBase
namespace Go.Proofs.Ytcddgkoldffaaaa
open Go.RowKit
set_option maxHeartbeats 400000 in
theorem contains_any (a b : Sec) (w : World) :
    Calls Try.prog 26 #[secV a, secV b] w fun e w' => e = .returned (.bool (secIn a b)) ∧ Bel w w' := by
  unfold secV
  go_enter Try.func26, Try.ntmps26
  go_wp2
  all_goals (go_ret; exact ⟨by simp [secIn, *] <;> omega, (Bel.refl.alloc _).alloc _⟩)
set_option maxHeartbeats 400000 in
theorem rcontains_any (a b : Sec) (w : World) :
    Calls Try.prog 30 #[secV a, secV b] w fun e w' => e = .returned (.bool (secIn a b)) ∧ Bel w w' := by
  unfold secV
  go_enter Try.func30, Try.ntmps30
  go_wp2
  all_goals (go_ret; exact ⟨by simp [secIn, *] <;> omega, (Bel.refl.alloc _).alloc _⟩)
set_option maxHeartbeats 400000 in
theorem overlaps_any (a b : Sec) (w : World) :
    Calls Try.prog 28 #[secV a, secV b] w fun e w' => e = .returned (.bool (secLap a b)) ∧ Bel w w' := by
  unfold secV
  go_enter Try.func28, Try.ntmps28
  go_wp2
  all_goals (go_ret; exact ⟨by simp [secLap, *] <;> omega, (Bel.refl.alloc _).alloc _⟩)
set_option maxHeartbeats 400000 in
theorem roverlap_any (a b : Sec) (w : World) :
    Calls Try.prog 29 #[secV a, secV b] w fun e w' => e = .returned (.bool (secLap a b)) ∧ Bel w w' := by
  unfold secV
  go_enter Try.func29, Try.ntmps29
  go_wp2
  all_goals (go_ret; exact ⟨by simp [secLap, *] <;> omega, (Bel.refl.alloc _).alloc _⟩)
set_option maxHeartbeats 400000 in
theorem ends_any (a : Sec) (w : World) :
    Calls Try.prog 25 #[secV a] w fun e w' => e = .returned (.int .i64 (wrap64 (a.frm + a.len))) ∧ Bel w w' := by
  unfold secV
  go_enter Try.func25, Try.ntmps25
  go_wp2
  all_goals (go_ret; exact ⟨rfl, (Bel.refl.alloc _)⟩)
set_option maxHeartbeats 400000 in
theorem sections1_any (a b : Sec) (w : World) :
    Calls Try.prog 27 #[secV a, secV b] w fun e w' => e = .returned (.bool (secIn b a)) ∧ Bel w w' := by
  have HC := fun W => contains_any b a W
  unfold secV at *
  go_enter Try.func27, Try.ntmps27
  go_wp2_with fail
  refine (HC _).mono ?_
  rintro e w' ⟨rfl, hb⟩
  have HB := Lib.hid hb
  clear hb HC
  go_wp2
  go_ret
  exact ⟨rfl, ((Bel.refl.alloc _).alloc _).trans HB.out⟩
end Go.Proofs.Ytcddgkoldffaaaa
