import Derived.Test.YtppfneockckkgaaLim7
namespace Go.Proofs.Ytppfneockckkgaa
open Go.RowKit
theorem i64s {n : Int} (h1 : -9223372036854775808 ≤ n) (h2 : n ≤ 9223372036854775807) : i64 n := ⟨h1, h2⟩
theorem rval31 : rval ⟨3, 1⟩ = true := by decide
theorem meet36 : lmeets ⟨3, 1⟩ 6 = (false, 0) := by decide
theorem text5 : ltext (-5) = ([60, 61, 45, 51], 0) := by decide
set_option maxHeartbeats 4000000 in
theorem shown_any (w : World) : Calls Try.prog 12 #[] w fun e w' => e = .returned (.bool true) ∧ Bel w w' := by
  have H1 : Hid (∀ W, Calls Try.prog 19 #[.int .i64 3] W fun e w' => e = .returned (.tuple #[.int .i64 7, .int .i64 0]) ∧ W = w') := Lib.hid fun W => pweak_any 3 W (i64s (by omega) (by omega))
  have H2 : Hid (∀ W, Calls Try.prog 8 #[.int .i64 7, .int .i64 4] W fun e w' => e = .returned (.tuple #[.int .i64 10, .int .i64 0]) ∧ W = w') := Lib.hid fun W => padd_any 7 4 W (i64s (by omega) (by omega)) (i64s (by omega) (by omega))
  have H3 : Hid (∀ W, Calls Try.prog 10 #[.int .i64 7] W fun e w' => e = .returned (.tuple #[.int .i64 (-6), .int .i64 0]) ∧ W = w') := Lib.hid fun W => pnot_any 7 W (i64s (by omega) (by omega))
  have H4 : Hid (∀ W, Calls Try.prog 13 #[.agg #[.int .i64 3, .int .i64 1], .int .i64 6] W fun e w' => e = .returned (.tuple #[.bool false, .int .i64 0]) ∧ Bel W w') := Lib.hid fun W => by
    have := pmeets_any ⟨3, 1⟩ 6 W ⟨i64s (by simp) (by simp), i64s (by simp) (by simp)⟩ (i64s (by omega) (by omega))
    rw [meet36] at this
    exact this
  have H5 : Hid (∀ W, Calls Try.prog 25 #[.int .i64 (-5)] W fun e w' => e = .returned (.tuple #[.string ⟨#[60, 61, 45, 51]⟩, .int .i64 0]) ∧ Bel W w') := Lib.hid fun W => by
    have := pltext_any (-5) W (i64s (by omega) (by omega))
    rw [text5] at this
    exact this
  have H6 : Hid (∀ W, Calls Try.prog 23 #[.int .i64 1099511627776] W fun e w' => e = .returned (.tuple #[.int .i64 0, .bool false, .int .i64 4]) ∧ W = w') := Lib.hid fun W => psplit_any 1099511627776 W (i64s (by omega) (by omega))
  go_enter Try.func12, Try.ntmps12
  go_wp2_with (first | (go_at_call 19; (with_reducible refine (H1.out _).mono ?_); rintro e w2 ⟨rfl, rfl⟩) | (go_at_call 8; (with_reducible refine (H2.out _).mono ?_); rintro e w2 ⟨rfl, rfl⟩) | (go_at_call 10; (with_reducible refine (H3.out _).mono ?_); rintro e w2 ⟨rfl, rfl⟩) | (go_at_call 13; (with_reducible refine (H4.out _).mono ?_); rintro e w2 ⟨rfl, hb2⟩; obtain ⟨x, rfl⟩ : ∃ x : Ext w, w2 = x.w := ext_of (hb2.after (by (repeat (first | exact Ext.bel _ | exact Bel.refl | refine Bel.alloc ?_ _ | refine Bel.drew ?_ | refine Bel.drewN ?_ _)))); clear hb2) | (go_at_call 25; (with_reducible refine (H5.out _).mono ?_); rintro e w2 ⟨rfl, hb2⟩; obtain ⟨x, rfl⟩ : ∃ x : Ext w, w2 = x.w := ext_of (hb2.after (by (repeat (first | exact Ext.bel _ | exact Bel.refl | refine Bel.alloc ?_ _ | refine Bel.drew ?_ | refine Bel.drewN ?_ _)))); clear hb2) | (go_at_call 23; (with_reducible refine (H6.out _).mono ?_); rintro e w2 ⟨rfl, rfl⟩))
  go_ret
  exact ⟨rfl, x.bel⟩
end Go.Proofs.Ytppfneockckkgaa
