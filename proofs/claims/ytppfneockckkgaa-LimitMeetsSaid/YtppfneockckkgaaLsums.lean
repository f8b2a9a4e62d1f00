import Derived.Test.YtppfneockckkgaaLshow
namespace Go.Proofs.Ytppfneockckkgaa
open Go.RowKit
set_option maxHeartbeats 4000000 in
theorem sums_any (x y : Int) (w : World) (hx : i64 x) (hy : i64 y) : Calls Try.prog 3 #[.int .i64 x, .int .i64 y] w fun e w' => e = .returned (.bool true) ∧ Bel w w' := by
  have H1 := Lib.hid fun W => padd_any x y W hx hy
  have H2 := Lib.hid fun W => radd_any x y W hx hy
  have H3 := Lib.hid fun W => pnot_any x W hx
  have H4 := Lib.hid fun W => rnot_any x W hx
  unfold lofV at *
  generalize (ladd x y).1 = a1 at *
  generalize (ladd x y).2 = a2 at *
  generalize (lnot x).1 = n1 at *
  generalize (lnot x).2 = n2 at *
  clear hx hy
  go_enter Try.func3, Try.ntmps3
  go_wp2_with (first | (go_at_call 8; (with_reducible refine (H1.out _).mono ?_); rintro e w2 ⟨rfl, rfl⟩) | (go_at_call 9; (with_reducible refine (H2.out _).mono ?_); rintro e w2 ⟨rfl, rfl⟩) | (go_at_call 10; (with_reducible refine (H3.out _).mono ?_); rintro e w2 ⟨rfl, rfl⟩) | (go_at_call 11; (with_reducible refine (H4.out _).mono ?_); rintro e w2 ⟨rfl, rfl⟩) | (go_at_call 12; (with_reducible refine (shown_any _).mono ?_); rintro e w2 ⟨rfl, hb2⟩; obtain ⟨x, rfl⟩ : ∃ x : Ext w, w2 = x.w := ext_of (hb2.after (by (repeat (first | exact Ext.bel _ | exact Bel.refl | refine Bel.alloc ?_ _ | refine Bel.drew ?_ | refine Bel.drewN ?_ _)))); clear hb2))
  all_goals (go_ret; exact ⟨rfl, x.bel⟩)
set_option maxHeartbeats 4000000 in
theorem meets_any (d : Rt) (l : Int) (w : World) (hd : d.wf) (hl : i64 l) : Calls Try.prog 4 #[d.V, .int .i64 l] w fun e w' => e = .returned (.bool true) ∧ Bel w w' := by
  have H1 := Lib.hid fun W => pmeets_any d l W hd hl
  have H2 := Lib.hid fun W => rmeets_any d l W hd hl
  unfold meetV Rt.V at *
  generalize (lmeets d l).1 = a1 at *
  generalize (lmeets d l).2 = a2 at *
  clear hd hl
  go_enter Try.func4, Try.ntmps4
  go_upto_region 1 with (fail)
  (generalize hW : World.alloc _ _ = wb; have q0_0 := (congrArg (fun W : World => W.cell? ⟨w.heap.size, 0, none⟩) hW).symm; simp [go_sem] at q0_0; have q0_1 := (congrArg (fun W : World => W.cell? ⟨w.heap.size, 1, none⟩) hW).symm; simp [go_sem] at q0_1; have qz0 : w.heap.size < wb.heap.size := (by rw [← hW]; simp [go_sem]; try omega); have HBW : Hid (Bel w wb) := Lib.hid (by rw [← hW]; (repeat (first | exact Ext.bel _ | exact Bel.refl | refine Bel.alloc ?_ _ | refine Bel.drew ?_ | refine Bel.drewN ?_ _))); clear hW; have hkw := HBW.out.cells)
  go_wp2_with (first | (go_at_call 13; (with_reducible refine (H1.out _).mono ?_); rintro e w2 ⟨rfl, hb2⟩; obtain ⟨x, rfl⟩ : ∃ x : Ext wb, w2 = x.w := ext_of (hb2.after (by (repeat (first | exact Ext.bel _ | exact Bel.refl | refine Bel.alloc ?_ _ | refine Bel.drew ?_ | refine Bel.drewN ?_ _)))); clear hb2) | (go_at_call 14; (with_reducible refine (H2.out _).mono ?_); rintro e w2 ⟨rfl, hb2⟩; obtain ⟨x, rfl⟩ : ∃ x : Ext wb, w2 = x.w := ext_of (hb2.after (by (repeat (first | exact Ext.bel _ | exact Bel.refl | refine Bel.alloc ?_ _ | refine Bel.drew ?_ | refine Bel.drewN ?_ _)))); clear hb2) | (go_at_call 12; (with_reducible refine (shown_any _).mono ?_); rintro e w2 ⟨rfl, hb2⟩; obtain ⟨x, rfl⟩ : ∃ x : Ext wb, w2 = x.w := ext_of (hb2.after (by (repeat (first | exact Ext.bel _ | exact Bel.refl | refine Bel.alloc ?_ _ | refine Bel.drew ?_ | refine Bel.drewN ?_ _)))); clear hb2))
  all_goals (go_ret; exact ⟨rfl, HBW.out.trans x.bel⟩)
set_option maxHeartbeats 4000000 in
theorem forms_any (n : Int) (w : World) (hn : i64 n) : Calls Try.prog 7 #[.int .i64 n] w fun e w' => e = .returned (.bool true) ∧ Bel w w' := by
  have H1 := Lib.hid fun W => pweak_any n W hn
  have H2 := Lib.hid fun W => rweak_any n W hn
  have H3 := Lib.hid fun W => pstrictf_any n W hn
  have H4 := Lib.hid fun W => rstrictf_any n W hn
  have H5 := Lib.hid fun W => psplit_any n W hn
  have H6 := Lib.hid fun W => rsplit_any n W hn
  have H7 := Lib.hid fun W => pltext_any n W hn
  have H8 := Lib.hid fun W => rltext_any n W hn
  have H9 := Lib.hid fun W => plval_any n W hn
  have H10 := Lib.hid fun W => rlval_any n W hn
  unfold lofV splitV strV at *
  generalize (lof n false).1 = a1 at *
  generalize (lof n false).2 = a2 at *
  generalize (lof n true).1 = a3 at *
  generalize (lof n true).2 = a4 at *
  generalize (lsplit n).1 = a5 at *
  generalize (lsplit n).2.1 = a6 at *
  generalize (lsplit n).2.2 = a7 at *
  generalize (ltext n).2 = a8 at *
  generalize (ltext n).1 = a9 at *
  generalize lval n = a10 at *
  clear hn
  go_enter Try.func7, Try.ntmps7
  go_wp2_with (first | (go_at_call 19; (with_reducible refine (H1.out _).mono ?_); rintro e w2 ⟨rfl, rfl⟩) | (go_at_call 20; (with_reducible refine (H2.out _).mono ?_); rintro e w2 ⟨rfl, rfl⟩) | (go_at_call 21; (with_reducible refine (H3.out _).mono ?_); rintro e w2 ⟨rfl, rfl⟩) | (go_at_call 22; (with_reducible refine (H4.out _).mono ?_); rintro e w2 ⟨rfl, rfl⟩) | (go_at_call 23; (with_reducible refine (H5.out _).mono ?_); rintro e w2 ⟨rfl, rfl⟩) | (go_at_call 24; (with_reducible refine (H6.out _).mono ?_); rintro e w2 ⟨rfl, rfl⟩) | (go_at_call 25; (with_reducible refine (H7.out _).mono ?_); rintro e w2 ⟨rfl, hb2⟩; obtain ⟨x, rfl⟩ : ∃ x : Ext w, w2 = x.w := ext_of (hb2.after (by (repeat (first | exact Ext.bel _ | exact Bel.refl | refine Bel.alloc ?_ _ | refine Bel.drew ?_ | refine Bel.drewN ?_ _)))); clear hb2) | (go_at_call 26; (with_reducible refine (H8.out _).mono ?_); rintro e w2 ⟨rfl, hb2⟩; obtain ⟨x, rfl⟩ : ∃ x : Ext w, w2 = x.w := ext_of (hb2.after (by (repeat (first | exact Ext.bel _ | exact Bel.refl | refine Bel.alloc ?_ _ | refine Bel.drew ?_ | refine Bel.drewN ?_ _)))); clear hb2) | (go_at_call 15; (with_reducible refine (H9.out _).mono ?_); rintro e w2 ⟨rfl, rfl⟩) | (go_at_call 17; (with_reducible refine (H10.out _).mono ?_); rintro e w2 ⟨rfl, rfl⟩) | (go_at_call 12; (with_reducible refine (shown_any _).mono ?_); rintro e w2 ⟨rfl, hb2⟩; obtain ⟨x, rfl⟩ : ∃ x : Ext w, w2 = x.w := ext_of (hb2.after (by (repeat (first | exact Ext.bel _ | exact Bel.refl | refine Bel.alloc ?_ _ | refine Bel.drew ?_ | refine Bel.drewN ?_ _)))); clear hb2))
  all_goals (go_ret; exact ⟨rfl, x.bel⟩)
end Go.Proofs.Ytppfneockckkgaa
