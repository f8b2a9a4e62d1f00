import Derived.Test.YtehifcgfgejjcaaRplain
import Derived.Test.YtehifcgfgejjcaaRmidp
import Derived.Test.YtehifcgfgejjcaaRops3
namespace Go.Proofs.Ytehifcgfgejjcaa
open Go.RowKit
theorem i64s {n : Int} (h1 : -9223372036854775808 ≤ n) (h2 : n ≤ 9223372036854775807) : i64 n := ⟨h1, h2⟩
theorem rt_wf {n d : Int} (h1 : -9223372036854775808 ≤ n) (h2 : n ≤ 9223372036854775807) (h3 : -9223372036854775808 ≤ d) (h4 : d ≤ 9223372036854775807) : (Rt.mk n d).wf := ⟨⟨h1, h2⟩, ⟨h3, h4⟩⟩
theorem mid25 : rmid ⟨1, 3⟩ ⟨1, 2⟩ = (⟨2, 5⟩, 0) := by decide +kernel
-- contracts with the values written out
section
variable (x y : Rt) (W : World) {n d e : Int}
theorem pmk_at (a b : Int) (ha : i64 a) (hb : i64 b) (h : rmake a b = (⟨n, d⟩, e)) : Calls Try.prog 28 #[.int .i64 a, .int .i64 b] W fun e' w' => e' = .returned (.tuple #[.agg #[.int .i64 n, .int .i64 d], .int .i64 e]) ∧ Bel W w' := by
  have := pmake_any a b W ha hb; rw [h] at this; exact this
theorem padd_at (hx : x.wf) (hy : y.wf) (h : radd x y = (⟨n, d⟩, e)) : Calls Try.prog 17 #[.agg #[.int .i64 x.num, .int .i64 x.den], .agg #[.int .i64 y.num, .int .i64 y.den]] W fun e' w' => e' = .returned (.tuple #[.agg #[.int .i64 n, .int .i64 d], .int .i64 e]) ∧ Bel W w' := by
  have := pradd_any x y W hx hy; rw [h] at this; exact this
theorem psub_at (hx : x.wf) (hy : y.wf) (h : rsub x y = (⟨n, d⟩, e)) : Calls Try.prog 19 #[.agg #[.int .i64 x.num, .int .i64 x.den], .agg #[.int .i64 y.num, .int .i64 y.den]] W fun e' w' => e' = .returned (.tuple #[.agg #[.int .i64 n, .int .i64 d], .int .i64 e]) ∧ Bel W w' := by
  have := prsub_any x y W hx hy; rw [h] at this; exact this
theorem pmul_at (hx : x.wf) (hy : y.wf) (h : rmul x y = (⟨n, d⟩, e)) : Calls Try.prog 21 #[.agg #[.int .i64 x.num, .int .i64 x.den], .agg #[.int .i64 y.num, .int .i64 y.den]] W fun e' w' => e' = .returned (.tuple #[.agg #[.int .i64 n, .int .i64 d], .int .i64 e]) ∧ Bel W w' := by
  have := prmul_any x y W hx hy; rw [h] at this; exact this
theorem pquo_at (hx : x.wf) (hy : y.wf) (h : rquo x y = (⟨n, d⟩, e)) : Calls Try.prog 23 #[.agg #[.int .i64 x.num, .int .i64 x.den], .agg #[.int .i64 y.num, .int .i64 y.den]] W fun e' w' => e' = .returned (.tuple #[.agg #[.int .i64 n, .int .i64 d], .int .i64 e]) ∧ Bel W w' := by
  have := prdiv_any x y W hx hy; rw [h] at this; exact this
theorem pmid_at (hx : x.wf) (hy : y.wf) (h : rmid x y = (⟨n, d⟩, e)) : Calls Try.prog 9 #[.agg #[.int .i64 x.num, .int .i64 x.den], .agg #[.int .i64 y.num, .int .i64 y.den]] W fun e' w' => e' = .returned (.tuple #[.agg #[.int .i64 n, .int .i64 d], .int .i64 e]) ∧ Bel W w' := by
  have := prmid_any x y W hx hy; rw [h] at this; exact this
theorem pcmp_at (hx : x.wf) (hy : y.wf) {k : Int} (h : rcmp x y = (k, e)) : Calls Try.prog 16 #[.agg #[.int .i64 x.num, .int .i64 x.den], .agg #[.int .i64 y.num, .int .i64 y.den]] W fun e' w' => e' = .returned (.tuple #[.int .i64 k, .int .i64 e]) ∧ Bel W w' := by
  have := prcmp_any x y W hx hy; rw [h] at this; exact this
theorem ptext_at (hx : x.wf) {l : List UInt8} (h : rtext x = (l, e)) : Calls Try.prog 12 #[.agg #[.int .i64 x.num, .int .i64 x.den]] W fun e' w' => e' = .returned (.tuple #[.string ⟨l.toArray⟩, .int .i64 e]) ∧ Bel W w' := by
  have := ptext_any x W hx; rw [h] at this; exact this
theorem pread_at (s : ByteArray) (hs : s.size ≤ 1000000) (h : readL (bl s) = (⟨n, d⟩, e)) : Calls Try.prog 14 #[.string s] W fun e' w' => e' = .returned (.tuple #[.agg #[.int .i64 n, .int .i64 d], .int .i64 e]) ∧ Bel W w' := by
  have := pread_any s W hs; rw [h] at this; exact this
end
set_option maxHeartbeats 4000000 in
theorem rshown_any (w : World) : Calls Try.prog 11 #[] w fun e w' => e = .returned (.bool true) ∧ Bel w w' := by
  have H1 := Lib.hid fun W => pmk_at (n := -3) (d := 2) (e := 0) W 6 (-4) (i64s (by omega) (by omega)) (i64s (by omega) (by omega)) (by decide)
  have H2 := Lib.hid fun W => padd_at (n := 5) (d := 6) (e := 0) ⟨1, 2⟩ ⟨1, 3⟩ W (rt_wf (by omega) (by omega) (by omega) (by omega)) (rt_wf (by omega) (by omega) (by omega) (by omega)) (by decide)
  have H3 := Lib.hid fun W => pmid_at (n := 2) (d := 5) (e := 0) ⟨1, 3⟩ ⟨1, 2⟩ W (rt_wf (by omega) (by omega) (by omega) (by omega)) (rt_wf (by omega) (by omega) (by omega) (by omega)) mid25
  have H4 := Lib.hid fun W => ptext_at (l := [45, 51, 47, 50]) (e := 0) ⟨-3, 2⟩ W (rt_wf (by omega) (by omega) (by omega) (by omega)) (by decide)
  have H5 := Lib.hid fun W => pread_at (n := 2) (d := 1) (e := 0) W ⟨#[52, 47, 50]⟩ (by decide) (by decide)
  have H6 := Lib.hid fun W => pread_at (n := 0) (d := 0) (e := 6) W ⟨#[45, 48]⟩ (by decide) (by decide)
  go_enter Try.func11, Try.ntmps11
  go_upto_region 2 with (first | (go_at_call 28; (with_reducible refine (H1.out _).mono ?_); rintro e w2 ⟨rfl, hb2⟩; obtain ⟨x, rfl⟩ : ∃ x : Ext w, w2 = x.w := ext_of (hb2.after (by (repeat (first | exact Ext.bel _ | exact Bel.refl | refine Bel.alloc ?_ _ | refine Bel.drew ?_ | refine Bel.drewN ?_ _)))); clear hb2))
  (generalize hW : World.alloc _ _ = wb; have q0_0 := (congrArg (fun W : World => W.cell? ⟨x.w.heap.size, 0, none⟩) hW).symm; simp [go_sem] at q0_0; have q0_1 := (congrArg (fun W : World => W.cell? ⟨x.w.heap.size, 1, none⟩) hW).symm; simp [go_sem] at q0_1; have qz0 : x.w.heap.size < wb.heap.size := (by rw [← hW]; simp [go_sem]; try omega); have HBW : Hid (Bel w wb) := Lib.hid (by rw [← hW]; (repeat (first | exact Ext.bel _ | exact Bel.refl | refine Bel.alloc ?_ _ | refine Bel.drew ?_ | refine Bel.drewN ?_ _))); clear hW; have hkw := HBW.out.cells)
  generalize x.w.heap.size = b1 at *
  have HB1 := HBW
  go_upto_region 3 with (first | (go_at_call 17; (with_reducible refine (H2.out _).mono ?_); rintro e w2 ⟨rfl, hb2⟩; obtain ⟨x, rfl⟩ : ∃ x : Ext wb, w2 = x.w := ext_of (hb2.after (by (repeat (first | exact Ext.bel _ | exact Bel.refl | refine Bel.alloc ?_ _ | refine Bel.drew ?_ | refine Bel.drewN ?_ _)))); clear hb2))
  (generalize hW : World.alloc _ _ = wc; have q0_0 := (congrArg (fun W : World => W.cell? ⟨x.w.heap.size, 0, none⟩) hW).symm; simp [go_sem] at q0_0; have q0_1 := (congrArg (fun W : World => W.cell? ⟨x.w.heap.size, 1, none⟩) hW).symm; simp [go_sem] at q0_1; have qz0 : x.w.heap.size < wc.heap.size := (by rw [← hW]; simp [go_sem]; try omega); have HBW : Hid (Bel wb wc) := Lib.hid (by rw [← hW]; (repeat (first | exact Ext.bel _ | exact Bel.refl | refine Bel.alloc ?_ _ | refine Bel.drew ?_ | refine Bel.drewN ?_ _))); clear hW; have hkw := HBW.out.cells; have : b1 < wc.heap.size := (Nat.lt_of_lt_of_le (by first | assumption | omega) HBW.out.le))
  generalize x.w.heap.size = b2 at *
  have HB2 := HBW
  go_upto_region 4 with (first | (go_at_call 9; (with_reducible refine (H3.out _).mono ?_); rintro e w2 ⟨rfl, hb2⟩; obtain ⟨x, rfl⟩ : ∃ x : Ext wc, w2 = x.w := ext_of (hb2.after (by (repeat (first | exact Ext.bel _ | exact Bel.refl | refine Bel.alloc ?_ _ | refine Bel.drew ?_ | refine Bel.drewN ?_ _)))); clear hb2))
  have : b1 < wc.heap.size := by assumption
  (generalize hW : World.alloc _ _ = wd; have q0_0 := (congrArg (fun W : World => W.cell? ⟨x.w.heap.size, 0, none⟩) hW).symm; simp [go_sem] at q0_0; have q0_1 := (congrArg (fun W : World => W.cell? ⟨x.w.heap.size, 1, none⟩) hW).symm; simp [go_sem] at q0_1; have qz0 : x.w.heap.size < wd.heap.size := (by rw [← hW]; simp [go_sem]; try omega); have HBW : Hid (Bel wc wd) := Lib.hid (by rw [← hW]; (repeat (first | exact Ext.bel _ | exact Bel.refl | refine Bel.alloc ?_ _ | refine Bel.drew ?_ | refine Bel.drewN ?_ _))); clear hW; have hkw := HBW.out.cells; have : b1 < wd.heap.size := (Nat.lt_of_lt_of_le (by first | assumption | omega) HBW.out.le); have : b2 < wd.heap.size := (Nat.lt_of_lt_of_le (by first | assumption | omega) HBW.out.le))
  generalize x.w.heap.size = b3 at *
  have HB3 := HBW
  go_upto_region 6 with (first | (go_at_call 12; (with_reducible refine (H4.out _).mono ?_); rintro e w2 ⟨rfl, hb2⟩; obtain ⟨x, rfl⟩ : ∃ x : Ext wd, w2 = x.w := ext_of (hb2.after (by (repeat (first | exact Ext.bel _ | exact Bel.refl | refine Bel.alloc ?_ _ | refine Bel.drew ?_ | refine Bel.drewN ?_ _)))); clear hb2) | (go_at_call 14; (with_reducible refine (H5.out _).mono ?_); rintro e w2 ⟨rfl, hb2⟩; obtain ⟨x, rfl⟩ : ∃ x : Ext wd, w2 = x.w := ext_of (hb2.after (by (repeat (first | exact Ext.bel _ | exact Bel.refl | refine Bel.alloc ?_ _ | refine Bel.drew ?_ | refine Bel.drewN ?_ _)))); clear hb2))
  (generalize hW : World.alloc _ _ = we; have q0_0 := (congrArg (fun W : World => W.cell? ⟨x.w.heap.size, 0, none⟩) hW).symm; simp [go_sem] at q0_0; have q0_1 := (congrArg (fun W : World => W.cell? ⟨x.w.heap.size, 1, none⟩) hW).symm; simp [go_sem] at q0_1; have qz0 : x.w.heap.size < we.heap.size := (by rw [← hW]; simp [go_sem]; try omega); have HBW : Hid (Bel wd we) := Lib.hid (by rw [← hW]; (repeat (first | exact Ext.bel _ | exact Bel.refl | refine Bel.alloc ?_ _ | refine Bel.drew ?_ | refine Bel.drewN ?_ _))); clear hW; have hkw := HBW.out.cells; have : b1 < we.heap.size := (Nat.lt_of_lt_of_le (by first | assumption | omega) HBW.out.le); have : b2 < we.heap.size := (Nat.lt_of_lt_of_le (by first | assumption | omega) HBW.out.le); have : b3 < we.heap.size := (Nat.lt_of_lt_of_le (by first | assumption | omega) HBW.out.le))
  generalize x.w.heap.size = b4 at *
  have HB4 := HBW
  go_wp2_with (first | (go_at_call 14; (with_reducible refine (H6.out _).mono ?_); rintro e w2 ⟨rfl, hb2⟩; obtain ⟨x, rfl⟩ : ∃ x : Ext we, w2 = x.w := ext_of (hb2.after (by (repeat (first | exact Ext.bel _ | exact Bel.refl | refine Bel.alloc ?_ _ | refine Bel.drew ?_ | refine Bel.drewN ?_ _)))); clear hb2))
  go_ret
  exact ⟨rfl, HB1.out.trans (HB2.out.trans (HB3.out.trans (HB4.out.trans ((x.bel).alloc _))))⟩
end Go.Proofs.Ytehifcgfgejjcaa
