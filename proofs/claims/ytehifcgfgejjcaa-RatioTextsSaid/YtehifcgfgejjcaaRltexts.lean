import Derived.Test.YtehifcgfgejjcaaRlshow
import Derived.Test.YtehifcgfgejjcaaRreadr
namespace Go.Proofs.Ytehifcgfgejjcaa
open Go.RowKit
set_option maxHeartbeats 4000000 in
theorem texts_any (x : Rt) (s : ByteArray) (w : World) (hx : x.wf) : Calls Try.prog 4 #[x.V, .string s] w fun e w' => e = .returned (.bool true) ∧ Bel w w' := by
  unfold Rt.V
  by_cases hs : 200 < s.size
  · clear hx
    go_enter Try.func4, Try.ntmps4
    go_upto_region 1 with (fail)
    (generalize hW : World.alloc _ _ = wb; have q0_0 := (congrArg (fun W : World => W.cell? ⟨w.heap.size, 0, none⟩) hW).symm; simp [go_sem] at q0_0; have q0_1 := (congrArg (fun W : World => W.cell? ⟨w.heap.size, 1, none⟩) hW).symm; simp [go_sem] at q0_1; have qz0 : w.heap.size < wb.heap.size := (by rw [← hW]; simp [go_sem]; try omega); have HBW : Hid (Bel w wb) := Lib.hid (by rw [← hW]; (repeat (first | exact Ext.bel _ | exact Bel.refl | refine Bel.alloc ?_ _ | refine Bel.drew ?_ | refine Bel.drewN ?_ _))); clear hW; have hkw := HBW.out.cells)
    go_wp2_with (first | (go_at_call 11; (with_reducible refine (rshown_any _).mono ?_); rintro e w2 ⟨rfl, hb2⟩; obtain ⟨x, rfl⟩ : ∃ x : Ext wb, w2 = x.w := ext_of (hb2.after (by (repeat (first | exact Ext.bel _ | exact Bel.refl | refine Bel.alloc ?_ _ | refine Bel.drew ?_ | refine Bel.drewN ?_ _)))); clear hb2))
    go_ret
    exact ⟨rfl, HBW.out.trans x.bel⟩
  have H1 := Lib.hid fun W => ptext_any x W hx
  have H2 := Lib.hid fun W => rtext_any x W hx
  have H3 := Lib.hid fun W => pread_any s W (by omega)
  have H4 := Lib.hid fun W => rread_any s W (by omega)
  unfold rresV Rt.V strV at *
  generalize (rtext x).1 = l at *
  generalize (rtext x).2 = f at *
  generalize readL (bl s) = r at *
  obtain ⟨⟨n, d⟩, e⟩ := r
  simp only at *
  clear hx
  go_enter Try.func4, Try.ntmps4
  go_upto_region 1 with (fail)
  (generalize hW : World.alloc _ _ = wb; have q0_0 := (congrArg (fun W : World => W.cell? ⟨w.heap.size, 0, none⟩) hW).symm; simp [go_sem] at q0_0; have q0_1 := (congrArg (fun W : World => W.cell? ⟨w.heap.size, 1, none⟩) hW).symm; simp [go_sem] at q0_1; have qz0 : w.heap.size < wb.heap.size := (by rw [← hW]; simp [go_sem]; try omega); have HBW : Hid (Bel w wb) := Lib.hid (by rw [← hW]; (repeat (first | exact Ext.bel _ | exact Bel.refl | refine Bel.alloc ?_ _ | refine Bel.drew ?_ | refine Bel.drewN ?_ _))); clear hW; have hkw := HBW.out.cells)
  go_upto_region 6 with (first | (go_at_call 12; (with_reducible refine (H1.out _).mono ?_); rintro e w2 ⟨rfl, hb2⟩; obtain ⟨x, rfl⟩ : ∃ x : Ext wb, w2 = x.w := ext_of (hb2.after (by (repeat (first | exact Ext.bel _ | exact Bel.refl | refine Bel.alloc ?_ _ | refine Bel.drew ?_ | refine Bel.drewN ?_ _)))); clear hb2) | (go_at_call 13; (with_reducible refine (H2.out _).mono ?_); rintro e w2 ⟨rfl, hb2⟩; obtain ⟨x, rfl⟩ : ∃ x : Ext wb, w2 = x.w := ext_of (hb2.after (by (repeat (first | exact Ext.bel _ | exact Bel.refl | refine Bel.alloc ?_ _ | refine Bel.drew ?_ | refine Bel.drewN ?_ _)))); clear hb2) | (go_at_call 14; (with_reducible refine (H3.out _).mono ?_); rintro e w2 ⟨rfl, hb2⟩; obtain ⟨x, rfl⟩ : ∃ x : Ext wb, w2 = x.w := ext_of (hb2.after (by (repeat (first | exact Ext.bel _ | exact Bel.refl | refine Bel.alloc ?_ _ | refine Bel.drew ?_ | refine Bel.drewN ?_ _)))); clear hb2))
  have HB1 := HBW
  (generalize hW : World.alloc _ _ = wc; have q0_0 := (congrArg (fun W : World => W.cell? ⟨x.w.heap.size, 0, none⟩) hW).symm; simp [go_sem] at q0_0; have q0_1 := (congrArg (fun W : World => W.cell? ⟨x.w.heap.size, 1, none⟩) hW).symm; simp [go_sem] at q0_1; have qz0 : x.w.heap.size < wc.heap.size := (by rw [← hW]; simp [go_sem]; try omega); have HBW : Hid (Bel wb wc) := Lib.hid (by rw [← hW]; (repeat (first | exact Ext.bel _ | exact Bel.refl | refine Bel.alloc ?_ _ | refine Bel.drew ?_ | refine Bel.drewN ?_ _))); clear hW; have hkw := HBW.out.cells; have : w.heap.size < wc.heap.size := (Nat.lt_of_lt_of_le (by first | assumption | omega) HBW.out.le))
  generalize x.w.heap.size = b1 at *
  go_upto_region 7 with (first | (go_at_call 15; (with_reducible refine (H4.out _).mono ?_); rintro e w2 ⟨rfl, hb2⟩; obtain ⟨x, rfl⟩ : ∃ x : Ext wc, w2 = x.w := ext_of (hb2.after (by (repeat (first | exact Ext.bel _ | exact Bel.refl | refine Bel.alloc ?_ _ | refine Bel.drew ?_ | refine Bel.drewN ?_ _)))); clear hb2))
  have HB2 := HBW
  (generalize hW : World.alloc _ _ = wd; have q0_0 := (congrArg (fun W : World => W.cell? ⟨x.w.heap.size, 0, none⟩) hW).symm; simp [go_sem] at q0_0; have q0_1 := (congrArg (fun W : World => W.cell? ⟨x.w.heap.size, 1, none⟩) hW).symm; simp [go_sem] at q0_1; have qz0 : x.w.heap.size < wd.heap.size := (by rw [← hW]; simp [go_sem]; try omega); have HBW : Hid (Bel wc wd) := Lib.hid (by rw [← hW]; (repeat (first | exact Ext.bel _ | exact Bel.refl | refine Bel.alloc ?_ _ | refine Bel.drew ?_ | refine Bel.drewN ?_ _))); clear hW; have hkw := HBW.out.cells; have : b1 < wd.heap.size := (Nat.lt_of_lt_of_le (by first | assumption | omega) HBW.out.le))
  generalize x.w.heap.size = b2 at *
  go_wp2_with (first | (go_at_call 11; (with_reducible refine (rshown_any _).mono ?_); rintro e w2 ⟨rfl, hb2⟩; obtain ⟨x, rfl⟩ : ∃ x : Ext wd, w2 = x.w := ext_of (hb2.after (by (repeat (first | exact Ext.bel _ | exact Bel.refl | refine Bel.alloc ?_ _ | refine Bel.drew ?_ | refine Bel.drewN ?_ _)))); clear hb2))
  go_ret
  exact ⟨rfl, HB1.out.trans (HB2.out.trans (HBW.out.trans x.bel))⟩
end Go.Proofs.Ytehifcgfgejjcaa
