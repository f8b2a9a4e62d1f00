import Derived.Test.YtehifcgfgejjcaaRmidp
import Derived.Test.YtehifcgfgejjcaaRlshow
namespace Go.Proofs.Ytehifcgfgejjcaa
open Go.RowKit
set_option maxHeartbeats 4000000 in
theorem middles_any (x y : Rt) (w : World) (hx : x.wf) (hy : y.wf) : Calls Try.prog 3 #[x.V, y.V] w fun e w' => e = .returned (.bool true) ∧ Bel w w' := by
  have H1 := Lib.hid fun W => prmid_any x y W hx hy
  have H2 := Lib.hid fun W => rrmid_any x y W hx hy
  unfold rresV Rt.V at *
  generalize rmid x y = r at *
  obtain ⟨⟨n, d⟩, e⟩ := r
  simp only at *
  clear hx hy
  go_enter Try.func3, Try.ntmps3
  go_upto_region 1 with (fail)
  (generalize hW : World.alloc _ _ = wb; have q0_0 := (congrArg (fun W : World => W.cell? ⟨w.heap.size, 0, none⟩) hW).symm; simp [go_sem] at q0_0; have q0_1 := (congrArg (fun W : World => W.cell? ⟨w.heap.size, 1, none⟩) hW).symm; simp [go_sem] at q0_1; have qz0 : w.heap.size < wb.heap.size := (by rw [← hW]; simp [go_sem]; try omega); have q1_0 := (congrArg (fun W : World => W.cell? ⟨w.heap.size + 1, 0, none⟩) hW).symm; simp [go_sem] at q1_0; have q1_1 := (congrArg (fun W : World => W.cell? ⟨w.heap.size + 1, 1, none⟩) hW).symm; simp [go_sem] at q1_1; have qz1 : w.heap.size + 1 < wb.heap.size := (by rw [← hW]; simp [go_sem]; try omega); have HBW : Hid (Bel w wb) := Lib.hid (by rw [← hW]; (repeat (first | exact Ext.bel _ | exact Bel.refl | refine Bel.alloc ?_ _ | refine Bel.drew ?_ | refine Bel.drewN ?_ _))); clear hW; have hkw := HBW.out.cells)
  go_upto_region 2 with (first | (go_at_call 9; (with_reducible refine (H1.out _).mono ?_); rintro e w2 ⟨rfl, hb2⟩; obtain ⟨x, rfl⟩ : ∃ x : Ext wb, w2 = x.w := ext_of (hb2.after (by (repeat (first | exact Ext.bel _ | exact Bel.refl | refine Bel.alloc ?_ _ | refine Bel.drew ?_ | refine Bel.drewN ?_ _)))); clear hb2))
  have HB1 := HBW
  (generalize hW : World.alloc _ _ = wc; have q0_0 := (congrArg (fun W : World => W.cell? ⟨x.w.heap.size, 0, none⟩) hW).symm; simp [go_sem] at q0_0; have q0_1 := (congrArg (fun W : World => W.cell? ⟨x.w.heap.size, 1, none⟩) hW).symm; simp [go_sem] at q0_1; have qz0 : x.w.heap.size < wc.heap.size := (by rw [← hW]; simp [go_sem]; try omega); have HBW : Hid (Bel wb wc) := Lib.hid (by rw [← hW]; (repeat (first | exact Ext.bel _ | exact Bel.refl | refine Bel.alloc ?_ _ | refine Bel.drew ?_ | refine Bel.drewN ?_ _))); clear hW; have hkw := HBW.out.cells; have : w.heap.size < wc.heap.size := (Nat.lt_of_lt_of_le (by first | assumption | omega) HBW.out.le); have : w.heap.size + 1 < wc.heap.size := (Nat.lt_of_lt_of_le (by first | assumption | omega) HBW.out.le))
  generalize x.w.heap.size = b1 at *
  go_upto_region 3 with (first | (go_at_call 10; (with_reducible refine (H2.out _).mono ?_); rintro e w2 ⟨rfl, hb2⟩; obtain ⟨x, rfl⟩ : ∃ x : Ext wc, w2 = x.w := ext_of (hb2.after (by (repeat (first | exact Ext.bel _ | exact Bel.refl | refine Bel.alloc ?_ _ | refine Bel.drew ?_ | refine Bel.drewN ?_ _)))); clear hb2))
  have HB2 := HBW
  (generalize hW : World.alloc _ _ = wd; have q0_0 := (congrArg (fun W : World => W.cell? ⟨x.w.heap.size, 0, none⟩) hW).symm; simp [go_sem] at q0_0; have q0_1 := (congrArg (fun W : World => W.cell? ⟨x.w.heap.size, 1, none⟩) hW).symm; simp [go_sem] at q0_1; have qz0 : x.w.heap.size < wd.heap.size := (by rw [← hW]; simp [go_sem]; try omega); have HBW : Hid (Bel wc wd) := Lib.hid (by rw [← hW]; (repeat (first | exact Ext.bel _ | exact Bel.refl | refine Bel.alloc ?_ _ | refine Bel.drew ?_ | refine Bel.drewN ?_ _))); clear hW; have hkw := HBW.out.cells; have : b1 < wd.heap.size := (Nat.lt_of_lt_of_le (by first | assumption | omega) HBW.out.le))
  generalize x.w.heap.size = b2 at *
  go_wp2_with (first | (go_at_call 11; (with_reducible refine (rshown_any _).mono ?_); rintro e w2 ⟨rfl, hb2⟩; obtain ⟨x, rfl⟩ : ∃ x : Ext wd, w2 = x.w := ext_of (hb2.after (by (repeat (first | exact Ext.bel _ | exact Bel.refl | refine Bel.alloc ?_ _ | refine Bel.drew ?_ | refine Bel.drewN ?_ _)))); clear hb2))
  go_ret
  exact ⟨rfl, HB1.out.trans (HB2.out.trans (HBW.out.trans x.bel))⟩
end Go.Proofs.Ytehifcgfgejjcaa
