import Derived.Test.YtcnjojhbcijdmaaPidx
namespace Go.Proofs.Ytcnjojhbcijdmaa
open Go.RowKit
set_option maxRecDepth 100000 in
set_option maxHeartbeats 4000000 in
theorem prun_no (a1 a2 a3 er : Int) (A1 A2 A : Option Addr) (n1 k1 n2 k2 n c : Nat) (w : World) (her : (er == 0) = false)
    (HWD : Hid (∀ W, Bel w W → Calls Try.prog 13 #[.agg #[.int .i64 a1, .int .i64 a2, .int .i64 a3, .slice A1 n1 k1, .slice A2 n2 k2], .slice A n c] W fun e w' => e = .returned (.int .i64 er) ∧ Bel W w')) :
    Calls Try.prog 19 #[.agg #[.int .i64 a1, .int .i64 a2, .int .i64 a3, .slice A1 n1 k1, .slice A2 n2 k2], .slice A n c] w fun e w' => e = .returned (.tuple #[.pointer none, .int .i64 0, .int .i64 er]) ∧ Bel w w' := by
  go_enter Try.func19, Try.ntmps19
  go_upto_region 1 with (fail)
  (generalize hW : World.alloc _ _ = wb; have q0_0 := (congrArg (fun W : World => W.cell? ⟨w.heap.size, 0, none⟩) hW).symm; simp [go_sem] at q0_0; have q0_1 := (congrArg (fun W : World => W.cell? ⟨w.heap.size, 1, none⟩) hW).symm; simp [go_sem] at q0_1; have q0_2 := (congrArg (fun W : World => W.cell? ⟨w.heap.size, 2, none⟩) hW).symm; simp [go_sem] at q0_2; have q0_3 := (congrArg (fun W : World => W.cell? ⟨w.heap.size, 3, none⟩) hW).symm; simp [go_sem] at q0_3; have q0_4 := (congrArg (fun W : World => W.cell? ⟨w.heap.size, 4, none⟩) hW).symm; simp [go_sem] at q0_4; have qz0 : w.heap.size < wb.heap.size := (by rw [← hW]; simp [go_sem]; try omega); have HBW : Hid (Bel w wb) := Lib.hid (by rw [← hW]; (repeat (first | exact Ext.bel _ | exact Bel.refl | refine Bel.alloc ?_ _ | refine Bel.drew ?_ | refine Bel.drewN ?_ _))); clear hW; have hkw := HBW.out.cells)
  go_wp2_with (first | (go_at_call 13; (with_reducible refine (HWD.out _ (HBW.out.trans (by (repeat (first | exact Ext.bel _ | exact Bel.refl | refine Bel.alloc ?_ _ | refine Bel.drew ?_ | refine Bel.drewN ?_ _))))).mono ?_); rintro e w2 ⟨rfl, hb2⟩; obtain ⟨x, rfl⟩ : ∃ x : Ext wb, w2 = x.w := ext_of (hb2.after (by (repeat (first | exact Ext.bel _ | exact Bel.refl | refine Bel.alloc ?_ _ | refine Bel.drew ?_ | refine Bel.drewN ?_ _)))); clear hb2))
  go_ret3
  exact ⟨rfl, HBW.out.trans x.bel⟩
set_option maxRecDepth 100000 in
set_option maxHeartbeats 4000000 in
theorem prun_ok (p : PP) (A1 A2 A : Option Addr) (k1 k2 n c : Nat) (idx : Int) (xf : Pt) (w : World)
    (HWD : Hid (∀ W, Bel w W → Calls Try.prog 13 #[.agg #[.int .i64 p.evs, .int .i64 p.clks, .int .i64 p.ini, .slice A1 p.good.length k1, .slice A2 p.edges.length k2], .slice A n c] W fun e w' => e = .returned (.int .i64 0) ∧ Bel W w'))
    (HIX : Hid (∀ br W, Bel w W → w.heap.size ≤ br → RowAt W br 54 (runnerL p (.slice A1 p.good.length k1) (.slice A2 p.edges.length k2) (start p) 0) → Calls Try.prog 33 #[.slice A n c, .func (.func 34) #[.pointer (some ⟨br, 0, none⟩)] #[]] W fun e w' => e = .returned (.int .i64 idx) ∧ Bel w w' ∧ ∃ a, RowAt w' br 54 (runnerL p (.slice A1 p.good.length k1) (.slice A2 p.edges.length k2) xf a))) :
    Calls Try.prog 19 #[.agg #[.int .i64 p.evs, .int .i64 p.clks, .int .i64 p.ini, .slice A1 p.good.length k1, .slice A2 p.edges.length k2], .slice A n c] w fun e w' => ∃ br a, e = .returned (.tuple #[.pointer (some ⟨br, 0, none⟩), .int .i64 idx, .int .i64 0]) ∧ Bel w w' ∧ w.heap.size ≤ br ∧ RowAt w' br 54 (runnerL p (.slice A1 p.good.length k1) (.slice A2 p.edges.length k2) xf a) := by
  go_enter Try.func19, Try.ntmps19
  go_upto_region 1 with (fail)
  (generalize hW : World.alloc _ _ = wb; have q0_0 := (congrArg (fun W : World => W.cell? ⟨w.heap.size, 0, none⟩) hW).symm; simp [go_sem] at q0_0; have q0_1 := (congrArg (fun W : World => W.cell? ⟨w.heap.size, 1, none⟩) hW).symm; simp [go_sem] at q0_1; have q0_2 := (congrArg (fun W : World => W.cell? ⟨w.heap.size, 2, none⟩) hW).symm; simp [go_sem] at q0_2; have q0_3 := (congrArg (fun W : World => W.cell? ⟨w.heap.size, 3, none⟩) hW).symm; simp [go_sem] at q0_3; have q0_4 := (congrArg (fun W : World => W.cell? ⟨w.heap.size, 4, none⟩) hW).symm; simp [go_sem] at q0_4; have qz0 : w.heap.size < wb.heap.size := (by rw [← hW]; simp [go_sem]; try omega); have HBW : Hid (Bel w wb) := Lib.hid (by rw [← hW]; (repeat (first | exact Ext.bel _ | exact Bel.refl | refine Bel.alloc ?_ _ | refine Bel.drew ?_ | refine Bel.drewN ?_ _))); clear hW; have hkw := HBW.out.cells)
  go_upto_region 5 with (first | (go_at_call 13; (with_reducible refine (HWD.out _ (HBW.out.trans (by (repeat (first | exact Ext.bel _ | exact Bel.refl | refine Bel.alloc ?_ _ | refine Bel.drew ?_ | refine Bel.drewN ?_ _))))).mono ?_); rintro e w2 ⟨rfl, hb2⟩; obtain ⟨x, rfl⟩ : ∃ x : Ext wb, w2 = x.w := ext_of (hb2.after (by (repeat (first | exact Ext.bel _ | exact Bel.refl | refine Bel.alloc ?_ _ | refine Bel.drew ?_ | refine Bel.drewN ?_ _)))); clear hb2))
  have HRW : Hid (RowAt (x.w.alloc (.cells #[.int .i64 p.evs, .int .i64 p.clks, .int .i64 p.ini, .slice A1 p.good.length k1, .slice A2 p.edges.length k2, .int .i64 p.ini, .int .i64 0, .int .i64 0, .int .i64 0, .int .i64 0] 54)) x.w.heap.size 54 (runnerL p (.slice A1 p.good.length k1) (.slice A2 p.edges.length k2) (start p) 0)) := Lib.hid (RowAt.new x.w 54 (runnerL p (.slice A1 p.good.length k1) (.slice A2 p.edges.length k2) (start p) 0))
  have hbx : w.heap.size ≤ x.w.heap.size := (HBW.out.trans x.bel).le
  have HI := Lib.hid (HIX.out x.w.heap.size _ ((HBW.out.trans x.bel).alloc _) hbx HRW.out)
  go_wp2_with (first | (go_at_call 33; (with_reducible refine (HI.out).mono ?_); rintro en w2 ⟨rfl, hb1, a, hr1⟩; have HR1 := Lib.hid hr1; have HB1 := Lib.hid hb1; clear hb1 hr1))
  go_ret3
  exact ⟨_, a, rfl, HB1.out, hbx, HR1.out⟩
theorem prun_any (p : PP) (gv ev sv : Value) (l : List PS) (w : World) (h : PropAt w w.heap.size gv ev p) (hs : PSized p) (hl : StampsAt w w.heap.size sv l) (hll : l.length ≤ 1000000) (hok : rpword p l = 0) :
    Calls Try.prog 19 #[.agg #[.int .i64 p.evs, .int .i64 p.clks, .int .i64 p.ini, gv, ev], sv] w fun e w' => ∃ br a, e = .returned (.tuple #[.pointer (some ⟨br, 0, none⟩), .int .i64 (runP p l).2, .int .i64 0]) ∧ Bel w w' ∧ w.heap.size ≤ br ∧ RowAt w' br 54 (runnerL p gv ev (runP p l).1 a) := by
  have HWD := fun (W : World) (hW : Bel w W) => pword_any p gv ev sv l W (h.bel hW) hs (hl.bel hW) hll
  have HIX := fun br (W : World) (hW : Bel w W) hbr hr => pidx_any p gv ev sv l br w W h hs hl hok hW hbr hr
  rw [hok] at HWD
  obtain ⟨A1, k1, rfl, hk1⟩ := h.g.form
  obtain ⟨A2, k2, rfl, hk2⟩ := h.e.form
  obtain ⟨A, c, rfl, hc⟩ := hl.form
  exact prun_ok p A1 A2 A k1 k2 _ c _ _ w (Lib.hid HWD) (Lib.hid HIX)
theorem prun_fail (p : PP) (gv ev sv : Value) (l : List PS) (w : World) (h : PropAt w w.heap.size gv ev p) (hs : PSized p) (hl : StampsAt w w.heap.size sv l) (hll : l.length ≤ 1000000) (hok : rpword p l ≠ 0) :
    Calls Try.prog 19 #[.agg #[.int .i64 p.evs, .int .i64 p.clks, .int .i64 p.ini, gv, ev], sv] w fun e w' => e = .returned (.tuple #[.pointer none, .int .i64 0, .int .i64 (rpword p l)]) ∧ Bel w w' := by
  have HWD := fun (W : World) (hW : Bel w W) => pword_any p gv ev sv l W (h.bel hW) hs (hl.bel hW) hll
  obtain ⟨A1, k1, rfl, hk1⟩ := h.g.form
  obtain ⟨A2, k2, rfl, hk2⟩ := h.e.form
  obtain ⟨A, c, rfl, hc⟩ := hl.form
  exact prun_no _ _ _ _ _ _ _ _ _ _ _ _ _ w (by simpa using hok) (Lib.hid HWD)
end Go.Proofs.Ytcnjojhbcijdmaa
