import Derived.Test.YtehifcgfgejjcaaRfloor
namespace Go.Proofs.Ytehifcgfgejjcaa
open Go.RowKit
def rneg (a : Rt) : Rt × Int := if rval a then (⟨-a.num, a.den⟩, 0) else (⟨0, 0⟩, 2)
def rcmp (a b : Rt) : Int × Int := if rval a && rval b then (if a.num * b.den < b.num * a.den then -1 else if b.num * a.den < a.num * b.den then 1 else 0, 0) else (0, 2)
def rfloor (a : Rt) : Int × Int := if rval a then (a.num / a.den, 0) else (0, 2)
def rceil (a : Rt) : Int × Int := if rval a then (-(-a.num / a.den), 0) else (0, 2)
def intV (p : Int × Int) : Value := .tuple #[.int .i64 p.1, .int .i64 p.2]
theorem ret_i2 {k : IntKind} {a b c d : Int} (h : a = c) (h' : b = d) : Ending.returned (.tuple #[.int k a, .int k b]) = .returned (.tuple #[.int k c, .int k d]) := by rw [h, h']
set_option maxHeartbeats 1000000 in
theorem pof_any (n : Int) (w : World) (h : i64 n) : Calls Try.prog 30 #[.int .i64 n] w fun e w' => e = .returned (rresV (rmake n 1)) ∧ Bel w w' := by
  have HM := fun W => pmake_any n 1 W h (by unfold i64; omega)
  unfold rresV Rt.V at *
  generalize rmake n 1 = rr at *
  obtain ⟨⟨rn, rd⟩, re⟩ := rr
  simp only at *
  replace HM := Lib.hid HM
  go_enter Try.func30, Try.ntmps30
  go_upto_region 1 with (fail)
  (generalize hW : World.alloc _ _ = wb; have q0_0 := (congrArg (fun W : World => W.cell? ⟨w.heap.size, 0, none⟩) hW).symm; simp [go_sem] at q0_0; have qf0_0 := (congrArg (fun W : World => W.frozen? ⟨w.heap.size, 0, none⟩) hW).symm; simp [go_sem] at qf0_0; have q0_1 := (congrArg (fun W : World => W.cell? ⟨w.heap.size, 1, none⟩) hW).symm; simp [go_sem] at q0_1; have qf0_1 := (congrArg (fun W : World => W.frozen? ⟨w.heap.size, 1, none⟩) hW).symm; simp [go_sem] at qf0_1; have qz0 : w.heap.size < wb.heap.size := (by rw [← hW]; simp [go_sem]; try omega); have HBW : Hid (Bel w wb) := Lib.hid (by rw [← hW]; (repeat (first | exact Ext.bel _ | exact Bel.refl | refine Bel.alloc ?_ _ | refine Bel.drew ?_ | refine Bel.drewN ?_ _))); clear hW; have hkw := HBW.out.cells)
  go_wp2_with (go_at_call 28; (with_reducible refine (HM.out _).mono ?_); rintro e w2 ⟨rfl, hb2⟩; obtain ⟨x, rfl⟩ : ∃ x : Ext wb, w2 = x.w := ext_of (hb2.after (by (repeat (first | exact Ext.bel _ | exact Bel.refl | refine Bel.alloc ?_ _ | refine Bel.drew ?_ | refine Bel.drewN ?_ _)))); clear hb2)
  refine bodyPost_ret (v := .tuple #[.agg #[.int .i64 rn, .int .i64 rd], .int .i64 re]) (by simp [results, Try.results30, go_sem, q0_0, q0_1, qz0]) rfl ⟨rfl, ?_⟩
  (repeat (first | exact HBW.out.trans x.bel | refine Bel.alloc ?_ _ | refine Bel.drew ?_ | refine Bel.drewN ?_ _ | refine Bel.set ?_ (by first | exact Nat.le_refl _ | (simp; done) | (simp; omega) | omega) _))
set_option maxHeartbeats 1000000 in
theorem rof_any (n : Int) (w : World) (h : i64 n) : Calls Try.prog 31 #[.int .i64 n] w fun e w' => e = .returned (rresV (rmake n 1)) ∧ Bel w w' := by
  have HM := fun W => rmake_any n 1 W h (by unfold i64; omega)
  unfold rresV Rt.V at *
  generalize rmake n 1 = rr at *
  obtain ⟨⟨rn, rd⟩, re⟩ := rr
  simp only at *
  replace HM := Lib.hid HM
  go_enter Try.func31, Try.ntmps31
  go_upto_region 1 with (fail)
  (generalize hW : World.alloc _ _ = wb; have q0_0 := (congrArg (fun W : World => W.cell? ⟨w.heap.size, 0, none⟩) hW).symm; simp [go_sem] at q0_0; have qf0_0 := (congrArg (fun W : World => W.frozen? ⟨w.heap.size, 0, none⟩) hW).symm; simp [go_sem] at qf0_0; have q0_1 := (congrArg (fun W : World => W.cell? ⟨w.heap.size, 1, none⟩) hW).symm; simp [go_sem] at q0_1; have qf0_1 := (congrArg (fun W : World => W.frozen? ⟨w.heap.size, 1, none⟩) hW).symm; simp [go_sem] at qf0_1; have qz0 : w.heap.size < wb.heap.size := (by rw [← hW]; simp [go_sem]; try omega); have HBW : Hid (Bel w wb) := Lib.hid (by rw [← hW]; (repeat (first | exact Ext.bel _ | exact Bel.refl | refine Bel.alloc ?_ _ | refine Bel.drew ?_ | refine Bel.drewN ?_ _))); clear hW; have hkw := HBW.out.cells)
  go_wp2_with (go_at_call 29; (with_reducible refine (HM.out _).mono ?_); rintro e w2 ⟨rfl, hb2⟩; obtain ⟨x, rfl⟩ : ∃ x : Ext wb, w2 = x.w := ext_of (hb2.after (by (repeat (first | exact Ext.bel _ | exact Bel.refl | refine Bel.alloc ?_ _ | refine Bel.drew ?_ | refine Bel.drewN ?_ _)))); clear hb2)
  refine bodyPost_ret (v := .tuple #[.agg #[.int .i64 rn, .int .i64 rd], .int .i64 re]) (by simp [results, Try.results31, go_sem, q0_0, q0_1, qz0]) rfl ⟨rfl, ?_⟩
  (repeat (first | exact HBW.out.trans x.bel | refine Bel.alloc ?_ _ | refine Bel.drew ?_ | refine Bel.drewN ?_ _ | refine Bel.set ?_ (by first | exact Nat.le_refl _ | (simp; done) | (simp; omega) | omega) _))
theorem rval_negw (n d : Int) : rval ⟨-n, d⟩ = rval ⟨n, d⟩ := by unfold rval absU; simp
theorem rsub_neg (a : Rt) (n d : Int) : radd a ⟨-n, d⟩ = rsub a ⟨n, d⟩ := by
  unfold radd rsub
  rw [rval_negw]
  simp only [Int.neg_mul, Int.sub_eq_add_neg]
theorem rval_far {n d : Int} (h : n < -2147483647 ∨ 2147483647 < n) : rval ⟨n, d⟩ = false := by
  unfold rval
  have : ¬ absU n ≤ 2147483647 := by unfold absU; omega
  simp only [decide_eq_false this, Bool.and_false, Bool.false_and]
theorem rsub_wrap (a : Rt) (n d : Int) (h : i64 n) : radd a ⟨wrap64 (-n), d⟩ = rsub a ⟨n, d⟩ := by
  unfold i64 at h
  by_cases hn : -9223372036854775807 ≤ n
  · rw [wrap_small (-n) (by omega) (by omega)]
    exact rsub_neg a n d
  · unfold radd rsub
    rw [rval_far (n := n) (by omega), rval_far (n := wrap64 (-n)) (by unfold wrap64; omega)]
    simp
theorem rradd_at' (x : Rt) (n d : Int) (W : World) (hx : x.wf) (hn : i64 n) (hd : i64 d) {rr : Rt × Int} (h : radd x ⟨n, d⟩ = rr) : Calls Try.prog 18 #[.agg #[.int .i64 x.num, .int .i64 x.den], .agg #[.int .i64 n, .int .i64 d]] W fun e' w' => e' = .returned (.tuple #[.agg #[.int .i64 rr.1.num, .int .i64 rr.1.den], .int .i64 rr.2]) ∧ Bel W w' := by
  have := rradd_any x ⟨n, d⟩ W hx ⟨hn, hd⟩
  rw [h] at this
  exact this
set_option maxHeartbeats 4000000 in
theorem rrsub_any (a b : Rt) (w : World) (ha : a.wf) (hb : b.wf) : Calls Try.prog 20 #[a.V, b.V] w fun e w' => e = .returned (rresV (rsub a b)) ∧ Bel w w' := by
  obtain ⟨an, ad⟩ := a
  obtain ⟨bn, bd⟩ := b
  have HA := fun W => rradd_at' ⟨an, ad⟩ (wrap64 (-bn)) bd W ha (by unfold i64 wrap64; omega) hb.d (rsub_wrap ⟨an, ad⟩ bn bd hb.n)
  unfold rresV Rt.V at *
  generalize rsub ⟨an, ad⟩ ⟨bn, bd⟩ = rr at *
  obtain ⟨⟨rn, rd⟩, re⟩ := rr
  simp only at *
  replace HA := Lib.hid HA
  clear ha hb
  go_enter Try.func20, Try.ntmps20
  go_upto_region 1 with (fail)
  (generalize hW : World.alloc _ _ = wb; have q0_0 := (congrArg (fun W : World => W.cell? ⟨w.heap.size, 0, none⟩) hW).symm; simp [go_sem] at q0_0; have qf0_0 := (congrArg (fun W : World => W.frozen? ⟨w.heap.size, 0, none⟩) hW).symm; simp [go_sem] at qf0_0; have q0_1 := (congrArg (fun W : World => W.cell? ⟨w.heap.size, 1, none⟩) hW).symm; simp [go_sem] at q0_1; have qf0_1 := (congrArg (fun W : World => W.frozen? ⟨w.heap.size, 1, none⟩) hW).symm; simp [go_sem] at qf0_1; have qz0 : w.heap.size < wb.heap.size := (by rw [← hW]; simp [go_sem]; try omega); have q1_0 := (congrArg (fun W : World => W.cell? ⟨w.heap.size + 1, 0, none⟩) hW).symm; simp [go_sem] at q1_0; have qf1_0 := (congrArg (fun W : World => W.frozen? ⟨w.heap.size + 1, 0, none⟩) hW).symm; simp [go_sem] at qf1_0; have q1_1 := (congrArg (fun W : World => W.cell? ⟨w.heap.size + 1, 1, none⟩) hW).symm; simp [go_sem] at q1_1; have qf1_1 := (congrArg (fun W : World => W.frozen? ⟨w.heap.size + 1, 1, none⟩) hW).symm; simp [go_sem] at qf1_1; have qz1 : w.heap.size + 1 < wb.heap.size := (by rw [← hW]; simp [go_sem]; try omega); have q2_0 := (congrArg (fun W : World => W.cell? ⟨w.heap.size + 1 + 1, 0, none⟩) hW).symm; simp [go_sem] at q2_0; have qf2_0 := (congrArg (fun W : World => W.frozen? ⟨w.heap.size + 1 + 1, 0, none⟩) hW).symm; simp [go_sem] at qf2_0; have q2_1 := (congrArg (fun W : World => W.cell? ⟨w.heap.size + 1 + 1, 1, none⟩) hW).symm; simp [go_sem] at q2_1; have qf2_1 := (congrArg (fun W : World => W.frozen? ⟨w.heap.size + 1 + 1, 1, none⟩) hW).symm; simp [go_sem] at qf2_1; have qz2 : w.heap.size + 1 + 1 < wb.heap.size := (by rw [← hW]; simp [go_sem]; try omega); have HBW : Hid (Bel w wb) := Lib.hid (by rw [← hW]; (repeat (first | exact Ext.bel _ | exact Bel.refl | refine Bel.alloc ?_ _ | refine Bel.drew ?_ | refine Bel.drewN ?_ _))); clear hW; have hkw := HBW.out.cells)
  go_upto_region 2 with (fail)
  generalize hW2 : World.setCell wb _ _ = wc
  have r0 := (congrArg (fun W : World => W.cell? ⟨w.heap.size + 1 + 1, 0, none⟩) hW2).symm
  have r1 := (congrArg (fun W : World => W.cell? ⟨w.heap.size + 1 + 1, 1, none⟩) hW2).symm
  have r2 := (congrArg (fun W : World => W.frozen? ⟨w.heap.size + 1 + 1, 0, none⟩) hW2).symm
  have r3 := (congrArg (fun W : World => W.frozen? ⟨w.heap.size + 1 + 1, 1, none⟩) hW2).symm
  have r4 := (congrArg (fun W : World => W.cell? ⟨w.heap.size, 0, none⟩) hW2).symm
  have r5 := (congrArg (fun W : World => W.cell? ⟨w.heap.size, 1, none⟩) hW2).symm
  have r6 := (congrArg (fun W : World => W.cell? ⟨w.heap.size + 1, 0, none⟩) hW2).symm
  have r7 := (congrArg (fun W : World => W.cell? ⟨w.heap.size + 1, 1, none⟩) hW2).symm
  simp [go_sem, q0_0, q0_1, q1_0, q1_1, q2_0, q2_1, qf2_0, qf2_1] at r0 r1 r2 r3 r4 r5 r6 r7
  have rz : w.heap.size + 1 + 1 < wc.heap.size := (by rw [← hW2]; simp [go_sem]; exact qz2)
  have HBC : Hid (Bel w wc) := Lib.hid (by rw [← hW2]; exact HBW.out.set (by simp) _)
  clear hW2 hkw q0_0 q0_1 q1_0 q1_1 q2_0 q2_1 qf2_0 qf2_1 qz0 qz1 qz2
  go_wp2_with (go_at_call 18; (with_reducible refine (HA.out _).mono ?_); rintro e w2 ⟨rfl, hb2⟩; obtain ⟨x, rfl⟩ : ∃ x : Ext wc, w2 = x.w := ext_of (hb2.after (by (repeat (first | exact Ext.bel _ | exact Bel.refl | refine Bel.alloc ?_ _ | refine Bel.drew ?_ | refine Bel.drewN ?_ _)))); clear hb2)
  refine bodyPost_ret (v := .tuple #[.agg #[.int .i64 rn, .int .i64 rd], .int .i64 re]) (by simp [results, Try.results20, go_sem, r0, r1, rz]) rfl ⟨rfl, ?_⟩
  (repeat (first | exact HBC.out.trans x.bel | refine Bel.alloc ?_ _ | refine Bel.drew ?_ | refine Bel.drewN ?_ _ | refine Bel.set ?_ (by first | exact Nat.le_refl _ | (simp; done) | (simp; omega) | omega) _))
end Go.Proofs.Ytehifcgfgejjcaa
