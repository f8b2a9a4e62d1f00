import Derived.Test.YtalphoebmefgoaaG35
namespace Go.Proofs.Ytalphoebmefgoaa
open Go.RowKit
theorem fl_pos {n d : Int} (hn : 0 ≤ n) (hd : 0 < d) : 0 ≤ n / d ∧ n / d ≤ n ∧ 0 ≤ n / d * d ∧ n / d * d ≤ n := by
  have h1 := Int.ediv_nonneg hn (Int.le_of_lt hd)
  have h2 := Int.ediv_le_self d hn
  have h3 := Int.mul_nonneg h1 (Int.le_of_lt hd)
  have h4 := Int.ediv_mul_le n (b := d) (by omega)
  exact ⟨h1, h2, h3, h4⟩
theorem fl_neg {n d : Int} (hn : n < 0) (hd : 0 < d) : n ≤ n.tdiv d ∧ n.tdiv d ≤ 0 ∧ n ≤ n.tdiv d * d ∧ n.tdiv d * d ≤ 0 ∧ n.tmod d ≤ 0 ∧ -d < n.tmod d ∧
    ((n < n.tdiv d * d ∧ n.tmod d < 0 ∧ n / d = n.tdiv d - 1) ∨ (n.tdiv d * d = n ∧ n.tmod d = 0 ∧ n / d = n.tdiv d)) := by
  obtain ⟨m, rfl⟩ : ∃ m : Int, n = -m := ⟨-n, by omega⟩
  have hm : 0 ≤ m := by omega
  rw [Int.neg_tdiv, Int.neg_tmod, Int.tdiv_eq_ediv_of_nonneg hm, Int.tmod_eq_emod_of_nonneg hm]
  obtain ⟨p1, p2, p3, p4⟩ := fl_pos hm hd
  have e := Int.mul_ediv_add_emod m d
  have r1 := Int.emod_nonneg m (b := d) (by omega)
  have r2 := Int.emod_lt_of_pos m hd
  rw [Int.mul_comm] at e
  rw [Int.neg_mul]
  refine ⟨by omega, by omega, by omega, by omega, by omega, by omega, ?_⟩
  by_cases h0 : m % d = 0
  · refine .inr ⟨by omega, by omega, ?_⟩
    rw [Int.ediv_eq_iff_of_pos hd]
    · rw [Int.neg_mul]; omega
  · refine .inl ⟨by omega, by omega, ?_⟩
    rw [Int.ediv_eq_iff_of_pos hd]
    · have : (-(m / d) - 1) * d = -(m / d * d) - d := by rw [Int.sub_mul, Int.neg_mul, Int.one_mul]
      have h2 : (-(m / d) - 1 + 1) * d = -(m / d * d) := by rw [show -(m / d) - 1 + 1 = -(m / d) by omega, Int.neg_mul]
      rw [this]
      omega
end Go.Proofs.Ytalphoebmefgoaa
namespace Go.Proofs.Ytalphoebmefgoaa
open Go.RowKit
def rneg (a : Rt) : Rt × Int := if rval a then (⟨-a.num, a.den⟩, 0) else (⟨0, 0⟩, 2)
def rcmp (a b : Rt) : Int × Int := if rval a && rval b then (if a.num * b.den < b.num * a.den then -1 else if b.num * a.den < a.num * b.den then 1 else 0, 0) else (0, 2)
def rfloor (a : Rt) : Int × Int := if rval a then (a.num / a.den, 0) else (0, 2)
def rceil (a : Rt) : Int × Int := if rval a then (-(-a.num / a.den), 0) else (0, 2)
def intV (p : Int × Int) : Value := .tuple #[.int .i64 p.1, .int .i64 p.2]
theorem ret_i2 {k : IntKind} {a b c d : Int} (h : a = c) (h' : b = d) : Ending.returned (.tuple #[.int k a, .int k b]) = .returned (.tuple #[.int k c, .int k d]) := by rw [h, h']
theorem rval_negw (n d : Int) : rval ⟨-n, d⟩ = rval ⟨n, d⟩ := by unfold rval absU; simp
theorem rsub_neg (a : Rt) (n d : Int) : radd a ⟨-n, d⟩ = rsub a ⟨n, d⟩ := by
  unfold radd rsub
  rw [rval_negw]
  simp only [Int.neg_mul, Int.sub_eq_add_neg]
theorem rval_far {n d : Int} (h : n < -2147483647 ∨ 2147483647 < n) : rval ⟨n, d⟩ = false := by
  unfold rval
  have : ¬ absU n ≤ 2147483647 := by unfold absU; omega
  simp only [decide_eq_false this, Bool.and_false, Bool.false_and]
theorem rsub_wrap (a : Rt) (n d : Int) (h : i64 n) : radd a ⟨wrap64 (-n), d⟩ = rsub a ⟨n, d⟩ := by
  unfold i64 at h
  by_cases hn : -9223372036854775807 ≤ n
  · rw [wrap_small (-n) (by omega) (by omega)]
    exact rsub_neg a n d
  · unfold radd rsub
    rw [rval_far (n := n) (by omega), rval_far (n := wrap64 (-n)) (by unfold wrap64; omega)]
    simp
theorem rradd_at' (x : Rt) (n d : Int) (W : World) (hx : x.wf) (hn : i64 n) (hd : i64 d) {rr : Rt × Int} (h : radd x ⟨n, d⟩ = rr) : Calls Try.prog 21 #[.agg #[.int .i64 x.num, .int .i64 x.den], .agg #[.int .i64 n, .int .i64 d]] W fun e' w' => e' = .returned (.tuple #[.agg #[.int .i64 rr.1.num, .int .i64 rr.1.den], .int .i64 rr.2]) ∧ Bel W w' := by
  have := rradd_any x ⟨n, d⟩ W hx ⟨hn, hd⟩
  rw [h] at this
  exact this
set_option maxHeartbeats 4000000 in
theorem rrsub_any (a b : Rt) (w : World) (ha : a.wf) (hb : b.wf) : Calls Try.prog 92 #[a.V, b.V] w fun e w' => e = .returned (rresV (rsub a b)) ∧ Bel w w' := by
  obtain ⟨an, ad⟩ := a
  obtain ⟨bn, bd⟩ := b
  have HA := fun W => rradd_at' ⟨an, ad⟩ (wrap64 (-bn)) bd W ha (by unfold i64 wrap64; omega) hb.d (rsub_wrap ⟨an, ad⟩ bn bd hb.n)
  unfold rresV Rt.V at *
  generalize rsub ⟨an, ad⟩ ⟨bn, bd⟩ = rr at *
  obtain ⟨⟨rn, rd⟩, re⟩ := rr
  simp only at *
  replace HA := Lib.hid HA
  clear ha hb
  go_enter Try.func92, Try.ntmps92
  go_upto_region 1 with (fail)
  (generalize hW : World.alloc _ _ = wb; have q0_0 := (congrArg (fun W : World => W.cell? ⟨w.heap.size, 0, none⟩) hW).symm; simp [go_sem] at q0_0; have qf0_0 := (congrArg (fun W : World => W.frozen? ⟨w.heap.size, 0, none⟩) hW).symm; simp [go_sem] at qf0_0; have q0_1 := (congrArg (fun W : World => W.cell? ⟨w.heap.size, 1, none⟩) hW).symm; simp [go_sem] at q0_1; have qf0_1 := (congrArg (fun W : World => W.frozen? ⟨w.heap.size, 1, none⟩) hW).symm; simp [go_sem] at qf0_1; have qz0 : w.heap.size < wb.heap.size := (by rw [← hW]; simp [go_sem]; try omega); have q1_0 := (congrArg (fun W : World => W.cell? ⟨w.heap.size + 1, 0, none⟩) hW).symm; simp [go_sem] at q1_0; have qf1_0 := (congrArg (fun W : World => W.frozen? ⟨w.heap.size + 1, 0, none⟩) hW).symm; simp [go_sem] at qf1_0; have q1_1 := (congrArg (fun W : World => W.cell? ⟨w.heap.size + 1, 1, none⟩) hW).symm; simp [go_sem] at q1_1; have qf1_1 := (congrArg (fun W : World => W.frozen? ⟨w.heap.size + 1, 1, none⟩) hW).symm; simp [go_sem] at qf1_1; have qz1 : w.heap.size + 1 < wb.heap.size := (by rw [← hW]; simp [go_sem]; try omega); have q2_0 := (congrArg (fun W : World => W.cell? ⟨w.heap.size + 1 + 1, 0, none⟩) hW).symm; simp [go_sem] at q2_0; have qf2_0 := (congrArg (fun W : World => W.frozen? ⟨w.heap.size + 1 + 1, 0, none⟩) hW).symm; simp [go_sem] at qf2_0; have q2_1 := (congrArg (fun W : World => W.cell? ⟨w.heap.size + 1 + 1, 1, none⟩) hW).symm; simp [go_sem] at q2_1; have qf2_1 := (congrArg (fun W : World => W.frozen? ⟨w.heap.size + 1 + 1, 1, none⟩) hW).symm; simp [go_sem] at qf2_1; have qz2 : w.heap.size + 1 + 1 < wb.heap.size := (by rw [← hW]; simp [go_sem]; try omega); have HBW : Hid (Bel w wb) := Lib.hid (by rw [← hW]; (repeat (first | exact Ext.bel _ | exact Bel.refl | refine Bel.alloc ?_ _ | refine Bel.drew ?_ | refine Bel.drewN ?_ _))); clear hW; have hkw := HBW.out.cells)
  go_upto_region 2 with (fail)
  generalize hW2 : World.setCell wb _ _ = wc
  have r0 := (congrArg (fun W : World => W.cell? ⟨w.heap.size + 1 + 1, 0, none⟩) hW2).symm
  have r1 := (congrArg (fun W : World => W.cell? ⟨w.heap.size + 1 + 1, 1, none⟩) hW2).symm
  have r2 := (congrArg (fun W : World => W.frozen? ⟨w.heap.size + 1 + 1, 0, none⟩) hW2).symm
  have r3 := (congrArg (fun W : World => W.frozen? ⟨w.heap.size + 1 + 1, 1, none⟩) hW2).symm
  have r4 := (congrArg (fun W : World => W.cell? ⟨w.heap.size, 0, none⟩) hW2).symm
  have r5 := (congrArg (fun W : World => W.cell? ⟨w.heap.size, 1, none⟩) hW2).symm
  have r6 := (congrArg (fun W : World => W.cell? ⟨w.heap.size + 1, 0, none⟩) hW2).symm
  have r7 := (congrArg (fun W : World => W.cell? ⟨w.heap.size + 1, 1, none⟩) hW2).symm
  simp [go_sem, q0_0, q0_1, q1_0, q1_1, q2_0, q2_1, qf2_0, qf2_1] at r0 r1 r2 r3 r4 r5 r6 r7
  have rz : w.heap.size + 1 + 1 < wc.heap.size := (by rw [← hW2]; simp [go_sem]; exact qz2)
  have HBC : Hid (Bel w wc) := Lib.hid (by rw [← hW2]; exact HBW.out.set (by simp) _)
  clear hW2 hkw q0_0 q0_1 q1_0 q1_1 q2_0 q2_1 qf2_0 qf2_1 qz0 qz1 qz2
  go_wp2_with (go_at_call 21; (with_reducible refine (HA.out _).mono ?_); rintro e w2 ⟨rfl, hb2⟩; obtain ⟨x, rfl⟩ : ∃ x : Ext wc, w2 = x.w := ext_of (hb2.after (by (repeat (first | exact Ext.bel _ | exact Bel.refl | refine Bel.alloc ?_ _ | refine Bel.drew ?_ | refine Bel.drewN ?_ _)))); clear hb2)
  refine bodyPost_ret (v := .tuple #[.agg #[.int .i64 rn, .int .i64 rd], .int .i64 re]) (by simp [results, Try.results92, go_sem, r0, r1, rz]) rfl ⟨rfl, ?_⟩
  (repeat (first | exact HBC.out.trans x.bel | refine Bel.alloc ?_ _ | refine Bel.drew ?_ | refine Bel.drewN ?_ _ | refine Bel.set ?_ (by first | exact Nat.le_refl _ | (simp; done) | (simp; omega) | omega) _))
end Go.Proofs.Ytalphoebmefgoaa
namespace Go.Proofs.Ytalphoebmefgoaa
open Go.RowKit
theorem rquo_zero (a : Rt) (d : Int) : rquo a ⟨0, d⟩ = (⟨0, 0⟩, 2) := by
  simp [rquo, rmake]
set_option maxHeartbeats 4000000 in
theorem rrdiv_any (a b : Rt) (w : World) (ha : a.wf) (hb : b.wf) : Calls Try.prog 93 #[a.V, b.V] w fun e w' => e = .returned (rresV (rquo a b)) ∧ Bel w w' := by
  obtain ⟨an, ad⟩ := a
  obtain ⟨bn, bd⟩ := b
  have HV := fun W => rval_any ⟨an, ad⟩ W ha
  have HU := fun W => rval_any ⟨bn, bd⟩ W hb
  unfold Rt.V at *
  cases hab : rval ⟨an, ad⟩ && rval ⟨bn, bd⟩
  · have HR : Hid (rquo ⟨an, ad⟩ ⟨bn, bd⟩ = (⟨0, 0⟩, 2)) := Lib.hid (by unfold rquo; rw [hab]; rfl)
    cases hva : rval ⟨an, ad⟩ <;> rw [hva] at HV hab <;> simp at hab <;> replace HV := Lib.hid HV
    case true => 
      rw [hab] at HU
      replace HU := Lib.hid HU
      clear hab hva ha hb
      go_enter Try.func93, Try.ntmps93
      go_upto_region 1 with (fail)
      (generalize hW : World.alloc _ _ = wb; have q0_0 := (congrArg (fun W : World => W.cell? ⟨w.heap.size, 0, none⟩) hW).symm; simp [go_sem] at q0_0; have qf0_0 := (congrArg (fun W : World => W.frozen? ⟨w.heap.size, 0, none⟩) hW).symm; simp [go_sem] at qf0_0; have q0_1 := (congrArg (fun W : World => W.cell? ⟨w.heap.size, 1, none⟩) hW).symm; simp [go_sem] at q0_1; have qf0_1 := (congrArg (fun W : World => W.frozen? ⟨w.heap.size, 1, none⟩) hW).symm; simp [go_sem] at qf0_1; have qz0 : w.heap.size < wb.heap.size := (by rw [← hW]; simp [go_sem]; try omega); have q1_0 := (congrArg (fun W : World => W.cell? ⟨w.heap.size + 1, 0, none⟩) hW).symm; simp [go_sem] at q1_0; have qf1_0 := (congrArg (fun W : World => W.frozen? ⟨w.heap.size + 1, 0, none⟩) hW).symm; simp [go_sem] at qf1_0; have q1_1 := (congrArg (fun W : World => W.cell? ⟨w.heap.size + 1, 1, none⟩) hW).symm; simp [go_sem] at q1_1; have qf1_1 := (congrArg (fun W : World => W.frozen? ⟨w.heap.size + 1, 1, none⟩) hW).symm; simp [go_sem] at qf1_1; have qz1 : w.heap.size + 1 < wb.heap.size := (by rw [← hW]; simp [go_sem]; try omega); have q2_0 := (congrArg (fun W : World => W.cell? ⟨w.heap.size + 1 + 1, 0, none⟩) hW).symm; simp [go_sem] at q2_0; have qf2_0 := (congrArg (fun W : World => W.frozen? ⟨w.heap.size + 1 + 1, 0, none⟩) hW).symm; simp [go_sem] at qf2_0; have q2_1 := (congrArg (fun W : World => W.cell? ⟨w.heap.size + 1 + 1, 1, none⟩) hW).symm; simp [go_sem] at q2_1; have qf2_1 := (congrArg (fun W : World => W.frozen? ⟨w.heap.size + 1 + 1, 1, none⟩) hW).symm; simp [go_sem] at qf2_1; have qz2 : w.heap.size + 1 + 1 < wb.heap.size := (by rw [← hW]; simp [go_sem]; try omega); have HBW : Hid (Bel w wb) := Lib.hid (by rw [← hW]; (repeat (first | exact Ext.bel _ | exact Bel.refl | refine Bel.alloc ?_ _ | refine Bel.drew ?_ | refine Bel.drewN ?_ _))); clear hW; have hkw := HBW.out.cells)
      go_wp2_with (first | (go_at_call 49; (with_reducible refine (HV.out _).mono ?_); rintro e w2 ⟨rfl, hb2⟩; obtain ⟨x, rfl⟩ : ∃ x : Ext wb, w2 = x.w := ext_of (hb2.after (by (repeat (first | exact Ext.bel _ | exact Bel.refl | refine Bel.alloc ?_ _ | refine Bel.drew ?_ | refine Bel.drewN ?_ _)))); clear hb2) | (go_at_call 49; (with_reducible refine (HU.out _).mono ?_); rintro e w2 ⟨rfl, hb2⟩; obtain ⟨x, rfl⟩ : ∃ x : Ext wb, w2 = x.w := ext_of (hb2.after (by (repeat (first | exact Ext.bel _ | exact Bel.refl | refine Bel.alloc ?_ _ | refine Bel.drew ?_ | refine Bel.drewN ?_ _)))); clear hb2))
      refine bodyPost_ret (v := .tuple #[.agg #[.int .i64 0, .int .i64 0], .int .i64 2]) (by simp [results, Try.results93, go_sem, q2_0, q2_1, qz2]) rfl ⟨by rw [HR.out]; rfl, ?_⟩
      (repeat (first | exact HBW.out.trans x.bel | refine Bel.alloc ?_ _ | refine Bel.drew ?_ | refine Bel.drewN ?_ _ | refine Bel.set ?_ (by first | exact Nat.le_refl _ | (simp; done) | (simp; omega) | omega) _))
    case false =>
      replace HU := Lib.hid HU
      clear hva ha hb
      go_enter Try.func93, Try.ntmps93
      go_upto_region 1 with (fail)
      (generalize hW : World.alloc _ _ = wb; have q0_0 := (congrArg (fun W : World => W.cell? ⟨w.heap.size, 0, none⟩) hW).symm; simp [go_sem] at q0_0; have qf0_0 := (congrArg (fun W : World => W.frozen? ⟨w.heap.size, 0, none⟩) hW).symm; simp [go_sem] at qf0_0; have q0_1 := (congrArg (fun W : World => W.cell? ⟨w.heap.size, 1, none⟩) hW).symm; simp [go_sem] at q0_1; have qf0_1 := (congrArg (fun W : World => W.frozen? ⟨w.heap.size, 1, none⟩) hW).symm; simp [go_sem] at qf0_1; have qz0 : w.heap.size < wb.heap.size := (by rw [← hW]; simp [go_sem]; try omega); have q1_0 := (congrArg (fun W : World => W.cell? ⟨w.heap.size + 1, 0, none⟩) hW).symm; simp [go_sem] at q1_0; have qf1_0 := (congrArg (fun W : World => W.frozen? ⟨w.heap.size + 1, 0, none⟩) hW).symm; simp [go_sem] at qf1_0; have q1_1 := (congrArg (fun W : World => W.cell? ⟨w.heap.size + 1, 1, none⟩) hW).symm; simp [go_sem] at q1_1; have qf1_1 := (congrArg (fun W : World => W.frozen? ⟨w.heap.size + 1, 1, none⟩) hW).symm; simp [go_sem] at qf1_1; have qz1 : w.heap.size + 1 < wb.heap.size := (by rw [← hW]; simp [go_sem]; try omega); have q2_0 := (congrArg (fun W : World => W.cell? ⟨w.heap.size + 1 + 1, 0, none⟩) hW).symm; simp [go_sem] at q2_0; have qf2_0 := (congrArg (fun W : World => W.frozen? ⟨w.heap.size + 1 + 1, 0, none⟩) hW).symm; simp [go_sem] at qf2_0; have q2_1 := (congrArg (fun W : World => W.cell? ⟨w.heap.size + 1 + 1, 1, none⟩) hW).symm; simp [go_sem] at q2_1; have qf2_1 := (congrArg (fun W : World => W.frozen? ⟨w.heap.size + 1 + 1, 1, none⟩) hW).symm; simp [go_sem] at qf2_1; have qz2 : w.heap.size + 1 + 1 < wb.heap.size := (by rw [← hW]; simp [go_sem]; try omega); have HBW : Hid (Bel w wb) := Lib.hid (by rw [← hW]; (repeat (first | exact Ext.bel _ | exact Bel.refl | refine Bel.alloc ?_ _ | refine Bel.drew ?_ | refine Bel.drewN ?_ _))); clear hW; have hkw := HBW.out.cells)
      go_wp2_with (first | (go_at_call 49; (with_reducible refine (HV.out _).mono ?_); rintro e w2 ⟨rfl, hb2⟩; obtain ⟨x, rfl⟩ : ∃ x : Ext wb, w2 = x.w := ext_of (hb2.after (by (repeat (first | exact Ext.bel _ | exact Bel.refl | refine Bel.alloc ?_ _ | refine Bel.drew ?_ | refine Bel.drewN ?_ _)))); clear hb2) | (go_at_call 49; (with_reducible refine (HU.out _).mono ?_); rintro e w2 ⟨rfl, hb2⟩; obtain ⟨x, rfl⟩ : ∃ x : Ext wb, w2 = x.w := ext_of (hb2.after (by (repeat (first | exact Ext.bel _ | exact Bel.refl | refine Bel.alloc ?_ _ | refine Bel.drew ?_ | refine Bel.drewN ?_ _)))); clear hb2))
      refine bodyPost_ret (v := .tuple #[.agg #[.int .i64 0, .int .i64 0], .int .i64 2]) (by simp [results, Try.results93, go_sem, q2_0, q2_1, qz2]) rfl ⟨by rw [HR.out]; rfl, ?_⟩
      (repeat (first | exact HBW.out.trans x.bel | refine Bel.alloc ?_ _ | refine Bel.drew ?_ | refine Bel.drewN ?_ _ | refine Bel.set ?_ (by first | exact Nat.le_refl _ | (simp; done) | (simp; omega) | omega) _))
  have hva : rval ⟨an, ad⟩ = true := by revert hab; cases rval ⟨an, ad⟩ <;> simp
  have hvb : rval ⟨bn, bd⟩ = true := by revert hab; cases rval ⟨bn, bd⟩ <;> simp
  rw [hva] at HV
  rw [hvb] at HU
  replace HU := Lib.hid HU
  replace HV := Lib.hid HV
  obtain ⟨a1, a2, a3, a4⟩ := rvalB hva
  obtain ⟨b1, b2, b3, b4⟩ := rvalB hvb
  simp only at a1 a2 a3 a4 b1 b2 b3 b4
  obtain ⟨m0, m0'⟩ := prodB (x := ad) (y := bn) (by omega) (by omega) (by omega) (by omega)
  obtain ⟨m1, m1'⟩ := prodB (x := an) (y := bd) (by omega) (by omega) (by omega) (by omega)
  by_cases h0 : bn = 0
  · subst h0
    have HR := Lib.hid (rquo_zero ⟨an, ad⟩ bd)
    clear hab hva hvb ha hb
    go_enter Try.func93, Try.ntmps93
    go_upto_region 1 with (fail)
    (generalize hW : World.alloc _ _ = wb; have q0_0 := (congrArg (fun W : World => W.cell? ⟨w.heap.size, 0, none⟩) hW).symm; simp [go_sem] at q0_0; have qf0_0 := (congrArg (fun W : World => W.frozen? ⟨w.heap.size, 0, none⟩) hW).symm; simp [go_sem] at qf0_0; have q0_1 := (congrArg (fun W : World => W.cell? ⟨w.heap.size, 1, none⟩) hW).symm; simp [go_sem] at q0_1; have qf0_1 := (congrArg (fun W : World => W.frozen? ⟨w.heap.size, 1, none⟩) hW).symm; simp [go_sem] at qf0_1; have qz0 : w.heap.size < wb.heap.size := (by rw [← hW]; simp [go_sem]; try omega); have q1_0 := (congrArg (fun W : World => W.cell? ⟨w.heap.size + 1, 0, none⟩) hW).symm; simp [go_sem] at q1_0; have qf1_0 := (congrArg (fun W : World => W.frozen? ⟨w.heap.size + 1, 0, none⟩) hW).symm; simp [go_sem] at qf1_0; have q1_1 := (congrArg (fun W : World => W.cell? ⟨w.heap.size + 1, 1, none⟩) hW).symm; simp [go_sem] at q1_1; have qf1_1 := (congrArg (fun W : World => W.frozen? ⟨w.heap.size + 1, 1, none⟩) hW).symm; simp [go_sem] at qf1_1; have qz1 : w.heap.size + 1 < wb.heap.size := (by rw [← hW]; simp [go_sem]; try omega); have q2_0 := (congrArg (fun W : World => W.cell? ⟨w.heap.size + 1 + 1, 0, none⟩) hW).symm; simp [go_sem] at q2_0; have qf2_0 := (congrArg (fun W : World => W.frozen? ⟨w.heap.size + 1 + 1, 0, none⟩) hW).symm; simp [go_sem] at qf2_0; have q2_1 := (congrArg (fun W : World => W.cell? ⟨w.heap.size + 1 + 1, 1, none⟩) hW).symm; simp [go_sem] at q2_1; have qf2_1 := (congrArg (fun W : World => W.frozen? ⟨w.heap.size + 1 + 1, 1, none⟩) hW).symm; simp [go_sem] at qf2_1; have qz2 : w.heap.size + 1 + 1 < wb.heap.size := (by rw [← hW]; simp [go_sem]; try omega); have HBW : Hid (Bel w wb) := Lib.hid (by rw [← hW]; (repeat (first | exact Ext.bel _ | exact Bel.refl | refine Bel.alloc ?_ _ | refine Bel.drew ?_ | refine Bel.drewN ?_ _))); clear hW; have hkw := HBW.out.cells)
    go_wp2_with (first | (go_at_call 49; (with_reducible refine (HV.out _).mono ?_); rintro e w2 ⟨rfl, hb2⟩; obtain ⟨x, rfl⟩ : ∃ x : Ext wb, w2 = x.w := ext_of (hb2.after (by (repeat (first | exact Ext.bel _ | exact Bel.refl | refine Bel.alloc ?_ _ | refine Bel.drew ?_ | refine Bel.drewN ?_ _)))); clear hb2) | (go_at_call 49; (with_reducible refine (HU.out _).mono ?_); rintro e w2 ⟨rfl, hb2⟩; obtain ⟨x, rfl⟩ : ∃ x : Ext wb, w2 = x.w := ext_of (hb2.after (by (repeat (first | exact Ext.bel _ | exact Bel.refl | refine Bel.alloc ?_ _ | refine Bel.drew ?_ | refine Bel.drewN ?_ _)))); clear hb2))
    refine bodyPost_ret (v := .tuple #[.agg #[.int .i64 0, .int .i64 0], .int .i64 2]) (by simp [results, Try.results93, go_sem, q2_0, q2_1, qz2]) rfl ⟨by rw [HR.out]; rfl, ?_⟩
    (repeat (first | exact HBW.out.trans x.bel | refine Bel.alloc ?_ _ | refine Bel.drew ?_ | refine Bel.drewN ?_ _ | refine Bel.set ?_ (by first | exact Nat.le_refl _ | (simp; done) | (simp; omega) | omega) _))
  have hz : (bn == 0) = false := by simpa using h0
  clear h0
  have HM : Hid (∀ W, Calls Try.prog 50 #[.int .i64 (an * bd), .int .i64 (ad * bn)] W fun e w' => e = .returned (.tuple #[.agg #[.int .i64 (rmake (an * bd) (ad * bn)).1.num, .int .i64 (rmake (an * bd) (ad * bn)).1.den], .int .i64 (rmake (an * bd) (ad * bn)).2]) ∧ Bel W w') := Lib.hid fun W => rmake_any _ _ W (by unfold i64; omega) (by unfold i64; omega)
  have HR : Hid (rquo ⟨an, ad⟩ ⟨bn, bd⟩ = rmake (an * bd) (ad * bn)) := Lib.hid (by unfold rquo; rw [hab]; rfl)
  generalize rmake (an * bd) (ad * bn) = rr at *
  obtain ⟨⟨rn, rd⟩, re⟩ := rr
  simp only at HM
  clear hab hva hvb ha hb
  go_enter Try.func93, Try.ntmps93
  go_upto_region 1 with (fail)
  (generalize hW : World.alloc _ _ = wb; have q0_0 := (congrArg (fun W : World => W.cell? ⟨w.heap.size, 0, none⟩) hW).symm; simp [go_sem] at q0_0; have qf0_0 := (congrArg (fun W : World => W.frozen? ⟨w.heap.size, 0, none⟩) hW).symm; simp [go_sem] at qf0_0; have q0_1 := (congrArg (fun W : World => W.cell? ⟨w.heap.size, 1, none⟩) hW).symm; simp [go_sem] at q0_1; have qf0_1 := (congrArg (fun W : World => W.frozen? ⟨w.heap.size, 1, none⟩) hW).symm; simp [go_sem] at qf0_1; have qz0 : w.heap.size < wb.heap.size := (by rw [← hW]; simp [go_sem]; try omega); have q1_0 := (congrArg (fun W : World => W.cell? ⟨w.heap.size + 1, 0, none⟩) hW).symm; simp [go_sem] at q1_0; have qf1_0 := (congrArg (fun W : World => W.frozen? ⟨w.heap.size + 1, 0, none⟩) hW).symm; simp [go_sem] at qf1_0; have q1_1 := (congrArg (fun W : World => W.cell? ⟨w.heap.size + 1, 1, none⟩) hW).symm; simp [go_sem] at q1_1; have qf1_1 := (congrArg (fun W : World => W.frozen? ⟨w.heap.size + 1, 1, none⟩) hW).symm; simp [go_sem] at qf1_1; have qz1 : w.heap.size + 1 < wb.heap.size := (by rw [← hW]; simp [go_sem]; try omega); have q2_0 := (congrArg (fun W : World => W.cell? ⟨w.heap.size + 1 + 1, 0, none⟩) hW).symm; simp [go_sem] at q2_0; have qf2_0 := (congrArg (fun W : World => W.frozen? ⟨w.heap.size + 1 + 1, 0, none⟩) hW).symm; simp [go_sem] at qf2_0; have q2_1 := (congrArg (fun W : World => W.cell? ⟨w.heap.size + 1 + 1, 1, none⟩) hW).symm; simp [go_sem] at q2_1; have qf2_1 := (congrArg (fun W : World => W.frozen? ⟨w.heap.size + 1 + 1, 1, none⟩) hW).symm; simp [go_sem] at qf2_1; have qz2 : w.heap.size + 1 + 1 < wb.heap.size := (by rw [← hW]; simp [go_sem]; try omega); have HBW : Hid (Bel w wb) := Lib.hid (by rw [← hW]; (repeat (first | exact Ext.bel _ | exact Bel.refl | refine Bel.alloc ?_ _ | refine Bel.drew ?_ | refine Bel.drewN ?_ _))); clear hW; have hkw := HBW.out.cells)
  go_wp2_with (first | (go_at_call 49; (with_reducible refine (HV.out _).mono ?_); rintro e w2 ⟨rfl, hb2⟩; obtain ⟨x, rfl⟩ : ∃ x : Ext wb, w2 = x.w := ext_of (hb2.after (by (repeat (first | exact Ext.bel _ | exact Bel.refl | refine Bel.alloc ?_ _ | refine Bel.drew ?_ | refine Bel.drewN ?_ _)))); clear hb2) | (go_at_call 49; (with_reducible refine (HU.out _).mono ?_); rintro e w2 ⟨rfl, hb2⟩; obtain ⟨x, rfl⟩ : ∃ x : Ext wb, w2 = x.w := ext_of (hb2.after (by (repeat (first | exact Ext.bel _ | exact Bel.refl | refine Bel.alloc ?_ _ | refine Bel.drew ?_ | refine Bel.drewN ?_ _)))); clear hb2) | (go_at_call 50; (with_reducible refine (HM.out _).mono ?_); rintro e w2 ⟨rfl, hb2⟩; obtain ⟨x, rfl⟩ : ∃ x : Ext wb, w2 = x.w := ext_of (hb2.after (by (repeat (first | exact Ext.bel _ | exact Bel.refl | refine Bel.alloc ?_ _ | refine Bel.drew ?_ | refine Bel.drewN ?_ _)))); clear hb2))
  refine bodyPost_ret (v := .tuple #[.agg #[.int .i64 rn, .int .i64 rd], .int .i64 re]) (by simp [results, Try.results93, go_sem, q2_0, q2_1, qz2]) rfl ⟨by rw [HR.out]; rfl, ?_⟩
  (repeat (first | exact HBW.out.trans x.bel | refine Bel.alloc ?_ _ | refine Bel.drew ?_ | refine Bel.drewN ?_ _ | refine Bel.set ?_ (by first | exact Nat.le_refl _ | (simp; done) | (simp; omega) | omega) _))
theorem fl_neg1 {n d : Int} (hn : n < 0) (hd : 0 < d) : n.tdiv d * d ≤ n.tdiv d := by
  obtain ⟨_, h, _⟩ := fl_neg hn hd
  have h2 : n.tdiv d * (d - 1) ≤ 0 := Int.mul_nonpos_of_nonpos_of_nonneg h (by omega)
  rw [Int.mul_sub, Int.mul_one] at h2
  omega
theorem fl_bd (n : Int) {d : Int} (hd : 0 < d) (h1 : -2147483647 ≤ n) (h2 : n ≤ 2147483647) : -2147483648 ≤ n / d ∧ n / d ≤ 2147483648 := by
  by_cases hn : 0 ≤ n
  · have := fl_pos hn hd; omega
  · have := fl_neg (n := n) (d := d) (by omega) hd; omega
set_option maxHeartbeats 1000000 in
theorem pfloor_any (n d : Int) (w : World) (hn : i64 n) (hd : 0 < d) (hd2 : i64 d) : Calls Try.prog 94 #[.int .i64 n, .int .i64 d] w fun e w' => e = .returned (.int .i64 (n / d)) ∧ w = w' := by
  unfold i64 at hn hd2
  have hz : (d == 0) = false := by simp; omega
  by_cases h0 : 0 ≤ n
  · obtain ⟨p1, p2, p3, p4⟩ := fl_pos h0 hd
    have p5 := Int.emod_nonneg n (b := d) (by omega)
    go_enter Try.func94, Try.ntmps94
    go_wp2
    all_goals (go_ret; exact ⟨rfl, rfl⟩)
  · obtain ⟨p1, p2, p3, p4, p5, p6, p7⟩ := fl_neg (n := n) (d := d) (by omega) hd
    have HQ := Lib.hid p7
    have p8 := fl_neg1 (n := n) (d := d) (by omega) hd
    clear p7
    generalize hq : n.tdiv d = q at *
    generalize hm : n.tmod d = m at *
    replace h0 : n < 0 := by omega
    go_enter Try.func94, Try.ntmps94
    go_wp2
    all_goals (go_ret; exact ⟨ret_int (by have := HQ.out; first | omega | (rw [wrap_small _ (by omega) (by omega)]; omega)), rfl⟩)
set_option maxHeartbeats 1000000 in
theorem rfloor_any (n d : Int) (w : World) (hn : i64 n) (hd : 0 < d) (hd2 : i64 d) : Calls Try.prog 109 #[.int .i64 n, .int .i64 d] w fun e w' => e = .returned (.int .i64 (n / d)) ∧ w = w' := by
  unfold i64 at hn hd2
  have hz : (d == 0) = false := by simp; omega
  by_cases h0 : 0 ≤ n
  · obtain ⟨p1, p2, p3, p4⟩ := fl_pos h0 hd
    have p5 := Int.emod_nonneg n (b := d) (by omega)
    go_enter Try.func109, Try.ntmps109
    go_wp2
    all_goals (go_ret; exact ⟨rfl, rfl⟩)
  · obtain ⟨p1, p2, p3, p4, p5, p6, p7⟩ := fl_neg (n := n) (d := d) (by omega) hd
    have HQ := Lib.hid p7
    have p8 := fl_neg1 (n := n) (d := d) (by omega) hd
    clear p7
    generalize hq : n.tdiv d = q at *
    generalize hm : n.tmod d = m at *
    replace h0 : n < 0 := by omega
    go_enter Try.func109, Try.ntmps109
    go_wp2
    all_goals (go_ret; exact ⟨ret_int (by have := HQ.out; first | omega | (rw [wrap_small _ (by omega) (by omega)]; omega)), rfl⟩)
end Go.Proofs.Ytalphoebmefgoaa
namespace Go.Proofs.Ytalphoebmefgoaa
open Go.RowKit
set_option maxHeartbeats 4000000 in
theorem prcmp_any (a b : Rt) (w : World) (ha : a.wf) (hb : b.wf) : Calls Try.prog 48 #[a.V, b.V] w fun e w' => e = .returned (intV (rcmp a b)) ∧ Bel w w' := by
  obtain ⟨an, ad⟩ := a
  obtain ⟨bn, bd⟩ := b
  have HV := fun W => pvalid2_any ⟨an, ad⟩ ⟨bn, bd⟩ W ha hb
  unfold Rt.V at *
  cases hab : rval ⟨an, ad⟩ && rval ⟨bn, bd⟩
  · have HR : Hid (rcmp ⟨an, ad⟩ ⟨bn, bd⟩ = (0, 2)) := Lib.hid (by unfold rcmp; rw [hab]; rfl)
    rw [hab] at HV
    replace HV := Lib.hid HV
    clear hab ha hb
    go_enter Try.func48, Try.ntmps48
    go_upto_region 1 with (fail)
    (generalize hW : World.alloc _ _ = wb; have q0_0 := (congrArg (fun W : World => W.cell? ⟨w.heap.size, 0, none⟩) hW).symm; simp [go_sem] at q0_0; have q0_1 := (congrArg (fun W : World => W.cell? ⟨w.heap.size, 1, none⟩) hW).symm; simp [go_sem] at q0_1; have qz0 : w.heap.size < wb.heap.size := (by rw [← hW]; simp [go_sem]; try omega); have q1_0 := (congrArg (fun W : World => W.cell? ⟨w.heap.size + 1, 0, none⟩) hW).symm; simp [go_sem] at q1_0; have q1_1 := (congrArg (fun W : World => W.cell? ⟨w.heap.size + 1, 1, none⟩) hW).symm; simp [go_sem] at q1_1; have qz1 : w.heap.size + 1 < wb.heap.size := (by rw [← hW]; simp [go_sem]; try omega); have HBW : Hid (Bel w wb) := Lib.hid (by rw [← hW]; (repeat (first | exact Ext.bel _ | exact Bel.refl | refine Bel.alloc ?_ _ | refine Bel.drew ?_ | refine Bel.drewN ?_ _))); clear hW; have hkw := HBW.out.cells)
    go_wp2_with (go_at_call 86; (with_reducible refine (HV.out _).mono ?_); rintro e w2 ⟨rfl, hb2⟩; obtain ⟨x, rfl⟩ : ∃ x : Ext wb, w2 = x.w := ext_of (hb2.after (by (repeat (first | exact Ext.bel _ | exact Bel.refl | refine Bel.alloc ?_ _ | refine Bel.drew ?_ | refine Bel.drewN ?_ _)))); clear hb2)
    go_ret2
    exact ⟨by rw [HR.out]; rfl, HBW.out.trans x.bel⟩
  have hva : rval ⟨an, ad⟩ = true := by revert hab; cases rval ⟨an, ad⟩ <;> simp
  have hvb : rval ⟨bn, bd⟩ = true := by revert hab; cases rval ⟨bn, bd⟩ <;> simp
  rw [hab] at HV
  replace HV := Lib.hid HV
  obtain ⟨a1, a2, a3, a4⟩ := rvalB hva
  obtain ⟨b1, b2, b3, b4⟩ := rvalB hvb
  simp only at a1 a2 a3 a4 b1 b2 b3 b4
  obtain ⟨m0, m0'⟩ := prodB (x := an) (y := bd) (by omega) (by omega) (by omega) (by omega)
  obtain ⟨m1, m1'⟩ := prodB (x := bn) (y := ad) (by omega) (by omega) (by omega) (by omega)
  have HR : Hid (rcmp ⟨an, ad⟩ ⟨bn, bd⟩ = (if an * bd < bn * ad then -1 else if bn * ad < an * bd then 1 else 0, 0)) := Lib.hid (by unfold rcmp; rw [hab]; rfl)
  clear hab hva hvb ha hb
  rcases Int.lt_trichotomy (an * bd) (bn * ad) with hlt | heq | hgt
  · have HR2 : Hid (rcmp ⟨an, ad⟩ ⟨bn, bd⟩ = (-1, 0)) := Lib.hid (by rw [HR.out, if_pos hlt])
    clear HR
    have h1 : an * bd - bn * ad < 0 := by omega
    go_enter Try.func48, Try.ntmps48
    go_upto_region 1 with (fail)
    (generalize hW : World.alloc _ _ = wb; have q0_0 := (congrArg (fun W : World => W.cell? ⟨w.heap.size, 0, none⟩) hW).symm; simp [go_sem] at q0_0; have q0_1 := (congrArg (fun W : World => W.cell? ⟨w.heap.size, 1, none⟩) hW).symm; simp [go_sem] at q0_1; have qz0 : w.heap.size < wb.heap.size := (by rw [← hW]; simp [go_sem]; try omega); have q1_0 := (congrArg (fun W : World => W.cell? ⟨w.heap.size + 1, 0, none⟩) hW).symm; simp [go_sem] at q1_0; have q1_1 := (congrArg (fun W : World => W.cell? ⟨w.heap.size + 1, 1, none⟩) hW).symm; simp [go_sem] at q1_1; have qz1 : w.heap.size + 1 < wb.heap.size := (by rw [← hW]; simp [go_sem]; try omega); have HBW : Hid (Bel w wb) := Lib.hid (by rw [← hW]; (repeat (first | exact Ext.bel _ | exact Bel.refl | refine Bel.alloc ?_ _ | refine Bel.drew ?_ | refine Bel.drewN ?_ _))); clear hW; have hkw := HBW.out.cells)
    go_wp2_with (go_at_call 86; (with_reducible refine (HV.out _).mono ?_); rintro e w2 ⟨rfl, hb2⟩; obtain ⟨x, rfl⟩ : ∃ x : Ext wb, w2 = x.w := ext_of (hb2.after (by (repeat (first | exact Ext.bel _ | exact Bel.refl | refine Bel.alloc ?_ _ | refine Bel.drew ?_ | refine Bel.drewN ?_ _)))); clear hb2)
    go_ret2
    exact ⟨by rw [HR2.out]; rfl, HBW.out.trans x.bel⟩
  · have HR2 : Hid (rcmp ⟨an, ad⟩ ⟨bn, bd⟩ = (0, 0)) := Lib.hid (by rw [HR.out, if_neg (by omega), if_neg (by omega)])
    clear HR
    have h1 : ¬ an * bd - bn * ad < 0 := by omega
    have h2 : ¬ 0 < an * bd - bn * ad := by omega
    replace heq := Lib.hid heq
    go_enter Try.func48, Try.ntmps48
    go_upto_region 1 with (fail)
    (generalize hW : World.alloc _ _ = wb; have q0_0 := (congrArg (fun W : World => W.cell? ⟨w.heap.size, 0, none⟩) hW).symm; simp [go_sem] at q0_0; have q0_1 := (congrArg (fun W : World => W.cell? ⟨w.heap.size, 1, none⟩) hW).symm; simp [go_sem] at q0_1; have qz0 : w.heap.size < wb.heap.size := (by rw [← hW]; simp [go_sem]; try omega); have q1_0 := (congrArg (fun W : World => W.cell? ⟨w.heap.size + 1, 0, none⟩) hW).symm; simp [go_sem] at q1_0; have q1_1 := (congrArg (fun W : World => W.cell? ⟨w.heap.size + 1, 1, none⟩) hW).symm; simp [go_sem] at q1_1; have qz1 : w.heap.size + 1 < wb.heap.size := (by rw [← hW]; simp [go_sem]; try omega); have HBW : Hid (Bel w wb) := Lib.hid (by rw [← hW]; (repeat (first | exact Ext.bel _ | exact Bel.refl | refine Bel.alloc ?_ _ | refine Bel.drew ?_ | refine Bel.drewN ?_ _))); clear hW; have hkw := HBW.out.cells)
    go_wp2_with (go_at_call 86; (with_reducible refine (HV.out _).mono ?_); rintro e w2 ⟨rfl, hb2⟩; obtain ⟨x, rfl⟩ : ∃ x : Ext wb, w2 = x.w := ext_of (hb2.after (by (repeat (first | exact Ext.bel _ | exact Bel.refl | refine Bel.alloc ?_ _ | refine Bel.drew ?_ | refine Bel.drewN ?_ _)))); clear hb2)
    go_ret2
    exact ⟨by rw [HR2.out]; rfl, HBW.out.trans x.bel⟩
  · have HR2 : Hid (rcmp ⟨an, ad⟩ ⟨bn, bd⟩ = (1, 0)) := Lib.hid (by rw [HR.out, if_neg (by omega), if_pos hgt])
    clear HR
    have h1 : ¬ an * bd - bn * ad < 0 := by omega
    have h2 : 0 < an * bd - bn * ad := by omega
    go_enter Try.func48, Try.ntmps48
    go_upto_region 1 with (fail)
    (generalize hW : World.alloc _ _ = wb; have q0_0 := (congrArg (fun W : World => W.cell? ⟨w.heap.size, 0, none⟩) hW).symm; simp [go_sem] at q0_0; have q0_1 := (congrArg (fun W : World => W.cell? ⟨w.heap.size, 1, none⟩) hW).symm; simp [go_sem] at q0_1; have qz0 : w.heap.size < wb.heap.size := (by rw [← hW]; simp [go_sem]; try omega); have q1_0 := (congrArg (fun W : World => W.cell? ⟨w.heap.size + 1, 0, none⟩) hW).symm; simp [go_sem] at q1_0; have q1_1 := (congrArg (fun W : World => W.cell? ⟨w.heap.size + 1, 1, none⟩) hW).symm; simp [go_sem] at q1_1; have qz1 : w.heap.size + 1 < wb.heap.size := (by rw [← hW]; simp [go_sem]; try omega); have HBW : Hid (Bel w wb) := Lib.hid (by rw [← hW]; (repeat (first | exact Ext.bel _ | exact Bel.refl | refine Bel.alloc ?_ _ | refine Bel.drew ?_ | refine Bel.drewN ?_ _))); clear hW; have hkw := HBW.out.cells)
    go_wp2_with (go_at_call 86; (with_reducible refine (HV.out _).mono ?_); rintro e w2 ⟨rfl, hb2⟩; obtain ⟨x, rfl⟩ : ∃ x : Ext wb, w2 = x.w := ext_of (hb2.after (by (repeat (first | exact Ext.bel _ | exact Bel.refl | refine Bel.alloc ?_ _ | refine Bel.drew ?_ | refine Bel.drewN ?_ _)))); clear hb2)
    go_ret2
    exact ⟨by rw [HR2.out]; rfl, HBW.out.trans x.bel⟩
set_option maxHeartbeats 4000000 in
theorem rrcmp_any (a b : Rt) (w : World) (ha : a.wf) (hb : b.wf) : Calls Try.prog 22 #[a.V, b.V] w fun e w' => e = .returned (intV (rcmp a b)) ∧ Bel w w' := by
  obtain ⟨an, ad⟩ := a
  obtain ⟨bn, bd⟩ := b
  have HV := fun W => rval_any ⟨an, ad⟩ W ha
  have HU := fun W => rval_any ⟨bn, bd⟩ W hb
  unfold Rt.V at *
  cases hab : rval ⟨an, ad⟩ && rval ⟨bn, bd⟩
  · have HR : Hid (rcmp ⟨an, ad⟩ ⟨bn, bd⟩ = (0, 2)) := Lib.hid (by unfold rcmp; rw [hab]; rfl)
    cases hva : rval ⟨an, ad⟩ <;> rw [hva] at HV hab <;> simp at hab <;> replace HV := Lib.hid HV
    case true =>
      rw [hab] at HU
      replace HU := Lib.hid HU
      clear hab hva ha hb
      go_enter Try.func22, Try.ntmps22
      go_upto_region 1 with (fail)
      (generalize hW : World.alloc _ _ = wb; have q0_0 := (congrArg (fun W : World => W.cell? ⟨w.heap.size, 0, none⟩) hW).symm; simp [go_sem] at q0_0; have q0_1 := (congrArg (fun W : World => W.cell? ⟨w.heap.size, 1, none⟩) hW).symm; simp [go_sem] at q0_1; have qz0 : w.heap.size < wb.heap.size := (by rw [← hW]; simp [go_sem]; try omega); have q1_0 := (congrArg (fun W : World => W.cell? ⟨w.heap.size + 1, 0, none⟩) hW).symm; simp [go_sem] at q1_0; have q1_1 := (congrArg (fun W : World => W.cell? ⟨w.heap.size + 1, 1, none⟩) hW).symm; simp [go_sem] at q1_1; have qz1 : w.heap.size + 1 < wb.heap.size := (by rw [← hW]; simp [go_sem]; try omega); have HBW : Hid (Bel w wb) := Lib.hid (by rw [← hW]; (repeat (first | exact Ext.bel _ | exact Bel.refl | refine Bel.alloc ?_ _ | refine Bel.drew ?_ | refine Bel.drewN ?_ _))); clear hW; have hkw := HBW.out.cells)
      go_wp2_with (first | (go_at_call 49; (with_reducible refine (HV.out _).mono ?_); rintro e w2 ⟨rfl, hb2⟩; obtain ⟨x, rfl⟩ : ∃ x : Ext wb, w2 = x.w := ext_of (hb2.after (by (repeat (first | exact Ext.bel _ | exact Bel.refl | refine Bel.alloc ?_ _ | refine Bel.drew ?_ | refine Bel.drewN ?_ _)))); clear hb2) | (go_at_call 49; (with_reducible refine (HU.out _).mono ?_); rintro e w2 ⟨rfl, hb2⟩; obtain ⟨x, rfl⟩ : ∃ x : Ext wb, w2 = x.w := ext_of (hb2.after (by (repeat (first | exact Ext.bel _ | exact Bel.refl | refine Bel.alloc ?_ _ | refine Bel.drew ?_ | refine Bel.drewN ?_ _)))); clear hb2))
      go_ret2
      exact ⟨by rw [HR.out]; rfl, HBW.out.trans x.bel⟩
    case false =>
      replace HU := Lib.hid HU
      clear hva ha hb
      go_enter Try.func22, Try.ntmps22
      go_upto_region 1 with (fail)
      (generalize hW : World.alloc _ _ = wb; have q0_0 := (congrArg (fun W : World => W.cell? ⟨w.heap.size, 0, none⟩) hW).symm; simp [go_sem] at q0_0; have q0_1 := (congrArg (fun W : World => W.cell? ⟨w.heap.size, 1, none⟩) hW).symm; simp [go_sem] at q0_1; have qz0 : w.heap.size < wb.heap.size := (by rw [← hW]; simp [go_sem]; try omega); have q1_0 := (congrArg (fun W : World => W.cell? ⟨w.heap.size + 1, 0, none⟩) hW).symm; simp [go_sem] at q1_0; have q1_1 := (congrArg (fun W : World => W.cell? ⟨w.heap.size + 1, 1, none⟩) hW).symm; simp [go_sem] at q1_1; have qz1 : w.heap.size + 1 < wb.heap.size := (by rw [← hW]; simp [go_sem]; try omega); have HBW : Hid (Bel w wb) := Lib.hid (by rw [← hW]; (repeat (first | exact Ext.bel _ | exact Bel.refl | refine Bel.alloc ?_ _ | refine Bel.drew ?_ | refine Bel.drewN ?_ _))); clear hW; have hkw := HBW.out.cells)
      go_wp2_with (first | (go_at_call 49; (with_reducible refine (HV.out _).mono ?_); rintro e w2 ⟨rfl, hb2⟩; obtain ⟨x, rfl⟩ : ∃ x : Ext wb, w2 = x.w := ext_of (hb2.after (by (repeat (first | exact Ext.bel _ | exact Bel.refl | refine Bel.alloc ?_ _ | refine Bel.drew ?_ | refine Bel.drewN ?_ _)))); clear hb2) | (go_at_call 49; (with_reducible refine (HU.out _).mono ?_); rintro e w2 ⟨rfl, hb2⟩; obtain ⟨x, rfl⟩ : ∃ x : Ext wb, w2 = x.w := ext_of (hb2.after (by (repeat (first | exact Ext.bel _ | exact Bel.refl | refine Bel.alloc ?_ _ | refine Bel.drew ?_ | refine Bel.drewN ?_ _)))); clear hb2))
      go_ret2
      exact ⟨by rw [HR.out]; rfl, HBW.out.trans x.bel⟩
  have hva : rval ⟨an, ad⟩ = true := by revert hab; cases rval ⟨an, ad⟩ <;> simp
  have hvb : rval ⟨bn, bd⟩ = true := by revert hab; cases rval ⟨bn, bd⟩ <;> simp
  rw [hva] at HV
  rw [hvb] at HU
  replace HU := Lib.hid HU
  replace HV := Lib.hid HV
  obtain ⟨a1, a2, a3, a4⟩ := rvalB hva
  obtain ⟨b1, b2, b3, b4⟩ := rvalB hvb
  simp only at a1 a2 a3 a4 b1 b2 b3 b4
  obtain ⟨m0, m0'⟩ := prodB (x := an) (y := bd) (by omega) (by omega) (by omega) (by omega)
  obtain ⟨m1, m1'⟩ := prodB (x := bn) (y := ad) (by omega) (by omega) (by omega) (by omega)
  have HR : Hid (rcmp ⟨an, ad⟩ ⟨bn, bd⟩ = (if an * bd < bn * ad then -1 else if bn * ad < an * bd then 1 else 0, 0)) := Lib.hid (by unfold rcmp; rw [hab]; rfl)
  clear hab hva hvb ha hb
  have hw0 : IntKind.i64.wrap (an * bd) = an * bd := IntWalk.i64_in _ (by omega)
  have hw1 : IntKind.i64.wrap (bn * ad) = bn * ad := IntWalk.i64_in _ (by omega)
  rcases Int.lt_trichotomy (an * bd) (bn * ad) with hlt | heq | hgt
  · have HR2 : Hid (rcmp ⟨an, ad⟩ ⟨bn, bd⟩ = (-1, 0)) := Lib.hid (by rw [HR.out, if_pos hlt])
    clear HR
    have h1 : an * bd < bn * ad := hlt
    go_enter Try.func22, Try.ntmps22
    go_upto_region 1 with (fail)
    (generalize hW : World.alloc _ _ = wb; have q0_0 := (congrArg (fun W : World => W.cell? ⟨w.heap.size, 0, none⟩) hW).symm; simp [go_sem] at q0_0; have q0_1 := (congrArg (fun W : World => W.cell? ⟨w.heap.size, 1, none⟩) hW).symm; simp [go_sem] at q0_1; have qz0 : w.heap.size < wb.heap.size := (by rw [← hW]; simp [go_sem]; try omega); have q1_0 := (congrArg (fun W : World => W.cell? ⟨w.heap.size + 1, 0, none⟩) hW).symm; simp [go_sem] at q1_0; have q1_1 := (congrArg (fun W : World => W.cell? ⟨w.heap.size + 1, 1, none⟩) hW).symm; simp [go_sem] at q1_1; have qz1 : w.heap.size + 1 < wb.heap.size := (by rw [← hW]; simp [go_sem]; try omega); have HBW : Hid (Bel w wb) := Lib.hid (by rw [← hW]; (repeat (first | exact Ext.bel _ | exact Bel.refl | refine Bel.alloc ?_ _ | refine Bel.drew ?_ | refine Bel.drewN ?_ _))); clear hW; have hkw := HBW.out.cells)
    go_wp2_with (first | (go_at_call 49; (with_reducible refine (HV.out _).mono ?_); rintro e w2 ⟨rfl, hb2⟩; obtain ⟨x, rfl⟩ : ∃ x : Ext wb, w2 = x.w := ext_of (hb2.after (by (repeat (first | exact Ext.bel _ | exact Bel.refl | refine Bel.alloc ?_ _ | refine Bel.drew ?_ | refine Bel.drewN ?_ _)))); clear hb2) | (go_at_call 49; (with_reducible refine (HU.out _).mono ?_); rintro e w2 ⟨rfl, hb2⟩; obtain ⟨x, rfl⟩ : ∃ x : Ext wb, w2 = x.w := ext_of (hb2.after (by (repeat (first | exact Ext.bel _ | exact Bel.refl | refine Bel.alloc ?_ _ | refine Bel.drew ?_ | refine Bel.drewN ?_ _)))); clear hb2))
    (refine wp_region_ext (wb := wb) (by (repeat (first | exact Ext.bel _ | exact Bel.refl | refine Bel.alloc ?_ _ | refine Bel.drew ?_ | refine Bel.drewN ?_ _))) (by kernel_rfl) (by kernel_rfl) ?_; (repeat (any_goals (first | go_big_quiet_step (fail) | quiet_step (fail) | (refine wpQuiet_step (fun K hK => ?_); go_simp; split <;> (refine hK _ ?_; clear hK K))))); all_goals (refine wpQuiet_nil ?_; intro _ hw'; obtain ⟨y, hw''⟩ := hw'; subst hw''))
    go_wp2
    go_ret2
    exact ⟨by rw [HR2.out]; rfl, HBW.out.trans y.bel⟩
  · have HR2 : Hid (rcmp ⟨an, ad⟩ ⟨bn, bd⟩ = (0, 0)) := Lib.hid (by rw [HR.out, if_neg (by omega), if_neg (by omega)])
    clear HR
    have h1 : ¬ an * bd < bn * ad := by omega
    have h2 : ¬ bn * ad < an * bd := by omega
    replace heq := Lib.hid heq
    go_enter Try.func22, Try.ntmps22
    go_upto_region 1 with (fail)
    (generalize hW : World.alloc _ _ = wb; have q0_0 := (congrArg (fun W : World => W.cell? ⟨w.heap.size, 0, none⟩) hW).symm; simp [go_sem] at q0_0; have q0_1 := (congrArg (fun W : World => W.cell? ⟨w.heap.size, 1, none⟩) hW).symm; simp [go_sem] at q0_1; have qz0 : w.heap.size < wb.heap.size := (by rw [← hW]; simp [go_sem]; try omega); have q1_0 := (congrArg (fun W : World => W.cell? ⟨w.heap.size + 1, 0, none⟩) hW).symm; simp [go_sem] at q1_0; have q1_1 := (congrArg (fun W : World => W.cell? ⟨w.heap.size + 1, 1, none⟩) hW).symm; simp [go_sem] at q1_1; have qz1 : w.heap.size + 1 < wb.heap.size := (by rw [← hW]; simp [go_sem]; try omega); have HBW : Hid (Bel w wb) := Lib.hid (by rw [← hW]; (repeat (first | exact Ext.bel _ | exact Bel.refl | refine Bel.alloc ?_ _ | refine Bel.drew ?_ | refine Bel.drewN ?_ _))); clear hW; have hkw := HBW.out.cells)
    go_wp2_with (first | (go_at_call 49; (with_reducible refine (HV.out _).mono ?_); rintro e w2 ⟨rfl, hb2⟩; obtain ⟨x, rfl⟩ : ∃ x : Ext wb, w2 = x.w := ext_of (hb2.after (by (repeat (first | exact Ext.bel _ | exact Bel.refl | refine Bel.alloc ?_ _ | refine Bel.drew ?_ | refine Bel.drewN ?_ _)))); clear hb2) | (go_at_call 49; (with_reducible refine (HU.out _).mono ?_); rintro e w2 ⟨rfl, hb2⟩; obtain ⟨x, rfl⟩ : ∃ x : Ext wb, w2 = x.w := ext_of (hb2.after (by (repeat (first | exact Ext.bel _ | exact Bel.refl | refine Bel.alloc ?_ _ | refine Bel.drew ?_ | refine Bel.drewN ?_ _)))); clear hb2))
    (refine wp_region_ext (wb := wb) (by (repeat (first | exact Ext.bel _ | exact Bel.refl | refine Bel.alloc ?_ _ | refine Bel.drew ?_ | refine Bel.drewN ?_ _))) (by kernel_rfl) (by kernel_rfl) ?_; (repeat (any_goals (first | go_big_quiet_step (fail) | quiet_step (fail) | (refine wpQuiet_step (fun K hK => ?_); go_simp; split <;> (refine hK _ ?_; clear hK K))))); all_goals (refine wpQuiet_nil ?_; intro _ hw'; obtain ⟨y, hw''⟩ := hw'; subst hw''))
    go_wp2
    go_ret2
    exact ⟨by rw [HR2.out]; rfl, HBW.out.trans y.bel⟩
  · have HR2 : Hid (rcmp ⟨an, ad⟩ ⟨bn, bd⟩ = (1, 0)) := Lib.hid (by rw [HR.out, if_neg (by omega), if_pos hgt])
    clear HR
    have h1 : ¬ an * bd < bn * ad := by omega
    have h2 : bn * ad < an * bd := hgt
    go_enter Try.func22, Try.ntmps22
    go_upto_region 1 with (fail)
    (generalize hW : World.alloc _ _ = wb; have q0_0 := (congrArg (fun W : World => W.cell? ⟨w.heap.size, 0, none⟩) hW).symm; simp [go_sem] at q0_0; have q0_1 := (congrArg (fun W : World => W.cell? ⟨w.heap.size, 1, none⟩) hW).symm; simp [go_sem] at q0_1; have qz0 : w.heap.size < wb.heap.size := (by rw [← hW]; simp [go_sem]; try omega); have q1_0 := (congrArg (fun W : World => W.cell? ⟨w.heap.size + 1, 0, none⟩) hW).symm; simp [go_sem] at q1_0; have q1_1 := (congrArg (fun W : World => W.cell? ⟨w.heap.size + 1, 1, none⟩) hW).symm; simp [go_sem] at q1_1; have qz1 : w.heap.size + 1 < wb.heap.size := (by rw [← hW]; simp [go_sem]; try omega); have HBW : Hid (Bel w wb) := Lib.hid (by rw [← hW]; (repeat (first | exact Ext.bel _ | exact Bel.refl | refine Bel.alloc ?_ _ | refine Bel.drew ?_ | refine Bel.drewN ?_ _))); clear hW; have hkw := HBW.out.cells)
    go_wp2_with (first | (go_at_call 49; (with_reducible refine (HV.out _).mono ?_); rintro e w2 ⟨rfl, hb2⟩; obtain ⟨x, rfl⟩ : ∃ x : Ext wb, w2 = x.w := ext_of (hb2.after (by (repeat (first | exact Ext.bel _ | exact Bel.refl | refine Bel.alloc ?_ _ | refine Bel.drew ?_ | refine Bel.drewN ?_ _)))); clear hb2) | (go_at_call 49; (with_reducible refine (HU.out _).mono ?_); rintro e w2 ⟨rfl, hb2⟩; obtain ⟨x, rfl⟩ : ∃ x : Ext wb, w2 = x.w := ext_of (hb2.after (by (repeat (first | exact Ext.bel _ | exact Bel.refl | refine Bel.alloc ?_ _ | refine Bel.drew ?_ | refine Bel.drewN ?_ _)))); clear hb2))
    (refine wp_region_ext (wb := wb) (by (repeat (first | exact Ext.bel _ | exact Bel.refl | refine Bel.alloc ?_ _ | refine Bel.drew ?_ | refine Bel.drewN ?_ _))) (by kernel_rfl) (by kernel_rfl) ?_; (repeat (any_goals (first | go_big_quiet_step (fail) | quiet_step (fail) | (refine wpQuiet_step (fun K hK => ?_); go_simp; split <;> (refine hK _ ?_; clear hK K))))); all_goals (refine wpQuiet_nil ?_; intro _ hw'; obtain ⟨y, hw''⟩ := hw'; subst hw''))
    go_wp2
    go_ret2
    exact ⟨by rw [HR2.out]; rfl, HBW.out.trans y.bel⟩
end Go.Proofs.Ytalphoebmefgoaa
