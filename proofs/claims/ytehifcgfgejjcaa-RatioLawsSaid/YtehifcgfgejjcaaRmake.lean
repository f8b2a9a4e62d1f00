import Derived.Test.YtehifcgfgejjcaaRval
import Derived.Deep.Cut
namespace Go.Proofs.Ytehifcgfgejjcaa
open Go.RowKit
def rmake (n d : Int) : Rt × Int := if d = 0 then (⟨0, 0⟩, 2) else
  (if 2147483647 < absU n / gcdU (absU n) (absU d) ∨ 2147483647 < absU d / gcdU (absU n) (absU d) then (⟨0, 0⟩, 7) else
    (⟨if (n < 0) ≠ (d < 0) then -(absU n / gcdU (absU n) (absU d)) else absU n / gcdU (absU n) (absU d), absU d / gcdU (absU n) (absU d)⟩, 0))
def rresV (p : Rt × Int) : Value := .tuple #[p.1.V, .int .i64 p.2]
theorem gcdU_pos {a d : Int} (h : d ≠ 0) : 1 ≤ gcdU a (absU d) := by
  unfold gcdU absU
  have : 0 < Nat.gcd a.toNat ((d.natAbs : Nat) : Int).toNat := Nat.gcd_pos_of_pos_right _ (by omega)
  omega
theorem div_le {a g : Int} (h : 0 ≤ a) (hg : 1 ≤ g) : 0 ≤ a / g ∧ a / g ≤ a :=
  ⟨Int.ediv_nonneg h (by omega), Int.ediv_le_self g h⟩
theorem sgn_true {n d : Int} (h : (!decide (n < 0) == decide (d < 0)) = true) : (n < 0) ≠ (d < 0) := by
  by_cases h1 : n < 0 <;> by_cases h2 : d < 0 <;> simp [h1, h2] at h ⊢
theorem sgn_false {n d : Int} (h : (!decide (n < 0) == decide (d < 0)) = false) : ¬ ((n < 0) ≠ (d < 0)) := by
  by_cases h1 : n < 0 <;> by_cases h2 : d < 0 <;> simp [h1, h2] at h ⊢
set_option maxHeartbeats 4000000 in
theorem pmake_any (n d : Int) (w : World) (hn : i64 n) (hd : i64 d) : Calls Try.prog 28 #[.int .i64 n, .int .i64 d] w fun e w' => e = .returned (rresV (rmake n d)) ∧ Bel w w' := by
  have HA := Lib.hid fun W => pabs_any n W hn
  have HD := Lib.hid fun W => pabs_any d W hd
  have HG := Lib.hid fun W => pgcd_any (absU n) (absU d) W (absU_u n hn) (absU_u d hd)
  obtain ⟨a0, a1⟩ := absU_u n hn
  obtain ⟨b0, b1⟩ := absU_u d hd
  by_cases h0 : d = 0
  · have HR : Hid (rmake n d = (⟨0, 0⟩, 2)) := Lib.hid (by unfold rmake; rw [if_pos h0])
    subst h0
    clear a0 a1 b0 b1 hn hd
    go_enter Try.func28, Try.ntmps28
    go_wp2
    refine bodyPost_ret (v := .tuple #[.agg #[.int .i64 0, .int .i64 0], .int .i64 2]) (by simp [results, Try.results28, go_sem]) rfl ⟨by rw [HR.out]; rfl, ?_⟩
    (repeat (first | exact Bel.refl | refine Bel.alloc ?_ _ | refine Bel.drew ?_ | refine Bel.drewN ?_ _ | refine Bel.set ?_ (by first | exact Nat.le_refl _ | (simp; done) | (simp; omega) | omega) _))
  have g1 := gcdU_pos (a := absU n) h0
  obtain ⟨c0, c1⟩ := div_le a0 g1
  obtain ⟨d0, d1⟩ := div_le b0 g1
  have HR : Hid (rmake n d = (if 2147483647 < absU n / gcdU (absU n) (absU d) ∨ 2147483647 < absU d / gcdU (absU n) (absU d) then (⟨0, 0⟩, 7) else
    (⟨if (n < 0) ≠ (d < 0) then -(absU n / gcdU (absU n) (absU d)) else absU n / gcdU (absU n) (absU d), absU d / gcdU (absU n) (absU d)⟩, 0))) := Lib.hid (by unfold rmake; rw [if_neg h0])
  generalize gcdU (absU n) (absU d) = g at *
  generalize absU n = an at *
  generalize absU d = ad at *
  have hz : (d == 0) = false := by simpa using h0
  have hz2 : (g == 0) = false := by simp; omega
  unfold i64 at hn hd
  clear h0
  go_enter Try.func28, Try.ntmps28
  go_upto_region 1 with (fail)
  (generalize hW : World.alloc _ _ = wb; have q0_0 := (congrArg (fun W : World => W.cell? ⟨w.heap.size, 0, none⟩) hW).symm; simp [go_sem] at q0_0; have qf0_0 := (congrArg (fun W : World => W.frozen? ⟨w.heap.size, 0, none⟩) hW).symm; simp [go_sem] at qf0_0; have q0_1 := (congrArg (fun W : World => W.cell? ⟨w.heap.size, 1, none⟩) hW).symm; simp [go_sem] at q0_1; have qf0_1 := (congrArg (fun W : World => W.frozen? ⟨w.heap.size, 1, none⟩) hW).symm; simp [go_sem] at qf0_1; have qz0 : w.heap.size < wb.heap.size := (by rw [← hW]; simp [go_sem]; try omega); have HBW : Hid (Bel w wb) := Lib.hid (by rw [← hW]; (repeat (first | exact Ext.bel _ | exact Bel.refl | refine Bel.alloc ?_ _ | refine Bel.drew ?_ | refine Bel.drewN ?_ _))); clear hW; have hkw := HBW.out.cells)
  go_wp2_with (first | (go_at_call 46; (with_reducible refine (HA.out _).mono ?_); rintro e w2 ⟨rfl, hb2⟩; obtain ⟨x, rfl⟩ : ∃ x : Ext wb, w2 = x.w := ext_of (hb2.after (by (repeat (first | exact Ext.bel _ | exact Bel.refl | refine Bel.alloc ?_ _ | refine Bel.drew ?_ | refine Bel.drewN ?_ _)))); clear hb2) | (go_at_call 46; (with_reducible refine (HD.out _).mono ?_); rintro e w2 ⟨rfl, hb2⟩; obtain ⟨x, rfl⟩ : ∃ x : Ext wb, w2 = x.w := ext_of (hb2.after (by (repeat (first | exact Ext.bel _ | exact Bel.refl | refine Bel.alloc ?_ _ | refine Bel.drew ?_ | refine Bel.drewN ?_ _)))); clear hb2) | (go_at_call 47; (with_reducible refine (HG.out _).mono ?_); rintro e w2 ⟨rfl, hb2⟩; obtain ⟨x, rfl⟩ : ∃ x : Ext wb, w2 = x.w := ext_of (hb2.after (by (repeat (first | exact Ext.bel _ | exact Bel.refl | refine Bel.alloc ?_ _ | refine Bel.drew ?_ | refine Bel.drewN ?_ _)))); clear hb2))
  (refine wp_region_ext (wb := wb) (by (repeat (first | exact Ext.bel _ | exact Bel.refl | refine Bel.alloc ?_ _ | refine Bel.drew ?_ | refine Bel.drewN ?_ _))) (by kernel_rfl) (by kernel_rfl) ?_; (repeat (any_goals (first | go_big_quiet_step (fail) | quiet_step (fail) | (refine wpQuiet_step (fun K hK => ?_); go_simp; split <;> (refine hK _ ?_; clear hK K))))); all_goals (refine wpQuiet_nil ?_; intro _ hw'; obtain ⟨y, hw''⟩ := hw'; subst hw''))
  go_wp2
  · refine bodyPost_ret (v := .tuple #[.agg #[.int .i64 0, .int .i64 0], .int .i64 7]) (by simp [results, Try.results28, go_sem, q0_0, q0_1, qz0]) rfl ⟨by rw [HR.out, if_pos (by omega)]; rfl, ?_⟩
    (repeat (first | exact HBW.out.trans y.bel | refine Bel.alloc ?_ _ | refine Bel.drew ?_ | refine Bel.drewN ?_ _ | refine Bel.set ?_ (by first | exact Nat.le_refl _ | (simp; done) | (simp; omega) | omega) _))
  · refine bodyPost_ret (v := .tuple #[.agg #[.int .i64 (-(an / g)), .int .i64 (ad / g)], .int .i64 0]) (by simp [results, Try.results28, go_sem, q0_0, q0_1, qz0]) rfl ⟨by rw [HR.out, if_neg (by omega), if_pos (sgn_true (by assumption))]; rfl, ?_⟩
    (repeat (first | exact HBW.out.trans y.bel | refine Bel.alloc ?_ _ | refine Bel.drew ?_ | refine Bel.drewN ?_ _ | refine Bel.set ?_ (by first | exact Nat.le_refl _ | (simp; done) | (simp; omega) | omega) _))
  · refine bodyPost_ret (v := .tuple #[.agg #[.int .i64 (an / g), .int .i64 (ad / g)], .int .i64 0]) (by simp [results, Try.results28, go_sem, q0_0, q0_1, qz0]) rfl ⟨by rw [HR.out, if_neg (by omega), if_neg (sgn_false (by assumption))]; rfl, ?_⟩
    (repeat (first | exact HBW.out.trans y.bel | refine Bel.alloc ?_ _ | refine Bel.drew ?_ | refine Bel.drewN ?_ _ | refine Bel.set ?_ (by first | exact Nat.le_refl _ | (simp; done) | (simp; omega) | omega) _))
  · refine bodyPost_ret (v := .tuple #[.agg #[.int .i64 0, .int .i64 0], .int .i64 7]) (by simp [results, Try.results28, go_sem, q0_0, q0_1, qz0]) rfl ⟨by rw [HR.out, if_pos (by omega)]; rfl, ?_⟩
    (repeat (first | exact HBW.out.trans y.bel | refine Bel.alloc ?_ _ | refine Bel.drew ?_ | refine Bel.drewN ?_ _ | refine Bel.set ?_ (by first | exact Nat.le_refl _ | (simp; done) | (simp; omega) | omega) _))
set_option maxHeartbeats 4000000 in
theorem rmake_any (n d : Int) (w : World) (hn : i64 n) (hd : i64 d) : Calls Try.prog 29 #[.int .i64 n, .int .i64 d] w fun e w' => e = .returned (rresV (rmake n d)) ∧ Bel w w' := by
  have HA := Lib.hid fun W => rsize_any n W hn
  have HD := Lib.hid fun W => rsize_any d W hd
  have HG := Lib.hid fun W => rdiv_any (absU n) (absU d) W (absU_u n hn) (absU_u d hd)
  obtain ⟨a0, a1⟩ := absU_u n hn
  obtain ⟨b0, b1⟩ := absU_u d hd
  by_cases h0 : d = 0
  · have HR : Hid (rmake n d = (⟨0, 0⟩, 2)) := Lib.hid (by unfold rmake; rw [if_pos h0])
    subst h0
    clear a0 a1 b0 b1 hn hd
    go_enter Try.func29, Try.ntmps29
    go_wp2
    refine bodyPost_ret (v := .tuple #[.agg #[.int .i64 0, .int .i64 0], .int .i64 2]) (by simp [results, Try.results29, go_sem]) rfl ⟨by rw [HR.out]; rfl, ?_⟩
    (repeat (first | exact Bel.refl | refine Bel.alloc ?_ _ | refine Bel.drew ?_ | refine Bel.drewN ?_ _ | refine Bel.set ?_ (by first | exact Nat.le_refl _ | (simp; done) | (simp; omega) | omega) _))
  have g1 := gcdU_pos (a := absU n) h0
  obtain ⟨c0, c1⟩ := div_le a0 g1
  obtain ⟨d0, d1⟩ := div_le b0 g1
  have HR : Hid (rmake n d = (if 2147483647 < absU n / gcdU (absU n) (absU d) ∨ 2147483647 < absU d / gcdU (absU n) (absU d) then (⟨0, 0⟩, 7) else
    (⟨if (n < 0) ≠ (d < 0) then -(absU n / gcdU (absU n) (absU d)) else absU n / gcdU (absU n) (absU d), absU d / gcdU (absU n) (absU d)⟩, 0))) := Lib.hid (by unfold rmake; rw [if_neg h0])
  generalize gcdU (absU n) (absU d) = g at *
  generalize absU n = an at *
  generalize absU d = ad at *
  have hz : (d == 0) = false := by simpa using h0
  have hz2 : (g == 0) = false := by simp; omega
  unfold i64 at hn hd
  clear h0
  go_enter Try.func29, Try.ntmps29
  go_upto_region 1 with (fail)
  (generalize hW : World.alloc _ _ = wb; have q0_0 := (congrArg (fun W : World => W.cell? ⟨w.heap.size, 0, none⟩) hW).symm; simp [go_sem] at q0_0; have qf0_0 := (congrArg (fun W : World => W.frozen? ⟨w.heap.size, 0, none⟩) hW).symm; simp [go_sem] at qf0_0; have q0_1 := (congrArg (fun W : World => W.cell? ⟨w.heap.size, 1, none⟩) hW).symm; simp [go_sem] at q0_1; have qf0_1 := (congrArg (fun W : World => W.frozen? ⟨w.heap.size, 1, none⟩) hW).symm; simp [go_sem] at qf0_1; have qz0 : w.heap.size < wb.heap.size := (by rw [← hW]; simp [go_sem]; try omega); have HBW : Hid (Bel w wb) := Lib.hid (by rw [← hW]; (repeat (first | exact Ext.bel _ | exact Bel.refl | refine Bel.alloc ?_ _ | refine Bel.drew ?_ | refine Bel.drewN ?_ _))); clear hW; have hkw := HBW.out.cells)
  go_wp2_with (first | (go_at_call 49; (with_reducible refine (HA.out _).mono ?_); rintro e w2 ⟨rfl, hb2⟩; obtain ⟨x, rfl⟩ : ∃ x : Ext wb, w2 = x.w := ext_of (hb2.after (by (repeat (first | exact Ext.bel _ | exact Bel.refl | refine Bel.alloc ?_ _ | refine Bel.drew ?_ | refine Bel.drewN ?_ _)))); clear hb2) | (go_at_call 49; (with_reducible refine (HD.out _).mono ?_); rintro e w2 ⟨rfl, hb2⟩; obtain ⟨x, rfl⟩ : ∃ x : Ext wb, w2 = x.w := ext_of (hb2.after (by (repeat (first | exact Ext.bel _ | exact Bel.refl | refine Bel.alloc ?_ _ | refine Bel.drew ?_ | refine Bel.drewN ?_ _)))); clear hb2) | (go_at_call 48; (with_reducible refine (HG.out _).mono ?_); rintro e w2 ⟨rfl, hb2⟩; obtain ⟨x, rfl⟩ : ∃ x : Ext wb, w2 = x.w := ext_of (hb2.after (by (repeat (first | exact Ext.bel _ | exact Bel.refl | refine Bel.alloc ?_ _ | refine Bel.drew ?_ | refine Bel.drewN ?_ _)))); clear hb2))
  (refine wp_region_ext (wb := wb) (by (repeat (first | exact Ext.bel _ | exact Bel.refl | refine Bel.alloc ?_ _ | refine Bel.drew ?_ | refine Bel.drewN ?_ _))) (by kernel_rfl) (by kernel_rfl) ?_; (repeat (any_goals (first | go_big_quiet_step (first | (go_at_call 49; with_reducible exact ext_call (HA.out _)) | (go_at_call 49; with_reducible exact ext_call (HD.out _))) | quiet_step (first | (go_at_call 49; with_reducible exact ext_call (HA.out _)) | (go_at_call 49; with_reducible exact ext_call (HD.out _))) | (refine wpQuiet_step (fun K hK => ?_); go_simp; split <;> (refine hK _ ?_; clear hK K))))); all_goals (refine wpQuiet_nil ?_; intro _ hw'; obtain ⟨y, hw''⟩ := hw'; subst hw''))
  go_wp2
  · refine bodyPost_ret (v := .tuple #[.agg #[.int .i64 0, .int .i64 0], .int .i64 7]) (by simp [results, Try.results29, go_sem, q0_0, q0_1, qz0]) rfl ⟨by rw [HR.out, if_pos (by omega)]; rfl, ?_⟩
    (repeat (first | exact HBW.out.trans y.bel | refine Bel.alloc ?_ _ | refine Bel.drew ?_ | refine Bel.drewN ?_ _ | refine Bel.set ?_ (by first | exact Nat.le_refl _ | (simp; done) | (simp; omega) | omega) _))
  · refine bodyPost_ret (v := .tuple #[.agg #[.int .i64 (-(an / g)), .int .i64 (ad / g)], .int .i64 0]) (by simp [results, Try.results29, go_sem, q0_0, q0_1, qz0]) rfl ⟨by rw [HR.out, if_neg (by omega), if_pos (sgn_true (by assumption))]; rfl, ?_⟩
    (repeat (first | exact HBW.out.trans y.bel | refine Bel.alloc ?_ _ | refine Bel.drew ?_ | refine Bel.drewN ?_ _ | refine Bel.set ?_ (by first | exact Nat.le_refl _ | (simp; done) | (simp; omega) | omega) _))
  · refine bodyPost_ret (v := .tuple #[.agg #[.int .i64 (an / g), .int .i64 (ad / g)], .int .i64 0]) (by simp [results, Try.results29, go_sem, q0_0, q0_1, qz0]) rfl ⟨by rw [HR.out, if_neg (by omega), if_neg (sgn_false (by assumption))]; rfl, ?_⟩
    (repeat (first | exact HBW.out.trans y.bel | refine Bel.alloc ?_ _ | refine Bel.drew ?_ | refine Bel.drewN ?_ _ | refine Bel.set ?_ (by first | exact Nat.le_refl _ | (simp; done) | (simp; omega) | omega) _))
  · refine bodyPost_ret (v := .tuple #[.agg #[.int .i64 0, .int .i64 0], .int .i64 7]) (by simp [results, Try.results29, go_sem, q0_0, q0_1, qz0]) rfl ⟨by rw [HR.out, if_pos (by omega)]; rfl, ?_⟩
    (repeat (first | exact HBW.out.trans y.bel | refine Bel.alloc ?_ _ | refine Bel.drew ?_ | refine Bel.drewN ?_ _ | refine Bel.set ?_ (by first | exact Nat.le_refl _ | (simp; done) | (simp; omega) | omega) _))
end Go.Proofs.Ytehifcgfgejjcaa
