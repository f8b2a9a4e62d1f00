import Derived.Test.YtalphoebmefgoaaRows
import Derived.Test.YtalphoebmefgoaaG1
import Derived.RegionTactic
import Derived.BigRegion
import Derived.BigCall
import Derived.Outline
import Derived.Laws.EntriesVeiled
import Derived.Deep.Cut
namespace Go.Proofs.Ytalphoebmefgoaa
open Go.RowKit
def absU (n : Int) : Int := (n.natAbs : Nat)
def gcdU (a b : Int) : Int := (Nat.gcd a.toNat b.toNat : Nat)
theorem absU_u (n : Int) (h : i64 n) : u64 (absU n) := by unfold i64 at h; unfold u64 absU; omega
theorem wrapu (a : Int) : IntKind.u64.wrap a = a % 18446744073709551616 := rfl
theorem gcdU_zero {a b : Int} (h1 : u64 a) (h : b = 0) : gcdU a b = a := by subst h; unfold gcdU u64 at *; simp; omega
theorem gcdU_step {a b : Int} (h1 : u64 a) (h2 : u64 b) (h : b ≠ 0) : gcdU b (a % b) = gcdU a b := by
  unfold gcdU u64 at *
  obtain ⟨x, rfl⟩ := Int.eq_ofNat_of_zero_le h1.1
  obtain ⟨y, rfl⟩ := Int.eq_ofNat_of_zero_le h2.1
  have e : ((x : Int) % (y : Int)).toNat = x % y := by omega
  rw [e, Int.toNat_natCast, Int.toNat_natCast, Nat.gcd_comm y (x % y), ← Nat.gcd_rec, Nat.gcd_comm]
theorem mod_u64 {a b : Int} (_h1 : u64 a) (h2 : u64 b) (h : b ≠ 0) : u64 (a % b) ∧ (a % b).toNat < b.toNat := by
  unfold u64 at *
  have h3 := Int.emod_nonneg a h
  have h4 := Int.emod_lt_of_pos a (b := b) (by omega)
  omega
set_option maxHeartbeats 400000 in
theorem pabs_any (n : Int) (w : World) (h : i64 n) :
    Calls Try.prog 97 #[.int .i64 n] w fun e w' => e = .returned (.int .u64 (absU n)) ∧ Bel w w' := by
  unfold i64 at h
  go_enter Try.func97, Try.ntmps97
  go_wp2
  all_goals (go_ret; exact ⟨ret_int (by (try simp only [wrapu]); unfold absU; omega), Bel.refl⟩)
set_option maxHeartbeats 400000 in
theorem rsize_any (n : Int) (w : World) (h : i64 n) :
    Calls Try.prog 88 #[.int .i64 n] w fun e w' => e = .returned (.int .u64 (absU n)) ∧ Bel w w' := by
  unfold i64 at h
  go_enter Try.func88, Try.ntmps88
  go_wp2
  all_goals (go_ret; exact ⟨ret_int (by unfold absU; omega), Bel.refl⟩)
set_option maxHeartbeats 1000000 in
theorem gcd1_any (p : Nat) : ∀ (n : Nat) (a b : Int) (w : World) (_ : u64 a) (_ : u64 b) (_ : b.toNat ≤ n) (_ : p < w.heap.size)
    (_ : w.cell? ⟨p, 0, none⟩ = some (.func (.func 105) #[] #[.pointer (some ⟨p, 0, none⟩)])),
    Calls Try.prog 105 #[.int .u64 a, .int .u64 b, .pointer (some ⟨p, 0, none⟩)] w fun e w' => e = .returned (.int .u64 (gcdU a b)) ∧ Bel w w' := by
  intro n
  induction n with
  | zero =>
    intro a b w h1 h2 hn hp hc
    have hb : b = 0 := by unfold u64 at h2; omega
    have HZ := Lib.hid (gcdU_zero h1 hb)
    subst hb
    clear hc hp
    go_enter Try.func105, Try.ntmps105
    go_wp2
    go_ret
    exact ⟨ret_int HZ.out.symm, Bel.refl⟩
  | succ n ih =>
    intro a b w h1 h2 hn hp hc
    by_cases hb : b = 0
    · have HZ := Lib.hid (gcdU_zero h1 hb)
      subst hb
      clear hc hp ih
      go_enter Try.func105, Try.ntmps105
      go_wp2
      go_ret
      exact ⟨ret_int HZ.out.symm, Bel.refl⟩
    · have HZ := Lib.hid (gcdU_step h1 h2 hb)
      obtain ⟨hm, hlt⟩ := mod_u64 h1 h2 hb
      have IH := Lib.hid fun (x : Ext w) => ih b (a % b) x.w h2 hm (by omega) (ext_lt x hp) ((ext_cells x p 0 hp).trans hc)
      clear ih hm hlt hn
      unfold u64 at h1 h2
      obtain ⟨ha0, ha1⟩ := h1
      obtain ⟨hb0, hb1⟩ := h2
      have hz : (b == 0) = false := by simpa using hb
      go_enter Try.func105, Try.ntmps105
      go_wp2
      (refine wp_region_ext (wb := w) (by (repeat (first | exact Ext.bel _ | exact Bel.refl | refine Bel.alloc ?_ _ | refine Bel.drew ?_ | refine Bel.drewN ?_ _))) (by kernel_rfl) (by kernel_rfl) ?_; (repeat (any_goals (first | go_big_quiet_step ((go_at_call 105; with_reducible exact ext_call (IH.out _))) | quiet_step ((go_at_call 105; with_reducible exact ext_call (IH.out _))) | (refine wpQuiet_step (fun K hK => ?_); go_simp; split <;> (refine hK _ ?_; clear hK K))))); all_goals (refine wpQuiet_nil ?_; intro _ hw'; obtain ⟨y, hw''⟩ := hw'; subst hw''))
      go_wp2
      go_ret
      exact ⟨ret_int HZ.out, y.bel⟩
set_option maxHeartbeats 1000000 in
theorem pgcd_any (a b : Int) (w : World) (h1 : u64 a) (h2 : u64 b) :
    Calls Try.prog 98 #[.int .u64 a, .int .u64 b] w fun e w' => e = .returned (.int .u64 (gcdU a b)) ∧ Bel w w' := by
  have HC := Lib.hid fun (W : World) (hp : w.heap.size < W.heap.size) hc => gcd1_any w.heap.size b.toNat a b W h1 h2 (Nat.le_refl _) hp hc
  go_enter Try.func98, Try.ntmps98
  go_wp2_with (go_at_call 105; go_must (refine (HC.out _ (by simp [go_sem]) (by simp [go_sem])).mono ?_; rintro e w2 ⟨rfl, hb2⟩; have HB := Lib.hid hb2; clear hb2))
  go_ret
  exact ⟨rfl, (Bel.refl.alloc _).trans HB.out⟩
set_option maxHeartbeats 1000000 in
theorem rdiv_any (a b : Int) (w : World) (h1 : u64 a) (h2 : u64 b) :
    Calls Try.prog 87 #[.int .u64 a, .int .u64 b] w fun e w' => e = .returned (.int .u64 (gcdU a b)) ∧ Bel w w' := by
  go_enter Try.func87, Try.ntmps87
  go_wp2
  go_loopw [0, 1] (fun u v wr => ∃ (x y : Int) (z : Ext w), u64 x ∧ u64 y ∧ u = .int .u64 x ∧ v = .int .u64 y ∧ wr = z.w ∧ gcdU x y = gcdU a b) (fun _ v _ => (intOf v).toNat)
  case atStart => exact ⟨a, b, ⟨w, Bel.refl⟩, h1, h2, rfl, rfl, rfl, rfl⟩
  case round =>
    obtain ⟨x, m, z, hx, hy, rfl, rfl, rfl, hg⟩ := hrel
    by_cases hb : m = 0
    · have HZ := Lib.hid ((gcdU_zero hx hb).symm.trans hg)
      clear hg
      subst hb
      go_wp2
      go_ret
      exact ⟨ret_int HZ.out, z.bel⟩
    · have HZ := Lib.hid ((gcdU_step hx hy hb).trans hg)
      have HM := Lib.hid (mod_u64 hx hy hb)
      have HX := Lib.hid hx
      have HY := Lib.hid hy
      clear hg
      unfold u64 at hx hy
      obtain ⟨ha0, ha1⟩ := hx
      obtain ⟨hb0, hb1⟩ := hy
      have hz : (m == 0) = false := by simpa using hb
      have hz2 : (m != 0) = true := by simpa using hb
      go_wp2
      (refine wp_region_ext (wb := w) (by (repeat (first | exact Ext.bel _ | exact Bel.refl | refine Bel.alloc ?_ _ | refine Bel.drew ?_ | refine Bel.drewN ?_ _))) (by kernel_rfl) (by kernel_rfl) ?_; (repeat (any_goals (first | go_big_quiet_step (fail) | quiet_step (fail) | (refine wpQuiet_step (fun K hK => ?_); go_simp; split <;> (refine hK _ ?_; clear hK K))))); all_goals (refine wpQuiet_nil ?_; intro _ hw'; obtain ⟨y, hw''⟩ := hw'; subst hw''))
      go_wp2
      go_roundw
      case rel => exact ⟨m, x % m, _, HY.out, HM.out.1, rfl, rfl, rfl, HZ.out⟩
      case measure => have := HM.out.2; simp [intOf]; omega
end Go.Proofs.Ytalphoebmefgoaa
namespace Go.Proofs.Ytalphoebmefgoaa
open Go.RowKit
/-- a ratio -/
structure Rt where
  num : Int
  den : Int
  deriving DecidableEq
def Rt.V (a : Rt) : Value := .agg #[.int .i64 a.num, .int .i64 a.den]
structure Rt.wf (a : Rt) : Prop where
  n : i64 a.num
  d : i64 a.den
def rval (a : Rt) : Bool := decide (0 < a.den) && decide (a.den ≤ 2147483647) && decide (absU a.num ≤ 2147483647) && decide (gcdU (absU a.num) a.den = 1)
set_option maxHeartbeats 1000000 in
theorem pval_any (a : Rt) (w : World) (h : a.wf) :
    Calls Try.prog 64 #[a.V] w fun e w' => e = .returned (.bool (rval a)) ∧ Bel w w' := by
  obtain ⟨n, d⟩ := a
  have HA := Lib.hid fun (W : World) => pabs_any n W h.n
  have HG := Lib.hid fun (W : World) (hd : 0 ≤ d) => pgcd_any (absU n) d W (absU_u n h.n) ⟨hd, by have := h.d; unfold i64 at this; simp at this; omega⟩
  obtain ⟨hd1, hd2⟩ := h.d
  obtain ⟨hb1, hb2⟩ := absU_u n h.n
  simp only at hd1 hd2
  have HR : Hid (rval ⟨n, d⟩ = (decide (0 < d) && decide (d ≤ 2147483647) && decide (absU n ≤ 2147483647) && decide (gcdU (absU n) d = 1))) := Lib.hid rfl
  generalize absU n = an at *
  unfold Rt.V
  clear h
  go_enter Try.func64, Try.ntmps64
  go_wp2
  (generalize hW : World.alloc _ _ = wb; have q0_0 := (congrArg (fun W : World => W.cell? ⟨w.heap.size, 0, none⟩) hW).symm; simp [go_sem] at q0_0; have q0_1 := (congrArg (fun W : World => W.cell? ⟨w.heap.size, 1, none⟩) hW).symm; simp [go_sem] at q0_1; have qz0 : w.heap.size < wb.heap.size := (by rw [← hW]; simp [go_sem]; try omega); have HBW : Hid (Bel w wb) := Lib.hid (by rw [← hW]; (repeat (first | exact Ext.bel _ | exact Bel.refl | refine Bel.alloc ?_ _ | refine Bel.drew ?_ | refine Bel.drewN ?_ _))); clear hW; have hkw := HBW.out.cells)
  (refine wp_region_ext (wb := wb) (by (repeat (first | exact Ext.bel _ | exact Bel.refl | refine Bel.alloc ?_ _ | refine Bel.drew ?_ | refine Bel.drewN ?_ _))) (by kernel_rfl) (by kernel_rfl) ?_; (repeat (any_goals (first | go_big_quiet_step (first | (go_at_call 97; with_reducible exact ext_call (HA.out _)) | (go_at_call 98; with_reducible exact ext_call (HG.out _ (by omega)))) | quiet_step (first | (go_at_call 97; with_reducible exact ext_call (HA.out _)) | (go_at_call 98; with_reducible exact ext_call (HG.out _ (by omega)))) | (refine wpQuiet_step (fun K hK => ?_); go_simp; split <;> (refine hK _ ?_; clear hK K))))); all_goals (refine wpQuiet_nil ?_; intro _ hw'; obtain ⟨y, hw''⟩ := hw'; subst hw''))
  all_goals go_wp2
  all_goals go_ret
  all_goals exact ⟨ret_bool (by rw [HR.out, Bool.eq_iff_iff]; simp; omega), HBW.out.trans y.bel⟩
set_option maxHeartbeats 1000000 in
theorem rval_any (a : Rt) (w : World) (h : a.wf) :
    Calls Try.prog 49 #[a.V] w fun e w' => e = .returned (.bool (rval a)) ∧ Bel w w' := by
  obtain ⟨n, d⟩ := a
  have HN := Lib.hid h.n
  have HD := Lib.hid h.d
  have HG := Lib.hid fun (W : World) => rdiv_any (absU n) (absU d) W (absU_u n h.n) (absU_u d h.d)
  have HLE : Hid (absU n ≤ 2147483647 ↔ (-2147483647 ≤ n ∧ n ≤ 2147483647)) := Lib.hid (by unfold absU; omega)
  have HDE : Hid (0 < d → absU d = d) := Lib.hid (by unfold absU; omega)
  obtain ⟨hn1, hn2⟩ := h.n
  simp only at hn1 hn2
  obtain ⟨hc1, hc2⟩ := absU_u d h.d
  obtain ⟨hd1, hd2⟩ := h.d
  obtain ⟨hb1, hb2⟩ := absU_u n h.n
  simp only at hd1 hd2
  have HR : Hid (rval ⟨n, d⟩ = (decide (0 < d) && decide (d ≤ 2147483647) && decide (absU n ≤ 2147483647) && decide (gcdU (absU n) d = 1))) := Lib.hid rfl
  unfold Rt.V
  clear h
  go_enter Try.func49, Try.ntmps49
  go_wp2
  (generalize hW : World.alloc _ _ = wb; have q0_0 := (congrArg (fun W : World => W.cell? ⟨w.heap.size, 0, none⟩) hW).symm; simp [go_sem] at q0_0; have q0_1 := (congrArg (fun W : World => W.cell? ⟨w.heap.size, 1, none⟩) hW).symm; simp [go_sem] at q0_1; have qz0 : w.heap.size < wb.heap.size := (by rw [← hW]; simp [go_sem]; try omega); have HBW : Hid (Bel w wb) := Lib.hid (by rw [← hW]; (repeat (first | exact Ext.bel _ | exact Bel.refl | refine Bel.alloc ?_ _ | refine Bel.drew ?_ | refine Bel.drewN ?_ _))); clear hW; have hkw := HBW.out.cells)
  (refine wp_region_ext (wb := wb) (by (repeat (first | exact Ext.bel _ | exact Bel.refl | refine Bel.alloc ?_ _ | refine Bel.drew ?_ | refine Bel.drewN ?_ _))) (by kernel_rfl) (by kernel_rfl) ?_; (repeat (any_goals (first | go_big_quiet_step (first | (go_at_call 88; with_reducible exact ext_call (rsize_any _ _ (by first | exact HN.out | exact HD.out))) | (go_at_call 87; with_reducible exact ext_call (HG.out _))) | quiet_step (first | (go_at_call 88; with_reducible exact ext_call (rsize_any _ _ (by first | exact HN.out | exact HD.out))) | (go_at_call 87; with_reducible exact ext_call (HG.out _))) | (refine wpQuiet_step (fun K hK => ?_); go_simp; split <;> (refine hK _ ?_; clear hK K))))); all_goals (refine wpQuiet_nil ?_; intro _ hw'; obtain ⟨y, hw''⟩ := hw'; subst hw''))
  all_goals go_wp2
  all_goals go_ret
  all_goals exact ⟨ret_bool (by have h1 := HLE.out; rw [HR.out, Bool.eq_iff_iff]; first | (have h2 := HDE.out (by omega); simp [h2]; omega) | (simp; omega)), HBW.out.trans y.bel⟩
end Go.Proofs.Ytalphoebmefgoaa
namespace Go.Proofs.Ytalphoebmefgoaa
open Go.RowKit
def rmake (n d : Int) : Rt × Int := if d = 0 then (⟨0, 0⟩, 2) else
  (if 2147483647 < absU n / gcdU (absU n) (absU d) ∨ 2147483647 < absU d / gcdU (absU n) (absU d) then (⟨0, 0⟩, 7) else
    (⟨if (n < 0) ≠ (d < 0) then -(absU n / gcdU (absU n) (absU d)) else absU n / gcdU (absU n) (absU d), absU d / gcdU (absU n) (absU d)⟩, 0))
def rresV (p : Rt × Int) : Value := .tuple #[p.1.V, .int .i64 p.2]
theorem gcdU_pos {a d : Int} (h : d ≠ 0) : 1 ≤ gcdU a (absU d) := by
  unfold gcdU absU
  have : 0 < Nat.gcd a.toNat ((d.natAbs : Nat) : Int).toNat := Nat.gcd_pos_of_pos_right _ (by omega)
  omega
theorem div_le {a g : Int} (h : 0 ≤ a) (hg : 1 ≤ g) : 0 ≤ a / g ∧ a / g ≤ a :=
  ⟨Int.ediv_nonneg h (by omega), Int.ediv_le_self g h⟩
theorem sgn_true {n d : Int} (h : (!decide (n < 0) == decide (d < 0)) = true) : (n < 0) ≠ (d < 0) := by
  by_cases h1 : n < 0 <;> by_cases h2 : d < 0 <;> simp [h1, h2] at h ⊢
theorem sgn_false {n d : Int} (h : (!decide (n < 0) == decide (d < 0)) = false) : ¬ ((n < 0) ≠ (d < 0)) := by
  by_cases h1 : n < 0 <;> by_cases h2 : d < 0 <;> simp [h1, h2] at h ⊢
set_option maxHeartbeats 4000000 in
theorem pmake_any (n d : Int) (w : World) (hn : i64 n) (hd : i64 d) : Calls Try.prog 95 #[.int .i64 n, .int .i64 d] w fun e w' => e = .returned (rresV (rmake n d)) ∧ Bel w w' := by
  have HA := Lib.hid fun W => pabs_any n W hn
  have HD := Lib.hid fun W => pabs_any d W hd
  have HG := Lib.hid fun W => pgcd_any (absU n) (absU d) W (absU_u n hn) (absU_u d hd)
  obtain ⟨a0, a1⟩ := absU_u n hn
  obtain ⟨b0, b1⟩ := absU_u d hd
  by_cases h0 : d = 0
  · have HR : Hid (rmake n d = (⟨0, 0⟩, 2)) := Lib.hid (by unfold rmake; rw [if_pos h0])
    subst h0
    clear a0 a1 b0 b1 hn hd
    go_enter Try.func95, Try.ntmps95
    go_wp2
    refine bodyPost_ret (v := .tuple #[.agg #[.int .i64 0, .int .i64 0], .int .i64 2]) (by simp [results, Try.results95, go_sem]) rfl ⟨by rw [HR.out]; rfl, ?_⟩
    (repeat (first | exact Bel.refl | refine Bel.alloc ?_ _ | refine Bel.drew ?_ | refine Bel.drewN ?_ _ | refine Bel.set ?_ (by first | exact Nat.le_refl _ | (simp; done) | (simp; omega) | omega) _))
  have g1 := gcdU_pos (a := absU n) h0
  obtain ⟨c0, c1⟩ := div_le a0 g1
  obtain ⟨d0, d1⟩ := div_le b0 g1
  have HR : Hid (rmake n d = (if 2147483647 < absU n / gcdU (absU n) (absU d) ∨ 2147483647 < absU d / gcdU (absU n) (absU d) then (⟨0, 0⟩, 7) else
    (⟨if (n < 0) ≠ (d < 0) then -(absU n / gcdU (absU n) (absU d)) else absU n / gcdU (absU n) (absU d), absU d / gcdU (absU n) (absU d)⟩, 0))) := Lib.hid (by unfold rmake; rw [if_neg h0])
  generalize gcdU (absU n) (absU d) = g at *
  generalize absU n = an at *
  generalize absU d = ad at *
  have hz : (d == 0) = false := by simpa using h0
  have hz2 : (g == 0) = false := by simp; omega
  unfold i64 at hn hd
  clear h0
  go_enter Try.func95, Try.ntmps95
  go_upto_region 1 with (fail)
  (generalize hW : World.alloc _ _ = wb; have q0_0 := (congrArg (fun W : World => W.cell? ⟨w.heap.size, 0, none⟩) hW).symm; simp [go_sem] at q0_0; have qf0_0 := (congrArg (fun W : World => W.frozen? ⟨w.heap.size, 0, none⟩) hW).symm; simp [go_sem] at qf0_0; have q0_1 := (congrArg (fun W : World => W.cell? ⟨w.heap.size, 1, none⟩) hW).symm; simp [go_sem] at q0_1; have qf0_1 := (congrArg (fun W : World => W.frozen? ⟨w.heap.size, 1, none⟩) hW).symm; simp [go_sem] at qf0_1; have qz0 : w.heap.size < wb.heap.size := (by rw [← hW]; simp [go_sem]; try omega); have HBW : Hid (Bel w wb) := Lib.hid (by rw [← hW]; (repeat (first | exact Ext.bel _ | exact Bel.refl | refine Bel.alloc ?_ _ | refine Bel.drew ?_ | refine Bel.drewN ?_ _))); clear hW; have hkw := HBW.out.cells)
  go_wp2_with (first | (go_at_call 97; (with_reducible refine (HA.out _).mono ?_); rintro e w2 ⟨rfl, hb2⟩; obtain ⟨x, rfl⟩ : ∃ x : Ext wb, w2 = x.w := ext_of (hb2.after (by (repeat (first | exact Ext.bel _ | exact Bel.refl | refine Bel.alloc ?_ _ | refine Bel.drew ?_ | refine Bel.drewN ?_ _)))); clear hb2) | (go_at_call 97; (with_reducible refine (HD.out _).mono ?_); rintro e w2 ⟨rfl, hb2⟩; obtain ⟨x, rfl⟩ : ∃ x : Ext wb, w2 = x.w := ext_of (hb2.after (by (repeat (first | exact Ext.bel _ | exact Bel.refl | refine Bel.alloc ?_ _ | refine Bel.drew ?_ | refine Bel.drewN ?_ _)))); clear hb2) | (go_at_call 98; (with_reducible refine (HG.out _).mono ?_); rintro e w2 ⟨rfl, hb2⟩; obtain ⟨x, rfl⟩ : ∃ x : Ext wb, w2 = x.w := ext_of (hb2.after (by (repeat (first | exact Ext.bel _ | exact Bel.refl | refine Bel.alloc ?_ _ | refine Bel.drew ?_ | refine Bel.drewN ?_ _)))); clear hb2))
  (refine wp_region_ext (wb := wb) (by (repeat (first | exact Ext.bel _ | exact Bel.refl | refine Bel.alloc ?_ _ | refine Bel.drew ?_ | refine Bel.drewN ?_ _))) (by kernel_rfl) (by kernel_rfl) ?_; (repeat (any_goals (first | go_big_quiet_step (fail) | quiet_step (fail) | (refine wpQuiet_step (fun K hK => ?_); go_simp; split <;> (refine hK _ ?_; clear hK K))))); all_goals (refine wpQuiet_nil ?_; intro _ hw'; obtain ⟨y, hw''⟩ := hw'; subst hw''))
  go_wp2
  · refine bodyPost_ret (v := .tuple #[.agg #[.int .i64 0, .int .i64 0], .int .i64 7]) (by simp [results, Try.results95, go_sem, q0_0, q0_1, qz0]) rfl ⟨by rw [HR.out, if_pos (by omega)]; rfl, ?_⟩
    (repeat (first | exact HBW.out.trans y.bel | refine Bel.alloc ?_ _ | refine Bel.drew ?_ | refine Bel.drewN ?_ _ | refine Bel.set ?_ (by first | exact Nat.le_refl _ | (simp; done) | (simp; omega) | omega) _))
  · refine bodyPost_ret (v := .tuple #[.agg #[.int .i64 (-(an / g)), .int .i64 (ad / g)], .int .i64 0]) (by simp [results, Try.results95, go_sem, q0_0, q0_1, qz0]) rfl ⟨by rw [HR.out, if_neg (by omega), if_pos (sgn_true (by assumption))]; rfl, ?_⟩
    (repeat (first | exact HBW.out.trans y.bel | refine Bel.alloc ?_ _ | refine Bel.drew ?_ | refine Bel.drewN ?_ _ | refine Bel.set ?_ (by first | exact Nat.le_refl _ | (simp; done) | (simp; omega) | omega) _))
  · refine bodyPost_ret (v := .tuple #[.agg #[.int .i64 (an / g), .int .i64 (ad / g)], .int .i64 0]) (by simp [results, Try.results95, go_sem, q0_0, q0_1, qz0]) rfl ⟨by rw [HR.out, if_neg (by omega), if_neg (sgn_false (by assumption))]; rfl, ?_⟩
    (repeat (first | exact HBW.out.trans y.bel | refine Bel.alloc ?_ _ | refine Bel.drew ?_ | refine Bel.drewN ?_ _ | refine Bel.set ?_ (by first | exact Nat.le_refl _ | (simp; done) | (simp; omega) | omega) _))
  · refine bodyPost_ret (v := .tuple #[.agg #[.int .i64 0, .int .i64 0], .int .i64 7]) (by simp [results, Try.results95, go_sem, q0_0, q0_1, qz0]) rfl ⟨by rw [HR.out, if_pos (by omega)]; rfl, ?_⟩
    (repeat (first | exact HBW.out.trans y.bel | refine Bel.alloc ?_ _ | refine Bel.drew ?_ | refine Bel.drewN ?_ _ | refine Bel.set ?_ (by first | exact Nat.le_refl _ | (simp; done) | (simp; omega) | omega) _))
set_option maxHeartbeats 4000000 in
theorem rmake_any (n d : Int) (w : World) (hn : i64 n) (hd : i64 d) : Calls Try.prog 50 #[.int .i64 n, .int .i64 d] w fun e w' => e = .returned (rresV (rmake n d)) ∧ Bel w w' := by
  have HA := Lib.hid fun W => rsize_any n W hn
  have HD := Lib.hid fun W => rsize_any d W hd
  have HG := Lib.hid fun W => rdiv_any (absU n) (absU d) W (absU_u n hn) (absU_u d hd)
  obtain ⟨a0, a1⟩ := absU_u n hn
  obtain ⟨b0, b1⟩ := absU_u d hd
  by_cases h0 : d = 0
  · have HR : Hid (rmake n d = (⟨0, 0⟩, 2)) := Lib.hid (by unfold rmake; rw [if_pos h0])
    subst h0
    clear a0 a1 b0 b1 hn hd
    go_enter Try.func50, Try.ntmps50
    go_wp2
    refine bodyPost_ret (v := .tuple #[.agg #[.int .i64 0, .int .i64 0], .int .i64 2]) (by simp [results, Try.results50, go_sem]) rfl ⟨by rw [HR.out]; rfl, ?_⟩
    (repeat (first | exact Bel.refl | refine Bel.alloc ?_ _ | refine Bel.drew ?_ | refine Bel.drewN ?_ _ | refine Bel.set ?_ (by first | exact Nat.le_refl _ | (simp; done) | (simp; omega) | omega) _))
  have g1 := gcdU_pos (a := absU n) h0
  obtain ⟨c0, c1⟩ := div_le a0 g1
  obtain ⟨d0, d1⟩ := div_le b0 g1
  have HR : Hid (rmake n d = (if 2147483647 < absU n / gcdU (absU n) (absU d) ∨ 2147483647 < absU d / gcdU (absU n) (absU d) then (⟨0, 0⟩, 7) else
    (⟨if (n < 0) ≠ (d < 0) then -(absU n / gcdU (absU n) (absU d)) else absU n / gcdU (absU n) (absU d), absU d / gcdU (absU n) (absU d)⟩, 0))) := Lib.hid (by unfold rmake; rw [if_neg h0])
  generalize gcdU (absU n) (absU d) = g at *
  generalize absU n = an at *
  generalize absU d = ad at *
  have hz : (d == 0) = false := by simpa using h0
  have hz2 : (g == 0) = false := by simp; omega
  unfold i64 at hn hd
  clear h0
  go_enter Try.func50, Try.ntmps50
  go_upto_region 1 with (fail)
  (generalize hW : World.alloc _ _ = wb; have q0_0 := (congrArg (fun W : World => W.cell? ⟨w.heap.size, 0, none⟩) hW).symm; simp [go_sem] at q0_0; have qf0_0 := (congrArg (fun W : World => W.frozen? ⟨w.heap.size, 0, none⟩) hW).symm; simp [go_sem] at qf0_0; have q0_1 := (congrArg (fun W : World => W.cell? ⟨w.heap.size, 1, none⟩) hW).symm; simp [go_sem] at q0_1; have qf0_1 := (congrArg (fun W : World => W.frozen? ⟨w.heap.size, 1, none⟩) hW).symm; simp [go_sem] at qf0_1; have qz0 : w.heap.size < wb.heap.size := (by rw [← hW]; simp [go_sem]; try omega); have HBW : Hid (Bel w wb) := Lib.hid (by rw [← hW]; (repeat (first | exact Ext.bel _ | exact Bel.refl | refine Bel.alloc ?_ _ | refine Bel.drew ?_ | refine Bel.drewN ?_ _))); clear hW; have hkw := HBW.out.cells)
  go_wp2_with (first | (go_at_call 88; (with_reducible refine (HA.out _).mono ?_); rintro e w2 ⟨rfl, hb2⟩; obtain ⟨x, rfl⟩ : ∃ x : Ext wb, w2 = x.w := ext_of (hb2.after (by (repeat (first | exact Ext.bel _ | exact Bel.refl | refine Bel.alloc ?_ _ | refine Bel.drew ?_ | refine Bel.drewN ?_ _)))); clear hb2) | (go_at_call 88; (with_reducible refine (HD.out _).mono ?_); rintro e w2 ⟨rfl, hb2⟩; obtain ⟨x, rfl⟩ : ∃ x : Ext wb, w2 = x.w := ext_of (hb2.after (by (repeat (first | exact Ext.bel _ | exact Bel.refl | refine Bel.alloc ?_ _ | refine Bel.drew ?_ | refine Bel.drewN ?_ _)))); clear hb2) | (go_at_call 87; (with_reducible refine (HG.out _).mono ?_); rintro e w2 ⟨rfl, hb2⟩; obtain ⟨x, rfl⟩ : ∃ x : Ext wb, w2 = x.w := ext_of (hb2.after (by (repeat (first | exact Ext.bel _ | exact Bel.refl | refine Bel.alloc ?_ _ | refine Bel.drew ?_ | refine Bel.drewN ?_ _)))); clear hb2))
  (refine wp_region_ext (wb := wb) (by (repeat (first | exact Ext.bel _ | exact Bel.refl | refine Bel.alloc ?_ _ | refine Bel.drew ?_ | refine Bel.drewN ?_ _))) (by kernel_rfl) (by kernel_rfl) ?_; (repeat (any_goals (first | go_big_quiet_step (first | (go_at_call 88; with_reducible exact ext_call (HA.out _)) | (go_at_call 88; with_reducible exact ext_call (HD.out _))) | quiet_step (first | (go_at_call 88; with_reducible exact ext_call (HA.out _)) | (go_at_call 88; with_reducible exact ext_call (HD.out _))) | (refine wpQuiet_step (fun K hK => ?_); go_simp; split <;> (refine hK _ ?_; clear hK K))))); all_goals (refine wpQuiet_nil ?_; intro _ hw'; obtain ⟨y, hw''⟩ := hw'; subst hw''))
  go_wp2
  · refine bodyPost_ret (v := .tuple #[.agg #[.int .i64 0, .int .i64 0], .int .i64 7]) (by simp [results, Try.results50, go_sem, q0_0, q0_1, qz0]) rfl ⟨by rw [HR.out, if_pos (by omega)]; rfl, ?_⟩
    (repeat (first | exact HBW.out.trans y.bel | refine Bel.alloc ?_ _ | refine Bel.drew ?_ | refine Bel.drewN ?_ _ | refine Bel.set ?_ (by first | exact Nat.le_refl _ | (simp; done) | (simp; omega) | omega) _))
  · refine bodyPost_ret (v := .tuple #[.agg #[.int .i64 (-(an / g)), .int .i64 (ad / g)], .int .i64 0]) (by simp [results, Try.results50, go_sem, q0_0, q0_1, qz0]) rfl ⟨by rw [HR.out, if_neg (by omega), if_pos (sgn_true (by assumption))]; rfl, ?_⟩
    (repeat (first | exact HBW.out.trans y.bel | refine Bel.alloc ?_ _ | refine Bel.drew ?_ | refine Bel.drewN ?_ _ | refine Bel.set ?_ (by first | exact Nat.le_refl _ | (simp; done) | (simp; omega) | omega) _))
  · refine bodyPost_ret (v := .tuple #[.agg #[.int .i64 (an / g), .int .i64 (ad / g)], .int .i64 0]) (by simp [results, Try.results50, go_sem, q0_0, q0_1, qz0]) rfl ⟨by rw [HR.out, if_neg (by omega), if_neg (sgn_false (by assumption))]; rfl, ?_⟩
    (repeat (first | exact HBW.out.trans y.bel | refine Bel.alloc ?_ _ | refine Bel.drew ?_ | refine Bel.drewN ?_ _ | refine Bel.set ?_ (by first | exact Nat.le_refl _ | (simp; done) | (simp; omega) | omega) _))
  · refine bodyPost_ret (v := .tuple #[.agg #[.int .i64 0, .int .i64 0], .int .i64 7]) (by simp [results, Try.results50, go_sem, q0_0, q0_1, qz0]) rfl ⟨by rw [HR.out, if_pos (by omega)]; rfl, ?_⟩
    (repeat (first | exact HBW.out.trans y.bel | refine Bel.alloc ?_ _ | refine Bel.drew ?_ | refine Bel.drewN ?_ _ | refine Bel.set ?_ (by first | exact Nat.le_refl _ | (simp; done) | (simp; omega) | omega) _))
end Go.Proofs.Ytalphoebmefgoaa
namespace Go.Proofs.Ytalphoebmefgoaa
open Go.RowKit
def radd (a b : Rt) : Rt × Int := if rval a && rval b then rmake (a.num * b.den + b.num * a.den) (a.den * b.den) else (⟨0, 0⟩, 2)
def rsub (a b : Rt) : Rt × Int := if rval a && rval b then rmake (a.num * b.den - b.num * a.den) (a.den * b.den) else (⟨0, 0⟩, 2)
def rmul (a b : Rt) : Rt × Int := if rval a && rval b then rmake (a.num * b.num) (a.den * b.den) else (⟨0, 0⟩, 2)
def rquo (a b : Rt) : Rt × Int := if rval a && rval b then rmake (a.num * b.den) (a.den * b.num) else (⟨0, 0⟩, 2)
theorem mulb {a b A B : Int} (h1 : -A ≤ a) (h2 : a ≤ A) (h3 : -B ≤ b) (h4 : b ≤ B) : -(A * B) ≤ a * b ∧ a * b ≤ A * B := by
  have hA : 0 ≤ A := by omega
  have hB : 0 ≤ B := by omega
  have h5 : a.natAbs * b.natAbs ≤ A.natAbs * B.natAbs := Nat.mul_le_mul (by omega) (by omega)
  rw [← Int.natAbs_mul, ← Int.natAbs_mul] at h5
  have h6 : 0 ≤ A * B := Int.mul_nonneg hA hB
  omega
theorem rvalB {d : Rt} (h : rval d = true) : 0 < d.den ∧ d.den ≤ 2147483647 ∧ -2147483647 ≤ d.num ∧ d.num ≤ 2147483647 := by
  unfold rval at h
  simp only [Bool.and_eq_true, decide_eq_true_eq] at h
  obtain ⟨⟨⟨h1, h2⟩, h3⟩, _⟩ := h
  unfold absU at h3
  omega
/-- the products of a valid ratio's parts by another's fit -/
theorem prodB {x y : Int} (h1 : -2147483647 ≤ x) (h2 : x ≤ 2147483647) (h3 : -2147483647 ≤ y) (h4 : y ≤ 2147483647) : -4611686014132420609 ≤ x * y ∧ x * y ≤ 4611686014132420609 := by
  have := mulb (A := 2147483647) (B := 2147483647) (a := x) (b := y) (by omega) (by omega) (by omega) (by omega)
  omega
set_option maxHeartbeats 1000000 in
theorem pvalid2_any (a b : Rt) (w : World) (ha : a.wf) (hb : b.wf) : Calls Try.prog 86 #[a.V, b.V] w fun e w' => e = .returned (.bool (rval a && rval b)) ∧ Bel w w' := by
  have HA := fun W => pval_any a W ha
  have HB := Lib.hid fun W => pval_any b W hb
  obtain ⟨an, ad⟩ := a
  obtain ⟨bn, bd⟩ := b
  unfold Rt.V at *
  clear ha hb
  cases hr : rval ⟨an, ad⟩ <;> rw [hr] at HA <;> replace HA := Lib.hid HA <;> clear hr
  all_goals
    go_enter Try.func86, Try.ntmps86
    go_upto_region 1 with (fail)
    (generalize hW : World.alloc _ _ = wb; have q0_0 := (congrArg (fun W : World => W.cell? ⟨w.heap.size, 0, none⟩) hW).symm; simp [go_sem] at q0_0; have q0_1 := (congrArg (fun W : World => W.cell? ⟨w.heap.size, 1, none⟩) hW).symm; simp [go_sem] at q0_1; have qz0 : w.heap.size < wb.heap.size := (by rw [← hW]; simp [go_sem]; try omega); have q1_0 := (congrArg (fun W : World => W.cell? ⟨w.heap.size + 1, 0, none⟩) hW).symm; simp [go_sem] at q1_0; have q1_1 := (congrArg (fun W : World => W.cell? ⟨w.heap.size + 1, 1, none⟩) hW).symm; simp [go_sem] at q1_1; have qz1 : w.heap.size + 1 < wb.heap.size := (by rw [← hW]; simp [go_sem]; try omega); have HBW : Hid (Bel w wb) := Lib.hid (by rw [← hW]; (repeat (first | exact Ext.bel _ | exact Bel.refl | refine Bel.alloc ?_ _ | refine Bel.drew ?_ | refine Bel.drewN ?_ _))); clear hW; have hkw := HBW.out.cells)
    go_wp2_with (first | (go_at_call 64; (with_reducible refine (HA.out _).mono ?_); rintro e w2 ⟨rfl, hb2⟩; obtain ⟨x, rfl⟩ : ∃ x : Ext wb, w2 = x.w := ext_of (hb2.after (by (repeat (first | exact Ext.bel _ | exact Bel.refl | refine Bel.alloc ?_ _ | refine Bel.drew ?_ | refine Bel.drewN ?_ _)))); clear hb2) | (go_at_call 64; (with_reducible refine (HB.out _).mono ?_); rintro e w2 ⟨rfl, hb2⟩; obtain ⟨x, rfl⟩ : ∃ x : Ext wb, w2 = x.w := ext_of (hb2.after (by (repeat (first | exact Ext.bel _ | exact Bel.refl | refine Bel.alloc ?_ _ | refine Bel.drew ?_ | refine Bel.drewN ?_ _)))); clear hb2))
    go_ret
    exact ⟨rfl, HBW.out.trans x.bel⟩
set_option maxHeartbeats 4000000 in
theorem pradd_any (a b : Rt) (w : World) (ha : a.wf) (hb : b.wf) : Calls Try.prog 59 #[a.V, b.V] w fun e w' => e = .returned (rresV (radd a b)) ∧ Bel w w' := by
  obtain ⟨an, ad⟩ := a
  obtain ⟨bn, bd⟩ := b
  have HV := fun W => pvalid2_any ⟨an, ad⟩ ⟨bn, bd⟩ W ha hb
  unfold Rt.V at *
  cases hab : rval ⟨an, ad⟩ && rval ⟨bn, bd⟩
  · have HR : Hid (radd ⟨an, ad⟩ ⟨bn, bd⟩ = (⟨0, 0⟩, 2)) := Lib.hid (by unfold radd; rw [hab]; rfl)
    rw [hab] at HV
    replace HV := Lib.hid HV
    clear hab ha hb
    go_enter Try.func59, Try.ntmps59
    go_upto_region 1 with (fail)
    (generalize hW : World.alloc _ _ = wb; have q0_0 := (congrArg (fun W : World => W.cell? ⟨w.heap.size, 0, none⟩) hW).symm; simp [go_sem] at q0_0; have qf0_0 := (congrArg (fun W : World => W.frozen? ⟨w.heap.size, 0, none⟩) hW).symm; simp [go_sem] at qf0_0; have q0_1 := (congrArg (fun W : World => W.cell? ⟨w.heap.size, 1, none⟩) hW).symm; simp [go_sem] at q0_1; have qf0_1 := (congrArg (fun W : World => W.frozen? ⟨w.heap.size, 1, none⟩) hW).symm; simp [go_sem] at qf0_1; have qz0 : w.heap.size < wb.heap.size := (by rw [← hW]; simp [go_sem]; try omega); have q1_0 := (congrArg (fun W : World => W.cell? ⟨w.heap.size + 1, 0, none⟩) hW).symm; simp [go_sem] at q1_0; have qf1_0 := (congrArg (fun W : World => W.frozen? ⟨w.heap.size + 1, 0, none⟩) hW).symm; simp [go_sem] at qf1_0; have q1_1 := (congrArg (fun W : World => W.cell? ⟨w.heap.size + 1, 1, none⟩) hW).symm; simp [go_sem] at q1_1; have qf1_1 := (congrArg (fun W : World => W.frozen? ⟨w.heap.size + 1, 1, none⟩) hW).symm; simp [go_sem] at qf1_1; have qz1 : w.heap.size + 1 < wb.heap.size := (by rw [← hW]; simp [go_sem]; try omega); have q2_0 := (congrArg (fun W : World => W.cell? ⟨w.heap.size + 1 + 1, 0, none⟩) hW).symm; simp [go_sem] at q2_0; have qf2_0 := (congrArg (fun W : World => W.frozen? ⟨w.heap.size + 1 + 1, 0, none⟩) hW).symm; simp [go_sem] at qf2_0; have q2_1 := (congrArg (fun W : World => W.cell? ⟨w.heap.size + 1 + 1, 1, none⟩) hW).symm; simp [go_sem] at q2_1; have qf2_1 := (congrArg (fun W : World => W.frozen? ⟨w.heap.size + 1 + 1, 1, none⟩) hW).symm; simp [go_sem] at qf2_1; have qz2 : w.heap.size + 1 + 1 < wb.heap.size := (by rw [← hW]; simp [go_sem]; try omega); have HBW : Hid (Bel w wb) := Lib.hid (by rw [← hW]; (repeat (first | exact Ext.bel _ | exact Bel.refl | refine Bel.alloc ?_ _ | refine Bel.drew ?_ | refine Bel.drewN ?_ _))); clear hW; have hkw := HBW.out.cells)
    go_wp2_with (first | (go_at_call 86; (with_reducible refine (HV.out _).mono ?_); rintro e w2 ⟨rfl, hb2⟩; obtain ⟨x, rfl⟩ : ∃ x : Ext wb, w2 = x.w := ext_of (hb2.after (by (repeat (first | exact Ext.bel _ | exact Bel.refl | refine Bel.alloc ?_ _ | refine Bel.drew ?_ | refine Bel.drewN ?_ _)))); clear hb2))
    refine bodyPost_ret (v := .tuple #[.agg #[.int .i64 0, .int .i64 0], .int .i64 2]) (by simp [results, Try.results59, go_sem, q2_0, q2_1, qz2]) rfl ⟨by rw [HR.out]; rfl, ?_⟩
    (repeat (first | exact HBW.out.trans x.bel | refine Bel.alloc ?_ _ | refine Bel.drew ?_ | refine Bel.drewN ?_ _ | refine Bel.set ?_ (by first | exact Nat.le_refl _ | (simp; done) | (simp; omega) | omega) _))
  have hva : rval ⟨an, ad⟩ = true := by revert hab; cases rval ⟨an, ad⟩ <;> simp
  have hvb : rval ⟨bn, bd⟩ = true := by revert hab; cases rval ⟨bn, bd⟩ <;> simp
  rw [hab] at HV
  replace HV := Lib.hid HV
  obtain ⟨a1, a2, a3, a4⟩ := rvalB hva
  obtain ⟨b1, b2, b3, b4⟩ := rvalB hvb
  simp only at a1 a2 a3 a4 b1 b2 b3 b4
  obtain ⟨m0, m0'⟩ := prodB (x := ad) (y := bd) (by omega) (by omega) (by omega) (by omega)
  obtain ⟨m1, m1'⟩ := prodB (x := an) (y := bd) (by omega) (by omega) (by omega) (by omega)
  obtain ⟨m2, m2'⟩ := prodB (x := bn) (y := ad) (by omega) (by omega) (by omega) (by omega)
  have HM : Hid (∀ W, Calls Try.prog 95 #[.int .i64 (an * bd + bn * ad), .int .i64 (ad * bd)] W fun e w' => e = .returned (.tuple #[.agg #[.int .i64 (rmake (an * bd + bn * ad) (ad * bd)).1.num, .int .i64 (rmake (an * bd + bn * ad) (ad * bd)).1.den], .int .i64 (rmake (an * bd + bn * ad) (ad * bd)).2]) ∧ Bel W w') := Lib.hid fun W => pmake_any _ _ W (by unfold i64; omega) (by unfold i64; omega)
  have HR : Hid (radd ⟨an, ad⟩ ⟨bn, bd⟩ = rmake (an * bd + bn * ad) (ad * bd)) := Lib.hid (by unfold radd; rw [hab]; rfl)
  generalize rmake (an * bd + bn * ad) (ad * bd) = rr at *
  obtain ⟨⟨rn, rd⟩, re⟩ := rr
  simp only at HM
  clear hab hva hvb ha hb
  go_enter Try.func59, Try.ntmps59
  go_upto_region 1 with (fail)
  (generalize hW : World.alloc _ _ = wb; have q0_0 := (congrArg (fun W : World => W.cell? ⟨w.heap.size, 0, none⟩) hW).symm; simp [go_sem] at q0_0; have qf0_0 := (congrArg (fun W : World => W.frozen? ⟨w.heap.size, 0, none⟩) hW).symm; simp [go_sem] at qf0_0; have q0_1 := (congrArg (fun W : World => W.cell? ⟨w.heap.size, 1, none⟩) hW).symm; simp [go_sem] at q0_1; have qf0_1 := (congrArg (fun W : World => W.frozen? ⟨w.heap.size, 1, none⟩) hW).symm; simp [go_sem] at qf0_1; have qz0 : w.heap.size < wb.heap.size := (by rw [← hW]; simp [go_sem]; try omega); have q1_0 := (congrArg (fun W : World => W.cell? ⟨w.heap.size + 1, 0, none⟩) hW).symm; simp [go_sem] at q1_0; have qf1_0 := (congrArg (fun W : World => W.frozen? ⟨w.heap.size + 1, 0, none⟩) hW).symm; simp [go_sem] at qf1_0; have q1_1 := (congrArg (fun W : World => W.cell? ⟨w.heap.size + 1, 1, none⟩) hW).symm; simp [go_sem] at q1_1; have qf1_1 := (congrArg (fun W : World => W.frozen? ⟨w.heap.size + 1, 1, none⟩) hW).symm; simp [go_sem] at qf1_1; have qz1 : w.heap.size + 1 < wb.heap.size := (by rw [← hW]; simp [go_sem]; try omega); have q2_0 := (congrArg (fun W : World => W.cell? ⟨w.heap.size + 1 + 1, 0, none⟩) hW).symm; simp [go_sem] at q2_0; have qf2_0 := (congrArg (fun W : World => W.frozen? ⟨w.heap.size + 1 + 1, 0, none⟩) hW).symm; simp [go_sem] at qf2_0; have q2_1 := (congrArg (fun W : World => W.cell? ⟨w.heap.size + 1 + 1, 1, none⟩) hW).symm; simp [go_sem] at q2_1; have qf2_1 := (congrArg (fun W : World => W.frozen? ⟨w.heap.size + 1 + 1, 1, none⟩) hW).symm; simp [go_sem] at qf2_1; have qz2 : w.heap.size + 1 + 1 < wb.heap.size := (by rw [← hW]; simp [go_sem]; try omega); have HBW : Hid (Bel w wb) := Lib.hid (by rw [← hW]; (repeat (first | exact Ext.bel _ | exact Bel.refl | refine Bel.alloc ?_ _ | refine Bel.drew ?_ | refine Bel.drewN ?_ _))); clear hW; have hkw := HBW.out.cells)
  go_wp2_with (first | (go_at_call 86; (with_reducible refine (HV.out _).mono ?_); rintro e w2 ⟨rfl, hb2⟩; obtain ⟨x, rfl⟩ : ∃ x : Ext wb, w2 = x.w := ext_of (hb2.after (by (repeat (first | exact Ext.bel _ | exact Bel.refl | refine Bel.alloc ?_ _ | refine Bel.drew ?_ | refine Bel.drewN ?_ _)))); clear hb2) | (go_at_call 95; (with_reducible refine (HM.out _).mono ?_); rintro e w2 ⟨rfl, hb2⟩; obtain ⟨x, rfl⟩ : ∃ x : Ext wb, w2 = x.w := ext_of (hb2.after (by (repeat (first | exact Ext.bel _ | exact Bel.refl | refine Bel.alloc ?_ _ | refine Bel.drew ?_ | refine Bel.drewN ?_ _)))); clear hb2))
  refine bodyPost_ret (v := .tuple #[.agg #[.int .i64 rn, .int .i64 rd], .int .i64 re]) (by simp [results, Try.results59, go_sem, q2_0, q2_1, qz2]) rfl ⟨by rw [HR.out]; rfl, ?_⟩
  (repeat (first | exact HBW.out.trans x.bel | refine Bel.alloc ?_ _ | refine Bel.drew ?_ | refine Bel.drewN ?_ _ | refine Bel.set ?_ (by first | exact Nat.le_refl _ | (simp; done) | (simp; omega) | omega) _))
set_option maxHeartbeats 4000000 in
theorem prsub_any (a b : Rt) (w : World) (ha : a.wf) (hb : b.wf) : Calls Try.prog 60 #[a.V, b.V] w fun e w' => e = .returned (rresV (rsub a b)) ∧ Bel w w' := by
  obtain ⟨an, ad⟩ := a
  obtain ⟨bn, bd⟩ := b
  have HV := fun W => pvalid2_any ⟨an, ad⟩ ⟨bn, bd⟩ W ha hb
  unfold Rt.V at *
  cases hab : rval ⟨an, ad⟩ && rval ⟨bn, bd⟩
  · have HR : Hid (rsub ⟨an, ad⟩ ⟨bn, bd⟩ = (⟨0, 0⟩, 2)) := Lib.hid (by unfold rsub; rw [hab]; rfl)
    rw [hab] at HV
    replace HV := Lib.hid HV
    clear hab ha hb
    go_enter Try.func60, Try.ntmps60
    go_upto_region 1 with (fail)
    (generalize hW : World.alloc _ _ = wb; have q0_0 := (congrArg (fun W : World => W.cell? ⟨w.heap.size, 0, none⟩) hW).symm; simp [go_sem] at q0_0; have qf0_0 := (congrArg (fun W : World => W.frozen? ⟨w.heap.size, 0, none⟩) hW).symm; simp [go_sem] at qf0_0; have q0_1 := (congrArg (fun W : World => W.cell? ⟨w.heap.size, 1, none⟩) hW).symm; simp [go_sem] at q0_1; have qf0_1 := (congrArg (fun W : World => W.frozen? ⟨w.heap.size, 1, none⟩) hW).symm; simp [go_sem] at qf0_1; have qz0 : w.heap.size < wb.heap.size := (by rw [← hW]; simp [go_sem]; try omega); have q1_0 := (congrArg (fun W : World => W.cell? ⟨w.heap.size + 1, 0, none⟩) hW).symm; simp [go_sem] at q1_0; have qf1_0 := (congrArg (fun W : World => W.frozen? ⟨w.heap.size + 1, 0, none⟩) hW).symm; simp [go_sem] at qf1_0; have q1_1 := (congrArg (fun W : World => W.cell? ⟨w.heap.size + 1, 1, none⟩) hW).symm; simp [go_sem] at q1_1; have qf1_1 := (congrArg (fun W : World => W.frozen? ⟨w.heap.size + 1, 1, none⟩) hW).symm; simp [go_sem] at qf1_1; have qz1 : w.heap.size + 1 < wb.heap.size := (by rw [← hW]; simp [go_sem]; try omega); have q2_0 := (congrArg (fun W : World => W.cell? ⟨w.heap.size + 1 + 1, 0, none⟩) hW).symm; simp [go_sem] at q2_0; have qf2_0 := (congrArg (fun W : World => W.frozen? ⟨w.heap.size + 1 + 1, 0, none⟩) hW).symm; simp [go_sem] at qf2_0; have q2_1 := (congrArg (fun W : World => W.cell? ⟨w.heap.size + 1 + 1, 1, none⟩) hW).symm; simp [go_sem] at q2_1; have qf2_1 := (congrArg (fun W : World => W.frozen? ⟨w.heap.size + 1 + 1, 1, none⟩) hW).symm; simp [go_sem] at qf2_1; have qz2 : w.heap.size + 1 + 1 < wb.heap.size := (by rw [← hW]; simp [go_sem]; try omega); have HBW : Hid (Bel w wb) := Lib.hid (by rw [← hW]; (repeat (first | exact Ext.bel _ | exact Bel.refl | refine Bel.alloc ?_ _ | refine Bel.drew ?_ | refine Bel.drewN ?_ _))); clear hW; have hkw := HBW.out.cells)
    go_wp2_with (first | (go_at_call 86; (with_reducible refine (HV.out _).mono ?_); rintro e w2 ⟨rfl, hb2⟩; obtain ⟨x, rfl⟩ : ∃ x : Ext wb, w2 = x.w := ext_of (hb2.after (by (repeat (first | exact Ext.bel _ | exact Bel.refl | refine Bel.alloc ?_ _ | refine Bel.drew ?_ | refine Bel.drewN ?_ _)))); clear hb2))
    refine bodyPost_ret (v := .tuple #[.agg #[.int .i64 0, .int .i64 0], .int .i64 2]) (by simp [results, Try.results60, go_sem, q2_0, q2_1, qz2]) rfl ⟨by rw [HR.out]; rfl, ?_⟩
    (repeat (first | exact HBW.out.trans x.bel | refine Bel.alloc ?_ _ | refine Bel.drew ?_ | refine Bel.drewN ?_ _ | refine Bel.set ?_ (by first | exact Nat.le_refl _ | (simp; done) | (simp; omega) | omega) _))
  have hva : rval ⟨an, ad⟩ = true := by revert hab; cases rval ⟨an, ad⟩ <;> simp
  have hvb : rval ⟨bn, bd⟩ = true := by revert hab; cases rval ⟨bn, bd⟩ <;> simp
  rw [hab] at HV
  replace HV := Lib.hid HV
  obtain ⟨a1, a2, a3, a4⟩ := rvalB hva
  obtain ⟨b1, b2, b3, b4⟩ := rvalB hvb
  simp only at a1 a2 a3 a4 b1 b2 b3 b4
  obtain ⟨m0, m0'⟩ := prodB (x := ad) (y := bd) (by omega) (by omega) (by omega) (by omega)
  obtain ⟨m1, m1'⟩ := prodB (x := an) (y := bd) (by omega) (by omega) (by omega) (by omega)
  obtain ⟨m2, m2'⟩ := prodB (x := bn) (y := ad) (by omega) (by omega) (by omega) (by omega)
  have HM : Hid (∀ W, Calls Try.prog 95 #[.int .i64 (an * bd - bn * ad), .int .i64 (ad * bd)] W fun e w' => e = .returned (.tuple #[.agg #[.int .i64 (rmake (an * bd - bn * ad) (ad * bd)).1.num, .int .i64 (rmake (an * bd - bn * ad) (ad * bd)).1.den], .int .i64 (rmake (an * bd - bn * ad) (ad * bd)).2]) ∧ Bel W w') := Lib.hid fun W => pmake_any _ _ W (by unfold i64; omega) (by unfold i64; omega)
  have HR : Hid (rsub ⟨an, ad⟩ ⟨bn, bd⟩ = rmake (an * bd - bn * ad) (ad * bd)) := Lib.hid (by unfold rsub; rw [hab]; rfl)
  generalize rmake (an * bd - bn * ad) (ad * bd) = rr at *
  obtain ⟨⟨rn, rd⟩, re⟩ := rr
  simp only at HM
  clear hab hva hvb ha hb
  go_enter Try.func60, Try.ntmps60
  go_upto_region 1 with (fail)
  (generalize hW : World.alloc _ _ = wb; have q0_0 := (congrArg (fun W : World => W.cell? ⟨w.heap.size, 0, none⟩) hW).symm; simp [go_sem] at q0_0; have qf0_0 := (congrArg (fun W : World => W.frozen? ⟨w.heap.size, 0, none⟩) hW).symm; simp [go_sem] at qf0_0; have q0_1 := (congrArg (fun W : World => W.cell? ⟨w.heap.size, 1, none⟩) hW).symm; simp [go_sem] at q0_1; have qf0_1 := (congrArg (fun W : World => W.frozen? ⟨w.heap.size, 1, none⟩) hW).symm; simp [go_sem] at qf0_1; have qz0 : w.heap.size < wb.heap.size := (by rw [← hW]; simp [go_sem]; try omega); have q1_0 := (congrArg (fun W : World => W.cell? ⟨w.heap.size + 1, 0, none⟩) hW).symm; simp [go_sem] at q1_0; have qf1_0 := (congrArg (fun W : World => W.frozen? ⟨w.heap.size + 1, 0, none⟩) hW).symm; simp [go_sem] at qf1_0; have q1_1 := (congrArg (fun W : World => W.cell? ⟨w.heap.size + 1, 1, none⟩) hW).symm; simp [go_sem] at q1_1; have qf1_1 := (congrArg (fun W : World => W.frozen? ⟨w.heap.size + 1, 1, none⟩) hW).symm; simp [go_sem] at qf1_1; have qz1 : w.heap.size + 1 < wb.heap.size := (by rw [← hW]; simp [go_sem]; try omega); have q2_0 := (congrArg (fun W : World => W.cell? ⟨w.heap.size + 1 + 1, 0, none⟩) hW).symm; simp [go_sem] at q2_0; have qf2_0 := (congrArg (fun W : World => W.frozen? ⟨w.heap.size + 1 + 1, 0, none⟩) hW).symm; simp [go_sem] at qf2_0; have q2_1 := (congrArg (fun W : World => W.cell? ⟨w.heap.size + 1 + 1, 1, none⟩) hW).symm; simp [go_sem] at q2_1; have qf2_1 := (congrArg (fun W : World => W.frozen? ⟨w.heap.size + 1 + 1, 1, none⟩) hW).symm; simp [go_sem] at qf2_1; have qz2 : w.heap.size + 1 + 1 < wb.heap.size := (by rw [← hW]; simp [go_sem]; try omega); have HBW : Hid (Bel w wb) := Lib.hid (by rw [← hW]; (repeat (first | exact Ext.bel _ | exact Bel.refl | refine Bel.alloc ?_ _ | refine Bel.drew ?_ | refine Bel.drewN ?_ _))); clear hW; have hkw := HBW.out.cells)
  go_wp2_with (first | (go_at_call 86; (with_reducible refine (HV.out _).mono ?_); rintro e w2 ⟨rfl, hb2⟩; obtain ⟨x, rfl⟩ : ∃ x : Ext wb, w2 = x.w := ext_of (hb2.after (by (repeat (first | exact Ext.bel _ | exact Bel.refl | refine Bel.alloc ?_ _ | refine Bel.drew ?_ | refine Bel.drewN ?_ _)))); clear hb2) | (go_at_call 95; (with_reducible refine (HM.out _).mono ?_); rintro e w2 ⟨rfl, hb2⟩; obtain ⟨x, rfl⟩ : ∃ x : Ext wb, w2 = x.w := ext_of (hb2.after (by (repeat (first | exact Ext.bel _ | exact Bel.refl | refine Bel.alloc ?_ _ | refine Bel.drew ?_ | refine Bel.drewN ?_ _)))); clear hb2))
  refine bodyPost_ret (v := .tuple #[.agg #[.int .i64 rn, .int .i64 rd], .int .i64 re]) (by simp [results, Try.results60, go_sem, q2_0, q2_1, qz2]) rfl ⟨by rw [HR.out]; rfl, ?_⟩
  (repeat (first | exact HBW.out.trans x.bel | refine Bel.alloc ?_ _ | refine Bel.drew ?_ | refine Bel.drewN ?_ _ | refine Bel.set ?_ (by first | exact Nat.le_refl _ | (simp; done) | (simp; omega) | omega) _))
set_option maxHeartbeats 4000000 in
theorem prmul_any (a b : Rt) (w : World) (ha : a.wf) (hb : b.wf) : Calls Try.prog 99 #[a.V, b.V] w fun e w' => e = .returned (rresV (rmul a b)) ∧ Bel w w' := by
  obtain ⟨an, ad⟩ := a
  obtain ⟨bn, bd⟩ := b
  have HV := fun W => pvalid2_any ⟨an, ad⟩ ⟨bn, bd⟩ W ha hb
  unfold Rt.V at *
  cases hab : rval ⟨an, ad⟩ && rval ⟨bn, bd⟩
  · have HR : Hid (rmul ⟨an, ad⟩ ⟨bn, bd⟩ = (⟨0, 0⟩, 2)) := Lib.hid (by unfold rmul; rw [hab]; rfl)
    rw [hab] at HV
    replace HV := Lib.hid HV
    clear hab ha hb
    go_enter Try.func99, Try.ntmps99
    go_upto_region 1 with (fail)
    (generalize hW : World.alloc _ _ = wb; have q0_0 := (congrArg (fun W : World => W.cell? ⟨w.heap.size, 0, none⟩) hW).symm; simp [go_sem] at q0_0; have qf0_0 := (congrArg (fun W : World => W.frozen? ⟨w.heap.size, 0, none⟩) hW).symm; simp [go_sem] at qf0_0; have q0_1 := (congrArg (fun W : World => W.cell? ⟨w.heap.size, 1, none⟩) hW).symm; simp [go_sem] at q0_1; have qf0_1 := (congrArg (fun W : World => W.frozen? ⟨w.heap.size, 1, none⟩) hW).symm; simp [go_sem] at qf0_1; have qz0 : w.heap.size < wb.heap.size := (by rw [← hW]; simp [go_sem]; try omega); have q1_0 := (congrArg (fun W : World => W.cell? ⟨w.heap.size + 1, 0, none⟩) hW).symm; simp [go_sem] at q1_0; have qf1_0 := (congrArg (fun W : World => W.frozen? ⟨w.heap.size + 1, 0, none⟩) hW).symm; simp [go_sem] at qf1_0; have q1_1 := (congrArg (fun W : World => W.cell? ⟨w.heap.size + 1, 1, none⟩) hW).symm; simp [go_sem] at q1_1; have qf1_1 := (congrArg (fun W : World => W.frozen? ⟨w.heap.size + 1, 1, none⟩) hW).symm; simp [go_sem] at qf1_1; have qz1 : w.heap.size + 1 < wb.heap.size := (by rw [← hW]; simp [go_sem]; try omega); have q2_0 := (congrArg (fun W : World => W.cell? ⟨w.heap.size + 1 + 1, 0, none⟩) hW).symm; simp [go_sem] at q2_0; have qf2_0 := (congrArg (fun W : World => W.frozen? ⟨w.heap.size + 1 + 1, 0, none⟩) hW).symm; simp [go_sem] at qf2_0; have q2_1 := (congrArg (fun W : World => W.cell? ⟨w.heap.size + 1 + 1, 1, none⟩) hW).symm; simp [go_sem] at q2_1; have qf2_1 := (congrArg (fun W : World => W.frozen? ⟨w.heap.size + 1 + 1, 1, none⟩) hW).symm; simp [go_sem] at qf2_1; have qz2 : w.heap.size + 1 + 1 < wb.heap.size := (by rw [← hW]; simp [go_sem]; try omega); have HBW : Hid (Bel w wb) := Lib.hid (by rw [← hW]; (repeat (first | exact Ext.bel _ | exact Bel.refl | refine Bel.alloc ?_ _ | refine Bel.drew ?_ | refine Bel.drewN ?_ _))); clear hW; have hkw := HBW.out.cells)
    go_wp2_with (first | (go_at_call 86; (with_reducible refine (HV.out _).mono ?_); rintro e w2 ⟨rfl, hb2⟩; obtain ⟨x, rfl⟩ : ∃ x : Ext wb, w2 = x.w := ext_of (hb2.after (by (repeat (first | exact Ext.bel _ | exact Bel.refl | refine Bel.alloc ?_ _ | refine Bel.drew ?_ | refine Bel.drewN ?_ _)))); clear hb2))
    refine bodyPost_ret (v := .tuple #[.agg #[.int .i64 0, .int .i64 0], .int .i64 2]) (by simp [results, Try.results99, go_sem, q2_0, q2_1, qz2]) rfl ⟨by rw [HR.out]; rfl, ?_⟩
    (repeat (first | exact HBW.out.trans x.bel | refine Bel.alloc ?_ _ | refine Bel.drew ?_ | refine Bel.drewN ?_ _ | refine Bel.set ?_ (by first | exact Nat.le_refl _ | (simp; done) | (simp; omega) | omega) _))
  have hva : rval ⟨an, ad⟩ = true := by revert hab; cases rval ⟨an, ad⟩ <;> simp
  have hvb : rval ⟨bn, bd⟩ = true := by revert hab; cases rval ⟨bn, bd⟩ <;> simp
  rw [hab] at HV
  replace HV := Lib.hid HV
  obtain ⟨a1, a2, a3, a4⟩ := rvalB hva
  obtain ⟨b1, b2, b3, b4⟩ := rvalB hvb
  simp only at a1 a2 a3 a4 b1 b2 b3 b4
  obtain ⟨m0, m0'⟩ := prodB (x := ad) (y := bd) (by omega) (by omega) (by omega) (by omega)
  obtain ⟨m1, m1'⟩ := prodB (x := an) (y := bn) (by omega) (by omega) (by omega) (by omega)
  have HM : Hid (∀ W, Calls Try.prog 95 #[.int .i64 (an * bn), .int .i64 (ad * bd)] W fun e w' => e = .returned (.tuple #[.agg #[.int .i64 (rmake (an * bn) (ad * bd)).1.num, .int .i64 (rmake (an * bn) (ad * bd)).1.den], .int .i64 (rmake (an * bn) (ad * bd)).2]) ∧ Bel W w') := Lib.hid fun W => pmake_any _ _ W (by unfold i64; omega) (by unfold i64; omega)
  have HR : Hid (rmul ⟨an, ad⟩ ⟨bn, bd⟩ = rmake (an * bn) (ad * bd)) := Lib.hid (by unfold rmul; rw [hab]; rfl)
  generalize rmake (an * bn) (ad * bd) = rr at *
  obtain ⟨⟨rn, rd⟩, re⟩ := rr
  simp only at HM
  clear hab hva hvb ha hb
  go_enter Try.func99, Try.ntmps99
  go_upto_region 1 with (fail)
  (generalize hW : World.alloc _ _ = wb; have q0_0 := (congrArg (fun W : World => W.cell? ⟨w.heap.size, 0, none⟩) hW).symm; simp [go_sem] at q0_0; have qf0_0 := (congrArg (fun W : World => W.frozen? ⟨w.heap.size, 0, none⟩) hW).symm; simp [go_sem] at qf0_0; have q0_1 := (congrArg (fun W : World => W.cell? ⟨w.heap.size, 1, none⟩) hW).symm; simp [go_sem] at q0_1; have qf0_1 := (congrArg (fun W : World => W.frozen? ⟨w.heap.size, 1, none⟩) hW).symm; simp [go_sem] at qf0_1; have qz0 : w.heap.size < wb.heap.size := (by rw [← hW]; simp [go_sem]; try omega); have q1_0 := (congrArg (fun W : World => W.cell? ⟨w.heap.size + 1, 0, none⟩) hW).symm; simp [go_sem] at q1_0; have qf1_0 := (congrArg (fun W : World => W.frozen? ⟨w.heap.size + 1, 0, none⟩) hW).symm; simp [go_sem] at qf1_0; have q1_1 := (congrArg (fun W : World => W.cell? ⟨w.heap.size + 1, 1, none⟩) hW).symm; simp [go_sem] at q1_1; have qf1_1 := (congrArg (fun W : World => W.frozen? ⟨w.heap.size + 1, 1, none⟩) hW).symm; simp [go_sem] at qf1_1; have qz1 : w.heap.size + 1 < wb.heap.size := (by rw [← hW]; simp [go_sem]; try omega); have q2_0 := (congrArg (fun W : World => W.cell? ⟨w.heap.size + 1 + 1, 0, none⟩) hW).symm; simp [go_sem] at q2_0; have qf2_0 := (congrArg (fun W : World => W.frozen? ⟨w.heap.size + 1 + 1, 0, none⟩) hW).symm; simp [go_sem] at qf2_0; have q2_1 := (congrArg (fun W : World => W.cell? ⟨w.heap.size + 1 + 1, 1, none⟩) hW).symm; simp [go_sem] at q2_1; have qf2_1 := (congrArg (fun W : World => W.frozen? ⟨w.heap.size + 1 + 1, 1, none⟩) hW).symm; simp [go_sem] at qf2_1; have qz2 : w.heap.size + 1 + 1 < wb.heap.size := (by rw [← hW]; simp [go_sem]; try omega); have HBW : Hid (Bel w wb) := Lib.hid (by rw [← hW]; (repeat (first | exact Ext.bel _ | exact Bel.refl | refine Bel.alloc ?_ _ | refine Bel.drew ?_ | refine Bel.drewN ?_ _))); clear hW; have hkw := HBW.out.cells)
  go_wp2_with (first | (go_at_call 86; (with_reducible refine (HV.out _).mono ?_); rintro e w2 ⟨rfl, hb2⟩; obtain ⟨x, rfl⟩ : ∃ x : Ext wb, w2 = x.w := ext_of (hb2.after (by (repeat (first | exact Ext.bel _ | exact Bel.refl | refine Bel.alloc ?_ _ | refine Bel.drew ?_ | refine Bel.drewN ?_ _)))); clear hb2) | (go_at_call 95; (with_reducible refine (HM.out _).mono ?_); rintro e w2 ⟨rfl, hb2⟩; obtain ⟨x, rfl⟩ : ∃ x : Ext wb, w2 = x.w := ext_of (hb2.after (by (repeat (first | exact Ext.bel _ | exact Bel.refl | refine Bel.alloc ?_ _ | refine Bel.drew ?_ | refine Bel.drewN ?_ _)))); clear hb2))
  refine bodyPost_ret (v := .tuple #[.agg #[.int .i64 rn, .int .i64 rd], .int .i64 re]) (by simp [results, Try.results99, go_sem, q2_0, q2_1, qz2]) rfl ⟨by rw [HR.out]; rfl, ?_⟩
  (repeat (first | exact HBW.out.trans x.bel | refine Bel.alloc ?_ _ | refine Bel.drew ?_ | refine Bel.drewN ?_ _ | refine Bel.set ?_ (by first | exact Nat.le_refl _ | (simp; done) | (simp; omega) | omega) _))
set_option maxHeartbeats 4000000 in
theorem prdiv_any (a b : Rt) (w : World) (ha : a.wf) (hb : b.wf) : Calls Try.prog 85 #[a.V, b.V] w fun e w' => e = .returned (rresV (rquo a b)) ∧ Bel w w' := by
  obtain ⟨an, ad⟩ := a
  obtain ⟨bn, bd⟩ := b
  have HV := fun W => pvalid2_any ⟨an, ad⟩ ⟨bn, bd⟩ W ha hb
  unfold Rt.V at *
  cases hab : rval ⟨an, ad⟩ && rval ⟨bn, bd⟩
  · have HR : Hid (rquo ⟨an, ad⟩ ⟨bn, bd⟩ = (⟨0, 0⟩, 2)) := Lib.hid (by unfold rquo; rw [hab]; rfl)
    rw [hab] at HV
    replace HV := Lib.hid HV
    clear hab ha hb
    go_enter Try.func85, Try.ntmps85
    go_upto_region 1 with (fail)
    (generalize hW : World.alloc _ _ = wb; have q0_0 := (congrArg (fun W : World => W.cell? ⟨w.heap.size, 0, none⟩) hW).symm; simp [go_sem] at q0_0; have qf0_0 := (congrArg (fun W : World => W.frozen? ⟨w.heap.size, 0, none⟩) hW).symm; simp [go_sem] at qf0_0; have q0_1 := (congrArg (fun W : World => W.cell? ⟨w.heap.size, 1, none⟩) hW).symm; simp [go_sem] at q0_1; have qf0_1 := (congrArg (fun W : World => W.frozen? ⟨w.heap.size, 1, none⟩) hW).symm; simp [go_sem] at qf0_1; have qz0 : w.heap.size < wb.heap.size := (by rw [← hW]; simp [go_sem]; try omega); have q1_0 := (congrArg (fun W : World => W.cell? ⟨w.heap.size + 1, 0, none⟩) hW).symm; simp [go_sem] at q1_0; have qf1_0 := (congrArg (fun W : World => W.frozen? ⟨w.heap.size + 1, 0, none⟩) hW).symm; simp [go_sem] at qf1_0; have q1_1 := (congrArg (fun W : World => W.cell? ⟨w.heap.size + 1, 1, none⟩) hW).symm; simp [go_sem] at q1_1; have qf1_1 := (congrArg (fun W : World => W.frozen? ⟨w.heap.size + 1, 1, none⟩) hW).symm; simp [go_sem] at qf1_1; have qz1 : w.heap.size + 1 < wb.heap.size := (by rw [← hW]; simp [go_sem]; try omega); have q2_0 := (congrArg (fun W : World => W.cell? ⟨w.heap.size + 1 + 1, 0, none⟩) hW).symm; simp [go_sem] at q2_0; have qf2_0 := (congrArg (fun W : World => W.frozen? ⟨w.heap.size + 1 + 1, 0, none⟩) hW).symm; simp [go_sem] at qf2_0; have q2_1 := (congrArg (fun W : World => W.cell? ⟨w.heap.size + 1 + 1, 1, none⟩) hW).symm; simp [go_sem] at q2_1; have qf2_1 := (congrArg (fun W : World => W.frozen? ⟨w.heap.size + 1 + 1, 1, none⟩) hW).symm; simp [go_sem] at qf2_1; have qz2 : w.heap.size + 1 + 1 < wb.heap.size := (by rw [← hW]; simp [go_sem]; try omega); have HBW : Hid (Bel w wb) := Lib.hid (by rw [← hW]; (repeat (first | exact Ext.bel _ | exact Bel.refl | refine Bel.alloc ?_ _ | refine Bel.drew ?_ | refine Bel.drewN ?_ _))); clear hW; have hkw := HBW.out.cells)
    go_wp2_with (first | (go_at_call 86; (with_reducible refine (HV.out _).mono ?_); rintro e w2 ⟨rfl, hb2⟩; obtain ⟨x, rfl⟩ : ∃ x : Ext wb, w2 = x.w := ext_of (hb2.after (by (repeat (first | exact Ext.bel _ | exact Bel.refl | refine Bel.alloc ?_ _ | refine Bel.drew ?_ | refine Bel.drewN ?_ _)))); clear hb2))
    refine bodyPost_ret (v := .tuple #[.agg #[.int .i64 0, .int .i64 0], .int .i64 2]) (by simp [results, Try.results85, go_sem, q2_0, q2_1, qz2]) rfl ⟨by rw [HR.out]; rfl, ?_⟩
    (repeat (first | exact HBW.out.trans x.bel | refine Bel.alloc ?_ _ | refine Bel.drew ?_ | refine Bel.drewN ?_ _ | refine Bel.set ?_ (by first | exact Nat.le_refl _ | (simp; done) | (simp; omega) | omega) _))
  have hva : rval ⟨an, ad⟩ = true := by revert hab; cases rval ⟨an, ad⟩ <;> simp
  have hvb : rval ⟨bn, bd⟩ = true := by revert hab; cases rval ⟨bn, bd⟩ <;> simp
  rw [hab] at HV
  replace HV := Lib.hid HV
  obtain ⟨a1, a2, a3, a4⟩ := rvalB hva
  obtain ⟨b1, b2, b3, b4⟩ := rvalB hvb
  simp only at a1 a2 a3 a4 b1 b2 b3 b4
  obtain ⟨m0, m0'⟩ := prodB (x := ad) (y := bn) (by omega) (by omega) (by omega) (by omega)
  obtain ⟨m1, m1'⟩ := prodB (x := an) (y := bd) (by omega) (by omega) (by omega) (by omega)
  have HM : Hid (∀ W, Calls Try.prog 95 #[.int .i64 (an * bd), .int .i64 (ad * bn)] W fun e w' => e = .returned (.tuple #[.agg #[.int .i64 (rmake (an * bd) (ad * bn)).1.num, .int .i64 (rmake (an * bd) (ad * bn)).1.den], .int .i64 (rmake (an * bd) (ad * bn)).2]) ∧ Bel W w') := Lib.hid fun W => pmake_any _ _ W (by unfold i64; omega) (by unfold i64; omega)
  have HR : Hid (rquo ⟨an, ad⟩ ⟨bn, bd⟩ = rmake (an * bd) (ad * bn)) := Lib.hid (by unfold rquo; rw [hab]; rfl)
  generalize rmake (an * bd) (ad * bn) = rr at *
  obtain ⟨⟨rn, rd⟩, re⟩ := rr
  simp only at HM
  clear hab hva hvb ha hb
  go_enter Try.func85, Try.ntmps85
  go_upto_region 1 with (fail)
  (generalize hW : World.alloc _ _ = wb; have q0_0 := (congrArg (fun W : World => W.cell? ⟨w.heap.size, 0, none⟩) hW).symm; simp [go_sem] at q0_0; have qf0_0 := (congrArg (fun W : World => W.frozen? ⟨w.heap.size, 0, none⟩) hW).symm; simp [go_sem] at qf0_0; have q0_1 := (congrArg (fun W : World => W.cell? ⟨w.heap.size, 1, none⟩) hW).symm; simp [go_sem] at q0_1; have qf0_1 := (congrArg (fun W : World => W.frozen? ⟨w.heap.size, 1, none⟩) hW).symm; simp [go_sem] at qf0_1; have qz0 : w.heap.size < wb.heap.size := (by rw [← hW]; simp [go_sem]; try omega); have q1_0 := (congrArg (fun W : World => W.cell? ⟨w.heap.size + 1, 0, none⟩) hW).symm; simp [go_sem] at q1_0; have qf1_0 := (congrArg (fun W : World => W.frozen? ⟨w.heap.size + 1, 0, none⟩) hW).symm; simp [go_sem] at qf1_0; have q1_1 := (congrArg (fun W : World => W.cell? ⟨w.heap.size + 1, 1, none⟩) hW).symm; simp [go_sem] at q1_1; have qf1_1 := (congrArg (fun W : World => W.frozen? ⟨w.heap.size + 1, 1, none⟩) hW).symm; simp [go_sem] at qf1_1; have qz1 : w.heap.size + 1 < wb.heap.size := (by rw [← hW]; simp [go_sem]; try omega); have q2_0 := (congrArg (fun W : World => W.cell? ⟨w.heap.size + 1 + 1, 0, none⟩) hW).symm; simp [go_sem] at q2_0; have qf2_0 := (congrArg (fun W : World => W.frozen? ⟨w.heap.size + 1 + 1, 0, none⟩) hW).symm; simp [go_sem] at qf2_0; have q2_1 := (congrArg (fun W : World => W.cell? ⟨w.heap.size + 1 + 1, 1, none⟩) hW).symm; simp [go_sem] at q2_1; have qf2_1 := (congrArg (fun W : World => W.frozen? ⟨w.heap.size + 1 + 1, 1, none⟩) hW).symm; simp [go_sem] at qf2_1; have qz2 : w.heap.size + 1 + 1 < wb.heap.size := (by rw [← hW]; simp [go_sem]; try omega); have HBW : Hid (Bel w wb) := Lib.hid (by rw [← hW]; (repeat (first | exact Ext.bel _ | exact Bel.refl | refine Bel.alloc ?_ _ | refine Bel.drew ?_ | refine Bel.drewN ?_ _))); clear hW; have hkw := HBW.out.cells)
  go_wp2_with (first | (go_at_call 86; (with_reducible refine (HV.out _).mono ?_); rintro e w2 ⟨rfl, hb2⟩; obtain ⟨x, rfl⟩ : ∃ x : Ext wb, w2 = x.w := ext_of (hb2.after (by (repeat (first | exact Ext.bel _ | exact Bel.refl | refine Bel.alloc ?_ _ | refine Bel.drew ?_ | refine Bel.drewN ?_ _)))); clear hb2) | (go_at_call 95; (with_reducible refine (HM.out _).mono ?_); rintro e w2 ⟨rfl, hb2⟩; obtain ⟨x, rfl⟩ : ∃ x : Ext wb, w2 = x.w := ext_of (hb2.after (by (repeat (first | exact Ext.bel _ | exact Bel.refl | refine Bel.alloc ?_ _ | refine Bel.drew ?_ | refine Bel.drewN ?_ _)))); clear hb2))
  refine bodyPost_ret (v := .tuple #[.agg #[.int .i64 rn, .int .i64 rd], .int .i64 re]) (by simp [results, Try.results85, go_sem, q2_0, q2_1, qz2]) rfl ⟨by rw [HR.out]; rfl, ?_⟩
  (repeat (first | exact HBW.out.trans x.bel | refine Bel.alloc ?_ _ | refine Bel.drew ?_ | refine Bel.drewN ?_ _ | refine Bel.set ?_ (by first | exact Nat.le_refl _ | (simp; done) | (simp; omega) | omega) _))
set_option maxHeartbeats 4000000 in
theorem rradd_any (a b : Rt) (w : World) (ha : a.wf) (hb : b.wf) : Calls Try.prog 21 #[a.V, b.V] w fun e w' => e = .returned (rresV (radd a b)) ∧ Bel w w' := by
  obtain ⟨an, ad⟩ := a
  obtain ⟨bn, bd⟩ := b
  have HV := fun W => rval_any ⟨an, ad⟩ W ha
  have HU := fun W => rval_any ⟨bn, bd⟩ W hb
  unfold Rt.V at *
  cases hab : rval ⟨an, ad⟩ && rval ⟨bn, bd⟩
  · have HR : Hid (radd ⟨an, ad⟩ ⟨bn, bd⟩ = (⟨0, 0⟩, 2)) := Lib.hid (by unfold radd; rw [hab]; rfl)
    cases hva : rval ⟨an, ad⟩ <;> rw [hva] at HV hab <;> simp at hab <;> replace HV := Lib.hid HV
    case true => 
      rw [hab] at HU
      replace HU := Lib.hid HU
      clear hab hva ha hb
      go_enter Try.func21, Try.ntmps21
      go_upto_region 1 with (fail)
      (generalize hW : World.alloc _ _ = wb; have q0_0 := (congrArg (fun W : World => W.cell? ⟨w.heap.size, 0, none⟩) hW).symm; simp [go_sem] at q0_0; have qf0_0 := (congrArg (fun W : World => W.frozen? ⟨w.heap.size, 0, none⟩) hW).symm; simp [go_sem] at qf0_0; have q0_1 := (congrArg (fun W : World => W.cell? ⟨w.heap.size, 1, none⟩) hW).symm; simp [go_sem] at q0_1; have qf0_1 := (congrArg (fun W : World => W.frozen? ⟨w.heap.size, 1, none⟩) hW).symm; simp [go_sem] at qf0_1; have qz0 : w.heap.size < wb.heap.size := (by rw [← hW]; simp [go_sem]; try omega); have q1_0 := (congrArg (fun W : World => W.cell? ⟨w.heap.size + 1, 0, none⟩) hW).symm; simp [go_sem] at q1_0; have qf1_0 := (congrArg (fun W : World => W.frozen? ⟨w.heap.size + 1, 0, none⟩) hW).symm; simp [go_sem] at qf1_0; have q1_1 := (congrArg (fun W : World => W.cell? ⟨w.heap.size + 1, 1, none⟩) hW).symm; simp [go_sem] at q1_1; have qf1_1 := (congrArg (fun W : World => W.frozen? ⟨w.heap.size + 1, 1, none⟩) hW).symm; simp [go_sem] at qf1_1; have qz1 : w.heap.size + 1 < wb.heap.size := (by rw [← hW]; simp [go_sem]; try omega); have q2_0 := (congrArg (fun W : World => W.cell? ⟨w.heap.size + 1 + 1, 0, none⟩) hW).symm; simp [go_sem] at q2_0; have qf2_0 := (congrArg (fun W : World => W.frozen? ⟨w.heap.size + 1 + 1, 0, none⟩) hW).symm; simp [go_sem] at qf2_0; have q2_1 := (congrArg (fun W : World => W.cell? ⟨w.heap.size + 1 + 1, 1, none⟩) hW).symm; simp [go_sem] at q2_1; have qf2_1 := (congrArg (fun W : World => W.frozen? ⟨w.heap.size + 1 + 1, 1, none⟩) hW).symm; simp [go_sem] at qf2_1; have qz2 : w.heap.size + 1 + 1 < wb.heap.size := (by rw [← hW]; simp [go_sem]; try omega); have HBW : Hid (Bel w wb) := Lib.hid (by rw [← hW]; (repeat (first | exact Ext.bel _ | exact Bel.refl | refine Bel.alloc ?_ _ | refine Bel.drew ?_ | refine Bel.drewN ?_ _))); clear hW; have hkw := HBW.out.cells)
      go_wp2_with (first | (go_at_call 49; (with_reducible refine (HV.out _).mono ?_); rintro e w2 ⟨rfl, hb2⟩; obtain ⟨x, rfl⟩ : ∃ x : Ext wb, w2 = x.w := ext_of (hb2.after (by (repeat (first | exact Ext.bel _ | exact Bel.refl | refine Bel.alloc ?_ _ | refine Bel.drew ?_ | refine Bel.drewN ?_ _)))); clear hb2) | (go_at_call 49; (with_reducible refine (HU.out _).mono ?_); rintro e w2 ⟨rfl, hb2⟩; obtain ⟨x, rfl⟩ : ∃ x : Ext wb, w2 = x.w := ext_of (hb2.after (by (repeat (first | exact Ext.bel _ | exact Bel.refl | refine Bel.alloc ?_ _ | refine Bel.drew ?_ | refine Bel.drewN ?_ _)))); clear hb2))
      refine bodyPost_ret (v := .tuple #[.agg #[.int .i64 0, .int .i64 0], .int .i64 2]) (by simp [results, Try.results21, go_sem, q2_0, q2_1, qz2]) rfl ⟨by rw [HR.out]; rfl, ?_⟩
      (repeat (first | exact HBW.out.trans x.bel | refine Bel.alloc ?_ _ | refine Bel.drew ?_ | refine Bel.drewN ?_ _ | refine Bel.set ?_ (by first | exact Nat.le_refl _ | (simp; done) | (simp; omega) | omega) _))
    case false =>
      replace HU := Lib.hid HU
      clear hva ha hb
      go_enter Try.func21, Try.ntmps21
      go_upto_region 1 with (fail)
      (generalize hW : World.alloc _ _ = wb; have q0_0 := (congrArg (fun W : World => W.cell? ⟨w.heap.size, 0, none⟩) hW).symm; simp [go_sem] at q0_0; have qf0_0 := (congrArg (fun W : World => W.frozen? ⟨w.heap.size, 0, none⟩) hW).symm; simp [go_sem] at qf0_0; have q0_1 := (congrArg (fun W : World => W.cell? ⟨w.heap.size, 1, none⟩) hW).symm; simp [go_sem] at q0_1; have qf0_1 := (congrArg (fun W : World => W.frozen? ⟨w.heap.size, 1, none⟩) hW).symm; simp [go_sem] at qf0_1; have qz0 : w.heap.size < wb.heap.size := (by rw [← hW]; simp [go_sem]; try omega); have q1_0 := (congrArg (fun W : World => W.cell? ⟨w.heap.size + 1, 0, none⟩) hW).symm; simp [go_sem] at q1_0; have qf1_0 := (congrArg (fun W : World => W.frozen? ⟨w.heap.size + 1, 0, none⟩) hW).symm; simp [go_sem] at qf1_0; have q1_1 := (congrArg (fun W : World => W.cell? ⟨w.heap.size + 1, 1, none⟩) hW).symm; simp [go_sem] at q1_1; have qf1_1 := (congrArg (fun W : World => W.frozen? ⟨w.heap.size + 1, 1, none⟩) hW).symm; simp [go_sem] at qf1_1; have qz1 : w.heap.size + 1 < wb.heap.size := (by rw [← hW]; simp [go_sem]; try omega); have q2_0 := (congrArg (fun W : World => W.cell? ⟨w.heap.size + 1 + 1, 0, none⟩) hW).symm; simp [go_sem] at q2_0; have qf2_0 := (congrArg (fun W : World => W.frozen? ⟨w.heap.size + 1 + 1, 0, none⟩) hW).symm; simp [go_sem] at qf2_0; have q2_1 := (congrArg (fun W : World => W.cell? ⟨w.heap.size + 1 + 1, 1, none⟩) hW).symm; simp [go_sem] at q2_1; have qf2_1 := (congrArg (fun W : World => W.frozen? ⟨w.heap.size + 1 + 1, 1, none⟩) hW).symm; simp [go_sem] at qf2_1; have qz2 : w.heap.size + 1 + 1 < wb.heap.size := (by rw [← hW]; simp [go_sem]; try omega); have HBW : Hid (Bel w wb) := Lib.hid (by rw [← hW]; (repeat (first | exact Ext.bel _ | exact Bel.refl | refine Bel.alloc ?_ _ | refine Bel.drew ?_ | refine Bel.drewN ?_ _))); clear hW; have hkw := HBW.out.cells)
      go_wp2_with (first | (go_at_call 49; (with_reducible refine (HV.out _).mono ?_); rintro e w2 ⟨rfl, hb2⟩; obtain ⟨x, rfl⟩ : ∃ x : Ext wb, w2 = x.w := ext_of (hb2.after (by (repeat (first | exact Ext.bel _ | exact Bel.refl | refine Bel.alloc ?_ _ | refine Bel.drew ?_ | refine Bel.drewN ?_ _)))); clear hb2) | (go_at_call 49; (with_reducible refine (HU.out _).mono ?_); rintro e w2 ⟨rfl, hb2⟩; obtain ⟨x, rfl⟩ : ∃ x : Ext wb, w2 = x.w := ext_of (hb2.after (by (repeat (first | exact Ext.bel _ | exact Bel.refl | refine Bel.alloc ?_ _ | refine Bel.drew ?_ | refine Bel.drewN ?_ _)))); clear hb2))
      refine bodyPost_ret (v := .tuple #[.agg #[.int .i64 0, .int .i64 0], .int .i64 2]) (by simp [results, Try.results21, go_sem, q2_0, q2_1, qz2]) rfl ⟨by rw [HR.out]; rfl, ?_⟩
      (repeat (first | exact HBW.out.trans x.bel | refine Bel.alloc ?_ _ | refine Bel.drew ?_ | refine Bel.drewN ?_ _ | refine Bel.set ?_ (by first | exact Nat.le_refl _ | (simp; done) | (simp; omega) | omega) _))
  have hva : rval ⟨an, ad⟩ = true := by revert hab; cases rval ⟨an, ad⟩ <;> simp
  have hvb : rval ⟨bn, bd⟩ = true := by revert hab; cases rval ⟨bn, bd⟩ <;> simp
  rw [hva] at HV
  rw [hvb] at HU
  replace HU := Lib.hid HU
  replace HV := Lib.hid HV
  obtain ⟨a1, a2, a3, a4⟩ := rvalB hva
  obtain ⟨b1, b2, b3, b4⟩ := rvalB hvb
  simp only at a1 a2 a3 a4 b1 b2 b3 b4
  obtain ⟨m0, m0'⟩ := prodB (x := ad) (y := bd) (by omega) (by omega) (by omega) (by omega)
  obtain ⟨m1, m1'⟩ := prodB (x := an) (y := bd) (by omega) (by omega) (by omega) (by omega)
  obtain ⟨m2, m2'⟩ := prodB (x := bn) (y := ad) (by omega) (by omega) (by omega) (by omega)
  have HM : Hid (∀ W, Calls Try.prog 50 #[.int .i64 (an * bd + bn * ad), .int .i64 (ad * bd)] W fun e w' => e = .returned (.tuple #[.agg #[.int .i64 (rmake (an * bd + bn * ad) (ad * bd)).1.num, .int .i64 (rmake (an * bd + bn * ad) (ad * bd)).1.den], .int .i64 (rmake (an * bd + bn * ad) (ad * bd)).2]) ∧ Bel W w') := Lib.hid fun W => rmake_any _ _ W (by unfold i64; omega) (by unfold i64; omega)
  have HR : Hid (radd ⟨an, ad⟩ ⟨bn, bd⟩ = rmake (an * bd + bn * ad) (ad * bd)) := Lib.hid (by unfold radd; rw [hab]; rfl)
  generalize rmake (an * bd + bn * ad) (ad * bd) = rr at *
  obtain ⟨⟨rn, rd⟩, re⟩ := rr
  simp only at HM
  clear hab hva hvb ha hb
  go_enter Try.func21, Try.ntmps21
  go_upto_region 1 with (fail)
  (generalize hW : World.alloc _ _ = wb; have q0_0 := (congrArg (fun W : World => W.cell? ⟨w.heap.size, 0, none⟩) hW).symm; simp [go_sem] at q0_0; have qf0_0 := (congrArg (fun W : World => W.frozen? ⟨w.heap.size, 0, none⟩) hW).symm; simp [go_sem] at qf0_0; have q0_1 := (congrArg (fun W : World => W.cell? ⟨w.heap.size, 1, none⟩) hW).symm; simp [go_sem] at q0_1; have qf0_1 := (congrArg (fun W : World => W.frozen? ⟨w.heap.size, 1, none⟩) hW).symm; simp [go_sem] at qf0_1; have qz0 : w.heap.size < wb.heap.size := (by rw [← hW]; simp [go_sem]; try omega); have q1_0 := (congrArg (fun W : World => W.cell? ⟨w.heap.size + 1, 0, none⟩) hW).symm; simp [go_sem] at q1_0; have qf1_0 := (congrArg (fun W : World => W.frozen? ⟨w.heap.size + 1, 0, none⟩) hW).symm; simp [go_sem] at qf1_0; have q1_1 := (congrArg (fun W : World => W.cell? ⟨w.heap.size + 1, 1, none⟩) hW).symm; simp [go_sem] at q1_1; have qf1_1 := (congrArg (fun W : World => W.frozen? ⟨w.heap.size + 1, 1, none⟩) hW).symm; simp [go_sem] at qf1_1; have qz1 : w.heap.size + 1 < wb.heap.size := (by rw [← hW]; simp [go_sem]; try omega); have q2_0 := (congrArg (fun W : World => W.cell? ⟨w.heap.size + 1 + 1, 0, none⟩) hW).symm; simp [go_sem] at q2_0; have qf2_0 := (congrArg (fun W : World => W.frozen? ⟨w.heap.size + 1 + 1, 0, none⟩) hW).symm; simp [go_sem] at qf2_0; have q2_1 := (congrArg (fun W : World => W.cell? ⟨w.heap.size + 1 + 1, 1, none⟩) hW).symm; simp [go_sem] at q2_1; have qf2_1 := (congrArg (fun W : World => W.frozen? ⟨w.heap.size + 1 + 1, 1, none⟩) hW).symm; simp [go_sem] at qf2_1; have qz2 : w.heap.size + 1 + 1 < wb.heap.size := (by rw [← hW]; simp [go_sem]; try omega); have HBW : Hid (Bel w wb) := Lib.hid (by rw [← hW]; (repeat (first | exact Ext.bel _ | exact Bel.refl | refine Bel.alloc ?_ _ | refine Bel.drew ?_ | refine Bel.drewN ?_ _))); clear hW; have hkw := HBW.out.cells)
  go_wp2_with (first | (go_at_call 49; (with_reducible refine (HV.out _).mono ?_); rintro e w2 ⟨rfl, hb2⟩; obtain ⟨x, rfl⟩ : ∃ x : Ext wb, w2 = x.w := ext_of (hb2.after (by (repeat (first | exact Ext.bel _ | exact Bel.refl | refine Bel.alloc ?_ _ | refine Bel.drew ?_ | refine Bel.drewN ?_ _)))); clear hb2) | (go_at_call 49; (with_reducible refine (HU.out _).mono ?_); rintro e w2 ⟨rfl, hb2⟩; obtain ⟨x, rfl⟩ : ∃ x : Ext wb, w2 = x.w := ext_of (hb2.after (by (repeat (first | exact Ext.bel _ | exact Bel.refl | refine Bel.alloc ?_ _ | refine Bel.drew ?_ | refine Bel.drewN ?_ _)))); clear hb2) | (go_at_call 50; (with_reducible refine (HM.out _).mono ?_); rintro e w2 ⟨rfl, hb2⟩; obtain ⟨x, rfl⟩ : ∃ x : Ext wb, w2 = x.w := ext_of (hb2.after (by (repeat (first | exact Ext.bel _ | exact Bel.refl | refine Bel.alloc ?_ _ | refine Bel.drew ?_ | refine Bel.drewN ?_ _)))); clear hb2))
  refine bodyPost_ret (v := .tuple #[.agg #[.int .i64 rn, .int .i64 rd], .int .i64 re]) (by simp [results, Try.results21, go_sem, q2_0, q2_1, qz2]) rfl ⟨by rw [HR.out]; rfl, ?_⟩
  (repeat (first | exact HBW.out.trans x.bel | refine Bel.alloc ?_ _ | refine Bel.drew ?_ | refine Bel.drewN ?_ _ | refine Bel.set ?_ (by first | exact Nat.le_refl _ | (simp; done) | (simp; omega) | omega) _))
set_option maxHeartbeats 4000000 in
theorem rrmul_any (a b : Rt) (w : World) (ha : a.wf) (hb : b.wf) : Calls Try.prog 20 #[a.V, b.V] w fun e w' => e = .returned (rresV (rmul a b)) ∧ Bel w w' := by
  obtain ⟨an, ad⟩ := a
  obtain ⟨bn, bd⟩ := b
  have HV := fun W => rval_any ⟨an, ad⟩ W ha
  have HU := fun W => rval_any ⟨bn, bd⟩ W hb
  unfold Rt.V at *
  cases hab : rval ⟨an, ad⟩ && rval ⟨bn, bd⟩
  · have HR : Hid (rmul ⟨an, ad⟩ ⟨bn, bd⟩ = (⟨0, 0⟩, 2)) := Lib.hid (by unfold rmul; rw [hab]; rfl)
    cases hva : rval ⟨an, ad⟩ <;> rw [hva] at HV hab <;> simp at hab <;> replace HV := Lib.hid HV
    case true => 
      rw [hab] at HU
      replace HU := Lib.hid HU
      clear hab hva ha hb
      go_enter Try.func20, Try.ntmps20
      go_upto_region 1 with (fail)
      (generalize hW : World.alloc _ _ = wb; have q0_0 := (congrArg (fun W : World => W.cell? ⟨w.heap.size, 0, none⟩) hW).symm; simp [go_sem] at q0_0; have qf0_0 := (congrArg (fun W : World => W.frozen? ⟨w.heap.size, 0, none⟩) hW).symm; simp [go_sem] at qf0_0; have q0_1 := (congrArg (fun W : World => W.cell? ⟨w.heap.size, 1, none⟩) hW).symm; simp [go_sem] at q0_1; have qf0_1 := (congrArg (fun W : World => W.frozen? ⟨w.heap.size, 1, none⟩) hW).symm; simp [go_sem] at qf0_1; have qz0 : w.heap.size < wb.heap.size := (by rw [← hW]; simp [go_sem]; try omega); have q1_0 := (congrArg (fun W : World => W.cell? ⟨w.heap.size + 1, 0, none⟩) hW).symm; simp [go_sem] at q1_0; have qf1_0 := (congrArg (fun W : World => W.frozen? ⟨w.heap.size + 1, 0, none⟩) hW).symm; simp [go_sem] at qf1_0; have q1_1 := (congrArg (fun W : World => W.cell? ⟨w.heap.size + 1, 1, none⟩) hW).symm; simp [go_sem] at q1_1; have qf1_1 := (congrArg (fun W : World => W.frozen? ⟨w.heap.size + 1, 1, none⟩) hW).symm; simp [go_sem] at qf1_1; have qz1 : w.heap.size + 1 < wb.heap.size := (by rw [← hW]; simp [go_sem]; try omega); have q2_0 := (congrArg (fun W : World => W.cell? ⟨w.heap.size + 1 + 1, 0, none⟩) hW).symm; simp [go_sem] at q2_0; have qf2_0 := (congrArg (fun W : World => W.frozen? ⟨w.heap.size + 1 + 1, 0, none⟩) hW).symm; simp [go_sem] at qf2_0; have q2_1 := (congrArg (fun W : World => W.cell? ⟨w.heap.size + 1 + 1, 1, none⟩) hW).symm; simp [go_sem] at q2_1; have qf2_1 := (congrArg (fun W : World => W.frozen? ⟨w.heap.size + 1 + 1, 1, none⟩) hW).symm; simp [go_sem] at qf2_1; have qz2 : w.heap.size + 1 + 1 < wb.heap.size := (by rw [← hW]; simp [go_sem]; try omega); have HBW : Hid (Bel w wb) := Lib.hid (by rw [← hW]; (repeat (first | exact Ext.bel _ | exact Bel.refl | refine Bel.alloc ?_ _ | refine Bel.drew ?_ | refine Bel.drewN ?_ _))); clear hW; have hkw := HBW.out.cells)
      go_wp2_with (first | (go_at_call 49; (with_reducible refine (HV.out _).mono ?_); rintro e w2 ⟨rfl, hb2⟩; obtain ⟨x, rfl⟩ : ∃ x : Ext wb, w2 = x.w := ext_of (hb2.after (by (repeat (first | exact Ext.bel _ | exact Bel.refl | refine Bel.alloc ?_ _ | refine Bel.drew ?_ | refine Bel.drewN ?_ _)))); clear hb2) | (go_at_call 49; (with_reducible refine (HU.out _).mono ?_); rintro e w2 ⟨rfl, hb2⟩; obtain ⟨x, rfl⟩ : ∃ x : Ext wb, w2 = x.w := ext_of (hb2.after (by (repeat (first | exact Ext.bel _ | exact Bel.refl | refine Bel.alloc ?_ _ | refine Bel.drew ?_ | refine Bel.drewN ?_ _)))); clear hb2))
      refine bodyPost_ret (v := .tuple #[.agg #[.int .i64 0, .int .i64 0], .int .i64 2]) (by simp [results, Try.results20, go_sem, q2_0, q2_1, qz2]) rfl ⟨by rw [HR.out]; rfl, ?_⟩
      (repeat (first | exact HBW.out.trans x.bel | refine Bel.alloc ?_ _ | refine Bel.drew ?_ | refine Bel.drewN ?_ _ | refine Bel.set ?_ (by first | exact Nat.le_refl _ | (simp; done) | (simp; omega) | omega) _))
    case false =>
      replace HU := Lib.hid HU
      clear hva ha hb
      go_enter Try.func20, Try.ntmps20
      go_upto_region 1 with (fail)
      (generalize hW : World.alloc _ _ = wb; have q0_0 := (congrArg (fun W : World => W.cell? ⟨w.heap.size, 0, none⟩) hW).symm; simp [go_sem] at q0_0; have qf0_0 := (congrArg (fun W : World => W.frozen? ⟨w.heap.size, 0, none⟩) hW).symm; simp [go_sem] at qf0_0; have q0_1 := (congrArg (fun W : World => W.cell? ⟨w.heap.size, 1, none⟩) hW).symm; simp [go_sem] at q0_1; have qf0_1 := (congrArg (fun W : World => W.frozen? ⟨w.heap.size, 1, none⟩) hW).symm; simp [go_sem] at qf0_1; have qz0 : w.heap.size < wb.heap.size := (by rw [← hW]; simp [go_sem]; try omega); have q1_0 := (congrArg (fun W : World => W.cell? ⟨w.heap.size + 1, 0, none⟩) hW).symm; simp [go_sem] at q1_0; have qf1_0 := (congrArg (fun W : World => W.frozen? ⟨w.heap.size + 1, 0, none⟩) hW).symm; simp [go_sem] at qf1_0; have q1_1 := (congrArg (fun W : World => W.cell? ⟨w.heap.size + 1, 1, none⟩) hW).symm; simp [go_sem] at q1_1; have qf1_1 := (congrArg (fun W : World => W.frozen? ⟨w.heap.size + 1, 1, none⟩) hW).symm; simp [go_sem] at qf1_1; have qz1 : w.heap.size + 1 < wb.heap.size := (by rw [← hW]; simp [go_sem]; try omega); have q2_0 := (congrArg (fun W : World => W.cell? ⟨w.heap.size + 1 + 1, 0, none⟩) hW).symm; simp [go_sem] at q2_0; have qf2_0 := (congrArg (fun W : World => W.frozen? ⟨w.heap.size + 1 + 1, 0, none⟩) hW).symm; simp [go_sem] at qf2_0; have q2_1 := (congrArg (fun W : World => W.cell? ⟨w.heap.size + 1 + 1, 1, none⟩) hW).symm; simp [go_sem] at q2_1; have qf2_1 := (congrArg (fun W : World => W.frozen? ⟨w.heap.size + 1 + 1, 1, none⟩) hW).symm; simp [go_sem] at qf2_1; have qz2 : w.heap.size + 1 + 1 < wb.heap.size := (by rw [← hW]; simp [go_sem]; try omega); have HBW : Hid (Bel w wb) := Lib.hid (by rw [← hW]; (repeat (first | exact Ext.bel _ | exact Bel.refl | refine Bel.alloc ?_ _ | refine Bel.drew ?_ | refine Bel.drewN ?_ _))); clear hW; have hkw := HBW.out.cells)
      go_wp2_with (first | (go_at_call 49; (with_reducible refine (HV.out _).mono ?_); rintro e w2 ⟨rfl, hb2⟩; obtain ⟨x, rfl⟩ : ∃ x : Ext wb, w2 = x.w := ext_of (hb2.after (by (repeat (first | exact Ext.bel _ | exact Bel.refl | refine Bel.alloc ?_ _ | refine Bel.drew ?_ | refine Bel.drewN ?_ _)))); clear hb2) | (go_at_call 49; (with_reducible refine (HU.out _).mono ?_); rintro e w2 ⟨rfl, hb2⟩; obtain ⟨x, rfl⟩ : ∃ x : Ext wb, w2 = x.w := ext_of (hb2.after (by (repeat (first | exact Ext.bel _ | exact Bel.refl | refine Bel.alloc ?_ _ | refine Bel.drew ?_ | refine Bel.drewN ?_ _)))); clear hb2))
      refine bodyPost_ret (v := .tuple #[.agg #[.int .i64 0, .int .i64 0], .int .i64 2]) (by simp [results, Try.results20, go_sem, q2_0, q2_1, qz2]) rfl ⟨by rw [HR.out]; rfl, ?_⟩
      (repeat (first | exact HBW.out.trans x.bel | refine Bel.alloc ?_ _ | refine Bel.drew ?_ | refine Bel.drewN ?_ _ | refine Bel.set ?_ (by first | exact Nat.le_refl _ | (simp; done) | (simp; omega) | omega) _))
  have hva : rval ⟨an, ad⟩ = true := by revert hab; cases rval ⟨an, ad⟩ <;> simp
  have hvb : rval ⟨bn, bd⟩ = true := by revert hab; cases rval ⟨bn, bd⟩ <;> simp
  rw [hva] at HV
  rw [hvb] at HU
  replace HU := Lib.hid HU
  replace HV := Lib.hid HV
  obtain ⟨a1, a2, a3, a4⟩ := rvalB hva
  obtain ⟨b1, b2, b3, b4⟩ := rvalB hvb
  simp only at a1 a2 a3 a4 b1 b2 b3 b4
  obtain ⟨m0, m0'⟩ := prodB (x := ad) (y := bd) (by omega) (by omega) (by omega) (by omega)
  obtain ⟨m1, m1'⟩ := prodB (x := an) (y := bn) (by omega) (by omega) (by omega) (by omega)
  have HM : Hid (∀ W, Calls Try.prog 50 #[.int .i64 (an * bn), .int .i64 (ad * bd)] W fun e w' => e = .returned (.tuple #[.agg #[.int .i64 (rmake (an * bn) (ad * bd)).1.num, .int .i64 (rmake (an * bn) (ad * bd)).1.den], .int .i64 (rmake (an * bn) (ad * bd)).2]) ∧ Bel W w') := Lib.hid fun W => rmake_any _ _ W (by unfold i64; omega) (by unfold i64; omega)
  have HR : Hid (rmul ⟨an, ad⟩ ⟨bn, bd⟩ = rmake (an * bn) (ad * bd)) := Lib.hid (by unfold rmul; rw [hab]; rfl)
  generalize rmake (an * bn) (ad * bd) = rr at *
  obtain ⟨⟨rn, rd⟩, re⟩ := rr
  simp only at HM
  clear hab hva hvb ha hb
  go_enter Try.func20, Try.ntmps20
  go_upto_region 1 with (fail)
  (generalize hW : World.alloc _ _ = wb; have q0_0 := (congrArg (fun W : World => W.cell? ⟨w.heap.size, 0, none⟩) hW).symm; simp [go_sem] at q0_0; have qf0_0 := (congrArg (fun W : World => W.frozen? ⟨w.heap.size, 0, none⟩) hW).symm; simp [go_sem] at qf0_0; have q0_1 := (congrArg (fun W : World => W.cell? ⟨w.heap.size, 1, none⟩) hW).symm; simp [go_sem] at q0_1; have qf0_1 := (congrArg (fun W : World => W.frozen? ⟨w.heap.size, 1, none⟩) hW).symm; simp [go_sem] at qf0_1; have qz0 : w.heap.size < wb.heap.size := (by rw [← hW]; simp [go_sem]; try omega); have q1_0 := (congrArg (fun W : World => W.cell? ⟨w.heap.size + 1, 0, none⟩) hW).symm; simp [go_sem] at q1_0; have qf1_0 := (congrArg (fun W : World => W.frozen? ⟨w.heap.size + 1, 0, none⟩) hW).symm; simp [go_sem] at qf1_0; have q1_1 := (congrArg (fun W : World => W.cell? ⟨w.heap.size + 1, 1, none⟩) hW).symm; simp [go_sem] at q1_1; have qf1_1 := (congrArg (fun W : World => W.frozen? ⟨w.heap.size + 1, 1, none⟩) hW).symm; simp [go_sem] at qf1_1; have qz1 : w.heap.size + 1 < wb.heap.size := (by rw [← hW]; simp [go_sem]; try omega); have q2_0 := (congrArg (fun W : World => W.cell? ⟨w.heap.size + 1 + 1, 0, none⟩) hW).symm; simp [go_sem] at q2_0; have qf2_0 := (congrArg (fun W : World => W.frozen? ⟨w.heap.size + 1 + 1, 0, none⟩) hW).symm; simp [go_sem] at qf2_0; have q2_1 := (congrArg (fun W : World => W.cell? ⟨w.heap.size + 1 + 1, 1, none⟩) hW).symm; simp [go_sem] at q2_1; have qf2_1 := (congrArg (fun W : World => W.frozen? ⟨w.heap.size + 1 + 1, 1, none⟩) hW).symm; simp [go_sem] at qf2_1; have qz2 : w.heap.size + 1 + 1 < wb.heap.size := (by rw [← hW]; simp [go_sem]; try omega); have HBW : Hid (Bel w wb) := Lib.hid (by rw [← hW]; (repeat (first | exact Ext.bel _ | exact Bel.refl | refine Bel.alloc ?_ _ | refine Bel.drew ?_ | refine Bel.drewN ?_ _))); clear hW; have hkw := HBW.out.cells)
  go_wp2_with (first | (go_at_call 49; (with_reducible refine (HV.out _).mono ?_); rintro e w2 ⟨rfl, hb2⟩; obtain ⟨x, rfl⟩ : ∃ x : Ext wb, w2 = x.w := ext_of (hb2.after (by (repeat (first | exact Ext.bel _ | exact Bel.refl | refine Bel.alloc ?_ _ | refine Bel.drew ?_ | refine Bel.drewN ?_ _)))); clear hb2) | (go_at_call 49; (with_reducible refine (HU.out _).mono ?_); rintro e w2 ⟨rfl, hb2⟩; obtain ⟨x, rfl⟩ : ∃ x : Ext wb, w2 = x.w := ext_of (hb2.after (by (repeat (first | exact Ext.bel _ | exact Bel.refl | refine Bel.alloc ?_ _ | refine Bel.drew ?_ | refine Bel.drewN ?_ _)))); clear hb2) | (go_at_call 50; (with_reducible refine (HM.out _).mono ?_); rintro e w2 ⟨rfl, hb2⟩; obtain ⟨x, rfl⟩ : ∃ x : Ext wb, w2 = x.w := ext_of (hb2.after (by (repeat (first | exact Ext.bel _ | exact Bel.refl | refine Bel.alloc ?_ _ | refine Bel.drew ?_ | refine Bel.drewN ?_ _)))); clear hb2))
  refine bodyPost_ret (v := .tuple #[.agg #[.int .i64 rn, .int .i64 rd], .int .i64 re]) (by simp [results, Try.results20, go_sem, q2_0, q2_1, qz2]) rfl ⟨by rw [HR.out]; rfl, ?_⟩
  (repeat (first | exact HBW.out.trans x.bel | refine Bel.alloc ?_ _ | refine Bel.drew ?_ | refine Bel.drewN ?_ _ | refine Bel.set ?_ (by first | exact Nat.le_refl _ | (simp; done) | (simp; omega) | omega) _))
end Go.Proofs.Ytalphoebmefgoaa
