import Derived.Test.YtehifcgfgejjcaaRdecp
namespace Go.Proofs.Ytehifcgfgejjcaa
open Go.RowKit
def rtext (a : Rt) : List UInt8 × Int := if rval a then (decL a.num ++ (if 1 < a.den then 47 :: decL a.den else []), 0) else ([], 2)
def strV (s : List UInt8) : Value := .string ⟨s.toArray⟩
theorem digF_len : ∀ (f k : Nat) (acc : List UInt8), (digF f k acc).length ≤ f + acc.length
  | 0, k, acc => by simp [digF]
  | f + 1, k, acc => by
    unfold digF
    split
    · omega
    · have := digF_len f (k / 10) (UInt8.ofNat (48 + k % 10) :: acc)
      simp only [List.length_cons] at this
      omega
theorem ret_str {s t : ByteArray} {k : IntKind} {a b : Int} (h : s = t) (h' : a = b) : Ending.returned (.tuple #[.string s, .int k a]) = .returned (.tuple #[.string t, .int k b]) := by rw [h, h']
theorem decL_len (n : Int) : (decL n).length ≤ 21 := by
  unfold decL digs
  have := digF_len 20 n.natAbs []
  split <;> simp only [List.length_append, List.length_cons, List.length_nil] at * <;> omega
theorem str_app (a b : List UInt8) : (ByteArray.mk a.toArray ++ ByteArray.mk b.toArray) = ByteArray.mk (a ++ b).toArray := ByteArray.mk_append_mk a b
theorem rvalV_bd {a : Rt} (h : rval a = true) : 0 < a.den ∧ a.den ≤ 2147483647 ∧ -2147483647 ≤ a.num ∧ a.num ≤ 2147483647 := by
  unfold rval at h
  simp only [Bool.and_eq_true, decide_eq_true_eq] at h
  obtain ⟨⟨⟨h1, h2⟩, h3⟩, _⟩ := h
  unfold absU at h3
  omega
set_option maxHeartbeats 2000000 in
theorem ptext_any (a : Rt) (w : World) (h : a.wf) : Calls Try.prog 12 #[a.V] w fun e w' => e = .returned (.tuple #[strV (rtext a).1, .int .i64 (rtext a).2]) ∧ Bel w w' := by
  obtain ⟨n, d⟩ := a
  have HD := fun W => pval_any ⟨n, d⟩ W h
  have HN := Lib.hid fun W => pdec_any n W h.n
  have HM := Lib.hid fun W => pdec_any d W h.d
  have hln := decL_len n
  have hld := decL_len d
  unfold Rt.V at *
  cases hr : rval ⟨n, d⟩
  · rw [hr] at HD
    replace HD := Lib.hid HD
    have HR : Hid (rtext ⟨n, d⟩ = ([], 2)) := Lib.hid (by unfold rtext; simp [hr])
    clear hr h
    go_enter Try.func12, Try.ntmps12
    go_wp2_with (go_at_call 26; (with_reducible refine (HD.out _).mono ?_); rintro e w2 ⟨rfl, hb2⟩; obtain ⟨x, rfl⟩ : ∃ x : Ext w, w2 = x.w := ext_of (hb2.after (by (repeat (first | exact Ext.bel _ | exact Bel.refl | refine Bel.alloc ?_ _ | refine Bel.drew ?_ | refine Bel.drewN ?_ _)))); clear hb2)
    go_ret2
    exact ⟨by rw [HR.out]; rfl, x.bel⟩
  rw [hr] at HD
  replace HD := Lib.hid HD
  by_cases h1 : 1 < d
  · have HR : Hid (rtext ⟨n, d⟩ = (decL n ++ 47 :: decL d, 0)) := Lib.hid (by unfold rtext; simp [hr, h1])
    clear hr h
    go_enter Try.func12, Try.ntmps12
    go_upto_region 1 with (fail)
    (generalize hW : World.alloc _ _ = wb; have q0_0 := (congrArg (fun W : World => W.cell? ⟨w.heap.size, 0, none⟩) hW).symm; simp [go_sem] at q0_0; have q0_1 := (congrArg (fun W : World => W.cell? ⟨w.heap.size, 1, none⟩) hW).symm; simp [go_sem] at q0_1; have qz0 : w.heap.size < wb.heap.size := (by rw [← hW]; simp [go_sem]; try omega); have HBW : Hid (Bel w wb) := Lib.hid (by rw [← hW]; (repeat (first | exact Ext.bel _ | exact Bel.refl | refine Bel.alloc ?_ _ | refine Bel.drew ?_ | refine Bel.drewN ?_ _))); clear hW; have hkw := HBW.out.cells)
    go_wp2_with (first | (go_at_call 26; (with_reducible refine (HD.out _).mono ?_); rintro e w2 ⟨rfl, hb2⟩; obtain ⟨x, rfl⟩ : ∃ x : Ext wb, w2 = x.w := ext_of (hb2.after (by (repeat (first | exact Ext.bel _ | exact Bel.refl | refine Bel.alloc ?_ _ | refine Bel.drew ?_ | refine Bel.drewN ?_ _)))); clear hb2) | (go_at_call 41; (with_reducible refine (HN.out _).mono ?_); rintro e w2 ⟨rfl, hb2⟩; obtain ⟨x, rfl⟩ : ∃ x : Ext wb, w2 = x.w := ext_of (hb2.after (by (repeat (first | exact Ext.bel _ | exact Bel.refl | refine Bel.alloc ?_ _ | refine Bel.drew ?_ | refine Bel.drewN ?_ _)))); clear hb2) | (go_at_call 41; (with_reducible refine (HM.out _).mono ?_); rintro e w2 ⟨rfl, hb2⟩; obtain ⟨x, rfl⟩ : ∃ x : Ext wb, w2 = x.w := ext_of (hb2.after (by (repeat (first | exact Ext.bel _ | exact Bel.refl | refine Bel.alloc ?_ _ | refine Bel.drew ?_ | refine Bel.drewN ?_ _)))); clear hb2))
    go_ret2
    exact ⟨ret_str (by rw [HR.out]; rw [show ByteArray.mk #[47] = ByteArray.mk ([47] : List UInt8).toArray from rfl, str_app, str_app]; rfl) (by rw [HR.out]), HBW.out.trans x.bel⟩
  · have HR : Hid (rtext ⟨n, d⟩ = (decL n, 0)) := Lib.hid (by unfold rtext; simp [hr, h1])
    clear hr h
    go_enter Try.func12, Try.ntmps12
    go_upto_region 1 with (fail)
    (generalize hW : World.alloc _ _ = wb; have q0_0 := (congrArg (fun W : World => W.cell? ⟨w.heap.size, 0, none⟩) hW).symm; simp [go_sem] at q0_0; have q0_1 := (congrArg (fun W : World => W.cell? ⟨w.heap.size, 1, none⟩) hW).symm; simp [go_sem] at q0_1; have qz0 : w.heap.size < wb.heap.size := (by rw [← hW]; simp [go_sem]; try omega); have HBW : Hid (Bel w wb) := Lib.hid (by rw [← hW]; (repeat (first | exact Ext.bel _ | exact Bel.refl | refine Bel.alloc ?_ _ | refine Bel.drew ?_ | refine Bel.drewN ?_ _))); clear hW; have hkw := HBW.out.cells)
    go_wp2_with (first | (go_at_call 26; (with_reducible refine (HD.out _).mono ?_); rintro e w2 ⟨rfl, hb2⟩; obtain ⟨x, rfl⟩ : ∃ x : Ext wb, w2 = x.w := ext_of (hb2.after (by (repeat (first | exact Ext.bel _ | exact Bel.refl | refine Bel.alloc ?_ _ | refine Bel.drew ?_ | refine Bel.drewN ?_ _)))); clear hb2) | (go_at_call 41; (with_reducible refine (HN.out _).mono ?_); rintro e w2 ⟨rfl, hb2⟩; obtain ⟨x, rfl⟩ : ∃ x : Ext wb, w2 = x.w := ext_of (hb2.after (by (repeat (first | exact Ext.bel _ | exact Bel.refl | refine Bel.alloc ?_ _ | refine Bel.drew ?_ | refine Bel.drewN ?_ _)))); clear hb2))
    go_ret2
    exact ⟨by rw [HR.out]; rfl, HBW.out.trans x.bel⟩
set_option maxHeartbeats 2000000 in
theorem rtext_any (a : Rt) (w : World) (h : a.wf) : Calls Try.prog 13 #[a.V] w fun e w' => e = .returned (.tuple #[strV (rtext a).1, .int .i64 (rtext a).2]) ∧ Bel w w' := by
  obtain ⟨n, d⟩ := a
  have HD := fun W => rval_any ⟨n, d⟩ W h
  have HN := Lib.hid fun W => rdec_any n W h.n
  have HM := Lib.hid fun W => rdec_any d W h.d
  have hln := decL_len n
  have hld := decL_len d
  unfold Rt.V at *
  cases hr : rval ⟨n, d⟩
  · rw [hr] at HD
    replace HD := Lib.hid HD
    have HR : Hid (rtext ⟨n, d⟩ = ([], 2)) := Lib.hid (by unfold rtext; simp [hr])
    clear hr h
    go_enter Try.func13, Try.ntmps13
    go_wp2_with (go_at_call 32; (with_reducible refine (HD.out _).mono ?_); rintro e w2 ⟨rfl, hb2⟩; obtain ⟨x, rfl⟩ : ∃ x : Ext w, w2 = x.w := ext_of (hb2.after (by (repeat (first | exact Ext.bel _ | exact Bel.refl | refine Bel.alloc ?_ _ | refine Bel.drew ?_ | refine Bel.drewN ?_ _)))); clear hb2)
    go_ret2
    exact ⟨by rw [HR.out]; rfl, x.bel⟩
  rw [hr] at HD
  replace HD := Lib.hid HD
  obtain ⟨hd1, hd2, _, _⟩ := rvalV_bd hr
  simp only at hd1 hd2
  by_cases h1 : 1 < d
  · have HR : Hid (rtext ⟨n, d⟩ = (decL n ++ 47 :: decL d, 0)) := Lib.hid (by unfold rtext; simp [hr, h1])
    clear hr h
    go_enter Try.func13, Try.ntmps13
    go_upto_region 1 with (fail)
    (generalize hW : World.alloc _ _ = wb; have q0_0 := (congrArg (fun W : World => W.cell? ⟨w.heap.size, 0, none⟩) hW).symm; simp [go_sem] at q0_0; have q0_1 := (congrArg (fun W : World => W.cell? ⟨w.heap.size, 1, none⟩) hW).symm; simp [go_sem] at q0_1; have qz0 : w.heap.size < wb.heap.size := (by rw [← hW]; simp [go_sem]; try omega); have HBW : Hid (Bel w wb) := Lib.hid (by rw [← hW]; (repeat (first | exact Ext.bel _ | exact Bel.refl | refine Bel.alloc ?_ _ | refine Bel.drew ?_ | refine Bel.drewN ?_ _))); clear hW; have hkw := HBW.out.cells)
    have hz : (d == 1) = false := by simp; omega
    go_wp2_with (go_at_call 32; (with_reducible refine (HD.out _).mono ?_); rintro e w2 ⟨rfl, hb2⟩; obtain ⟨x, rfl⟩ : ∃ x : Ext wb, w2 = x.w := ext_of (hb2.after (by (repeat (first | exact Ext.bel _ | exact Bel.refl | refine Bel.alloc ?_ _ | refine Bel.drew ?_ | refine Bel.drewN ?_ _)))); clear hb2)
    (refine wp_region_ext (wb := wb) (by (repeat (first | exact Ext.bel _ | exact Bel.refl | refine Bel.alloc ?_ _ | refine Bel.drew ?_ | refine Bel.drewN ?_ _))) (by kernel_rfl) (by kernel_rfl) ?_; (repeat (any_goals (first | go_big_quiet_step (first | (go_at_call 42; with_reducible exact ext_call (HN.out _)) | (go_at_call 42; with_reducible exact ext_call (HM.out _))) | quiet_step (first | (go_at_call 42; with_reducible exact ext_call (HN.out _)) | (go_at_call 42; with_reducible exact ext_call (HM.out _))) | (refine wpQuiet_step (fun K hK => ?_); go_simp; split <;> (refine hK _ ?_; clear hK K))))); all_goals (refine wpQuiet_nil ?_; intro _ hw'; obtain ⟨y, hw''⟩ := hw'; subst hw''))
    go_wp2
    go_ret2
    exact ⟨ret_str (by rw [HR.out]; rw [show ByteArray.mk #[47] = ByteArray.mk ([47] : List UInt8).toArray from rfl, str_app (decL n) [47], str_app (decL n ++ [47]) (decL d), List.append_assoc]; rfl) (by rw [HR.out]), HBW.out.trans y.bel⟩
  · obtain rfl : d = 1 := by omega
    have HR : Hid (rtext ⟨n, 1⟩ = (decL n, 0)) := Lib.hid (by unfold rtext; simp [hr, h1])
    clear hr h
    go_enter Try.func13, Try.ntmps13
    go_upto_region 1 with (fail)
    (generalize hW : World.alloc _ _ = wb; have q0_0 := (congrArg (fun W : World => W.cell? ⟨w.heap.size, 0, none⟩) hW).symm; simp [go_sem] at q0_0; have q0_1 := (congrArg (fun W : World => W.cell? ⟨w.heap.size, 1, none⟩) hW).symm; simp [go_sem] at q0_1; have qz0 : w.heap.size < wb.heap.size := (by rw [← hW]; simp [go_sem]; try omega); have HBW : Hid (Bel w wb) := Lib.hid (by rw [← hW]; (repeat (first | exact Ext.bel _ | exact Bel.refl | refine Bel.alloc ?_ _ | refine Bel.drew ?_ | refine Bel.drewN ?_ _))); clear hW; have hkw := HBW.out.cells)
    go_wp2_with (first | (go_at_call 32; (with_reducible refine (HD.out _).mono ?_); rintro e w2 ⟨rfl, hb2⟩; obtain ⟨x, rfl⟩ : ∃ x : Ext wb, w2 = x.w := ext_of (hb2.after (by (repeat (first | exact Ext.bel _ | exact Bel.refl | refine Bel.alloc ?_ _ | refine Bel.drew ?_ | refine Bel.drewN ?_ _)))); clear hb2) | (go_at_call 42; (with_reducible refine (HN.out _).mono ?_); rintro e w2 ⟨rfl, hb2⟩; obtain ⟨x, rfl⟩ : ∃ x : Ext wb, w2 = x.w := ext_of (hb2.after (by (repeat (first | exact Ext.bel _ | exact Bel.refl | refine Bel.alloc ?_ _ | refine Bel.drew ?_ | refine Bel.drewN ?_ _)))); clear hb2))
    go_ret2
    exact ⟨by rw [HR.out]; rfl, HBW.out.trans x.bel⟩
end Go.Proofs.Ytehifcgfgejjcaa
