import Derived.Test.YthidbmeocifkcaaZPword
namespace Go.Proofs.Ythidbmeocifkcaa
open Go.RowKit
def lastAt (l : List PS) : Nat → Int
  | 0 => 0
  | j + 1 => (psAt l j).at_
set_option maxRecDepth 100000 in
set_option maxHeartbeats 8000000 in
theorem rword_all (p : PP) (gv ev sv : Value) (l : List PS) (w : World) (h : PropAt w w.heap.size gv ev p) (hs : PSized p) (hl : StampsAt w w.heap.size sv l) :
    Calls Try.prog 22 #[.agg #[.int .i64 p.evs, .int .i64 p.clks, .int .i64 p.ini, gv, ev], sv] w fun e w' => e = .returned (.int .i64 (rpword p l)) ∧ Bel w w' := by
  have HC := fun (W : World) (hW : Bel w W) => rcheck35_any p gv ev W (h.keep hW.keeps hW.le) hs
  obtain ⟨A1, k1, rfl, hk1⟩ := h.g.form
  obtain ⟨A2, k2, rfl, hk2⟩ := h.e.form
  obtain ⟨A, c, rfl, hc, hA⟩ := hl
  have HA := Lib.hid hA
  clear h hs hA
  by_cases h0 : rpchk p = 0
  · have HR : Hid (rpword p l = if 200 < l.length then 3 else if wordF p.evs 0 l then 0 else 2) := Lib.hid (by unfold rpword; rw [if_pos h0])
    rw [h0] at HC
    replace HC := Lib.hid HC
    clear h0
    go_enter Try.func22, Try.ntmps22
    go_upto_region 1 with (fail)
    (generalize hW : World.alloc _ _ = wb; have q0_0 := (congrArg (fun W : World => W.cell? ⟨w.heap.size, 0, none⟩) hW).symm; simp [go_sem] at q0_0; have q0_1 := (congrArg (fun W : World => W.cell? ⟨w.heap.size, 1, none⟩) hW).symm; simp [go_sem] at q0_1; have q0_2 := (congrArg (fun W : World => W.cell? ⟨w.heap.size, 2, none⟩) hW).symm; simp [go_sem] at q0_2; have q0_3 := (congrArg (fun W : World => W.cell? ⟨w.heap.size, 3, none⟩) hW).symm; simp [go_sem] at q0_3; have q0_4 := (congrArg (fun W : World => W.cell? ⟨w.heap.size, 4, none⟩) hW).symm; simp [go_sem] at q0_4; have qz0 : w.heap.size < wb.heap.size := (by rw [← hW]; simp [go_sem]; try omega); have HBW : Hid (Bel w wb) := Lib.hid (by rw [← hW]; (repeat (first | exact Ext.bel _ | exact Bel.refl | refine Bel.alloc ?_ _ | refine Bel.drew ?_ | refine Bel.drewN ?_ _))); clear hW; have hkw := HBW.out.cells)
    by_cases h2 : 200 < l.length
    · rw [if_pos h2] at HR
      go_wp2_with (first | (go_at_call 26; (with_reducible refine (HC.out _ (HBW.out.trans (by (repeat (first | exact Ext.bel _ | exact Bel.refl | refine Bel.alloc ?_ _ | refine Bel.drew ?_ | refine Bel.drewN ?_ _))))).mono ?_); rintro e w2 ⟨rfl, hb2⟩; obtain ⟨x, rfl⟩ : ∃ x : Ext wb, w2 = x.w := ext_of (hb2.after (by (repeat (first | exact Ext.bel _ | exact Bel.refl | refine Bel.alloc ?_ _ | refine Bel.drew ?_ | refine Bel.drewN ?_ _)))); clear hb2))
      go_ret
      exact ⟨ret_int (by rw [HR.out]), HBW.out.trans x.bel⟩
    rw [if_neg h2] at HR
    go_wp2_with (first | (go_at_call 26; (with_reducible refine (HC.out _ (HBW.out.trans (by (repeat (first | exact Ext.bel _ | exact Bel.refl | refine Bel.alloc ?_ _ | refine Bel.drew ?_ | refine Bel.drewN ?_ _))))).mono ?_); rintro e w2 ⟨rfl, hb2⟩; obtain ⟨x, rfl⟩ : ∃ x : Ext wb, w2 = x.w := ext_of (hb2.after (by (repeat (first | exact Ext.bel _ | exact Bel.refl | refine Bel.alloc ?_ _ | refine Bel.drew ?_ | refine Bel.drewN ?_ _)))); clear hb2))
    clear HC
    go_loopw [6] (fun si wr => ∃ (j : Nat) (z : Ext wb), j ≤ l.length ∧ si = .int .i64 j ∧ wr = z.w ∧ 0 ≤ lastAt l j ∧ wordF p.evs (lastAt l j) (l.drop j) = wordF p.evs 0 l) (fun si _ => l.length - (intOf si).toNat)
    case atStart => exact ⟨0, x, by omega, rfl, rfl, by simp [lastAt], rfl⟩
    case round =>
      clear x
      obtain ⟨j, x, hj, rfl, rfl, hla, hd⟩ := hrel
      by_cases hlt : j < l.length
      · rw [ps_drop hlt] at hd
        obtain ⟨b, off, rfl, hb, hA⟩ := HA.out (by omega)
        obtain ⟨c0, c1⟩ := hA j hlt
        have hbw : b < wb.heap.size := Nat.lt_of_lt_of_le hb HBW.out.le
        have hprev : ∀ i, j = i + 1 → w.cell? ⟨b, off + i * 2, none⟩ = some (.int .i64 (psAt l i).at_) := fun i hi => (hA i (by omega)).c0
        by_cases hbad : stampBad p.evs (lastAt l j) (psAt l j) = true
        · have HD : Hid (wordF p.evs 0 l = false) := Lib.hid (by rw [← hd, wordF_t hbad])
          have h3 := stampBad_true.mp hbad
          clear hd hA hbad
          cases j with
          | zero =>
            simp only [lastAt] at h3
            simp only [Nat.zero_mul, Nat.add_zero] at c0 c1
            have hj0 : decide ((0 : Int) < ((0 : Nat) : Int)) = false := by simp
            clear hprev
            have HX : ((psAt l 0).at_ < 0) ∨ (¬ (psAt l 0).at_ < 0 ∧ 1000000 < (psAt l 0).at_) ∨ (¬ (psAt l 0).at_ < 0 ∧ ¬ 1000000 < (psAt l 0).at_ ∧ (psAt l 0).ev < 0) ∨ (¬ (psAt l 0).at_ < 0 ∧ ¬ 1000000 < (psAt l 0).at_ ∧ ¬ (psAt l 0).ev < 0 ∧ p.evs ≤ (psAt l 0).ev) := by omega
            rcases HX with HX | HX | HX | HX
            · have f0 : decide ((psAt l 0).at_ < 0) = true := by first | (simp; done) | (simp; omega)
              clear HX
              go_upto_region 9 with (fail)
              (refine wp_region_ext (wb := wb) (by (repeat (first | exact Ext.bel _ | exact Bel.refl | refine Bel.alloc ?_ _ | refine Bel.drew ?_ | refine Bel.drewN ?_ _))) (by kernel_rfl) (by kernel_rfl) ?_; (repeat (any_goals (first | go_big_quiet_step (fail) | quiet_step (fail) | (refine wpQuiet_step (fun K hK => ?_); go_simp; split <;> (refine hK _ ?_; clear hK K))))); all_goals (refine wpQuiet_nil ?_; intro _ hw'; obtain ⟨y, hw''⟩ := hw'; subst hw''))
              go_wp2
              go_ret
              exact ⟨ret_int (by rw [HR.out, HD.out]; rfl), HBW.out.trans y.bel⟩
            · have f0 : decide ((psAt l 0).at_ < 0) = false := by first | (simp; done) | (simp; omega)
              have f1 : decide (1000000 < (psAt l 0).at_) = true := by first | (simp; done) | (simp; omega)
              clear HX
              go_upto_region 9 with (fail)
              (refine wp_region_ext (wb := wb) (by (repeat (first | exact Ext.bel _ | exact Bel.refl | refine Bel.alloc ?_ _ | refine Bel.drew ?_ | refine Bel.drewN ?_ _))) (by kernel_rfl) (by kernel_rfl) ?_; (repeat (any_goals (first | go_big_quiet_step (fail) | quiet_step (fail) | (refine wpQuiet_step (fun K hK => ?_); go_simp; split <;> (refine hK _ ?_; clear hK K))))); all_goals (refine wpQuiet_nil ?_; intro _ hw'; obtain ⟨y, hw''⟩ := hw'; subst hw''))
              go_wp2
              go_ret
              exact ⟨ret_int (by rw [HR.out, HD.out]; rfl), HBW.out.trans y.bel⟩
            · have f0 : decide ((psAt l 0).at_ < 0) = false := by first | (simp; done) | (simp; omega)
              have f1 : decide (1000000 < (psAt l 0).at_) = false := by first | (simp; done) | (simp; omega)
              have f2 : decide ((psAt l 0).ev < 0) = true := by first | (simp; done) | (simp; omega)
              clear HX
              go_upto_region 9 with (fail)
              (refine wp_region_ext (wb := wb) (by (repeat (first | exact Ext.bel _ | exact Bel.refl | refine Bel.alloc ?_ _ | refine Bel.drew ?_ | refine Bel.drewN ?_ _))) (by kernel_rfl) (by kernel_rfl) ?_; (repeat (any_goals (first | go_big_quiet_step (fail) | quiet_step (fail) | (refine wpQuiet_step (fun K hK => ?_); go_simp; split <;> (refine hK _ ?_; clear hK K))))); all_goals (refine wpQuiet_nil ?_; intro _ hw'; obtain ⟨y, hw''⟩ := hw'; subst hw''))
              go_wp2
              go_ret
              exact ⟨ret_int (by rw [HR.out, HD.out]; rfl), HBW.out.trans y.bel⟩
            · have f0 : decide ((psAt l 0).at_ < 0) = false := by first | (simp; done) | (simp; omega)
              have f1 : decide (1000000 < (psAt l 0).at_) = false := by first | (simp; done) | (simp; omega)
              have f2 : decide ((psAt l 0).ev < 0) = false := by first | (simp; done) | (simp; omega)
              have f3 : decide (p.evs ≤ (psAt l 0).ev) = true := by first | (simp; done) | (simp; omega)
              clear HX
              go_upto_region 9 with (fail)
              (refine wp_region_ext (wb := wb) (by (repeat (first | exact Ext.bel _ | exact Bel.refl | refine Bel.alloc ?_ _ | refine Bel.drew ?_ | refine Bel.drewN ?_ _))) (by kernel_rfl) (by kernel_rfl) ?_; (repeat (any_goals (first | go_big_quiet_step (fail) | quiet_step (fail) | (refine wpQuiet_step (fun K hK => ?_); go_simp; split <;> (refine hK _ ?_; clear hK K))))); all_goals (refine wpQuiet_nil ?_; intro _ hw'; obtain ⟨y, hw''⟩ := hw'; subst hw''))
              go_wp2
              go_ret
              exact ⟨ret_int (by rw [HR.out, HD.out]; rfl), HBW.out.trans y.bel⟩
          | succ i =>
            have cp := hprev i rfl
            simp only [lastAt] at h3 hla
            clear hprev
            have HX : ((psAt l (i + 1)).at_ < 0) ∨ (¬ (psAt l (i + 1)).at_ < 0 ∧ 1000000 < (psAt l (i + 1)).at_) ∨ (¬ (psAt l (i + 1)).at_ < 0 ∧ ¬ 1000000 < (psAt l (i + 1)).at_ ∧ (psAt l (i + 1)).at_ < (psAt l i).at_) ∨ (¬ (psAt l (i + 1)).at_ < 0 ∧ ¬ 1000000 < (psAt l (i + 1)).at_ ∧ ¬ (psAt l (i + 1)).at_ < (psAt l i).at_ ∧ (psAt l (i + 1)).ev < 0) ∨ (¬ (psAt l (i + 1)).at_ < 0 ∧ ¬ 1000000 < (psAt l (i + 1)).at_ ∧ ¬ (psAt l (i + 1)).at_ < (psAt l i).at_ ∧ ¬ (psAt l (i + 1)).ev < 0 ∧ p.evs ≤ (psAt l (i + 1)).ev) := by omega
            rcases HX with HX | HX | HX | HX | HX
            · have f0 : decide ((psAt l (i + 1)).at_ < 0) = true := by first | (simp; done) | (simp; omega)
              clear HX
              go_upto_region 9 with (fail)
              (refine wp_region_ext (wb := wb) (by (repeat (first | exact Ext.bel _ | exact Bel.refl | refine Bel.alloc ?_ _ | refine Bel.drew ?_ | refine Bel.drewN ?_ _))) (by kernel_rfl) (by kernel_rfl) ?_; (repeat (any_goals (first | go_big_quiet_step (fail) | quiet_step (fail) | (refine wpQuiet_step (fun K hK => ?_); go_simp; split <;> (refine hK _ ?_; clear hK K))))); all_goals (refine wpQuiet_nil ?_; intro _ hw'; obtain ⟨y, hw''⟩ := hw'; subst hw''))
              go_wp2
              go_ret
              exact ⟨ret_int (by rw [HR.out, HD.out]; rfl), HBW.out.trans y.bel⟩
            · have f0 : decide ((psAt l (i + 1)).at_ < 0) = false := by first | (simp; done) | (simp; omega)
              have f1 : decide (1000000 < (psAt l (i + 1)).at_) = true := by first | (simp; done) | (simp; omega)
              clear HX
              go_upto_region 9 with (fail)
              (refine wp_region_ext (wb := wb) (by (repeat (first | exact Ext.bel _ | exact Bel.refl | refine Bel.alloc ?_ _ | refine Bel.drew ?_ | refine Bel.drewN ?_ _))) (by kernel_rfl) (by kernel_rfl) ?_; (repeat (any_goals (first | go_big_quiet_step (fail) | quiet_step (fail) | (refine wpQuiet_step (fun K hK => ?_); go_simp; split <;> (refine hK _ ?_; clear hK K))))); all_goals (refine wpQuiet_nil ?_; intro _ hw'; obtain ⟨y, hw''⟩ := hw'; subst hw''))
              go_wp2
              go_ret
              exact ⟨ret_int (by rw [HR.out, HD.out]; rfl), HBW.out.trans y.bel⟩
            · have f0 : decide ((psAt l (i + 1)).at_ < 0) = false := by first | (simp; done) | (simp; omega)
              have f1 : decide (1000000 < (psAt l (i + 1)).at_) = false := by first | (simp; done) | (simp; omega)
              have f2 : decide ((0 : Int) < (i : Int) + 1) = true := by first | (simp; done) | (simp; omega)
              have f3 : decide ((psAt l (i + 1)).at_ < (psAt l i).at_) = true := by first | (simp; done) | (simp; omega)
              clear HX
              go_upto_region 9 with (fail)
              (refine wp_region_ext (wb := wb) (by (repeat (first | exact Ext.bel _ | exact Bel.refl | refine Bel.alloc ?_ _ | refine Bel.drew ?_ | refine Bel.drewN ?_ _))) (by kernel_rfl) (by kernel_rfl) ?_; (repeat (any_goals (first | go_big_quiet_step (fail) | quiet_step (fail) | (refine wpQuiet_step (fun K hK => ?_); go_simp; split <;> (refine hK _ ?_; clear hK K))))); all_goals (refine wpQuiet_nil ?_; intro _ hw'; obtain ⟨y, hw''⟩ := hw'; subst hw''))
              go_wp2
              go_ret
              exact ⟨ret_int (by rw [HR.out, HD.out]; rfl), HBW.out.trans y.bel⟩
            · have f0 : decide ((psAt l (i + 1)).at_ < 0) = false := by first | (simp; done) | (simp; omega)
              have f1 : decide (1000000 < (psAt l (i + 1)).at_) = false := by first | (simp; done) | (simp; omega)
              have f2 : decide ((0 : Int) < (i : Int) + 1) = true := by first | (simp; done) | (simp; omega)
              have f3 : decide ((psAt l (i + 1)).at_ < (psAt l i).at_) = false := by first | (simp; done) | (simp; omega)
              have f4 : decide ((psAt l (i + 1)).ev < 0) = true := by first | (simp; done) | (simp; omega)
              clear HX
              go_upto_region 9 with (fail)
              (refine wp_region_ext (wb := wb) (by (repeat (first | exact Ext.bel _ | exact Bel.refl | refine Bel.alloc ?_ _ | refine Bel.drew ?_ | refine Bel.drewN ?_ _))) (by kernel_rfl) (by kernel_rfl) ?_; (repeat (any_goals (first | go_big_quiet_step (fail) | quiet_step (fail) | (refine wpQuiet_step (fun K hK => ?_); go_simp; split <;> (refine hK _ ?_; clear hK K))))); all_goals (refine wpQuiet_nil ?_; intro _ hw'; obtain ⟨y, hw''⟩ := hw'; subst hw''))
              go_wp2
              go_ret
              exact ⟨ret_int (by rw [HR.out, HD.out]; rfl), HBW.out.trans y.bel⟩
            · have f0 : decide ((psAt l (i + 1)).at_ < 0) = false := by first | (simp; done) | (simp; omega)
              have f1 : decide (1000000 < (psAt l (i + 1)).at_) = false := by first | (simp; done) | (simp; omega)
              have f2 : decide ((0 : Int) < (i : Int) + 1) = true := by first | (simp; done) | (simp; omega)
              have f3 : decide ((psAt l (i + 1)).at_ < (psAt l i).at_) = false := by first | (simp; done) | (simp; omega)
              have f4 : decide ((psAt l (i + 1)).ev < 0) = false := by first | (simp; done) | (simp; omega)
              have f5 : decide (p.evs ≤ (psAt l (i + 1)).ev) = true := by first | (simp; done) | (simp; omega)
              clear HX
              go_upto_region 9 with (fail)
              (refine wp_region_ext (wb := wb) (by (repeat (first | exact Ext.bel _ | exact Bel.refl | refine Bel.alloc ?_ _ | refine Bel.drew ?_ | refine Bel.drewN ?_ _))) (by kernel_rfl) (by kernel_rfl) ?_; (repeat (any_goals (first | go_big_quiet_step (fail) | quiet_step (fail) | (refine wpQuiet_step (fun K hK => ?_); go_simp; split <;> (refine hK _ ?_; clear hK K))))); all_goals (refine wpQuiet_nil ?_; intro _ hw'; obtain ⟨y, hw''⟩ := hw'; subst hw''))
              go_wp2
              go_ret
              exact ⟨ret_int (by rw [HR.out, HD.out]; rfl), HBW.out.trans y.bel⟩
        · have hbad0 : stampBad p.evs (lastAt l j) (psAt l j) = false := by simpa using hbad
          have HD : Hid (wordF p.evs (lastAt l (j + 1)) (l.drop (j + 1)) = wordF p.evs 0 l) := Lib.hid (by rw [← hd, wordF_f hbad0]; rfl)
          obtain ⟨h3, h4, h5, h6⟩ := stampBad_false.mp hbad0
          have HL : Hid (0 ≤ lastAt l (j + 1)) := Lib.hid (by show 0 ≤ (psAt l j).at_; omega)
          clear hd hA hbad hbad0
          cases j with
          | zero =>
            simp only [lastAt] at h3
            simp only [Nat.zero_mul, Nat.add_zero] at c0 c1
            have hj0 : decide ((0 : Int) < ((0 : Nat) : Int)) = false := by simp
            clear hprev
            have f0 : decide ((psAt l 0).at_ < 0) = false := by first | (simp; done) | (simp; omega)
            have f1 : decide (1000000 < (psAt l 0).at_) = false := by first | (simp; done) | (simp; omega)
            have f2 : decide ((psAt l 0).ev < 0) = false := by first | (simp; done) | (simp; omega)
            have f3 : decide (p.evs ≤ (psAt l 0).ev) = false := by first | (simp; done) | (simp; omega)
            go_upto_region 9 with (fail)
            (refine wp_region_ext (wb := wb) (by (repeat (first | exact Ext.bel _ | exact Bel.refl | refine Bel.alloc ?_ _ | refine Bel.drew ?_ | refine Bel.drewN ?_ _))) (by kernel_rfl) (by kernel_rfl) ?_; (repeat (any_goals (first | go_big_quiet_step (fail) | quiet_step (fail) | (refine wpQuiet_step (fun K hK => ?_); go_simp; split <;> (refine hK _ ?_; clear hK K))))); all_goals (refine wpQuiet_nil ?_; intro _ hw'; obtain ⟨y, hw''⟩ := hw'; subst hw''))
            go_wp2
            go_roundw
            case rel => exact ⟨0 + 1, y, by omega, by go_num, rfl, HL.out, HD.out⟩
            case measure => simp [intOf]; try omega
          | succ i =>
            have cp := hprev i rfl
            simp only [lastAt] at h3 hla
            clear hprev
            have f0 : decide ((psAt l (i + 1)).at_ < 0) = false := by first | (simp; done) | (simp; omega)
            have f1 : decide (1000000 < (psAt l (i + 1)).at_) = false := by first | (simp; done) | (simp; omega)
            have f2 : decide ((0 : Int) < (i : Int) + 1) = true := by first | (simp; done) | (simp; omega)
            have f3 : decide ((psAt l (i + 1)).at_ < (psAt l i).at_) = false := by first | (simp; done) | (simp; omega)
            have f4 : decide ((psAt l (i + 1)).ev < 0) = false := by first | (simp; done) | (simp; omega)
            have f5 : decide (p.evs ≤ (psAt l (i + 1)).ev) = false := by first | (simp; done) | (simp; omega)
            go_upto_region 9 with (fail)
            (refine wp_region_ext (wb := wb) (by (repeat (first | exact Ext.bel _ | exact Bel.refl | refine Bel.alloc ?_ _ | refine Bel.drew ?_ | refine Bel.drewN ?_ _))) (by kernel_rfl) (by kernel_rfl) ?_; (repeat (any_goals (first | go_big_quiet_step (fail) | quiet_step (fail) | (refine wpQuiet_step (fun K hK => ?_); go_simp; split <;> (refine hK _ ?_; clear hK K))))); all_goals (refine wpQuiet_nil ?_; intro _ hw'; obtain ⟨y, hw''⟩ := hw'; subst hw''))
            go_wp2
            go_roundw
            case rel => exact ⟨i + 1 + 1, y, by omega, by go_num, rfl, HL.out, HD.out⟩
            case measure => simp [intOf]; try omega
      · obtain rfl : j = l.length := by omega
        have HD : Hid (wordF p.evs 0 l = true) := Lib.hid (by rw [← hd]; simp [wordF])
        clear hd
        go_wp2
        go_ret
        exact ⟨ret_int (by rw [HR.out, HD.out]; rfl), HBW.out.trans x.bel⟩
  · have HR : Hid (rpword p l = rpchk p) := Lib.hid (by unfold rpword; rw [if_neg h0])
    replace HC := Lib.hid HC
    have hz : (rpchk p == 0) = false := by simpa using h0
    generalize rpchk p = e at *
    clear h0
    go_enter Try.func22, Try.ntmps22
    go_upto_region 1 with (fail)
    (generalize hW : World.alloc _ _ = wb; have q0_0 := (congrArg (fun W : World => W.cell? ⟨w.heap.size, 0, none⟩) hW).symm; simp [go_sem] at q0_0; have q0_1 := (congrArg (fun W : World => W.cell? ⟨w.heap.size, 1, none⟩) hW).symm; simp [go_sem] at q0_1; have q0_2 := (congrArg (fun W : World => W.cell? ⟨w.heap.size, 2, none⟩) hW).symm; simp [go_sem] at q0_2; have q0_3 := (congrArg (fun W : World => W.cell? ⟨w.heap.size, 3, none⟩) hW).symm; simp [go_sem] at q0_3; have q0_4 := (congrArg (fun W : World => W.cell? ⟨w.heap.size, 4, none⟩) hW).symm; simp [go_sem] at q0_4; have qz0 : w.heap.size < wb.heap.size := (by rw [← hW]; simp [go_sem]; try omega); have HBW : Hid (Bel w wb) := Lib.hid (by rw [← hW]; (repeat (first | exact Ext.bel _ | exact Bel.refl | refine Bel.alloc ?_ _ | refine Bel.drew ?_ | refine Bel.drewN ?_ _))); clear hW; have hkw := HBW.out.cells)
    go_wp2_with (first | (go_at_call 26; (with_reducible refine (HC.out _ (HBW.out.trans (by (repeat (first | exact Ext.bel _ | exact Bel.refl | refine Bel.alloc ?_ _ | refine Bel.drew ?_ | refine Bel.drewN ?_ _))))).mono ?_); rintro e w2 ⟨rfl, hb2⟩; obtain ⟨x, rfl⟩ : ∃ x : Ext wb, w2 = x.w := ext_of (hb2.after (by (repeat (first | exact Ext.bel _ | exact Bel.refl | refine Bel.alloc ?_ _ | refine Bel.drew ?_ | refine Bel.drewN ?_ _)))); clear hb2))
    go_ret
    exact ⟨ret_int HR.out.symm, HBW.out.trans x.bel⟩
theorem rword_any (p : PP) (gv ev sv : Value) (l : List PS) (w : World) (h : PropAt w w.heap.size gv ev p) (hs : PSized p) (hl : StampsAt w w.heap.size sv l) (_ : l.length ≤ 1000000) :
    Calls Try.prog 22 #[.agg #[.int .i64 p.evs, .int .i64 p.clks, .int .i64 p.ini, gv, ev], sv] w fun e w' => e = .returned (.int .i64 (rpword p l)) ∧ Bel w w' :=
  rword_all p gv ev sv l w h hs hl
end Go.Proofs.Ythidbmeocifkcaa
