import Derived.Test.YthidbmeocifkcaaZPpchk
namespace Go.Proofs.Ythidbmeocifkcaa
open Go.RowKit
def stampBad (evs last : Int) (s : PS) : Bool := decide (s.at_ < last) || decide (1000000 < s.at_) || !withinB s.ev evs
def wordF (evs : Int) : Int → List PS → Bool
  | _, [] => true
  | last, s :: ss => if stampBad evs last s then false else wordF evs s.at_ ss
def rpword (p : PP) (l : List PS) : Int := if rpchk p = 0 then (if 200 < l.length then 3 else if wordF p.evs 0 l then 0 else 2) else rpchk p
theorem wordF_t {evs last : Int} {s : PS} {ss : List PS} (h : stampBad evs last s = true) : wordF evs last (s :: ss) = false := by simp only [wordF, h, if_true]
theorem wordF_f {evs last : Int} {s : PS} {ss : List PS} (h : stampBad evs last s = false) : wordF evs last (s :: ss) = wordF evs s.at_ ss := by simp only [wordF, h]; rfl
theorem stampBad_true {evs last : Int} {s : PS} : stampBad evs last s = true ↔ (s.at_ < last ∨ 1000000 < s.at_ ∨ s.ev < 0 ∨ evs ≤ s.ev) := by
  simp only [stampBad, withinB, Bool.or_eq_true, decide_eq_true_eq, Bool.not_eq_true', Bool.and_eq_false_iff, decide_eq_false_iff_not]; omega
theorem stampBad_false {evs last : Int} {s : PS} : stampBad evs last s = false ↔ (last ≤ s.at_ ∧ s.at_ ≤ 1000000 ∧ 0 ≤ s.ev ∧ s.ev < evs) := by
  rw [← Bool.not_eq_true, stampBad_true]; omega
set_option maxRecDepth 100000 in
set_option maxHeartbeats 8000000 in
theorem pword_any (p : PP) (gv ev sv : Value) (l : List PS) (w : World) (h : PropAt w w.heap.size gv ev p) (hs : PSized p) (hl : StampsAt w w.heap.size sv l) (hll : l.length ≤ 1000000) :
    Calls Try.prog 27 #[.agg #[.int .i64 p.evs, .int .i64 p.clks, .int .i64 p.ini, gv, ev], sv] w fun e w' => e = .returned (.int .i64 (rpword p l)) ∧ Bel w w' := by
  have HC := fun (W : World) (hW : Bel w W) => pcheck35_any p gv ev W (h.keep hW.keeps hW.le) hs
  obtain ⟨A1, k1, rfl, hk1⟩ := h.g.form
  obtain ⟨A2, k2, rfl, hk2⟩ := h.e.form
  obtain ⟨A, c, rfl, hc, hA⟩ := hl
  have HA := Lib.hid hA
  clear h hs hA
  by_cases h0 : rpchk p = 0
  · have HR : Hid (rpword p l = if 200 < l.length then 3 else if wordF p.evs 0 l then 0 else 2) := Lib.hid (by unfold rpword; rw [if_pos h0])
    rw [h0] at HC
    replace HC := Lib.hid HC
    clear h0
    go_enter Try.func27, Try.ntmps27
    go_upto_region 1 with (fail)
    (generalize hW : World.alloc _ _ = wb; have q0_0 := (congrArg (fun W : World => W.cell? ⟨w.heap.size, 0, none⟩) hW).symm; simp [go_sem] at q0_0; have q0_1 := (congrArg (fun W : World => W.cell? ⟨w.heap.size, 1, none⟩) hW).symm; simp [go_sem] at q0_1; have q0_2 := (congrArg (fun W : World => W.cell? ⟨w.heap.size, 2, none⟩) hW).symm; simp [go_sem] at q0_2; have q0_3 := (congrArg (fun W : World => W.cell? ⟨w.heap.size, 3, none⟩) hW).symm; simp [go_sem] at q0_3; have q0_4 := (congrArg (fun W : World => W.cell? ⟨w.heap.size, 4, none⟩) hW).symm; simp [go_sem] at q0_4; have qz0 : w.heap.size < wb.heap.size := (by rw [← hW]; simp [go_sem]; try omega); have HBW : Hid (Bel w wb) := Lib.hid (by rw [← hW]; (repeat (first | exact Ext.bel _ | exact Bel.refl | refine Bel.alloc ?_ _ | refine Bel.drew ?_ | refine Bel.drewN ?_ _))); clear hW; have hkw := HBW.out.cells)
    by_cases h2 : 200 < l.length
    · rw [if_pos h2] at HR
      go_wp2_with (first | (go_at_call 34; (with_reducible refine (HC.out _ (HBW.out.trans (by (repeat (first | exact Ext.bel _ | exact Bel.refl | refine Bel.alloc ?_ _ | refine Bel.drew ?_ | refine Bel.drewN ?_ _))))).mono ?_); rintro e w2 ⟨rfl, hb2⟩; obtain ⟨x, rfl⟩ : ∃ x : Ext wb, w2 = x.w := ext_of (hb2.after (by (repeat (first | exact Ext.bel _ | exact Bel.refl | refine Bel.alloc ?_ _ | refine Bel.drew ?_ | refine Bel.drewN ?_ _)))); clear hb2))
      go_ret
      exact ⟨ret_int (by rw [HR.out]), HBW.out.trans x.bel⟩
    rw [if_neg h2] at HR
    go_wp2_with (first | (go_at_call 34; (with_reducible refine (HC.out _ (HBW.out.trans (by (repeat (first | exact Ext.bel _ | exact Bel.refl | refine Bel.alloc ?_ _ | refine Bel.drew ?_ | refine Bel.drewN ?_ _))))).mono ?_); rintro e w2 ⟨rfl, hb2⟩; obtain ⟨x, rfl⟩ : ∃ x : Ext wb, w2 = x.w := ext_of (hb2.after (by (repeat (first | exact Ext.bel _ | exact Bel.refl | refine Bel.alloc ?_ _ | refine Bel.drew ?_ | refine Bel.drewN ?_ _)))); clear hb2))
    clear HC
    go_loopw [6, 19] (fun sa si wr => ∃ (j : Nat) (la : Int) (z : Ext wb), j ≤ l.length ∧ sa = .int .i64 la ∧ si = .int .i64 j ∧ wr = z.w ∧ wordF p.evs la (l.drop j) = wordF p.evs 0 l) (fun _ si _ => l.length - (intOf si).toNat)
    case atStart => exact ⟨0, 0, x, by omega, rfl, rfl, rfl, rfl⟩
    case round =>
      clear x
      obtain ⟨j, la, x, hj, rfl, rfl, rfl, hd⟩ := hrel
      by_cases hlt : j < l.length
      · rw [ps_drop hlt] at hd
        obtain ⟨b, off, rfl, hb, hA⟩ := HA.out (by omega)
        obtain ⟨c0, c1⟩ := hA j hlt
        have hbw : b < wb.heap.size := Nat.lt_of_lt_of_le hb HBW.out.le
        obtain ⟨wv, hwv⟩ : ∃ b, withinB (psAt l j).ev p.evs = b := ⟨_, rfl⟩
        have HV := Lib.hid fun W => within_at _ _ W hwv
        by_cases hbad : stampBad p.evs la (psAt l j) = true
        · have HD : Hid (wordF p.evs 0 l = false) := Lib.hid (by rw [← hd, wordF_t hbad])
          have hcs : (psAt l j).at_ < la ∨ (¬ (psAt l j).at_ < la ∧ 1000000 < (psAt l j).at_) ∨ (¬ (psAt l j).at_ < la ∧ ¬ 1000000 < (psAt l j).at_ ∧ wv = false) := by
            have h3 := stampBad_true.mp hbad
            by_cases h6 : (psAt l j).at_ < la
            · exact .inl h6
            · by_cases h7 : 1000000 < (psAt l j).at_
              · exact .inr (.inl ⟨h6, h7⟩)
              · refine .inr (.inr ⟨h6, h7, ?_⟩)
                rw [← hwv, withinB_false]
                omega
          clear hd hA hbad hwv
          rcases hcs with h3 | ⟨h3, h4⟩ | ⟨h3, h4, rfl⟩
          all_goals
            go_wp2_with (first | (go_at_call 42; (with_reducible refine (HV.out _).mono ?_); rintro e w2 ⟨rfl, rfl⟩))
            go_ret
            exact ⟨ret_int (by rw [HR.out, HD.out]; rfl), HBW.out.trans (x.bel.alloc _)⟩
        · have hbad0 : stampBad p.evs la (psAt l j) = false := by simpa using hbad
          have HD : Hid (wordF p.evs (psAt l j).at_ (l.drop (j + 1)) = wordF p.evs 0 l) := Lib.hid (by rw [← hd, wordF_f hbad0])
          have hcs := stampBad_false.mp hbad0
          obtain ⟨h3, h4, h5, h6⟩ := hcs
          obtain rfl : wv = true := by rw [← hwv, withinB_true]; exact ⟨h5, h6⟩
          clear hd hA hbad hbad0 hwv
          go_wp2_with (first | (go_at_call 42; (with_reducible refine (HV.out _).mono ?_); rintro e w2 ⟨rfl, rfl⟩))
          go_roundw
          case rel => exact ⟨j + 1, _, ⟨_, x.bel.alloc _⟩, by omega, rfl, by go_num, rfl, HD.out⟩
          case measure => simp [intOf]; omega
      · obtain rfl : j = l.length := by omega
        have HD : Hid (wordF p.evs 0 l = true) := Lib.hid (by rw [← hd]; simp [wordF])
        clear hd
        go_wp2
        go_ret
        exact ⟨ret_int (by rw [HR.out, HD.out]; rfl), HBW.out.trans x.bel⟩
  · have HR : Hid (rpword p l = rpchk p) := Lib.hid (by unfold rpword; rw [if_neg h0])
    replace HC := Lib.hid HC
    have hz : (rpchk p == 0) = false := by simpa using h0
    generalize rpchk p = e at *
    clear h0
    go_enter Try.func27, Try.ntmps27
    go_upto_region 1 with (fail)
    (generalize hW : World.alloc _ _ = wb; have q0_0 := (congrArg (fun W : World => W.cell? ⟨w.heap.size, 0, none⟩) hW).symm; simp [go_sem] at q0_0; have q0_1 := (congrArg (fun W : World => W.cell? ⟨w.heap.size, 1, none⟩) hW).symm; simp [go_sem] at q0_1; have q0_2 := (congrArg (fun W : World => W.cell? ⟨w.heap.size, 2, none⟩) hW).symm; simp [go_sem] at q0_2; have q0_3 := (congrArg (fun W : World => W.cell? ⟨w.heap.size, 3, none⟩) hW).symm; simp [go_sem] at q0_3; have q0_4 := (congrArg (fun W : World => W.cell? ⟨w.heap.size, 4, none⟩) hW).symm; simp [go_sem] at q0_4; have qz0 : w.heap.size < wb.heap.size := (by rw [← hW]; simp [go_sem]; try omega); have HBW : Hid (Bel w wb) := Lib.hid (by rw [← hW]; (repeat (first | exact Ext.bel _ | exact Bel.refl | refine Bel.alloc ?_ _ | refine Bel.drew ?_ | refine Bel.drewN ?_ _))); clear hW; have hkw := HBW.out.cells)
    go_wp2_with (first | (go_at_call 34; (with_reducible refine (HC.out _ (HBW.out.trans (by (repeat (first | exact Ext.bel _ | exact Bel.refl | refine Bel.alloc ?_ _ | refine Bel.drew ?_ | refine Bel.drewN ?_ _))))).mono ?_); rintro e w2 ⟨rfl, hb2⟩; obtain ⟨x, rfl⟩ : ∃ x : Ext wb, w2 = x.w := ext_of (hb2.after (by (repeat (first | exact Ext.bel _ | exact Bel.refl | refine Bel.alloc ?_ _ | refine Bel.drew ?_ | refine Bel.drewN ?_ _)))); clear hb2))
    go_ret
    exact ⟨ret_int HR.out.symm, HBW.out.trans x.bel⟩
end Go.Proofs.Ythidbmeocifkcaa
