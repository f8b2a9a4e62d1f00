import Derived.Test.YthidbmeocifkcaaZPrchk
import Derived.Test.YthidbmeocifkcaaZPtog
import Derived.Deep.CutRange
namespace Go.Proofs.Ythidbmeocifkcaa
open Go.RowKit
theorem within_w (i m : Int) (W : World) {b : Bool} (h : withinB i m = b) : Calls Try.prog 42 #[.int .i64 i, .int .i64 m] W fun e w' => e = .returned (.bool b) ∧ Bel W w' :=
  (within_at i m W h).mono fun _ _ ⟨h1, h2⟩ => ⟨h1, h2 ▸ Bel.refl⟩
theorem headBad_w (p : PP) (h : i64 p.evs) : headBad p = (!withinB (wrap64 (p.evs - 1)) 8 || !withinB p.clks 4 || !withinB ((p.good.length : Int) - 1) 12 || !withinB p.ini p.good.length || decide (60 < p.edges.length)) := by
  obtain ⟨h1, h2⟩ := h
  have e : withinB (wrap64 (p.evs - 1)) 8 = (decide (1 ≤ p.evs) && decide (p.evs ≤ 8)) := by
    rw [Bool.eq_iff_iff]; simp only [withinB, Bool.and_eq_true, decide_eq_true_eq]; unfold wrap64; omega
  rw [e, Bool.eq_iff_iff]
  simp only [headBad, withinB, Bool.or_eq_true, Bool.not_eq_true', Bool.and_eq_false_iff, decide_eq_true_eq, decide_eq_false_iff_not]
  omega
theorem edgeHead_w (p : PP) (x : PE) : edgeHead p x = (!withinB x.frm p.good.length || !withinB x.to p.good.length || !withinB x.ev p.evs || decide (16 < x.grd.length) || decide (3 < x.rst.length)) := by
  rw [Bool.eq_iff_iff]
  simp only [edgeHead, withinB, Bool.or_eq_true, Bool.not_eq_true', Bool.and_eq_false_iff, decide_eq_true_eq, decide_eq_false_iff_not]
  omega
set_option maxRecDepth 100000 in
set_option maxHeartbeats 16000000 in
theorem pcheck35_any (p : PP) (gv ev : Value) (w : World) (h : PropAt w w.heap.size gv ev p) (hs : PSized p) :
    Calls Try.prog 34 #[.agg #[.int .i64 p.evs, .int .i64 p.clks, .int .i64 p.ini, gv, ev]] w fun e w' => e = .returned (.int .i64 (rpchk p)) ∧ Bel w w' := by
  rw [← pchk_eq]
  have HE := Lib.hid h.e
  have HS := Lib.hid hs
  obtain ⟨A1, k1, rfl, hk1⟩ := h.g.form
  obtain ⟨A2, k2, rfl, hk2⟩ := h.e.form
  have hlg := hs.g
  have hle := hs.e
  have HB := Lib.hid (headBad_w p hs.wf.e)
  obtain ⟨b1, hb1⟩ : ∃ b, withinB (wrap64 (p.evs - 1)) 8 = b := ⟨_, rfl⟩
  obtain ⟨b2, hb2⟩ : ∃ b, withinB p.clks 4 = b := ⟨_, rfl⟩
  obtain ⟨b3, hb3⟩ : ∃ b, withinB ((p.good.length : Int) - 1) 12 = b := ⟨_, rfl⟩
  obtain ⟨b4, hb4⟩ : ∃ b, withinB p.ini p.good.length = b := ⟨_, rfl⟩
  rw [hb1, hb2, hb3, hb4] at HB
  have H1 := Lib.hid fun W => within_at _ _ W hb1
  have H2 := Lib.hid fun W => within_at _ _ W hb2
  have H3 := Lib.hid fun W => within_at _ _ W hb3
  have H4 := Lib.hid fun W => within_at _ _ W hb4
  clear h hs hb1 hb2 hb3 hb4
  go_enter Try.func34, Try.ntmps34
  go_upto_region 2 with (fail)
  (generalize hW : World.alloc _ _ = wb; have q0_0 := (congrArg (fun W : World => W.cell? ⟨w.heap.size, 0, none⟩) hW).symm; simp [go_sem] at q0_0; have q0_1 := (congrArg (fun W : World => W.cell? ⟨w.heap.size, 1, none⟩) hW).symm; simp [go_sem] at q0_1; have q0_2 := (congrArg (fun W : World => W.cell? ⟨w.heap.size, 2, none⟩) hW).symm; simp [go_sem] at q0_2; have q0_3 := (congrArg (fun W : World => W.cell? ⟨w.heap.size, 3, none⟩) hW).symm; simp [go_sem] at q0_3; have q0_4 := (congrArg (fun W : World => W.cell? ⟨w.heap.size, 4, none⟩) hW).symm; simp [go_sem] at q0_4; have qz0 : w.heap.size < wb.heap.size := (by rw [← hW]; simp [go_sem]; try omega); have HBW : Hid (Bel w wb) := Lib.hid (by rw [← hW]; (repeat (first | exact Ext.bel _ | exact Bel.refl | refine Bel.alloc ?_ _ | refine Bel.drew ?_ | refine Bel.drewN ?_ _))); clear hW; have hkw := HBW.out.cells)
  clear hkw
  go_cut [41] from 9 (fun s wx => s = .bool (headBad p) ∧ wx = wb)
  case first =>
    cases b1
    · go_wp2_with (first | (go_at_call 42; (with_reducible refine (H1.out _).mono ?_); rintro e w2 ⟨rfl, rfl⟩) | (go_at_call 42; (with_reducible refine (H2.out _).mono ?_); rintro e w2 ⟨rfl, rfl⟩) | (go_at_call 42; (with_reducible refine (H3.out _).mono ?_); rintro e w2 ⟨rfl, rfl⟩) | (go_at_call 42; (with_reducible refine (H4.out _).mono ?_); rintro e w2 ⟨rfl, rfl⟩))
      go_meet
      case rel => exact ⟨by rw [HB.out]; rfl, rfl⟩
    cases b2
    · go_wp2_with (first | (go_at_call 42; (with_reducible refine (H1.out _).mono ?_); rintro e w2 ⟨rfl, rfl⟩) | (go_at_call 42; (with_reducible refine (H2.out _).mono ?_); rintro e w2 ⟨rfl, rfl⟩) | (go_at_call 42; (with_reducible refine (H3.out _).mono ?_); rintro e w2 ⟨rfl, rfl⟩) | (go_at_call 42; (with_reducible refine (H4.out _).mono ?_); rintro e w2 ⟨rfl, rfl⟩))
      go_meet
      case rel => exact ⟨by rw [HB.out]; rfl, rfl⟩
    cases b3
    · go_wp2_with (first | (go_at_call 42; (with_reducible refine (H1.out _).mono ?_); rintro e w2 ⟨rfl, rfl⟩) | (go_at_call 42; (with_reducible refine (H2.out _).mono ?_); rintro e w2 ⟨rfl, rfl⟩) | (go_at_call 42; (with_reducible refine (H3.out _).mono ?_); rintro e w2 ⟨rfl, rfl⟩) | (go_at_call 42; (with_reducible refine (H4.out _).mono ?_); rintro e w2 ⟨rfl, rfl⟩))
      go_meet
      case rel => exact ⟨by rw [HB.out]; rfl, rfl⟩
    cases b4
    · go_wp2_with (first | (go_at_call 42; (with_reducible refine (H1.out _).mono ?_); rintro e w2 ⟨rfl, rfl⟩) | (go_at_call 42; (with_reducible refine (H2.out _).mono ?_); rintro e w2 ⟨rfl, rfl⟩) | (go_at_call 42; (with_reducible refine (H3.out _).mono ?_); rintro e w2 ⟨rfl, rfl⟩) | (go_at_call 42; (with_reducible refine (H4.out _).mono ?_); rintro e w2 ⟨rfl, rfl⟩))
      go_meet
      case rel => exact ⟨by rw [HB.out]; rfl, rfl⟩
    · go_wp2_with (first | (go_at_call 42; (with_reducible refine (H1.out _).mono ?_); rintro e w2 ⟨rfl, rfl⟩) | (go_at_call 42; (with_reducible refine (H2.out _).mono ?_); rintro e w2 ⟨rfl, rfl⟩) | (go_at_call 42; (with_reducible refine (H3.out _).mono ?_); rintro e w2 ⟨rfl, rfl⟩) | (go_at_call 42; (with_reducible refine (H4.out _).mono ?_); rintro e w2 ⟨rfl, rfl⟩))
      go_meet
      case rel => exact ⟨by rw [HB.out]; simp; omega, rfl⟩
  case rest =>
  obtain ⟨rfl, rfl⟩ := hcut
  clear H1 H2 H3 H4 HB
  by_cases hhb : headBad p = true
  · have HR : Hid (ppchk p = 2) := Lib.hid (by unfold ppchk; rw [if_pos hhb])
    rw [hhb]
    clear hhb
    go_wp2
    go_ret
    exact ⟨ret_int (by rw [HR.out]), HBW.out⟩
  have hhb0 : headBad p = false := by simpa using hhb
  have HR : Hid (ppchk p = ppE p [] p.edges) := Lib.hid (by unfold ppchk; rw [if_neg hhb])
  have HH := Lib.hid (headBad_false.mp hhb0)
  rw [hhb0]
  have hclk : ∃ n : Nat, p.clks = (n : Int) ∧ n ≤ 3 := ⟨p.clks.toNat, by have := HH.out; omega, by have := HH.out; omega⟩
  obtain ⟨n, hn, hn3⟩ := hclk
  replace hn := Lib.hid hn
  clear hhb hhb0
  go_wp2
  go_loopw [45] (fun si wr => ∃ (i : Nat) (z : Ext wc), i ≤ p.edges.length ∧ si = .int .i64 i ∧ wr = z.w ∧ (∀ y ∈ p.edges.take i, edgeBad p y = false) ∧ ppE p (p.edges.take i) (p.edges.drop i) = ppE p [] p.edges) (fun si _ => p.edges.length - (intOf si).toNat)
  case atStart => exact ⟨0, ⟨wc, Bel.refl⟩, by omega, rfl, rfl, by simp, by simp⟩
  case round =>
    obtain ⟨i, x, hi, rfl, rfl, hpre, hd⟩ := hrel
    by_cases hli : i < p.edges.length
    · rw [pe_drop hli] at hd
      obtain ⟨b, off, rfl, hb, hA⟩ := HE.out.at_ (by omega)
      obtain ⟨cv, rv, ⟨c0, c1, c2, c3, c4⟩, hcv, hrv⟩ := hA i hli
      have hbw : b < wc.heap.size := Nat.lt_of_lt_of_le hb HBW.out.le
      have e0 := (HBW.out.cells b (off + i * 5) hb).trans c0
      have e1 := (HBW.out.cells b (off + i * 5 + 1) hb).trans c1
      have e2 := (HBW.out.cells b (off + i * 5 + 2) hb).trans c2
      have e3 := (HBW.out.cells b (off + i * 5 + 3) hb).trans c3
      have e4 := (HBW.out.cells b (off + i * 5 + 4) hb).trans c4
      obtain ⟨B1, m1, rfl, _⟩ := hcv.form
      obtain ⟨B2, m2, rfl, _⟩ := hrv.form
      have HCV := Lib.hid hcv
      have HRV := Lib.hid hrv
      replace hA := Lib.hid hA
      obtain ⟨hgi, hri⟩ := HS.out.x _ (pe_mem hli)
      have HXW := Lib.hid (HS.out.wf.l _ (pe_mem hli))
      have HPRE := Lib.hid hpre
      clear c0 c1 c2 c3 c4 hcv hrv hpre
      have HD := Lib.hid hd
      clear hd
      have HEH := Lib.hid (edgeHead_w p (peAt p.edges i))
      have HEB : Hid (edgeBad p (peAt p.edges i) = if edgeHead p (peAt p.edges i) then true else if anyP (pcBad p.clks) (peAt p.edges i).grd then true else anyP (rstBad p.clks) (peAt p.edges i).rst) := Lib.hid rfl
      obtain ⟨b1, hb1⟩ : ∃ b, withinB (peAt p.edges i).frm p.good.length = b := ⟨_, rfl⟩
      obtain ⟨b2, hb2⟩ : ∃ b, withinB (peAt p.edges i).to p.good.length = b := ⟨_, rfl⟩
      obtain ⟨b3, hb3⟩ : ∃ b, withinB (peAt p.edges i).ev p.evs = b := ⟨_, rfl⟩
      rw [hb1, hb2, hb3] at HEH
      have H1 := Lib.hid fun W => within_at _ _ W hb1
      have H2 := Lib.hid fun W => within_at _ _ W hb2
      have H3 := Lib.hid fun W => within_at _ _ W hb3
      clear hb1 hb2 hb3
      go_upto_region 7 with (fail)
      have HB0 := HBW
      have qa := q0_1
      have qa0 := q0_0
      have qa2 := q0_2
      have qa3 := q0_3
      have qa4 := q0_4
      have qaz := qz0
      have hx0 : w.heap.size < x.w.heap.size := ext_lt x qz0
      (generalize hW : World.alloc _ _ = wd; have q0_0 := (congrArg (fun W : World => W.cell? ⟨x.w.heap.size, 0, none⟩) hW).symm; simp [go_sem] at q0_0; have q0_1 := (congrArg (fun W : World => W.cell? ⟨x.w.heap.size, 1, none⟩) hW).symm; simp [go_sem] at q0_1; have q0_2 := (congrArg (fun W : World => W.cell? ⟨x.w.heap.size, 2, none⟩) hW).symm; simp [go_sem] at q0_2; have q0_3 := (congrArg (fun W : World => W.cell? ⟨x.w.heap.size, 3, none⟩) hW).symm; simp [go_sem] at q0_3; have q0_4 := (congrArg (fun W : World => W.cell? ⟨x.w.heap.size, 4, none⟩) hW).symm; simp [go_sem] at q0_4; have qz0 : x.w.heap.size < wd.heap.size := (by rw [← hW]; simp [go_sem]; try omega); have HBW : Hid (Bel wc wd) := Lib.hid (by rw [← hW]; (repeat (first | exact Ext.bel _ | exact Bel.refl | refine Bel.alloc ?_ _ | refine Bel.drew ?_ | refine Bel.drewN ?_ _))); clear hW; have hkw := HBW.out.cells; have : w.heap.size < wd.heap.size := (Nat.lt_of_lt_of_le (by first | assumption | omega) HBW.out.le); have : b < wd.heap.size := (Nat.lt_of_lt_of_le (by first | assumption | omega) HBW.out.le))
      generalize x.w.heap.size = bx at *
      have hwd : w.heap.size < wd.heap.size := Nat.lt_of_lt_of_le qaz HBW.out.le
      have hk1c := (HBW.out.cells w.heap.size 1 qaz).trans qa
      have pb0 := (HBW.out.cells w.heap.size 0 qaz).trans qa0
      have pb2 := (HBW.out.cells w.heap.size 2 qaz).trans qa2
      have pb3 := (HBW.out.cells w.heap.size 3 qaz).trans qa3
      have pb4 := (HBW.out.cells w.heap.size 4 qaz).trans qa4
      have HCON := Lib.hid fun (W : World) (hW : Bel wd W) => hasCon_any _ (peAt p.edges i).grd w.heap.size p.clks W (HCV.out.keep (HB0.out.trans (HBW.out.trans hW)).keeps (HB0.out.trans (HBW.out.trans hW)).le) hgi HXW.out.g HS.out.wf.c (Nat.lt_of_lt_of_le hwd hW.le) ((hW.cells _ _ hwd).trans hk1c)
      have HINT := Lib.hid fun (W : World) (hW : Bel wd W) => hasInt_any _ (peAt p.edges i).rst w.heap.size p.clks W (HRV.out.keep (HB0.out.trans (HBW.out.trans hW)).keeps (HB0.out.trans (HBW.out.trans hW)).le) hri HXW.out.r HS.out.wf.c (Nat.lt_of_lt_of_le hwd hW.le) ((hW.cells _ _ hwd).trans hk1c)
      go_cut [6] from 46 to 126 (fun s wx => s = .bool (edgeHead p (peAt p.edges i)) ∧ wx = wd)
      case first =>
        cases b1
        · go_wp2_with (first | (go_at_call 42; (with_reducible refine (H1.out _).mono ?_); rintro e w2 ⟨rfl, rfl⟩) | (go_at_call 42; (with_reducible refine (H2.out _).mono ?_); rintro e w2 ⟨rfl, rfl⟩) | (go_at_call 42; (with_reducible refine (H3.out _).mono ?_); rintro e w2 ⟨rfl, rfl⟩))
          go_meet
          case rel => exact ⟨by rw [HEH.out]; rfl, rfl⟩
        cases b2
        · go_wp2_with (first | (go_at_call 42; (with_reducible refine (H1.out _).mono ?_); rintro e w2 ⟨rfl, rfl⟩) | (go_at_call 42; (with_reducible refine (H2.out _).mono ?_); rintro e w2 ⟨rfl, rfl⟩) | (go_at_call 42; (with_reducible refine (H3.out _).mono ?_); rintro e w2 ⟨rfl, rfl⟩))
          go_meet
          case rel => exact ⟨by rw [HEH.out]; rfl, rfl⟩
        cases b3
        · go_wp2_with (first | (go_at_call 42; (with_reducible refine (H1.out _).mono ?_); rintro e w2 ⟨rfl, rfl⟩) | (go_at_call 42; (with_reducible refine (H2.out _).mono ?_); rintro e w2 ⟨rfl, rfl⟩) | (go_at_call 42; (with_reducible refine (H3.out _).mono ?_); rintro e w2 ⟨rfl, rfl⟩))
          go_meet
          case rel => exact ⟨by rw [HEH.out]; rfl, rfl⟩
        · go_wp2_with (first | (go_at_call 42; (with_reducible refine (H1.out _).mono ?_); rintro e w2 ⟨rfl, rfl⟩) | (go_at_call 42; (with_reducible refine (H2.out _).mono ?_); rintro e w2 ⟨rfl, rfl⟩) | (go_at_call 42; (with_reducible refine (H3.out _).mono ?_); rintro e w2 ⟨rfl, rfl⟩))
          all_goals
            go_meet
            case rel => exact ⟨congrArg Value.bool (Eq.trans (by first | rfl | (rw [Bool.eq_iff_iff]; simp; done) | (rw [Bool.eq_iff_iff]; simp; omega)) HEH.out.symm), rfl⟩
      case rest =>
      obtain ⟨rfl, rfl⟩ := hcut
      clear H1 H2 H3 HEH
      by_cases heh : edgeHead p (peAt p.edges i) = true
      · have HN : Hid (ppE p [] p.edges = 2) := Lib.hid (by rw [← HD.out, ppE_t (by rw [HEB.out, if_pos heh])])
        rw [heh]
        clear heh HCON HINT
        go_wp2
        go_ret
        exact ⟨ret_int (by rw [HR.out, HN.out]), HB0.out.trans HBW.out⟩
      rw [if_neg heh] at HEB
      have heh0 : edgeHead p (peAt p.edges i) = false := by simpa using heh
      rw [heh0]
      obtain ⟨g1, hg1⟩ : ∃ g, anyP (pcBad p.clks) (peAt p.edges i).grd = g := ⟨_, rfl⟩
      obtain ⟨g2, hg2⟩ : ∃ g, anyP (rstBad p.clks) (peAt p.edges i).rst = g := ⟨_, rfl⟩
      rw [hg1, hg2] at HEB
      rw [hg1] at HCON
      rw [hg2] at HINT
      clear heh heh0 hg1 hg2
      cases g1
      case true =>
        have HN : Hid (ppE p [] p.edges = 2) := Lib.hid (by rw [← HD.out, ppE_t (by rw [HEB.out]; rfl)])
        go_wp2_with (first | (go_at_call 47; (with_reducible refine (HCON.out _ (by (repeat (first | exact Ext.bel _ | exact Bel.refl | refine Bel.alloc ?_ _ | refine Bel.drew ?_ | refine Bel.drewN ?_ _)))).mono ?_); rintro e w2 ⟨rfl, hb2⟩; obtain ⟨x, rfl⟩ : ∃ x : Ext wc, w2 = x.w := ext_of (hb2.after (by (repeat (first | exact Ext.bel _ | exact Bel.refl | refine Bel.alloc ?_ _ | refine Bel.drew ?_ | refine Bel.drewN ?_ _)))); clear hb2) | (go_at_call 49; (with_reducible refine (HINT.out _ (by (repeat (first | exact Ext.bel _ | exact Bel.refl | refine Bel.alloc ?_ _ | refine Bel.drew ?_ | refine Bel.drewN ?_ _)))).mono ?_); rintro e w2 ⟨rfl, hb2⟩; obtain ⟨x, rfl⟩ : ∃ x : Ext wc, w2 = x.w := ext_of (hb2.after (by (repeat (first | exact Ext.bel _ | exact Bel.refl | refine Bel.alloc ?_ _ | refine Bel.drew ?_ | refine Bel.drewN ?_ _)))); clear hb2))
        go_ret
        exact ⟨ret_int (by rw [HR.out, HN.out]), HB0.out.trans (HBW.out.trans x.bel)⟩
      cases g2
      case true =>
        have HN : Hid (ppE p [] p.edges = 2) := Lib.hid (by rw [← HD.out, ppE_t (by rw [HEB.out]; rfl)])
        go_wp2_with (first | (go_at_call 47; (with_reducible refine (HCON.out _ (by (repeat (first | exact Ext.bel _ | exact Bel.refl | refine Bel.alloc ?_ _ | refine Bel.drew ?_ | refine Bel.drewN ?_ _)))).mono ?_); rintro e w2 ⟨rfl, hb2⟩; obtain ⟨x, rfl⟩ : ∃ x : Ext wc, w2 = x.w := ext_of (hb2.after (by (repeat (first | exact Ext.bel _ | exact Bel.refl | refine Bel.alloc ?_ _ | refine Bel.drew ?_ | refine Bel.drewN ?_ _)))); clear hb2) | (go_at_call 49; (with_reducible refine (HINT.out _ (by (repeat (first | exact Ext.bel _ | exact Bel.refl | refine Bel.alloc ?_ _ | refine Bel.drew ?_ | refine Bel.drewN ?_ _)))).mono ?_); rintro e w2 ⟨rfl, hb2⟩; obtain ⟨x, rfl⟩ : ∃ x : Ext wc, w2 = x.w := ext_of (hb2.after (by (repeat (first | exact Ext.bel _ | exact Bel.refl | refine Bel.alloc ?_ _ | refine Bel.drew ?_ | refine Bel.drewN ?_ _)))); clear hb2))
        go_ret
        exact ⟨ret_int (by rw [HR.out, HN.out]), HB0.out.trans (HBW.out.trans x.bel)⟩
      have HEB0 : Hid (edgeBad p (peAt p.edges i) = false) := Lib.hid (by rw [HEB.out]; rfl)
      clear HEB
      go_wp2_with (first | (go_at_call 47; (with_reducible refine (HCON.out _ (by (repeat (first | exact Ext.bel _ | exact Bel.refl | refine Bel.alloc ?_ _ | refine Bel.drew ?_ | refine Bel.drewN ?_ _)))).mono ?_); rintro e w2 ⟨rfl, hb2⟩; obtain ⟨x, rfl⟩ : ∃ x : Ext wc, w2 = x.w := ext_of (hb2.after (by (repeat (first | exact Ext.bel _ | exact Bel.refl | refine Bel.alloc ?_ _ | refine Bel.drew ?_ | refine Bel.drewN ?_ _)))); clear hb2) | (go_at_call 49; (with_reducible refine (HINT.out _ (by (repeat (first | exact Ext.bel _ | exact Bel.refl | refine Bel.alloc ?_ _ | refine Bel.drew ?_ | refine Bel.drewN ?_ _)))).mono ?_); rintro e w2 ⟨rfl, hb2⟩; obtain ⟨x, rfl⟩ : ∃ x : Ext wc, w2 = x.w := ext_of (hb2.after (by (repeat (first | exact Ext.bel _ | exact Bel.refl | refine Bel.alloc ?_ _ | refine Bel.drew ?_ | refine Bel.drewN ?_ _)))); clear hb2))
      clear HCON HINT hkw
      have HXG := Lib.hid (edgeBad_grd HEB0.out)
      have hxd := Lib.hid (HB0.out.trans HBW.out)
      go_loopw [101] (fun si wr => ∃ (k : Nat) (z : Ext wc), k ≤ i ∧ si = .int .i64 k ∧ wr = z.w ∧ confl (togP p.clks) (peAt p.edges i) ((p.edges.take i).drop k) = confl (togP p.clks) (peAt p.edges i) (p.edges.take i)) (fun si _ => i - (intOf si).toNat)
      case atStart => exact ⟨0, x, by omega, rfl, rfl, by simp⟩
      case round =>
        clear x
        obtain ⟨k, x, hk, rfl, rfl, hd⟩ := hrel
        by_cases hlk : k < i
        · rw [pe_take hlk (by omega)] at hd
          obtain ⟨cv2, rv2, ⟨c0, c1, c2, c3, c4⟩, hcv2, hrv2⟩ := hA.out k (by omega)
          obtain ⟨B3, m3, rfl, _⟩ := hcv2.form
          obtain ⟨B4, m4, rfl, _⟩ := hrv2.form
          have hbd : b < wc.heap.size := Nat.lt_of_lt_of_le hb hxd.out.le
          have d0 := (hxd.out.cells b (off + k * 5) hb).trans c0
          have d1 := (hxd.out.cells b (off + k * 5 + 1) hb).trans c1
          have d2 := (hxd.out.cells b (off + k * 5 + 2) hb).trans c2
          have d3 := (hxd.out.cells b (off + k * 5 + 3) hb).trans c3
          have d4 := (hxd.out.cells b (off + k * 5 + 4) hb).trans c4
          have hyb := HPRE.out (peAt p.edges k) (by
            rw [show peAt p.edges k = (p.edges.take i)[k]'(by simp; omega) by simp [peAt, List.getD, show k < p.edges.length by omega]]
            exact List.getElem_mem _)
          have HTG : ∀ (W : World), Bel wc W → Calls Try.prog 51 #[.agg #[.int .i64 p.evs, .int .i64 p.clks, .int .i64 p.ini, .slice A1 p.good.length k1, .slice (some ⟨b, off, none⟩) p.edges.length k2], .slice B1 (peAt p.edges i).grd.length m1, .slice B3 (peAt p.edges k).grd.length m3] W fun e w' => e = .returned (.bool (togP p.clks (peAt p.edges i).grd (peAt p.edges k).grd)) ∧ Bel W w' := fun W hW => by
            rw [hn.out]
            exact ptog_any p.evs p.ini n _ _ _ _ (peAt p.edges i).grd (peAt p.edges k).grd W hn3
              (HCV.out.keep (hxd.out.trans hW).keeps (hxd.out.trans hW).le) (hcv2.keep (hxd.out.trans hW).keeps (hxd.out.trans hW).le) hgi (HS.out.x _ (pe_mem (show k < p.edges.length by omega))).1 (hn.out ▸ HXG.out) (hn.out ▸ edgeBad_grd hyb)
          clear c0 c1 c2 c3 c4 hcv2 hrv2 hyb
          have hcase : ((peAt p.edges k).frm == (peAt p.edges i).frm) = false ∨ (((peAt p.edges k).frm == (peAt p.edges i).frm) = true ∧ ((peAt p.edges k).ev == (peAt p.edges i).ev) = false) ∨ (((peAt p.edges k).frm == (peAt p.edges i).frm) = true ∧ ((peAt p.edges k).ev == (peAt p.edges i).ev) = true) := by
            cases (peAt p.edges k).frm == (peAt p.edges i).frm <;> cases (peAt p.edges k).ev == (peAt p.edges i).ev <;> simp
          rcases hcase with h1 | ⟨h1, h2⟩ | ⟨h1, h2⟩
          · have HN : Hid (confl (togP p.clks) (peAt p.edges i) ((p.edges.take i).drop (k + 1)) = confl (togP p.clks) (peAt p.edges i) (p.edges.take i)) := Lib.hid (by rw [← hd, confl_f (fun h => by simp [h.1] at h1)])
            clear hd HTG
            go_wp2
            go_roundw
            case rel => exact ⟨k + 1, ⟨_, by (repeat (first | exact Ext.bel _ | exact Bel.refl | refine Bel.alloc ?_ _ | refine Bel.drew ?_ | refine Bel.drewN ?_ _))⟩, by omega, by go_num, rfl, HN.out⟩
            case measure => simp [intOf]; omega
          · have HN : Hid (confl (togP p.clks) (peAt p.edges i) ((p.edges.take i).drop (k + 1)) = confl (togP p.clks) (peAt p.edges i) (p.edges.take i)) := Lib.hid (by rw [← hd, confl_f (fun h => by simp [h.2.1] at h2)])
            clear hd HTG
            go_wp2
            go_roundw
            case rel => exact ⟨k + 1, ⟨_, by (repeat (first | exact Ext.bel _ | exact Bel.refl | refine Bel.alloc ?_ _ | refine Bel.drew ?_ | refine Bel.drewN ?_ _))⟩, by omega, by go_num, rfl, HN.out⟩
            case measure => simp [intOf]; omega
          · obtain ⟨t, ht⟩ : ∃ t, togP p.clks (peAt p.edges i).grd (peAt p.edges k).grd = t := ⟨_, rfl⟩
            rw [ht] at HTG
            replace HTG := Lib.hid HTG
            have e1 : (peAt p.edges i).frm = (peAt p.edges k).frm := by simpa using (beq_iff_eq.mp h1).symm
            have e2 : (peAt p.edges i).ev = (peAt p.edges k).ev := by simpa using (beq_iff_eq.mp h2).symm
            cases t
            · have HN : Hid (confl (togP p.clks) (peAt p.edges i) ((p.edges.take i).drop (k + 1)) = confl (togP p.clks) (peAt p.edges i) (p.edges.take i)) := Lib.hid (by rw [← hd, confl_f (fun h => by rw [ht] at h; exact absurd h.2.2 (by simp))])
              clear hd ht e1 e2
              go_wp2_with (first | (go_at_call 51; (with_reducible refine (HTG.out _ (by (repeat (first | exact Ext.bel _ | exact Bel.refl | refine Bel.alloc ?_ _ | refine Bel.drew ?_ | refine Bel.drewN ?_ _)))).mono ?_); rintro e w2 ⟨rfl, hb2⟩; obtain ⟨x, rfl⟩ : ∃ x : Ext wc, w2 = x.w := ext_of (hb2.after (by (repeat (first | exact Ext.bel _ | exact Bel.refl | refine Bel.alloc ?_ _ | refine Bel.drew ?_ | refine Bel.drewN ?_ _)))); clear hb2))
              go_roundw
              case rel => exact ⟨k + 1, x, by omega, by go_num, rfl, HN.out⟩
              case measure => simp [intOf]; omega
            · have HN : Hid (ppE p [] p.edges = 2) := Lib.hid (by rw [← HD.out, ppE_c HEB0.out (by rw [← hd, confl_t e1 e2 ht])])
              clear hd ht e1 e2
              go_wp2_with (first | (go_at_call 51; (with_reducible refine (HTG.out _ (by (repeat (first | exact Ext.bel _ | exact Bel.refl | refine Bel.alloc ?_ _ | refine Bel.drew ?_ | refine Bel.drewN ?_ _)))).mono ?_); rintro e w2 ⟨rfl, hb2⟩; obtain ⟨x, rfl⟩ : ∃ x : Ext wc, w2 = x.w := ext_of (hb2.after (by (repeat (first | exact Ext.bel _ | exact Bel.refl | refine Bel.alloc ?_ _ | refine Bel.drew ?_ | refine Bel.drewN ?_ _)))); clear hb2))
              go_ret
              exact ⟨ret_int (by rw [HR.out, HN.out]), hxd.out.trans x.bel⟩
        · obtain rfl : k = i := by omega
          have HN : Hid (ppE p (p.edges.take (k + 1)) (p.edges.drop (k + 1)) = ppE p [] p.edges) := Lib.hid (by
            rw [← HD.out, ppE_f HEB0.out (by rw [← hd, List.drop_eq_nil_of_le (by simp; omega)]; rfl), pe_snoc hli])
          have HP2 : Hid (∀ y ∈ p.edges.take (k + 1), edgeBad p y = false) := Lib.hid (by
            intro y hy
            rw [pe_snoc hli] at hy
            rcases List.mem_append.mp hy with hy | hy
            · exact HPRE.out y hy
            · simp at hy; subst hy; exact HEB0.out)
          clear hd
          go_wp2
          go_roundw
          case rel => exact ⟨k + 1, ⟨_, HBW.out.trans x.bel⟩, by omega, by go_num, rfl, HP2.out, HN.out⟩
          case measure => simp [intOf]; omega
    · obtain rfl : i = p.edges.length := by omega
      have HD : Hid (ppE p [] p.edges = 0) := Lib.hid (by rw [← hd]; simp [ppE])
      clear hd
      go_wp2
      go_ret
      exact ⟨ret_int (by rw [HR.out, HD.out]), HBW.out.trans x.bel⟩
end Go.Proofs.Ythidbmeocifkcaa
