import Derived.Test.YthidbmeocifkcaaZPedge
import Derived.Test.YthidbmeocifkcaaZPrtog
namespace Go.Proofs.Ythidbmeocifkcaa
open Go.RowKit
structure PSized (p : PP) : Prop where
  g : p.good.length ≤ 1000000
  e : p.edges.length ≤ 1000000
  x : ∀ x ∈ p.edges, x.grd.length ≤ 1000000 ∧ x.rst.length ≤ 1000000
  wf : p.wf
theorem headBad_true {p : PP} : headBad p = true ↔ (p.evs < 1 ∨ 8 < p.evs ∨ p.clks < 0 ∨ 3 < p.clks ∨ p.good.length < 1 ∨ 12 < p.good.length ∨ p.ini < 0 ∨ (p.good.length : Int) ≤ p.ini ∨ 60 < p.edges.length) := by
  simp only [headBad, Bool.or_eq_true, decide_eq_true_eq, or_assoc]
theorem headBad_false {p : PP} : headBad p = false ↔ (1 ≤ p.evs ∧ p.evs ≤ 8 ∧ 0 ≤ p.clks ∧ p.clks ≤ 3 ∧ 1 ≤ p.good.length ∧ p.good.length ≤ 12 ∧ 0 ≤ p.ini ∧ p.ini < (p.good.length : Int) ∧ p.edges.length ≤ 60) := by
  rw [← Bool.not_eq_true, headBad_true]; omega
theorem confl_t {tg : List PC → List PC → Bool} {x y : PE} {ys : List PE} (h1 : x.frm = y.frm) (h2 : x.ev = y.ev) (h3 : tg x.grd y.grd = true) : confl tg x (y :: ys) = true := by
  simp [confl, h1, h2, h3]
theorem confl_f {tg : List PC → List PC → Bool} {x y : PE} {ys : List PE} (h : ¬ (x.frm = y.frm ∧ x.ev = y.ev ∧ tg x.grd y.grd = true)) : confl tg x (y :: ys) = confl tg x ys := by
  simp only [confl]
  rw [if_neg]
  simpa [and_assoc] using h
set_option maxRecDepth 100000 in
set_option maxHeartbeats 16000000 in
theorem rcheck35_any (p : PP) (gv ev : Value) (w : World) (h : PropAt w w.heap.size gv ev p) (hs : PSized p) :
    Calls Try.prog 26 #[.agg #[.int .i64 p.evs, .int .i64 p.clks, .int .i64 p.ini, gv, ev]] w fun e w' => e = .returned (.int .i64 (rpchk p)) ∧ Bel w w' := by
  have HG := Lib.hid h.g
  have HE := Lib.hid h.e
  have HS := Lib.hid hs
  obtain ⟨A1, k1, rfl, hk1⟩ := h.g.form
  obtain ⟨A2, k2, rfl, hk2⟩ := h.e.form
  have hlg := hs.g
  have hle := hs.e
  clear h hs
  go_enter Try.func26, Try.ntmps26
  go_upto_region 1 with (fail)
  (generalize hW : World.alloc _ _ = wb; have q0_0 := (congrArg (fun W : World => W.cell? ⟨w.heap.size, 0, none⟩) hW).symm; simp [go_sem] at q0_0; have q0_1 := (congrArg (fun W : World => W.cell? ⟨w.heap.size, 1, none⟩) hW).symm; simp [go_sem] at q0_1; have q0_2 := (congrArg (fun W : World => W.cell? ⟨w.heap.size, 2, none⟩) hW).symm; simp [go_sem] at q0_2; have q0_3 := (congrArg (fun W : World => W.cell? ⟨w.heap.size, 3, none⟩) hW).symm; simp [go_sem] at q0_3; have q0_4 := (congrArg (fun W : World => W.cell? ⟨w.heap.size, 4, none⟩) hW).symm; simp [go_sem] at q0_4; have qz0 : w.heap.size < wb.heap.size := (by rw [← hW]; simp [go_sem]; try omega); have HBW : Hid (Bel w wb) := Lib.hid (by rw [← hW]; (repeat (first | exact Ext.bel _ | exact Bel.refl | refine Bel.alloc ?_ _ | refine Bel.drew ?_ | refine Bel.drewN ?_ _))); clear hW; have hkw := HBW.out.cells)
  clear hkw
  have HT := Lib.hid (fun h => (headBad_true (p := p)).mpr h)
  have HF := Lib.hid (fun h => (headBad_false (p := p)).mpr h)
  go_cut [56] from 8 (fun s wx => s = .bool (headBad p) ∧ wx = wb)
  case first =>
    generalize headBad p = eh at *
    go_wp2
    all_goals
      go_meet
      case rel =>
        first
          | exact ⟨by rw [HT.out (by omega)], rfl⟩
          | (by_cases hh : p.evs < 1 ∨ 8 < p.evs ∨ p.clks < 0 ∨ 3 < p.clks ∨ p.good.length < 1 ∨ 12 < p.good.length ∨ p.ini < 0 ∨ (p.good.length : Int) ≤ p.ini ∨ 60 < p.edges.length
             · exact ⟨by rw [HT.out hh]; simp; omega, rfl⟩
             · exact ⟨by rw [HF.out (by omega)]; simp; omega, rfl⟩)
  case rest =>
  obtain ⟨rfl, rfl⟩ := hcut
  clear HT HF
  by_cases hhb : headBad p = true
  · have HR : Hid (rpchk p = 2) := Lib.hid (by unfold rpchk; rw [if_pos hhb])
    rw [hhb]
    clear hhb
    go_wp2
    go_ret
    exact ⟨ret_int (by rw [HR.out]), HBW.out⟩
  have hhb0 : headBad p = false := by simpa using hhb
  have HR : Hid (rpchk p = if anyP (edgeBad p) p.edges then 2 else if noConf (togR p.clks) [] p.edges then 0 else 2) := Lib.hid (by unfold rpchk; rw [if_neg hhb])
  have HH := Lib.hid (headBad_false.mp hhb0)
  rw [hhb0]
  clear hhb hhb0
  go_wp2
  go_loopw [3] (fun si wr => ∃ (j : Nat) (z : Ext wc), j ≤ p.edges.length ∧ si = .int .i64 j ∧ wr = z.w ∧ anyP (edgeBad p) (p.edges.drop j) = anyP (edgeBad p) p.edges) (fun si _ => p.edges.length - (intOf si).toNat)
  case atStart => exact ⟨0, ⟨wc, Bel.refl⟩, by omega, rfl, rfl, rfl⟩
  case round =>
    obtain ⟨j, x, hj, rfl, rfl, hd⟩ := hrel
    by_cases hlt : j < p.edges.length
    · rw [pe_drop hlt] at hd
      obtain ⟨b, off, rfl, hb, hA⟩ := HE.out.at_ (by omega)
      obtain ⟨cv, rv, ⟨c0, c1, c2, c3, c4⟩, hcv, hrv⟩ := hA j hlt
      have hbw : b < wc.heap.size := Nat.lt_of_lt_of_le hb HBW.out.le
      have e0 := (HBW.out.cells b (off + j * 5) hb).trans c0
      have e1 := (HBW.out.cells b (off + j * 5 + 1) hb).trans c1
      have e2 := (HBW.out.cells b (off + j * 5 + 2) hb).trans c2
      have e3 := (HBW.out.cells b (off + j * 5 + 3) hb).trans c3
      have e4 := (HBW.out.cells b (off + j * 5 + 4) hb).trans c4
      have HCA := fun (y : Ext wc) => redge_any p (peAt p.edges j) (.slice A1 p.good.length k1) (.slice (some ⟨b, off, none⟩) p.edges.length k2) cv rv y.w
        (HG.out.keep (HBW.out.trans y.bel).keeps (HBW.out.trans y.bel).le) (hcv.keep (HBW.out.trans y.bel).keeps (HBW.out.trans y.bel).le) (hrv.keep (HBW.out.trans y.bel).keeps (HBW.out.trans y.bel).le)
        hlg (HS.out.x _ (pe_mem hlt)).1 (HS.out.x _ (pe_mem hlt)).2
      clear hA c0 c1 c2 c3 c4 hcv hrv
      by_cases hbad : edgeBad p (peAt p.edges j) = true
      · have HD : Hid (anyP (edgeBad p) p.edges = true) := Lib.hid (by rw [← hd, anyP_t hbad])
        rw [hbad] at HCA
        simp only [Bool.not_true] at HCA
        replace HCA := Lib.hid HCA
        clear hd hbad
        go_upto_region 6 with (fail)
        (refine wp_region_ext (wb := wc) (by (repeat (first | exact Ext.bel _ | exact Bel.refl | refine Bel.alloc ?_ _ | refine Bel.drew ?_ | refine Bel.drewN ?_ _))) (by kernel_rfl) (by kernel_rfl) ?_; (repeat (any_goals (first | go_big_quiet_step ((go_at_call 40; with_reducible exact ext_call (HCA.out _))) | quiet_step ((go_at_call 40; with_reducible exact ext_call (HCA.out _))) | (refine wpQuiet_step (fun K hK => ?_); go_simp; split <;> (refine hK _ ?_; clear hK K))))); all_goals (refine wpQuiet_nil ?_; intro _ hw'; obtain ⟨y, hw''⟩ := hw'; subst hw''))
        go_wp2
        go_ret
        exact ⟨ret_int (by rw [HR.out, HD.out, if_pos rfl]), HBW.out.trans y.bel⟩
      · have hbad0 : edgeBad p (peAt p.edges j) = false := by simpa using hbad
        have HD : Hid (anyP (edgeBad p) (p.edges.drop (j + 1)) = anyP (edgeBad p) p.edges) := Lib.hid (by rw [← hd, anyP_f hbad0])
        rw [hbad0] at HCA
        simp only [Bool.not_false] at HCA
        replace HCA := Lib.hid HCA
        clear hd hbad hbad0
        go_upto_region 6 with (fail)
        (refine wp_region_ext (wb := wc) (by (repeat (first | exact Ext.bel _ | exact Bel.refl | refine Bel.alloc ?_ _ | refine Bel.drew ?_ | refine Bel.drewN ?_ _))) (by kernel_rfl) (by kernel_rfl) ?_; (repeat (any_goals (first | go_big_quiet_step ((go_at_call 40; with_reducible exact ext_call (HCA.out _))) | quiet_step ((go_at_call 40; with_reducible exact ext_call (HCA.out _))) | (refine wpQuiet_step (fun K hK => ?_); go_simp; split <;> (refine hK _ ?_; clear hK K))))); all_goals (refine wpQuiet_nil ?_; intro _ hw'; obtain ⟨y, hw''⟩ := hw'; subst hw''))
        go_wp2
        go_roundw
        case rel => exact ⟨j + 1, y, by omega, by go_num, rfl, HD.out⟩
        case measure => simp [intOf]; omega
    · obtain rfl : j = p.edges.length := by omega
      have HD0 : anyP (edgeBad p) p.edges = false := by rw [← hd]; simp [anyP]
      have HR2 : Hid (rpchk p = if noConf (togR p.clks) [] p.edges then 0 else 2) := Lib.hid (by rw [HR.out, HD0, if_neg (by simp)])
      have hclk : ∃ n : Nat, p.clks = (n : Int) ∧ n ≤ 3 := ⟨p.clks.toNat, by have := HH.out; omega, by have := HH.out; omega⟩
      obtain ⟨n, hn, hn3⟩ := hclk
      rw [hn] at q0_1 HR2
      replace hn := Lib.hid hn
      clear hd HR HD0
      go_wp2
      go_loopw [4] (fun si wr => ∃ (i : Nat) (z : Ext wc), i ≤ p.edges.length ∧ si = .int .i64 i ∧ wr = z.w ∧ noConf (togR n) (p.edges.take i) (p.edges.drop i) = noConf (togR n) [] p.edges) (fun si _ => p.edges.length - (intOf si).toNat)
      case atStart => exact ⟨0, x, by omega, rfl, rfl, by simp⟩
      case round =>
        clear x
        obtain ⟨i, x, hi, rfl, rfl, hd⟩ := hrel
        by_cases hli : i < p.edges.length
        · rw [pe_drop hli] at hd
          obtain ⟨b, off, rfl, hb, hA⟩ := HE.out.at_ (by omega)
          obtain ⟨cv, rv, ⟨c0, c1, c2, c3, c4⟩, hcv, hrv⟩ := hA i hli
          have hbw : b < wc.heap.size := Nat.lt_of_lt_of_le hb HBW.out.le
          have e0 := (HBW.out.cells b (off + i * 5) hb).trans c0
          have e1 := (HBW.out.cells b (off + i * 5 + 1) hb).trans c1
          have e2 := (HBW.out.cells b (off + i * 5 + 2) hb).trans c2
          have e3 := (HBW.out.cells b (off + i * 5 + 3) hb).trans c3
          have e4 := (HBW.out.cells b (off + i * 5 + 4) hb).trans c4
          obtain ⟨B1, m1, rfl, _⟩ := hcv.form
          obtain ⟨B2, m2, rfl, _⟩ := hrv.form
          have HCV := Lib.hid hcv
          replace hA := Lib.hid hA
          have hgi := (HS.out.x _ (pe_mem hli)).1
          clear c0 c1 c2 c3 c4 hcv hrv
          have HD := Lib.hid hd
          clear hd
          go_wp2
          go_loopw [5] (fun si wr => ∃ (k : Nat) (z : Ext wc), k ≤ i ∧ si = .int .i64 k ∧ wr = z.w ∧ confl (togR n) (peAt p.edges i) ((p.edges.take i).drop k) = confl (togR n) (peAt p.edges i) (p.edges.take i)) (fun si _ => i - (intOf si).toNat)
          case atStart => exact ⟨0, x, by omega, rfl, rfl, by simp⟩
          case round =>
            clear x
            obtain ⟨k, x, hk, rfl, rfl, hd⟩ := hrel
            by_cases hlk : k < i
            · rw [pe_take hlk (by omega)] at hd
              obtain ⟨cv2, rv2, ⟨c0, c1, c2, c3, c4⟩, hcv2, hrv2⟩ := hA.out k (by omega)
              obtain ⟨B3, m3, rfl, _⟩ := hcv2.form
              obtain ⟨B4, m4, rfl, _⟩ := hrv2.form
              have d0 := (HBW.out.cells b (off + k * 5) hb).trans c0
              have d1 := (HBW.out.cells b (off + k * 5 + 1) hb).trans c1
              have d2 := (HBW.out.cells b (off + k * 5 + 2) hb).trans c2
              have d3 := (HBW.out.cells b (off + k * 5 + 3) hb).trans c3
              have d4 := (HBW.out.cells b (off + k * 5 + 4) hb).trans c4
              have HTG := fun (W : World) (hW : Bel wc W) => rtog_any p.evs p.ini n (.slice A1 p.good.length k1) (.slice (some ⟨b, off, none⟩) p.edges.length k2) _ _ (peAt p.edges i).grd (peAt p.edges k).grd W hn3
                (HCV.out.keep (HBW.out.trans hW).keeps (HBW.out.trans hW).le) (hcv2.keep (HBW.out.trans hW).keeps (HBW.out.trans hW).le) hgi (HS.out.x _ (pe_mem (show k < p.edges.length by omega))).1
              clear c0 c1 c2 c3 c4 hcv2 hrv2
              have hcase : ((peAt p.edges i).frm == (peAt p.edges k).frm) = false ∨ ((peAt p.edges i).frm = (peAt p.edges k).frm ∧ ((peAt p.edges i).ev == (peAt p.edges k).ev) = false) ∨ ((peAt p.edges i).frm = (peAt p.edges k).frm ∧ (peAt p.edges i).ev = (peAt p.edges k).ev) := by
                by_cases h1 : (peAt p.edges i).frm = (peAt p.edges k).frm
                · by_cases h2 : (peAt p.edges i).ev = (peAt p.edges k).ev
                  · exact .inr (.inr ⟨h1, h2⟩)
                  · exact .inr (.inl ⟨h1, by simpa using h2⟩)
                · exact .inl (by simpa using h1)
              have hke : k < p.edges.length := by omega
              have hx0 : w.heap.size < x.w.heap.size := ext_lt x qz0
              have hxb : b < x.w.heap.size := ext_lt x hbw
              rcases hcase with h1 | ⟨h1, h2⟩ | ⟨h1, h2⟩
              · have HN : Hid (confl (togR n) (peAt p.edges i) ((p.edges.take i).drop (k + 1)) = confl (togR n) (peAt p.edges i) (p.edges.take i)) := Lib.hid (by rw [← hd, confl_f (fun h => by simp [h.1] at h1)])
                clear hd HTG
                go_upto_region 14 with (fail)
                go_region
                all_goals
                  go_wp2
                  go_roundw
                  case rel => exact ⟨k + 1, ⟨_, by (repeat (first | exact Ext.bel _ | exact Bel.refl | refine Bel.alloc ?_ _ | refine Bel.drew ?_ | refine Bel.drewN ?_ _))⟩, by omega, by go_num, rfl, HN.out⟩
                  case measure => simp [intOf]; omega
              · have HN : Hid (confl (togR n) (peAt p.edges i) ((p.edges.take i).drop (k + 1)) = confl (togR n) (peAt p.edges i) (p.edges.take i)) := Lib.hid (by rw [← hd, confl_f (fun h => by simp [h.2.1] at h2)])
                clear hd HTG
                have h1b : ((peAt p.edges i).frm == (peAt p.edges k).frm) = true := by simpa using h1
                clear h1
                go_upto_region 14 with (fail)
                go_region
                all_goals
                  go_wp2
                  go_roundw
                  case rel => exact ⟨k + 1, ⟨_, by (repeat (first | exact Ext.bel _ | exact Bel.refl | refine Bel.alloc ?_ _ | refine Bel.drew ?_ | refine Bel.drewN ?_ _))⟩, by omega, by go_num, rfl, HN.out⟩
                  case measure => simp [intOf]; omega
              · have h1b : ((peAt p.edges i).frm == (peAt p.edges k).frm) = true := by simpa using h1
                have h2b : ((peAt p.edges i).ev == (peAt p.edges k).ev) = true := by simpa using h2
                obtain ⟨t, ht⟩ : ∃ t, togR n (peAt p.edges i).grd (peAt p.edges k).grd = t := ⟨_, rfl⟩
                rw [ht] at HTG
                replace HTG := Lib.hid HTG
                cases t
                · have HN : Hid (confl (togR n) (peAt p.edges i) ((p.edges.take i).drop (k + 1)) = confl (togR n) (peAt p.edges i) (p.edges.take i)) := Lib.hid (by rw [← hd, confl_f (fun h => by rw [ht] at h; exact absurd h.2.2 (by simp))])
                  clear hd ht h1 h2
                  go_upto_region 14 with (fail)
                  go_region
                  all_goals
                    go_wp2_with (first | (go_at_call 41; (with_reducible refine (HTG.out _ (by (repeat (first | exact Ext.bel _ | exact Bel.refl | refine Bel.alloc ?_ _ | refine Bel.drew ?_ | refine Bel.drewN ?_ _)))).mono ?_); rintro e w2 ⟨rfl, hb2⟩; obtain ⟨x, rfl⟩ : ∃ x : Ext wc, w2 = x.w := ext_of (hb2.after (by (repeat (first | exact Ext.bel _ | exact Bel.refl | refine Bel.alloc ?_ _ | refine Bel.drew ?_ | refine Bel.drewN ?_ _)))); clear hb2))
                    go_roundw
                    case rel => exact ⟨k + 1, ⟨_, by (repeat (first | exact Ext.bel _ | exact Bel.refl | refine Bel.alloc ?_ _ | refine Bel.drew ?_ | refine Bel.drewN ?_ _))⟩, by omega, by go_num, rfl, HN.out⟩
                    case measure => simp [intOf]; omega
                · have HN : Hid (noConf (togR n) [] p.edges = false) := Lib.hid (by rw [← HD.out, noConf_t (by rw [← hd, confl_t h1 h2 ht])])
                  clear hd ht h1 h2
                  go_upto_region 14 with (fail)
                  go_region
                  all_goals
                    go_wp2_with (first | (go_at_call 41; (with_reducible refine (HTG.out _ (by (repeat (first | exact Ext.bel _ | exact Bel.refl | refine Bel.alloc ?_ _ | refine Bel.drew ?_ | refine Bel.drewN ?_ _)))).mono ?_); rintro e w2 ⟨rfl, hb2⟩; obtain ⟨x, rfl⟩ : ∃ x : Ext wc, w2 = x.w := ext_of (hb2.after (by (repeat (first | exact Ext.bel _ | exact Bel.refl | refine Bel.alloc ?_ _ | refine Bel.drew ?_ | refine Bel.drewN ?_ _)))); clear hb2))
                    go_ret
                    exact ⟨ret_int (by rw [HR2.out, HN.out, if_neg (by simp)]), HBW.out.trans x.bel⟩
            · obtain rfl : k = i := by omega
              have HN : Hid (noConf (togR n) (p.edges.take (k + 1)) (p.edges.drop (k + 1)) = noConf (togR n) [] p.edges) := Lib.hid (by
                rw [← HD.out, noConf_f (by rw [← hd, List.drop_eq_nil_of_le (by simp; omega)]; rfl), pe_snoc hli])
              clear hd
              go_wp2
              go_roundw
              case rel => exact ⟨k + 1, x, by omega, by go_num, rfl, HN.out⟩
              case measure => simp [intOf]; omega
        · obtain rfl : i = p.edges.length := by omega
          have HD : Hid (noConf (togR n) [] p.edges = true) := Lib.hid (by rw [← hd]; simp [noConf])
          clear hd
          go_wp2
          go_ret
          exact ⟨ret_int (by rw [HR2.out, HD.out, if_pos rfl]), HBW.out.trans x.bel⟩
end Go.Proofs.Ythidbmeocifkcaa
