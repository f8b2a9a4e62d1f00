import Derived.Test.YtcnjojhbcijdmaaPrunm
import Derived.Deep.CutRange
namespace Go.Proofs.Ytcnjojhbcijdmaa
open Go.RowKit
theorem lastAt_eq (l : List PS) (j : Nat) : lastAt l j = if j = 0 then 0 else (psAt l (j - 1)).at_ := by cases j <;> simp [lastAt]
set_option maxRecDepth 100000 in
set_option maxHeartbeats 16000000 in
theorem rrun_any (p : PP) (gv ev sv : Value) (l : List PS) (w : World) (h : PropAt w w.heap.size gv ev p) (hs : PSized p) (hl : StampsAt w w.heap.size sv l) (hok : rpword p l = 0) :
    Calls Try.prog 21 #[.agg #[.int .i64 p.evs, .int .i64 p.clks, .int .i64 p.ini, gv, ev], sv] w fun e w' => e = .returned (.tuple #[(runP p l).1.V, .int .i64 (runP p l).2]) ∧ Bel w w' := by
  obtain ⟨hck, hll, hwd⟩ := rpword_ok hok
  have hv := pvalid_of hck
  have HVD := Lib.hid hv
  have HW := Lib.hid (word_at l 0 (by omega) hwd)
  have HP := Lib.hid h
  have HS := Lib.hid hs
  have HRP : Hid (runP p l = runM p.clks.toNat p.edges (start p) 0 l 0) := Lib.hid rfl
  generalize runP p l = res at *
  obtain ⟨A1, k1, rfl, hk1⟩ := h.g.form
  obtain ⟨A2, k2, rfl, hk2⟩ := h.e.form
  obtain ⟨A, c, rfl, hc, hA⟩ := hl
  have HA := Lib.hid hA
  have HST := Lib.hid (start_ok hv)
  clear h hs hA hok hck hwd hv
  go_enter Try.func21, Try.ntmps21
  go_upto_region 1 with (fail)
  have CR : RowAt ((w.alloc (.cells #[.int .i64 p.evs, .int .i64 p.clks, .int .i64 p.ini, .slice A1 p.good.length k1, .slice A2 p.edges.length k2] 25)).alloc (.cells #[.int .i64 0, .int .i64 0, .int .i64 0, .int .i64 0] 56)) w.heap.size 25 [.int .i64 p.evs, .int .i64 p.clks, .int .i64 p.ini, .slice A1 p.good.length k1, .slice A2 p.edges.length k2] :=
    (RowAt.new w 25 [.int .i64 p.evs, .int .i64 p.clks, .int .i64 p.ini, .slice A1 p.good.length k1, .slice A2 p.edges.length k2]).alloc _
  have BR : RowAt ((w.alloc (.cells #[.int .i64 p.evs, .int .i64 p.clks, .int .i64 p.ini, .slice A1 p.good.length k1, .slice A2 p.edges.length k2] 25)).alloc (.cells #[.int .i64 0, .int .i64 0, .int .i64 0, .int .i64 0] 56)) (w.heap.size + 1) 56 zero4 := by
    have := RowAt.new (w.alloc (.cells #[.int .i64 p.evs, .int .i64 p.clks, .int .i64 p.ini, .slice A1 p.good.length k1, .slice A2 p.edges.length k2] 25)) 56 zero4
    rw [show (w.alloc (.cells #[.int .i64 p.evs, .int .i64 p.clks, .int .i64 p.ini, .slice A1 p.good.length k1, .slice A2 p.edges.length k2] 25)).heap.size = w.heap.size + 1 by simp [go_sem]] at this
    exact this
  generalize hW : World.alloc _ _ = wb at *
  have HBW : Hid (Bel w wb) := Lib.hid (by rw [← hW]; exact (Bel.refl.alloc _).alloc _)
  clear hW
  have HSTART := Lib.hid fun (W : World) (hW : Bel wb W) => rstart_any p _ _ W (HP.out.keep (HBW.out.trans hW).keeps (HBW.out.trans hW).le)
  obtain ⟨b0, hb0⟩ : ∃ b, b = w.heap.size := ⟨_, rfl⟩
  obtain ⟨b4, hb4⟩ : ∃ b, b = w.heap.size + 1 := ⟨_, rfl⟩
  have ob0 : Own w b0 := by unfold Own; omega
  have ob4 : Own w b4 := by unfold Own; omega
  have h04 : b0 ≠ b4 := by omega
  rw [← hb0] at CR
  rw [← hb4] at BR
  rw [← hb4, ← hb0]
  clear hb0 hb4
  have k0 := CR.cell (i := 0) rfl
  have k1' := CR.cell (i := 1) rfl
  have k2' := CR.cell (i := 2) rfl
  have k3' := CR.cell (i := 3) rfl
  have k4' := CR.cell (i := 4) rfl
  have hz0 := CR.lt
  have hz4 := BR.lt
  have HCR := Lib.hid CR
  have HBR := Lib.hid BR
  clear CR BR
  go_upto_region 2 with (first | (go_at_call 35; (with_reducible refine (HSTART.out _ (by (repeat (first | exact Ext.bel _ | exact Bel.refl | refine Bel.alloc ?_ _ | refine Bel.drew ?_ | refine Bel.drewN ?_ _)))).mono ?_); rintro e w2 ⟨rfl, hb2⟩; obtain ⟨x, rfl⟩ : ∃ x : Ext wb, w2 = x.w := ext_of (hb2.after (by (repeat (first | exact Ext.bel _ | exact Bel.refl | refine Bel.alloc ?_ _ | refine Bel.drew ?_ | refine Bel.drewN ?_ _)))); clear hb2))
  have XR := Lib.hid (RowAt.new x.w 56 [.int .i64 p.ini, .int .i64 0, .int .i64 0, .int .i64 0])
  have HCR2 := Lib.hid ((HCR.out.bel x.bel).alloc (.cells #[.int .i64 p.ini, .int .i64 0, .int .i64 0, .int .i64 0] 56))
  have HBR2 := Lib.hid ((HBR.out.bel x.bel).alloc (.cells #[.int .i64 p.ini, .int .i64 0, .int .i64 0, .int .i64 0] 56))
  have hb06 : b0 ≠ x.w.heap.size := Nat.ne_of_lt (ext_lt x hz0)
  have hb46 : b4 ≠ x.w.heap.size := Nat.ne_of_lt (ext_lt x hz4)
  have ob6 : Own w x.w.heap.size := by unfold Own; have := (HBW.out.trans x.bel).le; omega
  have HX0 : Hid (Bel w (x.w.alloc (.cells #[.int .i64 p.ini, .int .i64 0, .int .i64 0, .int .i64 0] 56))) := Lib.hid ((HBW.out.trans x.bel).alloc _)
  generalize hW : World.alloc x.w _ = W1 at *
  generalize x.w.heap.size = b6 at *
  clear hW HCR HBR k0 k1' k2' k3' k4' hz0 hz4 HSTART
  obtain ⟨x1, rfl⟩ := ext_of HX0.out
  clear HX0 x
  go_wp2
  go_loopw [7, 8] (fun sa si wr => ∃ (j : Nat) (x : Pt) (z : Ext w), j ≤ l.length ∧ sa = .int .i64 (lastAt l j) ∧ si = .int .i64 j ∧ wr = z.w ∧ RowAt z.w b0 25 [.int .i64 p.evs, .int .i64 p.clks, .int .i64 p.ini, .slice A1 p.good.length k1, .slice A2 p.edges.length k2] ∧ RowAt z.w b4 56 zero4 ∧ RowAt z.w b6 56 (ptL x.loc x.cl) ∧ LocOk p x ∧ ClOk x.cl ∧ runM p.clks.toNat p.edges x (lastAt l j) (l.drop j) j = res) (fun _ si _ => l.length - (intOf si).toNat)
  case atStart => exact ⟨0, start p, x1, by omega, rfl, rfl, rfl, HCR2.out, HBR2.out, XR.out, HST.out.1, HST.out.2, by rw [HRP.out]; rfl⟩
  case round =>
    clear XR HCR2 HBR2 x1
    obtain ⟨j, x, z, hj, rfl, rfl, rfl, CR, BR, XR, hlo, hco, hd⟩ := hrel
    obtain ⟨loc, cl⟩ := x
    obtain ⟨u0, u1, u2, rfl⟩ : ∃ u0 u1 u2, cl = [u0, u1, u2] := by
      match cl, hco.1 with
      | [x, y, z], _ => exact ⟨x, y, z, rfl⟩
    have d0 := CR.cell (i := 0) rfl
    have d1 := CR.cell (i := 1) rfl
    have d2 := CR.cell (i := 2) rfl
    have d3 := CR.cell (i := 3) rfl
    have d4 := CR.cell (i := 4) rfl
    have p0 := XR.cell (i := 0) rfl
    have p1 := XR.cell (i := 1) rfl
    have p2 := XR.cell (i := 2) rfl
    have p3 := XR.cell (i := 3) rfl
    have hz0 := CR.lt
    have hz6 := XR.lt
    have HCR := Lib.hid CR
    have HBR := Lib.hid BR
    have HXR := Lib.hid XR
    have hzb := Lib.hid z.bel
    by_cases hlt : j < l.length
    · rw [ps_drop hlt] at hd
      obtain ⟨b, off, rfl, hb, hA⟩ := HA.out (by omega)
      obtain ⟨c0, c1⟩ := hA j hlt
      have hww := HW.out j hlt
      rw [← lastAt_eq] at hww
      obtain ⟨w1, w2, w3⟩ := hww
      have hla0 : 0 ≤ lastAt l j := by
        cases j with
        | zero => simp [lastAt]
        | succ j => exact (HW.out j (by omega)).2.2
      generalize hat : lastAt l j = at0 at *
      have hnext : lastAt l (j + 1) = (psAt l j).at_ := rfl
      replace hnext := Lib.hid hnext
      have HSTP := Lib.hid fun (W : World) (hW : Bel z.w W) => rstep_any p p.clks.toNat _ _ ⟨loc, [u0, u1, u2]⟩ ((psAt l j).at_ - at0) (psAt l j).ev W HVD.out.cn HVD.out.n3 (HP.out.keep (hzb.out.trans hW).keeps (hzb.out.trans hW).le) HS.out HVD.out.ed hco (by omega) (by omega)
      have hyl := step_loc HVD.out (x := ⟨loc, [u0, u1, u2]⟩) hlo ((psAt l j).at_ - at0) (psAt l j).ev
      have hyc := step_ok (n := p.clks.toNat) (es := p.edges) (ev := (psAt l j).ev) (x := ⟨loc, [u0, u1, u2]⟩) hco (show 0 ≤ (psAt l j).at_ - at0 by omega)
      have hrt := runM_t (n := p.clks.toNat) (es := p.edges) (x := ⟨loc, [u0, u1, u2]⟩) (a := at0) (s := psAt l j) (ss := l.drop (j + 1)) (i := j)
      have hrf := runM_f (n := p.clks.toNat) (es := p.edges) (x := ⟨loc, [u0, u1, u2]⟩) (a := at0) (s := psAt l j) (ss := l.drop (j + 1)) (i := j)
      rw [hd] at hrt hrf
      generalize step p.clks.toNat p.edges ⟨loc, [u0, u1, u2]⟩ ((psAt l j).at_ - at0) (psAt l j).ev = y at *
      obtain ⟨yl, yc⟩ := y
      obtain ⟨y0, y1, y2, rfl⟩ : ∃ u0 u1 u2, yc = [u0, u1, u2] := by
        match yc, hyc.1 with
        | [x, y, z], _ => exact ⟨x, y, z, rfl⟩
      have HSTP' : Hid (∀ (W : World), Bel z.w W → Calls Try.prog 32 #[.agg #[.int .i64 p.evs, .int .i64 p.clks, .int .i64 p.ini, .slice A1 p.good.length k1, .slice A2 p.edges.length k2], .agg #[.int .i64 loc, .int .i64 u0, .int .i64 u1, .int .i64 u2], .int .i64 ((psAt l j).at_ - at0), .int .i64 (psAt l j).ev] W fun en w' => en = .returned (.agg #[.int .i64 yl, .int .i64 y0, .int .i64 y1, .int .i64 y2]) ∧ Bel W w') := HSTP
      replace hrt := Lib.hid hrt
      replace hrf := Lib.hid hrf
      have HYC := Lib.hid hyc
      have HYL := Lib.hid hyl
      have hwr : IntKind.i64.wrap ((psAt l j).at_ - at0) = (psAt l j).at_ - at0 := IntWalk.i64_in _ (by omega)
      clear HSTP hA hd hlo hco hyc hyl CR BR XR
      go_upto_region 5 with (fail)
      go_cut [] from 17 to 31 (fun wx => Bel w wx ∧ RowAt wx b0 25 [.int .i64 p.evs, .int .i64 p.clks, .int .i64 p.ini, .slice A1 p.good.length k1, .slice A2 p.edges.length k2] ∧ RowAt wx b4 56 zero4 ∧ RowAt wx b6 56 (ptL yl [y0, y1, y2]))
      case first =>
        go_region_with (go_at_call 32; (with_reducible refine (HSTP'.out _ (by (repeat (first | exact Ext.bel _ | exact Bel.refl | refine Bel.alloc ?_ _ | refine Bel.drew ?_ | refine Bel.drewN ?_ _)))).mono ?_); rintro en w2 ⟨rfl, hb1⟩; have HB1 : Hid (Bel z.w w2) := Lib.hid (Bel.trans (by (repeat (first | exact Ext.bel _ | exact Bel.refl | refine Bel.alloc ?_ _ | refine Bel.drew ?_ | refine Bel.drewN ?_ _))) hb1); clear hb1; have hkk := HB1.out.cells; have p0' := (HXR.out.bel HB1.out).cell (i := 0) rfl; have p1' := (HXR.out.bel HB1.out).cell (i := 1) rfl; have p2' := (HXR.out.bel HB1.out).cell (i := 2) rfl; have p3' := (HXR.out.bel HB1.out).cell (i := 3) rfl; have g0 := (HXR.out.bel HB1.out).frozen 0; have g1 := (HXR.out.bel HB1.out).frozen 1; have g2 := (HXR.out.bel HB1.out).frozen 2; have g3 := (HXR.out.bel HB1.out).frozen 3)
        all_goals
          go_wp2
          go_meet
          case rel => exact ⟨((((hzb.out.trans HB1.out).set (p := ⟨b6, 0, none⟩) ob6 _).set (p := ⟨b6, 1, none⟩) ob6 _).set (p := ⟨b6, 2, none⟩) ob6 _).set (p := ⟨b6, 3, none⟩) ob6 _, ((((HCR.out.bel HB1.out).far (a := ⟨b6, 0, none⟩) hb06 _).far (a := ⟨b6, 1, none⟩) hb06 _).far (a := ⟨b6, 2, none⟩) hb06 _).far (a := ⟨b6, 3, none⟩) hb06 _, ((((HBR.out.bel HB1.out).far (a := ⟨b6, 0, none⟩) hb46 _).far (a := ⟨b6, 1, none⟩) hb46 _).far (a := ⟨b6, 2, none⟩) hb46 _).far (a := ⟨b6, 3, none⟩) hb46 _, row_congr (((((HXR.out.bel HB1.out).set 0 _).set 1 _).set 2 _).set 3 _) rfl⟩
      case rest =>
      obtain ⟨hbw, CR, BR, XR⟩ := hcut
      obtain ⟨x, rfl⟩ := ext_of hbw
      clear d0 d1 d2 d3 d4 p0 p1 p2 p3 hz0 hz6 HCR HBR HXR hzb HSTP' hbw z
      have p0 := XR.cell (i := 0) rfl
      by_cases hy : yl < 0
      · have HR : Hid (res = (⟨yl, [y0, y1, y2]⟩, (j : Int))) := Lib.hid (hrt.out hy)
        have hxb := Lib.hid x.bel
        have p1 := XR.cell (i := 1) rfl
        have p2 := XR.cell (i := 2) rfl
        have p3 := XR.cell (i := 3) rfl
        have q0 := BR.cell (i := 0) rfl
        have q1 := BR.cell (i := 1) rfl
        have q2 := BR.cell (i := 2) rfl
        have q3 := BR.cell (i := 3) rfl
        have g0 := BR.frozen 0
        have g1 := BR.frozen 1
        have g2 := BR.frozen 2
        have g3 := BR.frozen 3
        clear CR BR XR hrt hrf
        go_wp2
        refine bodyPost_ret (v := .tuple #[.agg #[.int .i64 yl, .int .i64 y0, .int .i64 y1, .int .i64 y2], .int .i64 (j : Int)]) (by simp [results, Try.results21, go_sem, q0, q1, q2, q3]) rfl ⟨by rw [HR.out]; rfl, ?_⟩
        exact (((hxb.out.set (p := ⟨b4, 0, none⟩) ob4 _).set (p := ⟨b4, 1, none⟩) ob4 _).set (p := ⟨b4, 2, none⟩) ob4 _).set (p := ⟨b4, 3, none⟩) ob4 _
      · have HN := Lib.hid (hrf.out hy)
        have HCR := Lib.hid CR
        have HBR := Lib.hid BR
        have HXR := Lib.hid XR
        clear CR BR XR hrt hrf
        go_wp2
        go_roundw
        case rel => exact ⟨j + 1, ⟨yl, [y0, y1, y2]⟩, x, by omega, rfl, by go_num, rfl, HCR.out, HBR.out, HXR.out, HYL.out, HYC.out, HN.out.symm⟩
        case measure => simp [intOf]; omega
    · obtain rfl : j = l.length := by omega
      have HR : Hid (res = (⟨loc, [u0, u1, u2]⟩, -1)) := Lib.hid (by rw [← hd, List.drop_eq_nil_of_le (Nat.le_refl _)]; rfl)
      have q0 := BR.cell (i := 0) rfl
      have q1 := BR.cell (i := 1) rfl
      have q2 := BR.cell (i := 2) rfl
      have q3 := BR.cell (i := 3) rfl
      have g0 := BR.frozen 0
      have g1 := BR.frozen 1
      have g2 := BR.frozen 2
      have g3 := BR.frozen 3
      clear CR BR XR hd
      go_wp2
      refine bodyPost_ret (v := .tuple #[.agg #[.int .i64 loc, .int .i64 u0, .int .i64 u1, .int .i64 u2], .int .i64 (-1)]) (by simp [results, Try.results21, go_sem, q0, q1, q2, q3]) rfl ⟨by rw [HR.out]; rfl, ?_⟩
      exact (((hzb.out.set (p := ⟨b4, 0, none⟩) ob4 _).set (p := ⟨b4, 1, none⟩) ob4 _).set (p := ⟨b4, 2, none⟩) ob4 _).set (p := ⟨b4, 3, none⟩) ob4 _
end Go.Proofs.Ytcnjojhbcijdmaa
