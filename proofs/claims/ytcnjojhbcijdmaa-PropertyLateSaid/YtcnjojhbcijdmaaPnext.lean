import Derived.Test.YtcnjojhbcijdmaaPrunm
import Derived.Test.YtcnjojhbcijdmaaQtail
import Derived.Deep.RegionHeld3
namespace Go.Proofs.Ytcnjojhbcijdmaa
open Go.RowKit
def runnerL (p : PP) (gv ev : Value) (x : Pt) (at_ : Int) : List Value := [.int .i64 p.evs, .int .i64 p.clks, .int .i64 p.ini, gv, ev, .int .i64 x.loc, .int .i64 (x.cl.getD 0 0), .int .i64 (x.cl.getD 1 0), .int .i64 (x.cl.getD 2 0), .int .i64 at_]
theorem far_keep {w : World} {c o b i : Nat} {u v : Value} (h : w.cell? ⟨c, o, none⟩ = some v) (hn : b ≠ c) : (w.setCell ⟨b, i, none⟩ u).cell? ⟨c, o, none⟩ = some v := (World.cell?_setCell_far w ⟨b, i, none⟩ ⟨c, o, none⟩ u hn).trans h
set_option maxRecDepth 100000 in
set_option maxHeartbeats 16000000 in
theorem pnext_any (p : PP) (n : Nat) (gv ev : Value) (br : Nat) (x : Pt) (at0 : Int) (s : PS) (w W : World) (hv : PValid p n) (hs : PSized p) (h : PropAt w w.heap.size gv ev p) (hW : Bel w W) (hbr : w.heap.size ≤ br)
    (hr : RowAt W br 54 (runnerL p gv ev x at0)) (hx : ClOk x.cl) (ha : 0 ≤ s.at_ - at0) (ha2 : s.at_ - at0 ≤ 1000000) :
    Calls Try.prog 34 #[.pointer (some ⟨br, 0, none⟩), .agg #[.int .i64 s.at_, .int .i64 s.ev]] W fun e w' => e = .returned (.bool (decide ((step n p.edges x (s.at_ - at0) s.ev).loc < 0))) ∧ Bel w w' ∧ RowAt w' br 54 (runnerL p gv ev (step n p.edges x (s.at_ - at0) s.ev) s.at_) := by
  have hyc := step_ok (n := n) (es := p.edges) (ev := s.ev) (x := x) hx ha
  have HSTP : ∀ (V : World), Bel W V → RowAt V br 54 (runnerL p gv ev x at0) → Calls Try.prog 31 #[.pointer (some ⟨br, 0, none⟩), x.V, .int .i64 (s.at_ - at0), .int .i64 s.ev] V fun en w' => en = .returned (step n p.edges x (s.at_ - at0) s.ev).V ∧ Bel V w' := fun V hV hR =>
    pstep_any p n gv ev br x (s.at_ - at0) s.ev V hv.cn hv.n3 (h.keep (hW.trans hV).keeps (hW.trans hV).le) hs hv.ed ⟨hR.lt, hR.cell rfl, hR.cell rfl, hR.cell rfl, hR.cell rfl, hR.cell rfl⟩ hx ha ha2
  obtain ⟨A1, k1, rfl, hk1⟩ := h.g.form
  obtain ⟨A2, k2, rfl, hk2⟩ := h.e.form
  generalize step n p.edges x (s.at_ - at0) s.ev = y at *
  obtain ⟨loc, cl⟩ := x
  obtain ⟨u0, u1, u2, rfl⟩ : ∃ u0 u1 u2, cl = [u0, u1, u2] := by
    match cl, hx.1 with
    | [x, y, z], _ => exact ⟨x, y, z, rfl⟩
  obtain ⟨yl, yc⟩ := y
  obtain ⟨y0, y1, y2, rfl⟩ : ∃ u0 u1 u2, yc = [u0, u1, u2] := by
    match yc, hyc.1 with
    | [x, y, z], _ => exact ⟨x, y, z, rfl⟩
  have HSTP' : Hid (∀ (V : World), Bel W V → RowAt V br 54 (runnerL p (.slice A1 p.good.length k1) (.slice A2 p.edges.length k2) ⟨loc, [u0, u1, u2]⟩ at0) → Calls Try.prog 31 #[.pointer (some ⟨br, 0, none⟩), .agg #[.int .i64 loc, .int .i64 u0, .int .i64 u1, .int .i64 u2], .int .i64 (s.at_ - at0), .int .i64 s.ev] V fun en w' => en = .returned (.agg #[.int .i64 yl, .int .i64 y0, .int .i64 y1, .int .i64 y2]) ∧ Bel V w') := HSTP
  have hwr : IntKind.i64.wrap (s.at_ - at0) = s.at_ - at0 := IntWalk.i64_in _ (by omega)
  have HR0 := Lib.hid (hr.alloc (.cells #[.int .i64 s.at_, .int .i64 s.ev] 39))
  have HW0 : Hid (Bel w (W.alloc (.cells #[.int .i64 s.at_, .int .i64 s.ev] 39))) := Lib.hid (hW.alloc _)
  have HBW : Hid (Bel W (W.alloc (.cells #[.int .i64 s.at_, .int .i64 s.ev] 39))) := Lib.hid (Bel.refl.alloc _)
  have hrlt := hr.lt
  obtain ⟨s1, s2⟩ := s
  simp only at *
  clear HSTP hx hyc h hs hv hr
  go_enter Try.func34, Try.ntmps34
  go_upto_region 1 with (fail)
  generalize hWb : World.alloc W _ = wb at *
  have b0 : wb.cell? ⟨W.heap.size, 0, none⟩ = some (.int .i64 s1) := by rw [← hWb]; simp [go_sem]
  have b1 : wb.cell? ⟨W.heap.size, 1, none⟩ = some (.int .i64 s2) := by rw [← hWb]; simp [go_sem]
  have bz : W.heap.size < wb.heap.size := by rw [← hWb]; simp [go_sem]
  clear hWb
  have r5 : wb.cell? ⟨br, 5, none⟩ = some (.int .i64 loc) := HR0.out.cell (i := 5) rfl
  have r6 := HR0.out.cell (i := 6) rfl
  have r7 := HR0.out.cell (i := 7) rfl
  have r8 := HR0.out.cell (i := 8) rfl
  have r9 := HR0.out.cell (i := 9) rfl
  simp only [List.getD_cons_zero, List.getD_cons_succ] at r6 r7 r8
  have hrz := HR0.out.lt
  have HSTQ : Hid (∀ (V : World), Bel wb V → Calls Try.prog 31 #[.pointer (some ⟨br, 0, none⟩), .agg #[.int .i64 loc, .int .i64 u0, .int .i64 u1, .int .i64 u2], .int .i64 (s1 - at0), .int .i64 s2] V fun en w' => en = .returned (.agg #[.int .i64 yl, .int .i64 y0, .int .i64 y1, .int .i64 y2]) ∧ Bel V w') := Lib.hid fun V hV => HSTP'.out V (HBW.out.trans hV) (HR0.out.bel hV)
  clear HSTP'
  have f5 := HR0.out.frozen 5
  have f6 := HR0.out.frozen 6
  have f7 := HR0.out.frozen 7
  have f8 := HR0.out.frozen 8
  have f9 := HR0.out.frozen 9
  have hne : W.heap.size ≠ br := Nat.ne_of_gt hrlt
  have hne2 : br ≠ W.heap.size := Nat.ne_of_lt hrlt
  have hbd0 : wb.drew.cell? ⟨W.heap.size, 0, none⟩ = some (.int .i64 s1) := b0
  have hbd1 : wb.drew.cell? ⟨W.heap.size, 1, none⟩ = some (.int .i64 s2) := b1
  refine wp_region_noPanic ?_
  refine wp_region_held_drew (S := fun V => V.cell? ⟨W.heap.size, 0, none⟩ = some (.int .i64 s1) ∧ V.cell? ⟨W.heap.size, 1, none⟩ = some (.int .i64 s2)) (by kernel_rfl) ⟨hbd0, hbd1⟩ (fun hH => ?_)
  refine wpAnyH_take (i := 1) (v := .pointer (some ⟨br, 0, none⟩)) rfl (by kernel_rfl) (by kernel_rfl) (by kernel_rfl) (fun _ _ _ h => h) (Or.inl ⟨by rfl, ?_⟩) hH ?_
  · intro V hSV
    obtain ⟨hS0, hS1⟩ := hSV
    go_simp
  try simp only [Act.put, List.getElem_toArray, List.getElem_cons_succ, List.getElem_cons_zero, List.setIfInBounds_toArray, List.set_cons_zero, List.set_cons_succ]
  refine wpAnyH_take (i := 17) (v := .pointer (some ⟨W.heap.size, 0, none⟩)) rfl (by kernel_rfl) (by kernel_rfl) (by kernel_rfl) (fun _ _ _ h => h) (Or.inl ⟨by rfl, ?_⟩) hH ?_
  · intro V hSV
    obtain ⟨hS0, hS1⟩ := hSV
    go_simp
  try simp only [Act.put, List.getElem_toArray, List.getElem_cons_succ, List.getElem_cons_zero, List.setIfInBounds_toArray, List.set_cons_zero, List.set_cons_succ]
  refine wpAnyH_take (i := 18) (v := .int .i64 s1) rfl (by kernel_rfl) (by kernel_rfl) (by kernel_rfl) (fun _ _ _ h => h) (Or.inl ⟨by rfl, ?_⟩) hH ?_
  · intro V hSV
    obtain ⟨hS0, hS1⟩ := hSV
    go_simp
  try simp only [Act.put, List.getElem_toArray, List.getElem_cons_succ, List.getElem_cons_zero, List.setIfInBounds_toArray, List.set_cons_zero, List.set_cons_succ]
  refine anyH_quiet (wb := wb) (g := 6) 19 [0, 2, 3, 4, 5, 6, 7, 8, 9, 10, 11, 12, 13, 14, 15, 16] (by (repeat (first | exact Ext.bel _ | exact Bel.refl | refine Bel.alloc ?_ _ | refine Bel.drew ?_ | refine Bel.drewN ?_ _))) (fun y => ⟨(ext_cells y _ _ bz).trans b0, (ext_cells y _ _ bz).trans b1⟩) (by kernel_rfl) rfl ?_
  simp only [opsOf, List.filterMap_cons, List.filterMap_nil, List.getElem?_toArray, List.getElem?_cons_succ, List.getElem?_cons_zero]
  (repeat (any_goals (first | go_big_quiet_step ((go_at_call 31; with_reducible exact ext_call (HSTQ.out _ (by (repeat (first | exact Ext.bel _ | exact Bel.refl | refine Bel.alloc ?_ _ | refine Bel.drew ?_ | refine Bel.drewN ?_ _)))))) | quiet_step ((go_at_call 31; with_reducible exact ext_call (HSTQ.out _ (by (repeat (first | exact Ext.bel _ | exact Bel.refl | refine Bel.alloc ?_ _ | refine Bel.drew ?_ | refine Bel.drewN ?_ _)))))))))
  refine wpQuiet_nil ?_
  intro y
  have HY := Lib.hid (HR0.out.bel y.bel)
  have HYB := Lib.hid y.bel
  have yb0 : y.w.cell? ⟨W.heap.size, 0, none⟩ = some (.int .i64 s1) := (ext_cells y _ _ bz).trans b0
  have yb1 : y.w.cell? ⟨W.heap.size, 1, none⟩ = some (.int .i64 s2) := (ext_cells y _ _ bz).trans b1
  have hYL : br < y.w.heap.size := HY.out.lt
  have yr5 : y.w.cell? ⟨br, 5, none⟩ = some (.int .i64 loc) := HY.out.cell (i := 5) rfl
  have yr6 : y.w.cell? ⟨br, 6, none⟩ = some (.int .i64 u0) := HY.out.cell (i := 6) rfl
  have yr7 : y.w.cell? ⟨br, 7, none⟩ = some (.int .i64 u1) := HY.out.cell (i := 7) rfl
  have yr8 : y.w.cell? ⟨br, 8, none⟩ = some (.int .i64 u2) := HY.out.cell (i := 8) rfl
  have yf5 := HY.out.frozen 5
  have yf6 := HY.out.frozen 6
  have yf7 := HY.out.frozen 7
  have yf8 := HY.out.frozen 8
  refine wpAnyH_ready (rs := [19]) (by kernel_rfl) (by simp) ?_
  refine AllReadyH.cons rfl (fun K hK => ?_) AllReadyH.nil
  go_simp
  refine hK.out _ _ ?_ (fun hH => ?_)
  · exact ⟨yb0, yb1⟩
  clear hK K
  try simp only [Act.put, List.getElem_toArray, List.getElem_cons_succ, List.getElem_cons_zero, List.setIfInBounds_toArray, List.set_cons_zero, List.set_cons_succ]
  refine wpAnyH_ready (rs := [20]) (by kernel_rfl) (by simp) ?_
  refine AllReadyH.cons rfl (fun K hK => ?_) AllReadyH.nil
  go_simp
  refine hK.out _ _ ?_ (fun hH => ?_)
  · exact ⟨yb0, yb1⟩
  clear hK K
  try simp only [Act.put, List.getElem_toArray, List.getElem_cons_succ, List.getElem_cons_zero, List.setIfInBounds_toArray, List.set_cons_zero, List.set_cons_succ]
  refine wpAnyH_ready (rs := [21]) (by kernel_rfl) (by simp) ?_
  refine AllReadyH.cons rfl (fun K hK => ?_) AllReadyH.nil
  go_simp
  refine hK.out _ _ ?_ (fun hH => ?_)
  · exact ⟨far_keep (far_keep (far_keep (far_keep yb0 hne2) hne2) hne2) hne2, far_keep (far_keep (far_keep (far_keep yb1 hne2) hne2) hne2) hne2⟩
  clear hK K
  try simp only [Act.put, List.getElem_toArray, List.getElem_cons_succ, List.getElem_cons_zero, List.setIfInBounds_toArray, List.set_cons_zero, List.set_cons_succ]
  have hV0 := far_keep (i := 8) (u := .int .i64 y2) (far_keep (i := 7) (u := .int .i64 y1) (far_keep (i := 6) (u := .int .i64 y0) (far_keep (i := 5) (u := .int .i64 yl) yb0 hne2) hne2) hne2) hne2
  have hV1 := far_keep (i := 8) (u := .int .i64 y2) (far_keep (i := 7) (u := .int .i64 y1) (far_keep (i := 6) (u := .int .i64 y0) (far_keep (i := 5) (u := .int .i64 yl) yb1 hne2) hne2) hne2) hne2
  have hBV := Lib.hid (((((HW0.out.trans HYB.out).set (p := ⟨br, 5, none⟩) hbr (.int .i64 yl)).set (p := ⟨br, 6, none⟩) hbr (.int .i64 y0)).set (p := ⟨br, 7, none⟩) hbr (.int .i64 y1)).set (p := ⟨br, 8, none⟩) hbr (.int .i64 y2))
  have HV := Lib.hid ((((HY.out.set 5 (.int .i64 yl)).set 6 (.int .i64 y0)).set 7 (.int .i64 y1)).set 8 (.int .i64 y2))
  clear yr5 yr6 yr7 yr8 yf5 yf6 yf7 yf8 hYL HYB HY yb0 yb1
  generalize ((((y.w.setCell ⟨br, 5, none⟩ (.int .i64 yl)).setCell ⟨br, 6, none⟩ (.int .i64 y0)).setCell ⟨br, 7, none⟩ (.int .i64 y1)).setCell ⟨br, 8, none⟩ (.int .i64 y2)) = V at *
  have v9 : V.cell? ⟨br, 9, none⟩ = some (.int .i64 at0) := HV.out.cell (i := 9) rfl
  have vf9 := HV.out.frozen 9
  have v5 : V.cell? ⟨br, 5, none⟩ = some (.int .i64 yl) := HV.out.cell (i := 5) rfl
  refine wpAnyH_ready (rs := [22]) (by kernel_rfl) (by simp) ?_
  refine AllReadyH.cons rfl (fun K hK => ?_) AllReadyH.nil
  go_simp
  refine hK.out _ _ ?_ (fun hH => ?_)
  · exact ⟨hV0, hV1⟩
  clear hK K
  try simp only [Act.put, List.getElem_toArray, List.getElem_cons_succ, List.getElem_cons_zero, List.setIfInBounds_toArray, List.set_cons_zero, List.set_cons_succ]
  refine wpAnyH_ready (rs := [23]) (by kernel_rfl) (by simp) ?_
  refine AllReadyH.cons rfl (fun K hK => ?_) AllReadyH.nil
  go_simp
  refine hK.out _ _ ?_ (fun hH => ?_)
  · exact ⟨hV0, hV1⟩
  clear hK K
  try simp only [Act.put, List.getElem_toArray, List.getElem_cons_succ, List.getElem_cons_zero, List.setIfInBounds_toArray, List.set_cons_zero, List.set_cons_succ]
  refine wpAnyH_ready (rs := [24]) (by kernel_rfl) (by simp) ?_
  refine AllReadyH.cons rfl (fun K hK => ?_) AllReadyH.nil
  go_simp
  refine hK.out _ _ ?_ (fun hH => ?_)
  · exact ⟨far_keep hV0 hne2, far_keep hV1 hne2⟩
  clear hK K
  try simp only [Act.put, List.getElem_toArray, List.getElem_cons_succ, List.getElem_cons_zero, List.setIfInBounds_toArray, List.set_cons_zero, List.set_cons_succ]
  refine wpAnyH_done (by kernel_rfl) ?_ _
  refine NoPanic.normal ?_

  go_wp2
  go_ret
  exact ⟨rfl, hBV.out.set (p := ⟨br, 9, none⟩) hbr _, row_congr (HV.out.set 9 (.int .i64 s1)) rfl⟩
end Go.Proofs.Ytcnjojhbcijdmaa
