import Derived.Test.YthidbmeocifkcaaZPstep
namespace Go.Proofs.Ythidbmeocifkcaa
open Go.RowKit
set_option maxRecDepth 100000 in
set_option maxHeartbeats 16000000 in
theorem rstep_any (p : PP) (n : Nat) (gv ev : Value) (x : Pt) (a e : Int) (w : World) (hn : p.clks = n) (hn3 : n ≤ 3) (h : PropAt w w.heap.size gv ev p) (hs : PSized p) (hv : ∀ y ∈ p.edges, edgeBad p y = false)
    (hx : ClOk x.cl) (ha : 0 ≤ a) (ha2 : a ≤ 1000000000) :
    Calls Try.prog 37 #[.agg #[.int .i64 p.evs, .int .i64 p.clks, .int .i64 p.ini, gv, ev], x.V, .int .i64 a, .int .i64 e] w fun en w' => en = .returned (step n p.edges x a e).V ∧ Bel w w' := by
  have HE := Lib.hid h.e
  have HS := Lib.hid hs
  have HV := Lib.hid hv
  have HX := Lib.hid hx
  obtain ⟨A1, k1, rfl, hk1⟩ := h.g.form
  obtain ⟨A2, k2, rfl, hk2⟩ := h.e.form
  have hle := hs.e
  rw [hn]
  obtain ⟨loc, cl⟩ := x
  have HT1 := Lib.hid (tickJ_ok (j := n) hx ha)
  have hcl3 := hx.1
  simp only at HX hcl3 HT1 hx
  have hst : step n p.edges ⟨loc, cl⟩ a e = if loc < 0 then ⟨loc, tickJ a cl n⟩ else
    match findE n (tickJ a cl n) loc e p.edges with
    | some e => ⟨e.to, resetF (tickJ a cl n) e.rst⟩
    | none => ⟨-1, tickJ a cl n⟩ := rfl
  have HST := Lib.hid hst
  generalize step n p.edges ⟨loc, cl⟩ a e = res at *
  obtain ⟨u0, u1, u2, rfl⟩ : ∃ u0 u1 u2, cl = [u0, u1, u2] := by
    match cl, hcl3 with
    | [x, y, z], _ => exact ⟨x, y, z, rfl⟩
  have HRES : Hid ((⟨loc, [u0, u1, u2]⟩ : Pt).V = .agg #[.int .i64 loc, .int .i64 u0, .int .i64 u1, .int .i64 u2]) := Lib.hid rfl
  rw [HRES.out]
  clear h hs hv hx hst HRES
  go_enter Try.func37, Try.ntmps37
  go_upto_region 1 with (fail)
  have CR : RowAt (((w.alloc (.cells #[.int .i64 p.evs, .int .i64 n, .int .i64 p.ini, .slice A1 p.good.length k1, .slice A2 p.edges.length k2] 25)).alloc (.cells #[.int .i64 loc, .int .i64 u0, .int .i64 u1, .int .i64 u2] 43)).alloc (.cells #[.int .i64 0, .int .i64 0, .int .i64 0, .int .i64 0] 43)) w.heap.size 25 [.int .i64 p.evs, .int .i64 n, .int .i64 p.ini, .slice A1 p.good.length k1, .slice A2 p.edges.length k2] :=
    ((RowAt.new w 25 [.int .i64 p.evs, .int .i64 n, .int .i64 p.ini, .slice A1 p.good.length k1, .slice A2 p.edges.length k2]).alloc _).alloc _
  have AR : RowAt (((w.alloc (.cells #[.int .i64 p.evs, .int .i64 n, .int .i64 p.ini, .slice A1 p.good.length k1, .slice A2 p.edges.length k2] 25)).alloc (.cells #[.int .i64 loc, .int .i64 u0, .int .i64 u1, .int .i64 u2] 43)).alloc (.cells #[.int .i64 0, .int .i64 0, .int .i64 0, .int .i64 0] 43)) (w.heap.size + 1) 43 (ptL loc (tickJ a [u0, u1, u2] 0)) := by
    have := (RowAt.new (w.alloc (.cells #[.int .i64 p.evs, .int .i64 n, .int .i64 p.ini, .slice A1 p.good.length k1, .slice A2 p.edges.length k2] 25)) 43 [.int .i64 loc, .int .i64 u0, .int .i64 u1, .int .i64 u2]).alloc (.cells #[.int .i64 0, .int .i64 0, .int .i64 0, .int .i64 0] 43)
    rw [show (w.alloc (.cells #[.int .i64 p.evs, .int .i64 n, .int .i64 p.ini, .slice A1 p.good.length k1, .slice A2 p.edges.length k2] 25)).heap.size = w.heap.size + 1 by simp [go_sem]] at this
    exact this
  have BR : RowAt (((w.alloc (.cells #[.int .i64 p.evs, .int .i64 n, .int .i64 p.ini, .slice A1 p.good.length k1, .slice A2 p.edges.length k2] 25)).alloc (.cells #[.int .i64 loc, .int .i64 u0, .int .i64 u1, .int .i64 u2] 43)).alloc (.cells #[.int .i64 0, .int .i64 0, .int .i64 0, .int .i64 0] 43)) (w.heap.size + 1 + 1) 43 zero4 := by
    have := RowAt.new ((w.alloc (.cells #[.int .i64 p.evs, .int .i64 n, .int .i64 p.ini, .slice A1 p.good.length k1, .slice A2 p.edges.length k2] 25)).alloc (.cells #[.int .i64 loc, .int .i64 u0, .int .i64 u1, .int .i64 u2] 43)) 43 zero4
    rw [show ((w.alloc (.cells #[.int .i64 p.evs, .int .i64 n, .int .i64 p.ini, .slice A1 p.good.length k1, .slice A2 p.edges.length k2] 25)).alloc (.cells #[.int .i64 loc, .int .i64 u0, .int .i64 u1, .int .i64 u2] 43)).heap.size = w.heap.size + 1 + 1 by simp [go_sem]] at this
    exact this
  generalize hW : World.alloc _ _ = W1 at *
  obtain ⟨x1, rfl⟩ : ∃ y : Ext w, W1 = y.w := ext_of (by rw [← hW]; exact ((Bel.refl.alloc _).alloc _).alloc _)
  clear hW
  obtain ⟨b0, hb0⟩ : ∃ b, b = w.heap.size := ⟨_, rfl⟩
  obtain ⟨b1, hb1⟩ : ∃ b, b = w.heap.size + 1 := ⟨_, rfl⟩
  obtain ⟨b2, hb2⟩ : ∃ b, b = w.heap.size + 1 + 1 := ⟨_, rfl⟩
  have ob0 : Own w b0 := by unfold Own; omega
  have ob1 : Own w b1 := by unfold Own; omega
  have ob2 : Own w b2 := by unfold Own; omega
  have h10 : b1 ≠ b0 := by omega
  have h12 : b1 ≠ b2 := by omega
  have h20 : b2 ≠ b0 := by omega
  rw [← hb0] at CR
  rw [← hb1] at AR
  rw [← hb2] at BR
  rw [← hb2, ← hb1, ← hb0]
  clear hb0 hb1 hb2
  generalize hc0 : [u0, u1, u2] = cl at *
  clear hc0
  go_wp2
  go_loopw [9] (fun si wr => ∃ (j : Nat) (z : Ext w), j ≤ n ∧ si = .int .i64 j ∧ wr = z.w ∧ RowAt z.w b0 25 [.int .i64 p.evs, .int .i64 n, .int .i64 p.ini, .slice A1 p.good.length k1, .slice A2 p.edges.length k2] ∧ RowAt z.w b1 43 (ptL loc (tickJ a cl j)) ∧ RowAt z.w b2 43 zero4) (fun si _ => n - (intOf si).toNat)
  case atStart => exact ⟨0, x1, by omega, rfl, rfl, CR, AR, BR⟩
  case round =>
    clear AR BR CR x1
    obtain ⟨j, x, hj, rfl, rfl, CR, AR, BR⟩ := hrel
    by_cases hlt : j < n
    · have hj3 : j < 3 := by omega
      have hb := cl_at HX.out hj3
      have d1 := CR.cell (i := 1) rfl
      have c1 := AR.cell (ptL_s (loc := loc) (cl := tickJ a cl j) (i := j) (by rw [tickJ_len]; exact hj3))
      rw [tickJ_at hj3, if_neg (by omega)] at c1
      have f1 := AR.frozen (j + 1)
      have HAR := Lib.hid (row_congr (AR.set (1 + j) (.int .i64 (min31 (cl.getD j 0 + a)))) (by rw [Nat.add_comm, ptL_set, tickJ_succ hj3]))
      have HBR := Lib.hid (BR.far (a := ⟨b1, 1 + j, none⟩) (Ne.symm h12) (.int .i64 (min31 (cl.getD j 0 + a))))
      have HCR := Lib.hid (CR.far (a := ⟨b1, 1 + j, none⟩) (Ne.symm h10) (.int .i64 (min31 (cl.getD j 0 + a))))
      have hxb := Lib.hid x.bel
      rw [Nat.add_comm] at c1 f1
      have HM := Lib.hid (min31_min (a := a) hb.1)
      generalize cl.getD j 0 = q at *
      clear AR BR CR
      by_cases h31 : 31 < a
      · rw [if_pos h31] at HM
        rw [← HM.out] at HAR HBR HCR
        go_wp2
        go_roundw
        case rel => exact ⟨j + 1, ⟨_, hxb.out.set (p := ⟨b1, 1 + j, none⟩) ob1 _⟩, by omega, by go_num, rfl, HCR.out, HAR.out, HBR.out⟩
        case measure => simp [intOf]; omega
      · clear HM
        go_wp2
        go_roundw
        case rel => exact ⟨j + 1, ⟨_, hxb.out.set (p := ⟨b1, 1 + j, none⟩) ob1 _⟩, by omega, by go_num, rfl, HCR.out, HAR.out, HBR.out⟩
        case measure => simp [intOf]; omega
    · obtain rfl : j = n := by omega
      generalize tickJ a cl j = tl at *
      obtain ⟨t0, t1, t2, rfl⟩ : ∃ t0 t1 t2, tl = [t0, t1, t2] := by
        match tl, HT1.out.1 with
        | [x, y, z], _ => exact ⟨x, y, z, rfl⟩
      have HAR := Lib.hid AR
      have HBR := Lib.hid BR
      have HCR := Lib.hid CR
      have hxb := Lib.hid x.bel
      have d1 := CR.cell (i := 1) rfl
      have p0 := AR.cell (i := 0) rfl
      by_cases hloc : loc < 0
      · have HR : Hid (res = ⟨loc, [t0, t1, t2]⟩) := Lib.hid (by rw [HST.out, if_pos hloc])
        have p1 := AR.cell (i := 1) rfl
        have p2 := AR.cell (i := 2) rfl
        have p3 := AR.cell (i := 3) rfl
        have q0 := BR.cell (i := 0) rfl
        have q1 := BR.cell (i := 1) rfl
        have q2 := BR.cell (i := 2) rfl
        have q3 := BR.cell (i := 3) rfl
        have g0 := BR.frozen 0
        have g1 := BR.frozen 1
        have g2 := BR.frozen 2
        have g3 := BR.frozen 3
        clear AR BR CR HST
        go_wp2
        refine bodyPost_ret (v := .agg #[.int .i64 loc, .int .i64 t0, .int .i64 t1, .int .i64 t2]) (by simp [results, Try.results37, go_sem, q0, q1, q2, q3]) rfl ⟨by rw [HR.out]; rfl, ?_⟩
        exact (((hxb.out.set (p := ⟨b2, 0, none⟩) ob2 _).set (p := ⟨b2, 1, none⟩) ob2 _).set (p := ⟨b2, 2, none⟩) ob2 _).set (p := ⟨b2, 3, none⟩) ob2 _
      · rw [if_neg hloc] at HST
        clear AR BR CR
        go_wp2
        go_loopw [10] (fun si wr => ∃ (i : Nat) (z : Ext w), i ≤ p.edges.length ∧ si = .int .i64 i ∧ wr = z.w ∧ RowAt z.w b0 25 [.int .i64 p.evs, .int .i64 j, .int .i64 p.ini, .slice A1 p.good.length k1, .slice A2 p.edges.length k2] ∧ RowAt z.w b1 43 (ptL loc [t0, t1, t2]) ∧ RowAt z.w b2 43 zero4 ∧ findE j [t0, t1, t2] loc e (p.edges.drop i) = findE j [t0, t1, t2] loc e p.edges) (fun si _ => p.edges.length - (intOf si).toNat)
        case atStart => exact ⟨0, x, by omega, rfl, rfl, HCR.out, HAR.out, HBR.out, rfl⟩
        case round =>
          clear HAR HBR HCR hxb p0 d1 x
          obtain ⟨i, x, hi, rfl, rfl, CR, AR, BR, hd⟩ := hrel
          have d1 := CR.cell (i := 1) rfl
          have d4 := CR.cell (i := 4) rfl
          by_cases hli : i < p.edges.length
          · rw [pe_drop hli] at hd
            obtain ⟨b, off, rfl, hb, hA⟩ := HE.out.at_ (by omega)
            obtain ⟨cv, rv, ⟨c0, c1, c2, c3, c4⟩, hcv, hrv⟩ := hA i hli
            obtain ⟨B1, m1, rfl, _⟩ := hcv.form
            obtain ⟨B2, m2, rfl, _⟩ := hrv.form
            have hev := HV.out _ (pe_mem hli)
            have HHD := Lib.hid (edgeHead_false.mp (by unfold edgeBad at hev; cases hh : edgeHead p (peAt p.edges i) <;> simp [hh] at hev ⊢))
            have HRS : Hid (anyP (rstBad p.clks) (peAt p.edges i).rst = false) := Lib.hid (by
              unfold edgeBad at hev
              cases hh : edgeHead p (peAt p.edges i) <;> simp [hh] at hev
              exact hev.2)
            have HCV := Lib.hid hcv
            have HRV := Lib.hid hrv
            have p0 := AR.cell (i := 0) rfl
            have HCR := Lib.hid (CR.alloc (.cells #[.int .i64 (peAt p.edges i).frm, .int .i64 (peAt p.edges i).to, .int .i64 (peAt p.edges i).ev, .slice B1 (peAt p.edges i).grd.length m1, .slice B2 (peAt p.edges i).rst.length m2] 55))
            have HAR := Lib.hid (AR.alloc (.cells #[.int .i64 (peAt p.edges i).frm, .int .i64 (peAt p.edges i).to, .int .i64 (peAt p.edges i).ev, .slice B1 (peAt p.edges i).grd.length m1, .slice B2 (peAt p.edges i).rst.length m2] 55))
            have HBR := Lib.hid (BR.alloc (.cells #[.int .i64 (peAt p.edges i).frm, .int .i64 (peAt p.edges i).to, .int .i64 (peAt p.edges i).ev, .slice B1 (peAt p.edges i).grd.length m1, .slice B2 (peAt p.edges i).rst.length m2] 55))
            have hxb := Lib.hid x.bel
            have hxz := CR.lt
            have hx0 := AR.lt
            have hx1 := BR.lt
            clear AR BR CR hA hcv hrv hev
            by_cases hfr : (peAt p.edges i).frm = loc ∧ (peAt p.edges i).ev = e
            · have h1' : ((peAt p.edges i).frm != loc) = false := by rw [hfr.1]; simp
              have h2' : ((peAt p.edges i).ev != e) = false := by rw [hfr.2]; simp
              have HFIT : Hid (fits j [t0, t1, t2] loc e (peAt p.edges i) = openF (peAt p.edges i).grd [t0, t1, t2] j) := Lib.hid (by
                rw [Bool.eq_iff_iff, fits_iff]; exact ⟨fun h => h.2.2, fun h => ⟨hfr.1, hfr.2, h⟩⟩)
              have HD := Lib.hid hd
              clear hd hfr
              go_upto_region 13 with (fail)
              generalize hW : World.alloc x.w _ = wd at *
              have qb1 : wd.cell? ⟨x.w.heap.size, 1, none⟩ = some (.int .i64 (peAt p.edges i).to) := by rw [← hW]; simp [go_sem]
              have qb3 : wd.cell? ⟨x.w.heap.size, 3, none⟩ = some (.slice B1 (peAt p.edges i).grd.length m1) := by rw [← hW]; simp [go_sem]
              have qb4 : wd.cell? ⟨x.w.heap.size, 4, none⟩ = some (.slice B2 (peAt p.edges i).rst.length m2) := by rw [← hW]; simp [go_sem]
              have qbz : x.w.heap.size < wd.heap.size := by rw [← hW]; simp [go_sem]
              have HWD : Hid (Bel w wd) := Lib.hid (by rw [← hW]; exact x.bel.alloc _)
              clear hW p0 h1' h2' d1 d4
              have hbe0 : x.w.heap.size ≠ b0 := by omega
              have hbe1 : x.w.heap.size ≠ b1 := by omega
              have hbe2 : x.w.heap.size ≠ b2 := by omega
              clear hxb hx0 hx1 hxz
              generalize x.w.heap.size = be at *
              clear x
              have HALL := Lib.hid fun (y : Ext wd) k v bb hbb => all_at _ (peAt p.edges i).grd k v y.w (HCV.out.keep (HWD.out.trans y.bel).keeps (HWD.out.trans y.bel).le) (HS.out.x _ (pe_mem hli)).1 (b := bb) hbb
              have dw1 := HCR.out.cell (i := 1) rfl
              have hz0 := HCR.out.lt
              have hz1 := HAR.out.lt
              have hz2 := HBR.out.lt
              go_wp2
              go_loopw [12, 13] (fun so sc wr => ∃ (k : Nat) (z : Ext wd), k ≤ j ∧ so = .bool (openF (peAt p.edges i).grd [t0, t1, t2] k) ∧ sc = .int .i64 ((k : Int) + 1) ∧ wr = z.w) (fun _ sc _ => j + 1 - (intOf sc).toNat)
              case atStart => exact ⟨0, ⟨wd, Bel.refl⟩, by omega, rfl, rfl, rfl⟩
              case round =>
                obtain ⟨k, x, hk, rfl, rfl, rfl⟩ := hrel
                by_cases hlk : k < j
                · have hc1 := HAR.out.cell (ptL_s (loc := loc) (cl := [t0, t1, t2]) (i := k) (by simp; omega))
                  rw [Nat.add_comm] at hc1
                  have HSTEP : Hid (openF (peAt p.edges i).grd [t0, t1, t2] (k + 1) = (openF (peAt p.edges i).grd [t0, t1, t2] k && allC ((k : Int) + 1) ([t0, t1, t2].getD k 0) (peAt p.edges i).grd)) := Lib.hid rfl
                  have hk3 : k < 3 := by omega
                  generalize openF (peAt p.edges i).grd [t0, t1, t2] k = o at *
                  generalize [t0, t1, t2].getD k 0 = q at *
                  obtain ⟨bb, hbb⟩ : ∃ bb, allC ((k : Int) + 1) q (peAt p.edges i).grd = bb := ⟨_, rfl⟩
                  have HA1 := Lib.hid fun y => HALL.out y _ _ _ hbb
                  rw [hbb] at HSTEP
                  clear hbb
                  go_upto_region 16 with (fail)
                  cases o
                  · (refine wp_region_ext (wb := wd) (by (repeat (first | exact Ext.bel _ | exact Bel.refl | refine Bel.alloc ?_ _ | refine Bel.drew ?_ | refine Bel.drewN ?_ _))) (by kernel_rfl) (by kernel_rfl) ?_; (repeat (any_goals (first | go_big_quiet_step ((go_at_call 52; with_reducible exact ext_call (HA1.out _))) | quiet_step ((go_at_call 52; with_reducible exact ext_call (HA1.out _))) | (refine wpQuiet_step (fun K hK => ?_); go_simp; split <;> (refine hK _ ?_; clear hK K))))); all_goals (refine wpQuiet_nil ?_; intro _ hw'; obtain ⟨y, hw''⟩ := hw'; subst hw''))
                    go_wp2
                    go_roundw
                    case rel => exact ⟨k + 1, y, by omega, by rw [HSTEP.out]; rfl, by go_num, rfl⟩
                    case measure => simp [intOf]; omega
                  · (refine wp_region_ext (wb := wd) (by (repeat (first | exact Ext.bel _ | exact Bel.refl | refine Bel.alloc ?_ _ | refine Bel.drew ?_ | refine Bel.drewN ?_ _))) (by kernel_rfl) (by kernel_rfl) ?_; (repeat (any_goals (first | go_big_quiet_step ((go_at_call 52; with_reducible exact ext_call (HA1.out _))) | quiet_step ((go_at_call 52; with_reducible exact ext_call (HA1.out _))) | (refine wpQuiet_step (fun K hK => ?_); go_simp; split <;> (refine hK _ ?_; clear hK K))))); all_goals (refine wpQuiet_nil ?_; intro _ hw'; obtain ⟨y, hw''⟩ := hw'; subst hw''))
                    go_wp2
                    go_roundw
                    case rel => exact ⟨k + 1, y, by omega, by rw [HSTEP.out]; rfl, by go_num, rfl⟩
                    case measure => simp [intOf]; omega
                · obtain rfl : k = j := by omega
                  cases hop : openF (peAt p.edges i).grd [t0, t1, t2] k
                  · have HN : Hid (findE k [t0, t1, t2] loc e (p.edges.drop (i + 1)) = findE k [t0, t1, t2] loc e p.edges) := Lib.hid (by rw [← HD.out, findE_f (HFIT.out.trans hop)])
                    have hw2 := Lib.hid (HWD.out.trans x.bel)
                    have hcc2 := Lib.hid (HCR.out.bel x.bel)
                    have ha2 := Lib.hid (HAR.out.bel x.bel)
                    have hb2 := Lib.hid (HBR.out.bel x.bel)
                    clear hop
                    go_wp2
                    go_roundw
                    case rel => exact ⟨i + 1, ⟨_, hw2.out⟩, by omega, by go_num, rfl, hcc2.out, ha2.out, hb2.out, HN.out⟩
                    case measure => simp [intOf]; omega
                  · have HR : Hid (res = ⟨(peAt p.edges i).to, resetF [t0, t1, t2] (peAt p.edges i).rst⟩) := Lib.hid (by rw [HST.out, ← HD.out, findE_t (HFIT.out.trans hop)])
                    have ha2 := Lib.hid (HAR.out.bel x.bel)
                    have hb2 := Lib.hid (HBR.out.bel x.bel)
                    have hq1 := Lib.hid ((x.bel.cells be 1 qbz).trans qb1)
                    have hq4 := Lib.hid ((x.bel.cells be 4 qbz).trans qb4)
                    have hqz : be < x.w.heap.size := ext_lt x qbz
                    have HX2 := Lib.hid (HWD.out.trans x.bel)
                    have hr3b := HHD.out.2.2.2.2.2.2.1
                    clear hop HD HFIT HST HCV HAR HBR HCR HALL
                    go_wp2
                    obtain ⟨x2, hx2⟩ := ext_of HX2.out
                    rw [hx2] at ha2 hb2 hq1 hq4 hqz ⊢
                    clear hx2 HX2
                    go_loopw [14] (fun sm wr => ∃ (m : Nat) (z : Ext w), m ≤ (peAt p.edges i).rst.length ∧ sm = .int .i64 m ∧ wr = z.w ∧ RowAt z.w b1 43 (ptL loc (resetF [t0, t1, t2] ((peAt p.edges i).rst.take m))) ∧ RowAt z.w b2 43 zero4 ∧ z.w.cell? ⟨be, 1, none⟩ = some (.int .i64 (peAt p.edges i).to) ∧ z.w.cell? ⟨be, 4, none⟩ = some (.slice B2 (peAt p.edges i).rst.length m2) ∧ be < z.w.heap.size) (fun sm _ => (peAt p.edges i).rst.length - (intOf sm).toNat)
                    case atStart => exact ⟨0, x2, by omega, rfl, rfl, ha2.out, hb2.out, hq1.out, hq4.out, hqz⟩
                    case round =>
                      clear ha2 hb2 hq1 hq4 hqz
                      obtain ⟨m, z, hm, rfl, rfl, AR, BR, hq1, hq4, hqz⟩ := hrel
                      by_cases hlm : m < (peAt p.edges i).rst.length
                      · obtain ⟨b3, off3, rfl, hb3, hR⟩ := HRV.out.at_ (by omega)
                        have hrc := hR m hlm
                        have hrb := (anyP_iff _ _).mp HRS.out _ (int_mem hlm)
                        simp only [rstBad, Bool.or_eq_false_iff, decide_eq_false_iff_not, hn] at hrb
                        have htk : resetF [t0, t1, t2] ((peAt p.edges i).rst.take (m + 1)) = (resetF [t0, t1, t2] ((peAt p.edges i).rst.take m)).set ((peAt p.edges i).rst.getD m 0 - 1).toNat 0 := by
                          rw [List.take_succ_eq_append_getElem hlm]; unfold resetF; rw [List.foldl_append]; simp [List.getD, hlm]
                        have hrl : (resetF [t0, t1, t2] ((peAt p.edges i).rst.take m)).length = 3 := (resetF_ok _ _ HT1.out).1
                        generalize (peAt p.edges i).rst.getD m 0 = q at *
                        obtain ⟨v, rfl⟩ : ∃ v : Nat, q = (v : Int) + 1 := ⟨(q - 1).toNat, by omega⟩
                        have hv3 : v < 3 := by omega
                        rw [show ((v : Int) + 1 - 1).toNat = v by omega] at htk
                        have c1 := AR.cell (ptL_s (loc := loc) (cl := resetF [t0, t1, t2] ((peAt p.edges i).rst.take m)) (i := v) (by rw [hrl]; exact hv3))
                        have f1 := AR.frozen (v + 1)
                        rw [Nat.add_comm] at c1 f1
                        have HAR := Lib.hid (row_congr (AR.set (1 + v) (.int .i64 0)) (by rw [Nat.add_comm, ptL_set, ← htk]))
                        have HBR := Lib.hid (BR.far (a := ⟨b1, 1 + v, none⟩) (Ne.symm h12) (.int .i64 0))
                        have HQ1 : Hid ((z.w.setCell ⟨b1, 1 + v, none⟩ (.int .i64 0)).cell? ⟨be, 1, none⟩ = some (.int .i64 (peAt p.edges i).to)) := Lib.hid (by
                          rw [World.cell?_setCell_other _ _ _ _ (by intro h; injection h with h; omega)]; exact hq1)
                        have HQ4 : Hid ((z.w.setCell ⟨b1, 1 + v, none⟩ (.int .i64 0)).cell? ⟨be, 4, none⟩ = some (.slice (some ⟨b3, off3, none⟩) (peAt p.edges i).rst.length m2)) := Lib.hid (by
                          rw [World.cell?_setCell_other _ _ _ _ (by intro h; injection h with h; omega)]; exact hq4)
                        have HQZ : Hid (be < (z.w.setCell ⟨b1, 1 + v, none⟩ (.int .i64 0)).heap.size) := Lib.hid (by simp [World.setCell]; exact hqz)
                        have hzb := Lib.hid z.bel
                        clear AR BR hR hrb htk hrl
                        go_wp2
                        go_roundw
                        case rel => exact ⟨m + 1, ⟨_, hzb.out.set (p := ⟨b1, 1 + v, none⟩) ob1 _⟩, by omega, by go_num, rfl, HAR.out, HBR.out, HQ1.out, HQ4.out, HQZ.out⟩
                        case measure => simp [intOf]; omega
                      · obtain rfl : m = (peAt p.edges i).rst.length := by omega
                        rw [List.take_length] at AR
                        have hr3 := (resetF_ok (peAt p.edges i).rst _ HT1.out).1
                        generalize resetF [t0, t1, t2] (peAt p.edges i).rst = rl at *
                        obtain ⟨v0, v1, v2, rfl⟩ : ∃ v0 v1 v2, rl = [v0, v1, v2] := by
                          match rl, hr3 with
                          | [x, y, z], _ => exact ⟨x, y, z, rfl⟩
                        have hzb := Lib.hid z.bel
                        have p0 := AR.cell (i := 0) rfl
                        have p1 := AR.cell (i := 1) rfl
                        have p2 := AR.cell (i := 2) rfl
                        have p3 := AR.cell (i := 3) rfl
                        have k0 := AR.frozen 0
                        have q0 := BR.cell (i := 0) rfl
                        have q1 := BR.cell (i := 1) rfl
                        have q2 := BR.cell (i := 2) rfl
                        have q3 := BR.cell (i := 3) rfl
                        have g0 := BR.frozen 0
                        have g1 := BR.frozen 1
                        have g2 := BR.frozen 2
                        have g3 := BR.frozen 3
                        generalize (peAt p.edges i).to = tz at *
                        clear AR BR
                        go_wp2
                        refine bodyPost_ret (v := .agg #[.int .i64 tz, .int .i64 v0, .int .i64 v1, .int .i64 v2]) (by simp [results, Try.results37, go_sem, q0, q1, q2, q3]) rfl ⟨by rw [HR.out]; rfl, ?_⟩
                        exact ((((hzb.out.set (p := ⟨b1, 0, none⟩) ob1 _).set (p := ⟨b2, 0, none⟩) ob2 _).set (p := ⟨b2, 1, none⟩) ob2 _).set (p := ⟨b2, 2, none⟩) ob2 _).set (p := ⟨b2, 3, none⟩) ob2 _
            · have HN : Hid (findE j [t0, t1, t2] loc e (p.edges.drop (i + 1)) = findE j [t0, t1, t2] loc e p.edges) := Lib.hid (by
                rw [← hd, findE_f (by rw [← Bool.not_eq_true, fits_iff]; exact fun h => hfr ⟨h.1, h.2.1⟩)])
              have hcs : ((peAt p.edges i).frm == loc) = false ∨ (((peAt p.edges i).frm == loc) = true ∧ ((peAt p.edges i).ev == e) = false) := by
                by_cases h1 : (peAt p.edges i).frm = loc
                · exact .inr ⟨by simpa using h1, by simpa using fun h2 => hfr ⟨h1, h2⟩⟩
                · exact .inl (by simpa using h1)
              clear hd hfr HCV HRV HRS HHD
              rcases hcs with h1 | ⟨h1, h2⟩
              · have h1' : ((peAt p.edges i).frm != loc) = true := by rw [bne, h1]; rfl
                go_wp2
                go_roundw
                case rel => exact ⟨i + 1, ⟨_, hxb.out.alloc _⟩, by omega, by go_num, rfl, HCR.out, HAR.out, HBR.out, HN.out⟩
                case measure => simp [intOf]; omega
              · have h1' : ((peAt p.edges i).frm != loc) = false := by rw [bne, h1]; rfl
                have h2' : ((peAt p.edges i).ev != e) = true := by rw [bne, h2]; rfl
                go_wp2
                go_roundw
                case rel => exact ⟨i + 1, ⟨_, hxb.out.alloc _⟩, by omega, by go_num, rfl, HCR.out, HAR.out, HBR.out, HN.out⟩
                case measure => simp [intOf]; omega
          · obtain rfl : i = p.edges.length := by omega
            have HR : Hid (res = ⟨-1, [t0, t1, t2]⟩) := Lib.hid (by rw [HST.out, ← hd]; simp [findE])
            have hxb := Lib.hid x.bel
            have p0 := AR.cell (i := 0) rfl
            have p1 := AR.cell (i := 1) rfl
            have p2 := AR.cell (i := 2) rfl
            have p3 := AR.cell (i := 3) rfl
            have k0 := AR.frozen 0
            have q0 := BR.cell (i := 0) rfl
            have q1 := BR.cell (i := 1) rfl
            have q2 := BR.cell (i := 2) rfl
            have q3 := BR.cell (i := 3) rfl
            have g0 := BR.frozen 0
            have g1 := BR.frozen 1
            have g2 := BR.frozen 2
            have g3 := BR.frozen 3
            clear AR BR CR HST hd
            go_wp2
            refine bodyPost_ret (v := .agg #[.int .i64 (-1), .int .i64 t0, .int .i64 t1, .int .i64 t2]) (by simp [results, Try.results37, go_sem, q0, q1, q2, q3]) rfl ⟨by rw [HR.out]; rfl, ?_⟩
            exact ((((hxb.out.set (p := ⟨b1, 0, none⟩) ob1 _).set (p := ⟨b2, 0, none⟩) ob2 _).set (p := ⟨b2, 1, none⟩) ob2 _).set (p := ⟨b2, 2, none⟩) ob2 _).set (p := ⟨b2, 3, none⟩) ob2 _
end Go.Proofs.Ythidbmeocifkcaa
