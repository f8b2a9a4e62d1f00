import Derived.Test.YtcnjojhbcijdmaaPstepm
import Derived.Deep.CutRange
namespace Go.Proofs.Ytcnjojhbcijdmaa
open Go.RowKit
/-- the property lies at the start of this block -/
structure PropCells (w : World) (b : Nat) (p : PP) (gv ev : Value) : Prop where
  lt : b < w.heap.size
  c0 : w.cell? ⟨b, 0, none⟩ = some (.int .i64 p.evs)
  c1 : w.cell? ⟨b, 1, none⟩ = some (.int .i64 p.clks)
  c2 : w.cell? ⟨b, 2, none⟩ = some (.int .i64 p.ini)
  c3 : w.cell? ⟨b, 3, none⟩ = some gv
  c4 : w.cell? ⟨b, 4, none⟩ = some ev
def zero4 : List Value := [.int .i64 0, .int .i64 0, .int .i64 0, .int .i64 0]
def openSp (l : List (Int × Int)) (cl : List Int) : Nat → Bool
  | 0 => true
  | k + 1 => openSp l cl k && (decide ((l.getD k (0, 0)).1 ≤ cl.getD k 0) && decide (cl.getD k 0 ≤ (l.getD k (0, 0)).2))
theorem openSp_iff (l : List (Int × Int)) (cl : List Int) : ∀ k, openSp l cl k = true ↔ ∀ i : Nat, i < k → (l.getD i (0, 0)).1 ≤ cl.getD i 0 ∧ cl.getD i 0 ≤ (l.getD i (0, 0)).2
  | 0 => by simp [openSp]
  | k + 1 => by
    simp only [openSp, Bool.and_eq_true, decide_eq_true_eq]
    rw [openSp_iff l cl k]
    constructor
    · rintro ⟨h1, h2⟩ i hi
      by_cases e : i = k
      · subst e; exact h2
      · exact h1 i (by omega)
    · exact fun h => ⟨fun i hi => h i (by omega), h k (by omega)⟩
theorem openSp_eq {n : Nat} {g : List PC} (hg : ∀ c ∈ g, pcBad n c = false) {cl : List Int} (hcl : ClOk cl) (hn : n ≤ 3) : openSp (spansM n g) cl n = openF g cl n := by
  rw [Bool.eq_iff_iff, openSp_iff, openF_spans hg hcl n hn (by omega)]
set_option maxRecDepth 100000 in
set_option maxHeartbeats 16000000 in
theorem pstep_any (p : PP) (n : Nat) (gv ev : Value) (br : Nat) (x : Pt) (a e : Int) (w : World) (hn : p.clks = n) (hn3 : n ≤ 3) (h : PropAt w w.heap.size gv ev p) (hs : PSized p) (hv : ∀ y ∈ p.edges, edgeBad p y = false)
    (hr : PropCells w br p gv ev) (hx : ClOk x.cl) (ha : 0 ≤ a) (ha2 : a ≤ 1000000) :
    Calls Try.prog 31 #[.pointer (some ⟨br, 0, none⟩), x.V, .int .i64 a, .int .i64 e] w fun en w' => en = .returned (step n p.edges x a e).V ∧ Bel w w' := by
  have HE := Lib.hid h.e
  have HS := Lib.hid hs
  have HV := Lib.hid hv
  have HX := Lib.hid hx
  obtain ⟨A1, k1, rfl, hk1⟩ := h.g.form
  obtain ⟨A2, k2, rfl, hk2⟩ := h.e.form
  have hle := hs.e
  obtain ⟨hbr, r0, r1, r2, r3, r4⟩ := hr
  rw [hn] at r1
  obtain ⟨loc, cl⟩ := x
  have HT1 := Lib.hid (tickJ_ok (j := n) hx ha)
  have hcl3 := hx.1
  simp only at HX hcl3 HT1 hx
  have hst : step n p.edges ⟨loc, cl⟩ a e = if loc < 0 then ⟨loc, tickJ a cl n⟩ else
    match findE n (tickJ a cl n) loc e p.edges with
    | some e => ⟨e.to, resetF (tickJ a cl n) e.rst⟩
    | none => ⟨-1, tickJ a cl n⟩ := rfl
  have HST := Lib.hid hst
  generalize step n p.edges ⟨loc, cl⟩ a e = res at *
  obtain ⟨u0, u1, u2, rfl⟩ : ∃ u0 u1 u2, cl = [u0, u1, u2] := by
    match cl, hcl3 with
    | [x, y, z], _ => exact ⟨x, y, z, rfl⟩
  have HRES : Hid ((⟨loc, [u0, u1, u2]⟩ : Pt).V = .agg #[.int .i64 loc, .int .i64 u0, .int .i64 u1, .int .i64 u2]) := Lib.hid rfl
  rw [HRES.out]
  clear h hs hv hx hst HRES
  go_enter Try.func31, Try.ntmps31
  go_upto_region 1 with (fail)
  have AR : RowAt ((w.alloc (.cells #[.int .i64 loc, .int .i64 u0, .int .i64 u1, .int .i64 u2] 52)).alloc (.cells #[.int .i64 0, .int .i64 0, .int .i64 0, .int .i64 0] 52)) w.heap.size 52 (ptL loc (tickJ a [u0, u1, u2] 0)) :=
    (RowAt.new w 52 [.int .i64 loc, .int .i64 u0, .int .i64 u1, .int .i64 u2]).alloc _
  have BR : RowAt ((w.alloc (.cells #[.int .i64 loc, .int .i64 u0, .int .i64 u1, .int .i64 u2] 52)).alloc (.cells #[.int .i64 0, .int .i64 0, .int .i64 0, .int .i64 0] 52)) (w.heap.size + 1) 52 zero4 := by
    have := RowAt.new (w.alloc (.cells #[.int .i64 loc, .int .i64 u0, .int .i64 u1, .int .i64 u2] 52)) 52 zero4
    simpa [go_sem, zero4] using this
  generalize hW : World.alloc _ _ = W1 at *
  obtain ⟨x1, rfl⟩ : ∃ y : Ext w, W1 = y.w := ext_of (by rw [← hW]; exact (Bel.refl.alloc _).alloc _)
  clear hW
  have ob0 : Own w w.heap.size := Nat.le_refl _
  have ob1 : Own w (w.heap.size + 1) := Nat.le_succ _
  have hb01 : w.heap.size ≠ w.heap.size + 1 := by omega
  have hbr0 : br ≠ w.heap.size := by omega
  have hbr1 : br ≠ w.heap.size + 1 := by omega
  generalize hc0 : [u0, u1, u2] = cl at *
  clear hc0
  go_wp2
  go_loopw [22] (fun si wr => ∃ (j : Nat) (z : Ext w), j ≤ n ∧ si = .int .i64 j ∧ wr = z.w ∧ RowAt z.w w.heap.size 52 (ptL loc (tickJ a cl j)) ∧ RowAt z.w (w.heap.size + 1) 52 zero4) (fun si _ => n - (intOf si).toNat)
  case atStart => exact ⟨0, x1, by omega, rfl, rfl, AR, BR⟩
  case round =>
    clear AR BR x1
    obtain ⟨j, x, hj, rfl, rfl, AR, BR⟩ := hrel
    by_cases hlt : j < n
    · have hj3 : j < 3 := by omega
      have hb := cl_at HX.out hj3
      have c1 := AR.cell (ptL_s (loc := loc) (cl := tickJ a cl j) (i := j) (by rw [tickJ_len]; exact hj3))
      rw [tickJ_at hj3, if_neg (by omega)] at c1
      have f1 := AR.frozen (j + 1)
      have HAR := Lib.hid (row_congr (AR.set (1 + j) (.int .i64 (min31 (cl.getD j 0 + a)))) (by rw [Nat.add_comm, ptL_set, tickJ_succ hj3]))
      have HBR := Lib.hid (BR.far (a := ⟨w.heap.size, 1 + j, none⟩) (Ne.symm hb01) (.int .i64 (min31 (cl.getD j 0 + a))))
      have hxb := Lib.hid x.bel
      rw [Nat.add_comm] at c1 f1
      generalize cl.getD j 0 = q at *
      clear AR BR
      go_wp2
      go_roundw
      case rel => exact ⟨j + 1, ⟨_, hxb.out.set (p := ⟨w.heap.size, 1 + j, none⟩) (Nat.le_refl _) _⟩, by omega, by go_num, rfl, HAR.out, HBR.out⟩
      case measure => simp [intOf]; omega
    · obtain rfl : j = n := by omega
      generalize tickJ a cl j = tl at *
      obtain ⟨t0, t1, t2, rfl⟩ : ∃ t0 t1 t2, tl = [t0, t1, t2] := by
        match tl, HT1.out.1 with
        | [x, y, z], _ => exact ⟨x, y, z, rfl⟩
      have HAR := Lib.hid AR
      have HBR := Lib.hid BR
      have hxb := Lib.hid x.bel
      have p0 := AR.cell (i := 0) rfl
      by_cases hloc : loc < 0
      · have HR : Hid (res = ⟨loc, [t0, t1, t2]⟩) := Lib.hid (by rw [HST.out, if_pos hloc])
        have p1 := AR.cell (i := 1) rfl
        have p2 := AR.cell (i := 2) rfl
        have p3 := AR.cell (i := 3) rfl
        have q0 := BR.cell (i := 0) rfl
        have q1 := BR.cell (i := 1) rfl
        have q2 := BR.cell (i := 2) rfl
        have q3 := BR.cell (i := 3) rfl
        have g0 := BR.frozen 0
        have g1 := BR.frozen 1
        have g2 := BR.frozen 2
        have g3 := BR.frozen 3
        clear AR BR HST
        go_wp2
        refine bodyPost_ret (v := .agg #[.int .i64 loc, .int .i64 t0, .int .i64 t1, .int .i64 t2]) (by simp [results, Try.results31, go_sem, q0, q1, q2, q3]) rfl ⟨by rw [HR.out]; rfl, ?_⟩
        exact (((hxb.out.set (p := ⟨w.heap.size + 1, 0, none⟩) (Nat.le_succ _) _).set (p := ⟨w.heap.size + 1, 1, none⟩) (Nat.le_succ _) _).set (p := ⟨w.heap.size + 1, 2, none⟩) (Nat.le_succ _) _).set (p := ⟨w.heap.size + 1, 3, none⟩) (Nat.le_succ _) _
      · rw [if_neg hloc] at HST
        clear AR BR
        go_wp2
        go_loopw [46] (fun si wr => ∃ (i : Nat) (z : Ext w), i ≤ p.edges.length ∧ si = .int .i64 i ∧ wr = z.w ∧ RowAt z.w w.heap.size 52 (ptL loc [t0, t1, t2]) ∧ RowAt z.w (w.heap.size + 1) 52 zero4 ∧ findE j [t0, t1, t2] loc e (p.edges.drop i) = findE j [t0, t1, t2] loc e p.edges) (fun si _ => p.edges.length - (intOf si).toNat)
        case atStart => exact ⟨0, x, by omega, rfl, rfl, HAR.out, HBR.out, rfl⟩
        case round =>
          clear HAR HBR hxb p0 x
          obtain ⟨i, x, hi, rfl, rfl, AR, BR, hd⟩ := hrel
          by_cases hli : i < p.edges.length
          · rw [pe_drop hli] at hd
            obtain ⟨b, off, rfl, hb, hA⟩ := HE.out.at_ (by omega)
            obtain ⟨cv, rv, ⟨c0, c1, c2, c3, c4⟩, hcv, hrv⟩ := hA i hli
            obtain ⟨B1, m1, rfl, _⟩ := hcv.form
            obtain ⟨B2, m2, rfl, _⟩ := hrv.form
            have hev := HV.out _ (pe_mem hli)
            have HHD := Lib.hid (edgeHead_false.mp (by unfold edgeBad at hev; cases hh : edgeHead p (peAt p.edges i) <;> simp [hh] at hev ⊢))
            have HRS : Hid (anyP (rstBad p.clks) (peAt p.edges i).rst = false) := Lib.hid (by
              unfold edgeBad at hev
              cases hh : edgeHead p (peAt p.edges i) <;> simp [hh] at hev
              exact hev.2)
            have HGB := Lib.hid (edgeBad_grd hev)
            have HCV := Lib.hid hcv
            have HRV := Lib.hid hrv
            have p0 := AR.cell (i := 0) rfl
            have HAR := Lib.hid (AR.alloc (.cells #[.int .i64 (peAt p.edges i).frm, .int .i64 (peAt p.edges i).to, .int .i64 (peAt p.edges i).ev, .slice B1 (peAt p.edges i).grd.length m1, .slice B2 (peAt p.edges i).rst.length m2] 45))
            have HBR := Lib.hid (BR.alloc (.cells #[.int .i64 (peAt p.edges i).frm, .int .i64 (peAt p.edges i).to, .int .i64 (peAt p.edges i).ev, .slice B1 (peAt p.edges i).grd.length m1, .slice B2 (peAt p.edges i).rst.length m2] 45))
            have hxb := Lib.hid x.bel
            have hx0 := AR.lt
            have hx1 := BR.lt
            clear AR BR hA hcv hrv hev
            by_cases hfr : (peAt p.edges i).frm = loc ∧ (peAt p.edges i).ev = e
            · have h1' : ((peAt p.edges i).frm != loc) = false := by rw [hfr.1]; simp
              have h2' : ((peAt p.edges i).ev != e) = false := by rw [hfr.2]; simp
              have HFIT : Hid (fits j [t0, t1, t2] loc e (peAt p.edges i) = openF (peAt p.edges i).grd [t0, t1, t2] j) := Lib.hid (by
                rw [Bool.eq_iff_iff, fits_iff]; exact ⟨fun h => h.2.2, fun h => ⟨hfr.1, hfr.2, h⟩⟩)
              have HD := Lib.hid hd
              clear hd hfr
              go_upto_region 13 with (fail)
              generalize hW : World.alloc x.w _ = wd at *
              have qb1 : wd.cell? ⟨x.w.heap.size, 1, none⟩ = some (.int .i64 (peAt p.edges i).to) := by rw [← hW]; simp [go_sem]
              have qb3 : wd.cell? ⟨x.w.heap.size, 3, none⟩ = some (.slice B1 (peAt p.edges i).grd.length m1) := by rw [← hW]; simp [go_sem]
              have qb4 : wd.cell? ⟨x.w.heap.size, 4, none⟩ = some (.slice B2 (peAt p.edges i).rst.length m2) := by rw [← hW]; simp [go_sem]
              have qbz : x.w.heap.size < wd.heap.size := by rw [← hW]; simp [go_sem]
              have HWD : Hid (Bel w wd) := Lib.hid (by rw [← hW]; exact x.bel.alloc _)
              clear hW p0 h1' h2'
              have hbe0 : x.w.heap.size ≠ w.heap.size := by omega
              have hbe1 : x.w.heap.size ≠ w.heap.size + 1 := by omega
              clear hxb hx0 hx1
              generalize x.w.heap.size = be at *
              clear x
              have hkw := HWD.out.cells
              have hbrd : br < wd.heap.size := Nat.lt_of_lt_of_le hbr HWD.out.le
              have HSP : Hid (∀ W, Bel wd W → Calls Try.prog 38 #[.agg #[.int .i64 p.evs, .int .i64 j, .int .i64 p.ini, .slice A1 p.good.length k1, .slice (some ⟨b, off, none⟩) p.edges.length k2], .slice B1 (peAt p.edges i).grd.length m1] W (fun en w' => ∃ ps, en = .returned (.slice (some ⟨ps, 0, none⟩) j j) ∧ RowAt w' ps 83 (spFlat (spansM j (peAt p.edges i).grd)) ∧ W.heap.size ≤ ps ∧ Bel W w')) := Lib.hid fun W hW =>
                spans_any p.evs p.ini j _ _ _ (peAt p.edges i).grd W hn3 (HCV.out.keep (HWD.out.trans hW).keeps (HWD.out.trans hW).le) (HS.out.x _ (pe_mem hli)).1 (hn ▸ HGB.out)
              have lX : (spansM j (peAt p.edges i).grd).length = j := by rw [spansM_len]; simp
              have HOP : Hid (openSp (spansM j (peAt p.edges i).grd) [t0, t1, t2] j = openF (peAt p.edges i).grd [t0, t1, t2] j) := Lib.hid (openSp_eq (hn ▸ HGB.out) HT1.out hn3)
              generalize spansM j (peAt p.edges i).grd = X at *
              go_cut [67, 68, 69] from 61 to 69 (fun s67 s68 s69 wx => ∃ ps, s67 = .slice (some ⟨ps, 0, none⟩) j j ∧ s68 = .int .i64 j ∧ s69 = .int .i64 0 ∧ RowAt wx ps 83 (spFlat X) ∧ Bel wd wx)
              case first =>
                go_region_with (go_at_call 38; (with_reducible refine (HSP.out _ (by (repeat (first | exact Ext.bel _ | exact Bel.refl | refine Bel.alloc ?_ _ | refine Bel.drew ?_ | refine Bel.drewN ?_ _)))).mono ?_); rintro en w2 ⟨ps, rfl, hr1, hp1, hb1⟩; have HB1 : Hid (Bel wd w2) := Lib.hid (Bel.trans (by (repeat (first | exact Ext.bel _ | exact Bel.refl | refine Bel.alloc ?_ _ | refine Bel.drew ?_ | refine Bel.drewN ?_ _))) hb1); have HR1 := Lib.hid hr1; clear hb1 hr1 hp1)
                all_goals
                  go_wp2
                  go_meet
                  case rel => exact ⟨ps, rfl, rfl, rfl, HR1.out, HB1.out⟩
              case rest =>
              obtain ⟨ps, rfl, rfl, rfl, hrow, hbw⟩ := hcut
              have qc1 := (hbw.cells be 1 qbz).trans qb1
              have qc4 := (hbw.cells be 4 qbz).trans qb4
              have qcz : be < wc.heap.size := Nat.lt_of_lt_of_le qbz hbw.le
              have HAC := Lib.hid (HAR.out.bel hbw)
              have HBC := Lib.hid (HBR.out.bel hbw)
              have HWC := Lib.hid (HWD.out.trans hbw)
              have HROW := Lib.hid hrow
              clear hkw qb1 qb3 qb4 qbz HAR HBR HWD HSP hbrd hrow hbw
              go_wp2
              go_loopw [12, 69] (fun so sk wr => ∃ (k : Nat) (z : Ext wc), k ≤ j ∧ so = .bool (openSp X [t0, t1, t2] k) ∧ sk = .int .i64 k ∧ wr = z.w) (fun _ sk _ => j - (intOf sk).toNat)
              case atStart => exact ⟨0, ⟨wc, Bel.refl⟩, by omega, rfl, rfl, rfl⟩
              case round =>
                obtain ⟨k, x, hk, rfl, rfl, rfl⟩ := hrel
                by_cases hlk : k < j
                · have hs0 := HROW.out.cell (spFlat_0 X k (by omega))
                  have hs1 := HROW.out.cell (spFlat_1 X k (by omega))
                  have hc1 := HAC.out.cell (ptL_s (loc := loc) (cl := [t0, t1, t2]) (i := k) (by simp; omega))
                  rw [Nat.add_comm] at hc1
                  have hpsz := HROW.out.lt
                  have hb0z := HAC.out.lt
                  have HSTEP : Hid (openSp X [t0, t1, t2] (k + 1) = (openSp X [t0, t1, t2] k && (decide ((X.getD k (0, 0)).1 ≤ [t0, t1, t2].getD k 0) && decide ([t0, t1, t2].getD k 0 ≤ (X.getD k (0, 0)).2)))) := Lib.hid rfl
                  generalize openSp X [t0, t1, t2] k = o at *
                  generalize X.getD k (0, 0) = sp at *
                  generalize [t0, t1, t2].getD k 0 = q at *
                  obtain ⟨lo, hi'⟩ := sp
                  simp only at hs0 hs1 HSTEP
                  go_upto_region 16 with (fail)
                  (generalize hW : World.alloc _ _ = we; have q0_0 := (congrArg (fun W : World => W.cell? ⟨x.w.heap.size, 0, none⟩) hW).symm; simp [go_sem] at q0_0; have q0_1 := (congrArg (fun W : World => W.cell? ⟨x.w.heap.size, 1, none⟩) hW).symm; simp [go_sem] at q0_1; have qz0 : x.w.heap.size < we.heap.size := (by rw [← hW]; simp [go_sem]; try omega); have HBW : Hid (Bel wc we) := Lib.hid (by rw [← hW]; (repeat (first | exact Ext.bel _ | exact Bel.refl | refine Bel.alloc ?_ _ | refine Bel.drew ?_ | refine Bel.drewN ?_ _))); clear hW; have hkw := HBW.out.cells; have : w.heap.size < we.heap.size := (Nat.lt_of_lt_of_le (by first | assumption | omega) HBW.out.le))
                  cases o
                  · (refine wp_region_ext (wb := we) (by (repeat (first | exact Ext.bel _ | exact Bel.refl | refine Bel.alloc ?_ _ | refine Bel.drew ?_ | refine Bel.drewN ?_ _))) (by kernel_rfl) (by kernel_rfl) ?_; (repeat (any_goals (first | go_big_quiet_step (fail) | quiet_step (fail) | (refine wpQuiet_step (fun K hK => ?_); go_simp; split <;> (refine hK _ ?_; clear hK K))))); all_goals (refine wpQuiet_nil ?_; intro _ hw'; obtain ⟨y, hw''⟩ := hw'; subst hw''))
                    go_wp2
                    go_roundw
                    case rel => exact ⟨k + 1, ⟨_, HBW.out.trans y.bel⟩, by omega, by rw [HSTEP.out]; rfl, by go_num, rfl⟩
                    case measure => simp [intOf]; omega
                  · by_cases h1 : lo ≤ q
                    · have h1d : decide (lo ≤ q) = true := by simpa using h1
                      clear h1
                      (refine wp_region_ext (wb := we) (by (repeat (first | exact Ext.bel _ | exact Bel.refl | refine Bel.alloc ?_ _ | refine Bel.drew ?_ | refine Bel.drewN ?_ _))) (by kernel_rfl) (by kernel_rfl) ?_; (repeat (any_goals (first | go_big_quiet_step (fail) | quiet_step (fail) | (refine wpQuiet_step (fun K hK => ?_); go_simp; split <;> (refine hK _ ?_; clear hK K))))); all_goals (refine wpQuiet_nil ?_; intro _ hw'; obtain ⟨y, hw''⟩ := hw'; subst hw''))
                      go_wp2
                      go_roundw
                      case rel => exact ⟨k + 1, ⟨_, HBW.out.trans y.bel⟩, by omega, by rw [HSTEP.out, h1d]; rfl, by go_num, rfl⟩
                      case measure => simp [intOf]; omega
                    · have h1d : decide (lo ≤ q) = false := by simpa using h1
                      clear h1
                      (refine wp_region_ext (wb := we) (by (repeat (first | exact Ext.bel _ | exact Bel.refl | refine Bel.alloc ?_ _ | refine Bel.drew ?_ | refine Bel.drewN ?_ _))) (by kernel_rfl) (by kernel_rfl) ?_; (repeat (any_goals (first | go_big_quiet_step (fail) | quiet_step (fail) | (refine wpQuiet_step (fun K hK => ?_); go_simp; split <;> (refine hK _ ?_; clear hK K))))); all_goals (refine wpQuiet_nil ?_; intro _ hw'; obtain ⟨y, hw''⟩ := hw'; subst hw''))
                      go_wp2
                      go_roundw
                      case rel => exact ⟨k + 1, ⟨_, HBW.out.trans y.bel⟩, by omega, by rw [HSTEP.out, h1d]; rfl, by go_num, rfl⟩
                      case measure => simp [intOf]; omega
                · obtain rfl : k = j := by omega
                  rw [HOP.out]
                  cases hop : openF (peAt p.edges i).grd [t0, t1, t2] k
                  · have HN : Hid (findE k [t0, t1, t2] loc e (p.edges.drop (i + 1)) = findE k [t0, t1, t2] loc e p.edges) := Lib.hid (by rw [← HD.out, findE_f (HFIT.out.trans hop)])
                    have hw2 := Lib.hid (HWC.out.trans x.bel)
                    have ha2 := Lib.hid (HAC.out.bel x.bel)
                    have hb2 := Lib.hid (HBC.out.bel x.bel)
                    clear hop HOP
                    go_wp2
                    go_roundw
                    case rel => exact ⟨i + 1, ⟨_, hw2.out⟩, by omega, by go_num, rfl, ha2.out, hb2.out, HN.out⟩
                    case measure => simp [intOf]; omega
                  · have HR : Hid (res = ⟨(peAt p.edges i).to, resetF [t0, t1, t2] (peAt p.edges i).rst⟩) := Lib.hid (by rw [HST.out, ← HD.out, findE_t (HFIT.out.trans hop)])
                    have ha2 := HAC.out.bel x.bel
                    have hb2 := HBC.out.bel x.bel
                    have hq1 := (x.bel.cells be 1 qcz).trans qc1
                    have hqz : be < x.w.heap.size := ext_lt x qcz
                    have HX2 := Lib.hid (HWC.out.trans x.bel)
                    have hr3b := HHD.out.2.2.2.2.2.2.1
                    clear hop HOP HD HFIT HST HCV HGB HROW HAC HBC
                    go_wp2
                    obtain ⟨x2, hx2⟩ := ext_of HX2.out
                    rw [hx2] at ha2 hb2 hq1 hqz ⊢
                    clear hx2 HX2
                    go_loopw [99] (fun sm wr => ∃ (m : Nat) (z : Ext w), m ≤ (peAt p.edges i).rst.length ∧ sm = .int .i64 m ∧ wr = z.w ∧ RowAt z.w w.heap.size 52 (ptL loc (resetF [t0, t1, t2] ((peAt p.edges i).rst.take m))) ∧ RowAt z.w (w.heap.size + 1) 52 zero4 ∧ z.w.cell? ⟨be, 1, none⟩ = some (.int .i64 (peAt p.edges i).to) ∧ be < z.w.heap.size) (fun sm _ => (peAt p.edges i).rst.length - (intOf sm).toNat)
                    case atStart => exact ⟨0, x2, by omega, rfl, rfl, ha2, hb2, hq1, hqz⟩
                    case round =>
                      clear ha2 hb2 hq1 hqz
                      obtain ⟨m, z, hm, rfl, rfl, AR, BR, hq1, hqz⟩ := hrel
                      by_cases hlm : m < (peAt p.edges i).rst.length
                      · obtain ⟨b3, off3, rfl, hb3, hR⟩ := HRV.out.at_ (by omega)
                        have hrc := hR m hlm
                        have hrb := (anyP_iff _ _).mp HRS.out _ (int_mem hlm)
                        simp only [rstBad, Bool.or_eq_false_iff, decide_eq_false_iff_not, hn] at hrb
                        have htk : resetF [t0, t1, t2] ((peAt p.edges i).rst.take (m + 1)) = (resetF [t0, t1, t2] ((peAt p.edges i).rst.take m)).set ((peAt p.edges i).rst.getD m 0 - 1).toNat 0 := by
                          rw [List.take_succ_eq_append_getElem hlm]; unfold resetF; rw [List.foldl_append]; simp [List.getD, hlm]
                        have hrl : (resetF [t0, t1, t2] ((peAt p.edges i).rst.take m)).length = 3 := (resetF_ok _ _ HT1.out).1
                        generalize (peAt p.edges i).rst.getD m 0 = q at *
                        obtain ⟨v, rfl⟩ : ∃ v : Nat, q = (v : Int) + 1 := ⟨(q - 1).toNat, by omega⟩
                        have hv3 : v < 3 := by omega
                        rw [show ((v : Int) + 1 - 1).toNat = v by omega] at htk
                        have c1 := AR.cell (ptL_s (loc := loc) (cl := resetF [t0, t1, t2] ((peAt p.edges i).rst.take m)) (i := v) (by rw [hrl]; exact hv3))
                        have f1 := AR.frozen (v + 1)
                        rw [Nat.add_comm] at c1 f1
                        have HAR := Lib.hid (row_congr (AR.set (1 + v) (.int .i64 0)) (by rw [Nat.add_comm, ptL_set, ← htk]))
                        have HBR := Lib.hid (BR.far (a := ⟨w.heap.size, 1 + v, none⟩) (Ne.symm hb01) (.int .i64 0))
                        have HQ1 : Hid ((z.w.setCell ⟨w.heap.size, 1 + v, none⟩ (.int .i64 0)).cell? ⟨be, 1, none⟩ = some (.int .i64 (peAt p.edges i).to)) := Lib.hid (by
                          rw [World.cell?_setCell_other _ _ _ _ (by intro h; injection h with h; omega)]; exact hq1)
                        have HQZ : Hid (be < (z.w.setCell ⟨w.heap.size, 1 + v, none⟩ (.int .i64 0)).heap.size) := Lib.hid (by simp [World.setCell]; exact hqz)
                        have hzb := Lib.hid z.bel
                        clear AR BR hR hrb htk hrl
                        go_wp2
                        go_roundw
                        case rel => exact ⟨m + 1, ⟨_, hzb.out.set (p := ⟨w.heap.size, 1 + v, none⟩) (Nat.le_refl _) _⟩, by omega, by go_num, rfl, HAR.out, HBR.out, HQ1.out, HQZ.out⟩
                        case measure => simp [intOf]; omega
                      · obtain rfl : m = (peAt p.edges i).rst.length := by omega
                        rw [List.take_length] at AR
                        have hr3 := (resetF_ok (peAt p.edges i).rst _ HT1.out).1
                        generalize resetF [t0, t1, t2] (peAt p.edges i).rst = rl at *
                        obtain ⟨v0, v1, v2, rfl⟩ : ∃ v0 v1 v2, rl = [v0, v1, v2] := by
                          match rl, hr3 with
                          | [x, y, z], _ => exact ⟨x, y, z, rfl⟩
                        have hzb := Lib.hid z.bel
                        have p0 := AR.cell (i := 0) rfl
                        have p1 := AR.cell (i := 1) rfl
                        have p2 := AR.cell (i := 2) rfl
                        have p3 := AR.cell (i := 3) rfl
                        have k0 := AR.frozen 0
                        have q0 := BR.cell (i := 0) rfl
                        have q1 := BR.cell (i := 1) rfl
                        have q2 := BR.cell (i := 2) rfl
                        have q3 := BR.cell (i := 3) rfl
                        have g0 := BR.frozen 0
                        have g1 := BR.frozen 1
                        have g2 := BR.frozen 2
                        have g3 := BR.frozen 3
                        generalize (peAt p.edges i).to = tz at *
                        clear AR BR
                        go_wp2
                        refine bodyPost_ret (v := .agg #[.int .i64 tz, .int .i64 v0, .int .i64 v1, .int .i64 v2]) (by simp [results, Try.results31, go_sem, q0, q1, q2, q3]) rfl ⟨by rw [HR.out]; rfl, ?_⟩
                        exact ((((hzb.out.set (p := ⟨w.heap.size, 0, none⟩) (Nat.le_refl _) _).set (p := ⟨w.heap.size + 1, 0, none⟩) (Nat.le_succ _) _).set (p := ⟨w.heap.size + 1, 1, none⟩) (Nat.le_succ _) _).set (p := ⟨w.heap.size + 1, 2, none⟩) (Nat.le_succ _) _).set (p := ⟨w.heap.size + 1, 3, none⟩) (Nat.le_succ _) _
            · have HN : Hid (findE j [t0, t1, t2] loc e (p.edges.drop (i + 1)) = findE j [t0, t1, t2] loc e p.edges) := Lib.hid (by
                rw [← hd, findE_f (by rw [← Bool.not_eq_true, fits_iff]; exact fun h => hfr ⟨h.1, h.2.1⟩)])
              have hcs : ((peAt p.edges i).frm == loc) = false ∨ (((peAt p.edges i).frm == loc) = true ∧ ((peAt p.edges i).ev == e) = false) := by
                by_cases h1 : (peAt p.edges i).frm = loc
                · exact .inr ⟨by simpa using h1, by simpa using fun h2 => hfr ⟨h1, h2⟩⟩
                · exact .inl (by simpa using h1)
              clear hd hfr HCV HRV HGB HRS HHD
              rcases hcs with h1 | ⟨h1, h2⟩
              · have h1' : ((peAt p.edges i).frm != loc) = true := by rw [bne, h1]; rfl
                go_wp2
                go_roundw
                case rel => exact ⟨i + 1, ⟨_, hxb.out.alloc _⟩, by omega, by go_num, rfl, HAR.out, HBR.out, HN.out⟩
                case measure => simp [intOf]; omega
              · have h1' : ((peAt p.edges i).frm != loc) = false := by rw [bne, h1]; rfl
                have h2' : ((peAt p.edges i).ev != e) = true := by rw [bne, h2]; rfl
                go_wp2
                go_roundw
                case rel => exact ⟨i + 1, ⟨_, hxb.out.alloc _⟩, by omega, by go_num, rfl, HAR.out, HBR.out, HN.out⟩
                case measure => simp [intOf]; omega
          · obtain rfl : i = p.edges.length := by omega
            have HR : Hid (res = ⟨-1, [t0, t1, t2]⟩) := Lib.hid (by rw [HST.out, ← hd]; simp [findE])
            have hxb := Lib.hid x.bel
            have p0 := AR.cell (i := 0) rfl
            have p1 := AR.cell (i := 1) rfl
            have p2 := AR.cell (i := 2) rfl
            have p3 := AR.cell (i := 3) rfl
            have k0 := AR.frozen 0
            have q0 := BR.cell (i := 0) rfl
            have q1 := BR.cell (i := 1) rfl
            have q2 := BR.cell (i := 2) rfl
            have q3 := BR.cell (i := 3) rfl
            have g0 := BR.frozen 0
            have g1 := BR.frozen 1
            have g2 := BR.frozen 2
            have g3 := BR.frozen 3
            clear AR BR HST hd
            go_wp2
            refine bodyPost_ret (v := .agg #[.int .i64 (-1), .int .i64 t0, .int .i64 t1, .int .i64 t2]) (by simp [results, Try.results31, go_sem, q0, q1, q2, q3]) rfl ⟨by rw [HR.out]; rfl, ?_⟩
            exact ((((hxb.out.set (p := ⟨w.heap.size, 0, none⟩) (Nat.le_refl _) _).set (p := ⟨w.heap.size + 1, 0, none⟩) (Nat.le_succ _) _).set (p := ⟨w.heap.size + 1, 1, none⟩) (Nat.le_succ _) _).set (p := ⟨w.heap.size + 1, 2, none⟩) (Nat.le_succ _) _).set (p := ⟨w.heap.size + 1, 3, none⟩) (Nat.le_succ _) _
end Go.Proofs.Ytcnjojhbcijdmaa
