import Derived.Test.YtbncnadjlppknaaSrdem
import Derived.Test.YtbncnadjlppknaaSpfix
import Derived.Test.YtbncnadjlppknaaQtail
namespace Go.Proofs.Ytbncnadjlppknaa
open Go.RowKit
def minG (n : Nat) (g : Nat → Int) : Int := minL ((List.range n).map g)
theorem minG_le {n : Nat} {g : Nat → Int} (h : 0 < n) : (∀ k, k < n → minG n g ≤ g k) ∧ ∃ k, k < n ∧ minG n g = g k := by
  obtain ⟨a, b⟩ := minL_le (xs := (List.range n).map g) (by simpa using h)
  refine ⟨fun k hk => a _ (List.mem_map.mpr ⟨k, by simpa using hk, rfl⟩), ?_⟩
  obtain ⟨k, hk, e⟩ := List.mem_map.mp b
  exact ⟨k, by simpa using hk, e.symm⟩
theorem smin_arr {w : World} {p n : Nat} {g : Nat → Int} {e : TypeId} (h : ArrAt w p e n g) (h0 : 0 < n) (h8 : n ≤ 1000000) :
    Calls Try.prog 33 #[.slice (some ⟨p, 0, none⟩) n n] w fun e w' => e = .returned (.int .i64 (minG n g)) ∧ Bel w w' := by
  have hl : ((List.range n).map g).length = n := by simp
  have := smin_any ((List.range n).map g) p 0 n w (by rw [hl]; exact IntsAt.of_arr h) (by rw [hl]; exact h8) (by rw [hl]; exact h0)
  rwa [hl] at this
theorem tsk_mem {l : List Tsk} {k : Nat} (h : k < l.length) : tskAt l k ∈ l := by simp [tskAt, List.getD, h]
theorem tsk_all {l : List Tsk} {P : Tsk → Prop} (h : ∀ k, k < l.length → P (tskAt l k)) : ∀ x ∈ l, P x := fun x hx => by
  obtain ⟨k, hk, rfl⟩ := List.mem_iff_getElem.mp hx
  simpa [tskAt, List.getD, hk] using h k hk
/-- the head of the outer loop -/
theorem head_law {l : List Tsk} (hl : ∀ x ∈ l, TOk x) (h0 : 0 < l.length) {s t : Int} (ht : t = minG l.length (fun r => nxU (tskAt l r) s)) :
    s < t ∧ (∀ k, k < l.length → cntU (tskAt l k) (t - 1) = cntU (tskAt l k) s) ∧ demL (t - 1) 0 l = demL s 0 l ∧ (∀ v, s < v → v < t → badB l v = false) ∧ dueB l t = true := by
  obtain ⟨a, k, hk, e⟩ := minG_le (g := fun r => nxU (tskAt l r) s) h0
  rw [← ht] at a e
  have hs : s < t := by rw [e]; exact nx_gt (hl _ (tsk_mem hk)) s
  obtain ⟨c1, c2⟩ := next_law hl (m := t) (s := s) (tsk_all a) hs
  refine ⟨hs, fun k hk => c1 _ (tsk_mem hk), dem_same l 0 c1, c2, ?_⟩
  rw [dueB, List.any_eq_true]
  refine ⟨tskAt l k, tsk_mem hk, (due_iff (hl _ (tsk_mem hk))).mp ?_⟩
  unfold nxU at e ⊢
  rw [c1 _ (tsk_mem hk)]
  exact e.symm
theorem nx_due {x : Tsk} (h : TOk x) {t : Int} (hd : dueT t x = true) : nxU x t = t + x.per := by
  obtain ⟨a, b⟩ := cnt_due h hd
  unfold nxU at b ⊢
  rw [a, Int.add_mul, Int.one_mul]
  omega
theorem nx_not {x : Tsk} (h : TOk x) {t : Int} (hd : dueT t x = false) : nxU x t = nxU x (t - 1) := by
  unfold nxU
  rw [cnt_not h hd]
set_option maxRecDepth 100000 in
set_option maxHeartbeats 8000000 in
theorem pDemand_any (v : Value) (l : List Tsk) (w : World) (h : TsksAt w w.heap.size v l) (hs : Sized l) :
    Calls Try.prog 13 #[v] w fun e w' => e = .returned (.tuple #[.bool (demandM l).1, .int .i64 (demandM l).2.1, .int .i64 (demandM l).2.2]) ∧ Bel w w' := by
  have HC := checkP v l w h hs
  have HS := fun (x : Ext w) => hasTsk_any v l x.w (h.keep x.bel.keeps x.bel.le) hs.len
  obtain ⟨A, c, rfl, hc⟩ := h.form
  by_cases h0 : rchk l = 0
  case neg =>
    have HR := Lib.hid (demandM_no h0)
    replace HC := Lib.hid HC
    generalize rchk l = ck at *
    have hne : (ck == 0) = false := by simpa using h0
    clear h hs HS
    go_enter Try.func13, Try.ntmps13
    go_wp2_with (first | (go_at_call 28; (with_reducible refine (HC.out).mono ?_); rintro e w2 ⟨rfl, hb2⟩; obtain ⟨x, rfl⟩ : ∃ x : Ext w, w2 = x.w := ext_of (hb2.after (by (repeat (first | exact Ext.bel _ | exact Bel.refl | refine Bel.alloc ?_ _ | refine Bel.drew ?_ | refine Bel.drewN ?_ _)))); clear hb2))
    go_ret3
    exact ⟨by rw [HR.out]; rfl, x.bel⟩
  rw [h0] at HC
  replace HC := Lib.hid HC
  by_cases hsc : secsB l = true
  · have HR := Lib.hid (demandM_secs h0 hsc)
    rw [hsc] at HS
    replace HS := Lib.hid HS
    clear h hs h0 hsc
    go_enter Try.func13, Try.ntmps13
    go_wp2_with (first | (go_at_call 28; (with_reducible refine (HC.out).mono ?_); rintro e w2 ⟨rfl, hb2⟩; obtain ⟨x, rfl⟩ : ∃ x : Ext w, w2 = x.w := ext_of (hb2.after (by (repeat (first | exact Ext.bel _ | exact Bel.refl | refine Bel.alloc ?_ _ | refine Bel.drew ?_ | refine Bel.drewN ?_ _)))); clear hb2) | (go_at_call 31; (with_reducible refine (HS.out _).mono ?_); rintro e w2 ⟨rfl, hb2⟩; obtain ⟨x, rfl⟩ : ∃ x : Ext w, w2 = x.w := ext_of (hb2.after (by (repeat (first | exact Ext.bel _ | exact Bel.refl | refine Bel.alloc ?_ _ | refine Bel.drew ?_ | refine Bel.drewN ?_ _)))); clear hb2))
    go_ret3
    exact ⟨by rw [HR.out]; rfl, x.bel⟩
  have hs0 : secsB l = false := by simpa using hsc
  rw [hs0] at HS
  replace HS := Lib.hid HS
  obtain ⟨hl8, _⟩ := rchk_ok h0
  have hpos := rchk_pos h0
  have HT := Lib.hid (toks_of h0)
  have HH := Lib.hid h
  have hB := fun (x : Ext w) => pbusy_any _ l x.w (h.keep x.bel.keeps x.bel.le) hl8 (toks_of h0) hpos
  have HB := Lib.hid hB
  have HR1 := Lib.hid (fun hd => demandM_bad h0 hs0 hd)
  have HR2 := Lib.hid (fun hd hb => demandM_long h0 hs0 hd hb)
  have HR3 := Lib.hid (fun hd hb => demandM_ok h0 hs0 hd hb)
  obtain ⟨lb1, lb2⟩ := lastM_bd l
  have HST : Hid (firstN (badB l) (lastM l + 1 - (0 + 1)).toNat (0 + 1) = dmM l) := Lib.hid (by rw [show lastM l + 1 - (0 + 1) = lastM l by omega]; rfl)
  have HLM : Hid (lastM l = if busyM l = 0 then 20000 else busyM l) := Lib.hid rfl
  obtain ⟨i0, hi, hz0, hz1, hz2⟩ := info_parts Try.infoLong
  have hmk : ∀ W : World, (Instr.makeSlice 25 (.int .i64 (l.length : Int)) (.int .i64 (l.length : Int))).run Try.prog W = .ok (.slice (some ⟨W.heap.size, 0, none⟩) l.length l.length) (W.alloc (.cells (madeCells (Value.int .i64 0).cells (l.length * 1)) 2)) := make_ints Try.underlying25 hi hz0 hz1 hz2 l.length (by omega)
  clear h hs h0 hsc hs0 hB hi hz0 hz1 hz2 i0
  go_enter Try.func13, Try.ntmps13
  go_upto_region 7 with (first | (go_at_call 28; (with_reducible refine (HC.out).mono ?_); rintro e w2 ⟨rfl, hb2⟩; obtain ⟨x, rfl⟩ : ∃ x : Ext w, w2 = x.w := ext_of (hb2.after (by (repeat (first | exact Ext.bel _ | exact Bel.refl | refine Bel.alloc ?_ _ | refine Bel.drew ?_ | refine Bel.drewN ?_ _)))); clear hb2) | (go_at_call 31; (with_reducible refine (HS.out _).mono ?_); rintro e w2 ⟨rfl, hb2⟩; obtain ⟨x, rfl⟩ : ∃ x : Ext w, w2 = x.w := ext_of (hb2.after (by (repeat (first | exact Ext.bel _ | exact Bel.refl | refine Bel.alloc ?_ _ | refine Bel.drew ?_ | refine Bel.drewN ?_ _)))); clear hb2) | (go_at_call 29; (with_reducible refine (HB.out _).mono ?_); rintro e w2 ⟨rfl, hb2⟩; obtain ⟨x, rfl⟩ : ∃ x : Ext w, w2 = x.w := ext_of (hb2.after (by (repeat (first | exact Ext.bel _ | exact Bel.refl | refine Bel.alloc ?_ _ | refine Bel.drew ?_ | refine Bel.drewN ?_ _)))); clear hb2))
  clear HC HS HB
  by_cases hm0 : busyM l = 0
  · have HM0 := Lib.hid hm0
    have hlm := HLM.out
    rw [if_pos hm0] at hlm
    rw [hlm] at HST lb1 lb2
    rw [hm0]
    clear hm0 hlm HLM
    go_upto_region 10 with (fail)
    have HX0 := Lib.hid x.bel
    generalize x.w = wk at *
    have A0 := ArrAt.made wk 2 l.length
    rw [Nat.mul_one] at A0
    replace A0 : ArrAt (wk.alloc (.cells (madeCells #[Value.int .i64 0] l.length) 2)) wk.heap.size 2 l.length (fun _ => 0) := A0
    go_wp2
    generalize hW : World.alloc wk _ = W1 at *
    obtain ⟨x1, hx1⟩ : ∃ y : Ext wk, W1 = y.w := ext_of (by rw [← hW]; exact Bel.refl.alloc _)
    clear hW hmk
    subst hx1
    have hpx : wk.heap.size ≤ wk.heap.size := Nat.le_refl _
    generalize hp : wk.heap.size = p at A0 hpx ⊢
    have HP := Lib.hid hp
    clear hp
    go_loopg [31] l.length (fun gk s31 wr => ∃ (j : Nat) (z : Ext wk), j + gk = l.length ∧ s31 = .int .i64 j ∧ wr = z.w ∧ ArrAt z.w p 2 l.length (fun r => if r < j then (tskAt l r).dl else 0))
    case atStart => exact ⟨0, x1, by omega, rfl, rfl, A0.congr (fun r _ => by simp)⟩
    case round =>
      clear A0 x1
      obtain ⟨j, z, hj, rfl, rfl, AR⟩ := hrel
      by_cases hlt : j < l.length
      · have hdl : decide ((j : Int) < (l.length : Int)) = true := by simp; omega
        have hT := HH.out.keep (HX0.out.trans z.bel).keeps (HX0.out.trans z.bel).le
        obtain ⟨b, off, rfl, hb, hA⟩ := hT.at_ (by omega)
        obtain ⟨sv, ⟨t0, t1, t2, t3, t4, t5, t6⟩, hS⟩ := (hA j hlt)
        obtain ⟨A2, c2, rfl, _⟩ := hS.form
        have HAR := Lib.hid AR
        have hpz := AR.lt
        clear hS hA hT AR
        go_upto_region 14 with (fail)
        (generalize hW : World.alloc _ _ = wb; have q0_0 := (congrArg (fun W : World => W.cell? ⟨z.w.heap.size, 0, none⟩) hW).symm; simp [go_sem] at q0_0; have q0_1 := (congrArg (fun W : World => W.cell? ⟨z.w.heap.size, 1, none⟩) hW).symm; simp [go_sem] at q0_1; have q0_2 := (congrArg (fun W : World => W.cell? ⟨z.w.heap.size, 2, none⟩) hW).symm; simp [go_sem] at q0_2; have q0_3 := (congrArg (fun W : World => W.cell? ⟨z.w.heap.size, 3, none⟩) hW).symm; simp [go_sem] at q0_3; have q0_4 := (congrArg (fun W : World => W.cell? ⟨z.w.heap.size, 4, none⟩) hW).symm; simp [go_sem] at q0_4; have q0_5 := (congrArg (fun W : World => W.cell? ⟨z.w.heap.size, 5, none⟩) hW).symm; simp [go_sem] at q0_5; have q0_6 := (congrArg (fun W : World => W.cell? ⟨z.w.heap.size, 6, none⟩) hW).symm; simp [go_sem] at q0_6; have qz0 : z.w.heap.size < wb.heap.size := (by rw [← hW]; simp [go_sem]; try omega); have HBW : Hid (Bel z.w wb) := Lib.hid (by rw [← hW]; (repeat (first | exact Ext.bel _ | exact Bel.refl | refine Bel.alloc ?_ _ | refine Bel.drew ?_ | refine Bel.drewN ?_ _))); clear hW; have hkw := HBW.out.cells)
        clear hkw
        have AW := HAR.out.bel HBW.out
        have fz := AW.frozen j
        have cz : wb.cell? ⟨p, j, none⟩ = some (.int .i64 0) := by rw [AW.cell hlt]; simp
        have hpw := AW.lt
        have hset := (z.bel.trans HBW.out).set (p := ⟨p, j, none⟩) (by rw [HP.out]; exact Nat.le_refl _) (.int .i64 (tskAt l j).dl)
        have HSET := Lib.hid hset
        have HA3 := Lib.hid (AW.set j (tskAt l j).dl)
        clear AW hset HAR
        go_wp2
        go_roundg (gk - 1)
        case measure => omega
        case rel =>
          obtain ⟨z2, hz2⟩ := ext_of HSET.out
          exact ⟨j + 1, z2, by omega, by go_num, hz2, by rw [← hz2]; exact arr_next HA3.out (by simp) (fun k hk => by simp [hk])⟩
      · obtain rfl : j = l.length := by omega
        have hdl : decide ((l.length : Int) < (l.length : Int)) = false := by simp
        have AN : ArrAt z.w p 2 l.length (fun r => nxU (tskAt l r) 0) := AR.congr fun r hr => by rw [if_pos hr, (cnt_zero (HT.out _ (tsk_mem hr))).2]
        have HMIN := Lib.hid (smin_arr AN hpos (by omega))
        have HAN := Lib.hid AN
        have HD0 : Hid (demL 0 0 l = 0) := Lib.hid (dem_zero l 0 HT.out)
        obtain ⟨m0, hm0⟩ : ∃ m0, m0 = minG l.length (fun r => nxU (tskAt l r) 0) := ⟨_, rfl⟩
        rw [← hm0] at HMIN
        have HM0 := Lib.hid hm0
        clear AR AN hm0
        go_wp2_with (first | (go_at_call 33; (with_reducible refine HMIN.out.mono ?_); rintro e w2 ⟨rfl, hb2⟩; have HB2 := Lib.hid hb2; clear hb2))
        obtain ⟨z1, rfl⟩ := ext_of (z.bel.trans HB2.out)
        have HA1 := Lib.hid (HAN.out.bel HB2.out)
        clear HB2 HAN HMIN z
        go_loopg [11, 12] 20000 (fun gk s11 s12 wr => ∃ (s t q : Int) (z : Ext wk), s11 = .int .i64 q ∧ s12 = .int .i64 t ∧ wr = z.w ∧ 0 ≤ s ∧ s ≤ 20000 ∧ (20000 : Int) ≤ gk + s ∧ ArrAt z.w p 2 l.length (fun r => nxU (tskAt l r) s) ∧ q = demL s 0 l ∧ t = minG l.length (fun r => nxU (tskAt l r) s) ∧ firstN (badB l) (20000 + 1 - (s + 1)).toNat (s + 1) = dmM l)
        case atStart => exact ⟨0, m0, 0, z1, rfl, rfl, rfl, by omega, by omega, by omega, HA1.out, HD0.out.symm, HM0.out, HST.out⟩
        case round =>
          clear HA1 HD0 HM0 HST
          obtain ⟨s, t, q, z, rfl, rfl, rfl, hs0, hs1, hg, AR, hq, ht, hfx⟩ := hrel
          obtain ⟨G, hG⟩ : ∃ G, G = gk := ⟨gk, rfl⟩
          rw [← hG] at hg
          obtain ⟨c1, c2, c3, c4, c5⟩ := head_law HT.out hpos ht
          by_cases hlt : t ≤ 20000
          · have hd : decide (t ≤ 20000) = true := by simp; omega
            have hft : firstN (badB l) (20000 + 1 - t).toNat t = dmM l := by
              rw [← first_skip (t - (s + 1)).toNat (s + 1) t (by omega) (by omega) (fun v h1 h2 => c4 v (by omega) h2)]; exact hfx
            have AT : ArrAt z.w p 2 l.length (fun r => nxU (tskAt l r) (if r < 0 then t else t - 1)) := AR.congr fun r hr => by rw [if_neg (by omega)]; unfold nxU; rw [c2 r hr]
            have hbb : badB l t = decide (t < demL t 0 l) := by unfold badB; rw [c5, Bool.true_and]
            have hin : q + incs t (l.drop 0) = demL t 0 l := by rw [hq, ← c3]; exact (dem_step l 0 HT.out).symm
            have hq0 : 0 ≤ q := by rw [hq]; exact (dem_bd hs0 (by omega) l 0 HT.out).1
            have hqb := (dem_bd (t := t) (by omega) (by omega) l 0 HT.out).2
            have HFT := Lib.hid hft
            have HBB := Lib.hid hbb
            have HIN := Lib.hid hin
            have HAT := Lib.hid AT
            clear AR hq ht hfx c2 c3 c4 c5 hft hbb hin AT
            generalize hdt : demL t 0 l = dt at *
            have HDT := Lib.hid hdt
            clear hdt
            go_wp2
            go_loopg [11, 51] l.length (fun g2 s11 s51 wr => ∃ (i : Nat) (u : Int) (y : Ext wk), i + g2 = l.length ∧ s11 = .int .i64 u ∧ s51 = .int .i64 i ∧ wr = y.w ∧ ArrAt y.w p 2 l.length (fun r => nxU (tskAt l r) (if r < i then t else t - 1)) ∧ u + incs t (l.drop i) = dt ∧ 0 ≤ u)
            case atStart => exact ⟨0, q, z, by omega, rfl, rfl, rfl, HAT.out, HIN.out, hq0⟩
            case round =>
              clear z HAT HIN hq0 q
              obtain ⟨i, u, y0, hi, rfl, rfl, rfl, AR, hin, hu0⟩ := hrel
              obtain ⟨g2, hg2⟩ : ∃ g2, g2 = gk := ⟨gk, rfl⟩
              rw [← hg2] at hi
              by_cases hli : i < l.length
              · have hdl : decide ((i : Int) < (l.length : Int)) = true := by simp; omega
                have hT := HH.out.keep (HX0.out.trans y0.bel).keeps (HX0.out.trans y0.bel).le
                obtain ⟨b, off, rfl, hb, hA⟩ := hT.at_ (by omega)
                obtain ⟨sv, ⟨t0, t1, t2, t3, t4, t5, t6⟩, hS⟩ := (hA i hli)
                have hk := HT.out _ (tsk_mem hli)
                have hp1 := hk.p1
                have hp2 := hk.p2
                have hcc1 := hk.c1
                have ca := AR.cell hli
                rw [if_neg (by omega)] at ca
                have fz := AR.frozen i
                have hpz := AR.lt
                have hbz : b < y0.w.heap.size := hb
                rw [tsks_drop hli, incs] at hin
                have hnn := incs_nn (t := t) (l.drop (i + 1)) fun x hx => HT.out x (List.mem_of_mem_drop hx)
                by_cases hdu : dueT t (tskAt l i) = true
                · rw [(due_iff hk).mpr hdu] at ca
                  rw [if_pos hdu] at hin
                  have hnx := nx_due hk hdu
                  have HNX := Lib.hid hnx
                  have HAR := Lib.hid AR
                  have HIN : Hid (u + (tskAt l i).cost + incs t (l.drop (i + 1)) = dt) := Lib.hid (by omega)
                  clear hS hA hT t0 t2 t3 t5 t6 hdu hnx AR hk
                  generalize hper : (tskAt l i).per = per at *
                  generalize hcost : (tskAt l i).cost = cost at *
                  clear hper hcost
                  have hw1 : IntKind.i64.wrap (u + cost) = u + cost := IntWalk.i64_in _ (by omega)
                  have hw2 : IntKind.i64.wrap (t + per) = t + per := IntWalk.i64_in _ (by omega)
                  clear hin
                  go_upto_region 25 with (fail)
                  (refine wp_region_qtail 11 (wb := y0.w) (by (repeat (first | exact Ext.bel _ | exact Bel.refl | refine Bel.alloc ?_ _ | refine Bel.drew ?_ | refine Bel.drewN ?_ _))) (by kernel_rfl) (by kernel_rfl) ?_; simp only [List.take_succ_cons, List.take_zero, List.drop_succ_cons, List.drop_zero]; (repeat (any_goals (first | go_big_quiet_step (fail) | quiet_step (fail) | (refine wpQuiet_step (fun K hK => ?_); go_simp; split <;> (refine hK _ ?_; clear hK K))))); all_goals (refine wpQuiet_nil ?_; intro _ hw'; obtain ⟨y, hw''⟩ := hw'; subst hw''))
                  have AY := HAR.out.bel y.bel
                  have cz : y.w.cell? ⟨p, i, none⟩ = some (.int .i64 t) := (y.bel.cells _ _ hpz).trans ca
                  have fzy := AY.frozen i
                  have hpy := AY.lt
                  have HSET := Lib.hid ((y0.bel.trans y.bel).set (p := ⟨p, i, none⟩) (by rw [HP.out]; exact Nat.le_refl _) (.int .i64 (t + per)))
                  have HA3 := Lib.hid (AY.set i (t + per))
                  clear AY HAR ca fz
                  go_wp2
                  go_roundg (g2 - 1)
                  case measure => omega
                  case rel =>
                    obtain ⟨z2, hz2⟩ := ext_of HSET.out
                    exact ⟨i + 1, _, z2, by omega, rfl, by go_num, hz2, by rw [← hz2]; exact HA3.out.congr fun r hr => (by
                      by_cases h1 : r = i
                      · subst h1; rw [if_pos rfl, if_pos (by omega)]; exact HNX.out.symm
                      · rw [if_neg h1]
                        by_cases h2 : r < i
                        · rw [if_pos h2, if_pos (by omega)]
                        · rw [if_neg h2, if_neg (by omega)]), HIN.out, by omega⟩
                · have hdu0 : dueT t (tskAt l i) = false := by simpa using hdu
                  have hne : ¬ nxU (tskAt l i) (t - 1) = t := fun e => hdu ((due_iff hk).mp e)
                  rw [if_neg hdu, Int.zero_add] at hin
                  have hnx := nx_not hk hdu0
                  have HNX := Lib.hid hnx
                  have HAR := Lib.hid AR
                  have HIN := Lib.hid hin
                  clear hS hA hT t0 t1 t2 t3 t4 t5 t6 hdu hdu0 hnx AR hk hin fz
                  obtain ⟨nv, hnv⟩ : ∃ nv, nxU (tskAt l i) (t - 1) = nv := ⟨_, rfl⟩
                  rw [hnv] at ca hne
                  clear hnv
                  have hnb : (nv == t) = false := by simpa using hne
                  go_wp2
                  go_roundg (g2 - 1)
                  case measure => omega
                  case rel =>
                    exact ⟨i + 1, _, y0, by omega, rfl, by go_num, rfl, HAR.out.congr fun r hr => (by
                      by_cases h1 : r = i
                      · subst h1; rw [if_neg (by omega), if_pos (by omega)]; exact HNX.out.symm
                      · by_cases h2 : r < i
                        · rw [if_pos h2, if_pos (by omega)]
                        · rw [if_neg h2, if_neg (by omega)]), HIN.out, hu0⟩
              · obtain rfl : i = l.length := by omega
                have hdl : decide ((l.length : Int) < (l.length : Int)) = false := by simp
                have hu : u = dt := by simpa [incs] using hin
                subst hu
                have AT : ArrAt y0.w p 2 l.length (fun r => nxU (tskAt l r) t) := AR.congr fun r hr => by rw [if_pos hr]
                have HAT := Lib.hid AT
                clear AR hin AT
                by_cases hq : t < u
                · have hdq : decide (t < u) = true := by simpa using hq
                  have hX : dmM l = t := by rw [← HFT.out, first_at hlt (by rw [HBB.out]; exact hdq)]
                  have hR := HR1.out
                  rw [hX] at hR
                  have HR := Lib.hid (hR (by omega))
                  clear hR hX HR1
                  go_wp2
                  go_ret3
                  exact ⟨by rw [HR.out]; rfl, HX0.out.trans y0.bel⟩
                · have hdq : decide (t < u) = false := by simpa using hq
                  have hX : firstN (badB l) (20000 + 1 - (t + 1)).toNat (t + 1) = dmM l := by rw [← first_on hlt (by rw [HBB.out]; exact hdq), HFT.out]
                  have HX := Lib.hid hX
                  have HMIN := Lib.hid (smin_arr HAT.out hpos (by omega))
                  obtain ⟨m1, hm1⟩ : ∃ m1, m1 = minG l.length (fun r => nxU (tskAt l r) t) := ⟨_, rfl⟩
                  rw [← hm1] at HMIN
                  have HM1 := Lib.hid hm1
                  clear hX hm1
                  go_wp2_with (first | (go_at_call 33; (with_reducible refine HMIN.out.mono ?_); rintro e w2 ⟨rfl, hb2⟩; have HB2 := Lib.hid hb2; clear hb2))
                  obtain ⟨z1, rfl⟩ := ext_of (y0.bel.trans HB2.out)
                  have HA1 := Lib.hid (HAT.out.bel HB2.out)
                  go_roundg (G - 1)
                  case measure => omega
                  case rel => exact ⟨t, m1, u, z1, rfl, rfl, rfl, by omega, by omega, by omega, HA1.out, HDT.out.symm, HM1.out, HX.out⟩
          · have hd : decide (t ≤ 20000) = false := by simp; omega
            have hX : dmM l = 0 := by
              rw [← hfx, first_skip (20000 + 1 - (s + 1)).toNat (s + 1) (20000 + 1) (by omega) (by omega) (fun v h1 h2 => c4 v (by omega) (by omega)), first_out (by omega)]
            have HX := Lib.hid hX
            have HR := Lib.hid (HR2.out HX.out HM0.out)
            clear hfx hX AR hq ht c2 c3 c4 c5 HR1 HR2 HR3
            go_wp2
            go_ret3
            exact ⟨by rw [HR.out]; rfl, HX0.out.trans z.bel⟩
  · have HM0 := Lib.hid hm0
    have hlm := HLM.out
    rw [if_neg hm0] at hlm
    rw [hlm] at HST lb1 lb2
    clear hlm HLM
    have HR3' : Hid (dmM l = 0 → demandM l = (true, 0, 0)) := Lib.hid (fun h => HR3.out h HM0.out)
    clear HR2 HR3 HM0
    have hme : (busyM l == 0) = false := by simpa using hm0
    clear hm0
    generalize busyM l = mo at *
    go_upto_region 10 with (fail)
    have HX0 := Lib.hid x.bel
    generalize x.w = wk at *
    have A0 := ArrAt.made wk 2 l.length
    rw [Nat.mul_one] at A0
    replace A0 : ArrAt (wk.alloc (.cells (madeCells #[Value.int .i64 0] l.length) 2)) wk.heap.size 2 l.length (fun _ => 0) := A0
    go_wp2
    generalize hW : World.alloc wk _ = W1 at *
    obtain ⟨x1, hx1⟩ : ∃ y : Ext wk, W1 = y.w := ext_of (by rw [← hW]; exact Bel.refl.alloc _)
    clear hW hmk
    subst hx1
    have hpx : wk.heap.size ≤ wk.heap.size := Nat.le_refl _
    generalize hp : wk.heap.size = p at A0 hpx ⊢
    have HP := Lib.hid hp
    clear hp
    go_loopg [31] l.length (fun gk s31 wr => ∃ (j : Nat) (z : Ext wk), j + gk = l.length ∧ s31 = .int .i64 j ∧ wr = z.w ∧ ArrAt z.w p 2 l.length (fun r => if r < j then (tskAt l r).dl else 0))
    case atStart => exact ⟨0, x1, by omega, rfl, rfl, A0.congr (fun r _ => by simp)⟩
    case round =>
      clear A0 x1
      obtain ⟨j, z, hj, rfl, rfl, AR⟩ := hrel
      by_cases hlt : j < l.length
      · have hdl : decide ((j : Int) < (l.length : Int)) = true := by simp; omega
        have hT := HH.out.keep (HX0.out.trans z.bel).keeps (HX0.out.trans z.bel).le
        obtain ⟨b, off, rfl, hb, hA⟩ := hT.at_ (by omega)
        obtain ⟨sv, ⟨t0, t1, t2, t3, t4, t5, t6⟩, hS⟩ := (hA j hlt)
        obtain ⟨A2, c2, rfl, _⟩ := hS.form
        have HAR := Lib.hid AR
        have hpz := AR.lt
        clear hS hA hT AR
        go_upto_region 14 with (fail)
        (generalize hW : World.alloc _ _ = wb; have q0_0 := (congrArg (fun W : World => W.cell? ⟨z.w.heap.size, 0, none⟩) hW).symm; simp [go_sem] at q0_0; have q0_1 := (congrArg (fun W : World => W.cell? ⟨z.w.heap.size, 1, none⟩) hW).symm; simp [go_sem] at q0_1; have q0_2 := (congrArg (fun W : World => W.cell? ⟨z.w.heap.size, 2, none⟩) hW).symm; simp [go_sem] at q0_2; have q0_3 := (congrArg (fun W : World => W.cell? ⟨z.w.heap.size, 3, none⟩) hW).symm; simp [go_sem] at q0_3; have q0_4 := (congrArg (fun W : World => W.cell? ⟨z.w.heap.size, 4, none⟩) hW).symm; simp [go_sem] at q0_4; have q0_5 := (congrArg (fun W : World => W.cell? ⟨z.w.heap.size, 5, none⟩) hW).symm; simp [go_sem] at q0_5; have q0_6 := (congrArg (fun W : World => W.cell? ⟨z.w.heap.size, 6, none⟩) hW).symm; simp [go_sem] at q0_6; have qz0 : z.w.heap.size < wb.heap.size := (by rw [← hW]; simp [go_sem]; try omega); have HBW : Hid (Bel z.w wb) := Lib.hid (by rw [← hW]; (repeat (first | exact Ext.bel _ | exact Bel.refl | refine Bel.alloc ?_ _ | refine Bel.drew ?_ | refine Bel.drewN ?_ _))); clear hW; have hkw := HBW.out.cells)
        clear hkw
        have AW := HAR.out.bel HBW.out
        have fz := AW.frozen j
        have cz : wb.cell? ⟨p, j, none⟩ = some (.int .i64 0) := by rw [AW.cell hlt]; simp
        have hpw := AW.lt
        have hset := (z.bel.trans HBW.out).set (p := ⟨p, j, none⟩) (by rw [HP.out]; exact Nat.le_refl _) (.int .i64 (tskAt l j).dl)
        have HSET := Lib.hid hset
        have HA3 := Lib.hid (AW.set j (tskAt l j).dl)
        clear AW hset HAR
        go_wp2
        go_roundg (gk - 1)
        case measure => omega
        case rel =>
          obtain ⟨z2, hz2⟩ := ext_of HSET.out
          exact ⟨j + 1, z2, by omega, by go_num, hz2, by rw [← hz2]; exact arr_next HA3.out (by simp) (fun k hk => by simp [hk])⟩
      · obtain rfl : j = l.length := by omega
        have hdl : decide ((l.length : Int) < (l.length : Int)) = false := by simp
        have AN : ArrAt z.w p 2 l.length (fun r => nxU (tskAt l r) 0) := AR.congr fun r hr => by rw [if_pos hr, (cnt_zero (HT.out _ (tsk_mem hr))).2]
        have HMIN := Lib.hid (smin_arr AN hpos (by omega))
        have HAN := Lib.hid AN
        have HD0 : Hid (demL 0 0 l = 0) := Lib.hid (dem_zero l 0 HT.out)
        obtain ⟨m0, hm0⟩ : ∃ m0, m0 = minG l.length (fun r => nxU (tskAt l r) 0) := ⟨_, rfl⟩
        rw [← hm0] at HMIN
        have HM0 := Lib.hid hm0
        clear AR AN hm0
        go_wp2_with (first | (go_at_call 33; (with_reducible refine HMIN.out.mono ?_); rintro e w2 ⟨rfl, hb2⟩; have HB2 := Lib.hid hb2; clear hb2))
        obtain ⟨z1, rfl⟩ := ext_of (z.bel.trans HB2.out)
        have HA1 := Lib.hid (HAN.out.bel HB2.out)
        clear HB2 HAN HMIN z
        go_loopg [11, 12] 20000 (fun gk s11 s12 wr => ∃ (s t q : Int) (z : Ext wk), s11 = .int .i64 q ∧ s12 = .int .i64 t ∧ wr = z.w ∧ 0 ≤ s ∧ s ≤ mo ∧ (20000 : Int) ≤ gk + s ∧ ArrAt z.w p 2 l.length (fun r => nxU (tskAt l r) s) ∧ q = demL s 0 l ∧ t = minG l.length (fun r => nxU (tskAt l r) s) ∧ firstN (badB l) (mo + 1 - (s + 1)).toNat (s + 1) = dmM l)
        case atStart => exact ⟨0, m0, 0, z1, rfl, rfl, rfl, by omega, by omega, by omega, HA1.out, HD0.out.symm, HM0.out, HST.out⟩
        case round =>
          clear HA1 HD0 HM0 HST
          obtain ⟨s, t, q, z, rfl, rfl, rfl, hs0, hs1, hg, AR, hq, ht, hfx⟩ := hrel
          obtain ⟨G, hG⟩ : ∃ G, G = gk := ⟨gk, rfl⟩
          rw [← hG] at hg
          obtain ⟨c1, c2, c3, c4, c5⟩ := head_law HT.out hpos ht
          by_cases hlt : t ≤ mo
          · have hd : decide (t ≤ mo) = true := by simp; omega
            have hft : firstN (badB l) (mo + 1 - t).toNat t = dmM l := by
              rw [← first_skip (t - (s + 1)).toNat (s + 1) t (by omega) (by omega) (fun v h1 h2 => c4 v (by omega) h2)]; exact hfx
            have AT : ArrAt z.w p 2 l.length (fun r => nxU (tskAt l r) (if r < 0 then t else t - 1)) := AR.congr fun r hr => by rw [if_neg (by omega)]; unfold nxU; rw [c2 r hr]
            have hbb : badB l t = decide (t < demL t 0 l) := by unfold badB; rw [c5, Bool.true_and]
            have hin : q + incs t (l.drop 0) = demL t 0 l := by rw [hq, ← c3]; exact (dem_step l 0 HT.out).symm
            have hq0 : 0 ≤ q := by rw [hq]; exact (dem_bd hs0 (by omega) l 0 HT.out).1
            have hqb := (dem_bd (t := t) (by omega) (by omega) l 0 HT.out).2
            have HFT := Lib.hid hft
            have HBB := Lib.hid hbb
            have HIN := Lib.hid hin
            have HAT := Lib.hid AT
            clear AR hq ht hfx c2 c3 c4 c5 hft hbb hin AT
            generalize hdt : demL t 0 l = dt at *
            have HDT := Lib.hid hdt
            clear hdt
            go_wp2
            go_loopg [11, 51] l.length (fun g2 s11 s51 wr => ∃ (i : Nat) (u : Int) (y : Ext wk), i + g2 = l.length ∧ s11 = .int .i64 u ∧ s51 = .int .i64 i ∧ wr = y.w ∧ ArrAt y.w p 2 l.length (fun r => nxU (tskAt l r) (if r < i then t else t - 1)) ∧ u + incs t (l.drop i) = dt ∧ 0 ≤ u)
            case atStart => exact ⟨0, q, z, by omega, rfl, rfl, rfl, HAT.out, HIN.out, hq0⟩
            case round =>
              clear z HAT HIN hq0 q
              obtain ⟨i, u, y0, hi, rfl, rfl, rfl, AR, hin, hu0⟩ := hrel
              obtain ⟨g2, hg2⟩ : ∃ g2, g2 = gk := ⟨gk, rfl⟩
              rw [← hg2] at hi
              by_cases hli : i < l.length
              · have hdl : decide ((i : Int) < (l.length : Int)) = true := by simp; omega
                have hT := HH.out.keep (HX0.out.trans y0.bel).keeps (HX0.out.trans y0.bel).le
                obtain ⟨b, off, rfl, hb, hA⟩ := hT.at_ (by omega)
                obtain ⟨sv, ⟨t0, t1, t2, t3, t4, t5, t6⟩, hS⟩ := (hA i hli)
                have hk := HT.out _ (tsk_mem hli)
                have hp1 := hk.p1
                have hp2 := hk.p2
                have hcc1 := hk.c1
                have ca := AR.cell hli
                rw [if_neg (by omega)] at ca
                have fz := AR.frozen i
                have hpz := AR.lt
                have hbz : b < y0.w.heap.size := hb
                rw [tsks_drop hli, incs] at hin
                have hnn := incs_nn (t := t) (l.drop (i + 1)) fun x hx => HT.out x (List.mem_of_mem_drop hx)
                by_cases hdu : dueT t (tskAt l i) = true
                · rw [(due_iff hk).mpr hdu] at ca
                  rw [if_pos hdu] at hin
                  have hnx := nx_due hk hdu
                  have HNX := Lib.hid hnx
                  have HAR := Lib.hid AR
                  have HIN : Hid (u + (tskAt l i).cost + incs t (l.drop (i + 1)) = dt) := Lib.hid (by omega)
                  clear hS hA hT t0 t2 t3 t5 t6 hdu hnx AR hk
                  generalize hper : (tskAt l i).per = per at *
                  generalize hcost : (tskAt l i).cost = cost at *
                  clear hper hcost
                  have hw1 : IntKind.i64.wrap (u + cost) = u + cost := IntWalk.i64_in _ (by omega)
                  have hw2 : IntKind.i64.wrap (t + per) = t + per := IntWalk.i64_in _ (by omega)
                  clear hin
                  go_upto_region 25 with (fail)
                  (refine wp_region_qtail 11 (wb := y0.w) (by (repeat (first | exact Ext.bel _ | exact Bel.refl | refine Bel.alloc ?_ _ | refine Bel.drew ?_ | refine Bel.drewN ?_ _))) (by kernel_rfl) (by kernel_rfl) ?_; simp only [List.take_succ_cons, List.take_zero, List.drop_succ_cons, List.drop_zero]; (repeat (any_goals (first | go_big_quiet_step (fail) | quiet_step (fail) | (refine wpQuiet_step (fun K hK => ?_); go_simp; split <;> (refine hK _ ?_; clear hK K))))); all_goals (refine wpQuiet_nil ?_; intro _ hw'; obtain ⟨y, hw''⟩ := hw'; subst hw''))
                  have AY := HAR.out.bel y.bel
                  have cz : y.w.cell? ⟨p, i, none⟩ = some (.int .i64 t) := (y.bel.cells _ _ hpz).trans ca
                  have fzy := AY.frozen i
                  have hpy := AY.lt
                  have HSET := Lib.hid ((y0.bel.trans y.bel).set (p := ⟨p, i, none⟩) (by rw [HP.out]; exact Nat.le_refl _) (.int .i64 (t + per)))
                  have HA3 := Lib.hid (AY.set i (t + per))
                  clear AY HAR ca fz
                  go_wp2
                  go_roundg (g2 - 1)
                  case measure => omega
                  case rel =>
                    obtain ⟨z2, hz2⟩ := ext_of HSET.out
                    exact ⟨i + 1, _, z2, by omega, rfl, by go_num, hz2, by rw [← hz2]; exact HA3.out.congr fun r hr => (by
                      by_cases h1 : r = i
                      · subst h1; rw [if_pos rfl, if_pos (by omega)]; exact HNX.out.symm
                      · rw [if_neg h1]
                        by_cases h2 : r < i
                        · rw [if_pos h2, if_pos (by omega)]
                        · rw [if_neg h2, if_neg (by omega)]), HIN.out, by omega⟩
                · have hdu0 : dueT t (tskAt l i) = false := by simpa using hdu
                  have hne : ¬ nxU (tskAt l i) (t - 1) = t := fun e => hdu ((due_iff hk).mp e)
                  rw [if_neg hdu, Int.zero_add] at hin
                  have hnx := nx_not hk hdu0
                  have HNX := Lib.hid hnx
                  have HAR := Lib.hid AR
                  have HIN := Lib.hid hin
                  clear hS hA hT t0 t1 t2 t3 t4 t5 t6 hdu hdu0 hnx AR hk hin fz
                  obtain ⟨nv, hnv⟩ : ∃ nv, nxU (tskAt l i) (t - 1) = nv := ⟨_, rfl⟩
                  rw [hnv] at ca hne
                  clear hnv
                  have hnb : (nv == t) = false := by simpa using hne
                  go_wp2
                  go_roundg (g2 - 1)
                  case measure => omega
                  case rel =>
                    exact ⟨i + 1, _, y0, by omega, rfl, by go_num, rfl, HAR.out.congr fun r hr => (by
                      by_cases h1 : r = i
                      · subst h1; rw [if_neg (by omega), if_pos (by omega)]; exact HNX.out.symm
                      · by_cases h2 : r < i
                        · rw [if_pos h2, if_pos (by omega)]
                        · rw [if_neg h2, if_neg (by omega)]), HIN.out, hu0⟩
              · obtain rfl : i = l.length := by omega
                have hdl : decide ((l.length : Int) < (l.length : Int)) = false := by simp
                have hu : u = dt := by simpa [incs] using hin
                subst hu
                have AT : ArrAt y0.w p 2 l.length (fun r => nxU (tskAt l r) t) := AR.congr fun r hr => by rw [if_pos hr]
                have HAT := Lib.hid AT
                clear AR hin AT
                by_cases hq : t < u
                · have hdq : decide (t < u) = true := by simpa using hq
                  have hX : dmM l = t := by rw [← HFT.out, first_at hlt (by rw [HBB.out]; exact hdq)]
                  have hR := HR1.out
                  rw [hX] at hR
                  have HR := Lib.hid (hR (by omega))
                  clear hR hX HR1
                  go_wp2
                  go_ret3
                  exact ⟨by rw [HR.out]; rfl, HX0.out.trans y0.bel⟩
                · have hdq : decide (t < u) = false := by simpa using hq
                  have hX : firstN (badB l) (mo + 1 - (t + 1)).toNat (t + 1) = dmM l := by rw [← first_on hlt (by rw [HBB.out]; exact hdq), HFT.out]
                  have HX := Lib.hid hX
                  have HMIN := Lib.hid (smin_arr HAT.out hpos (by omega))
                  obtain ⟨m1, hm1⟩ : ∃ m1, m1 = minG l.length (fun r => nxU (tskAt l r) t) := ⟨_, rfl⟩
                  rw [← hm1] at HMIN
                  have HM1 := Lib.hid hm1
                  clear hX hm1
                  go_wp2_with (first | (go_at_call 33; (with_reducible refine HMIN.out.mono ?_); rintro e w2 ⟨rfl, hb2⟩; have HB2 := Lib.hid hb2; clear hb2))
                  obtain ⟨z1, rfl⟩ := ext_of (y0.bel.trans HB2.out)
                  have HA1 := Lib.hid (HAT.out.bel HB2.out)
                  go_roundg (G - 1)
                  case measure => omega
                  case rel => exact ⟨t, m1, u, z1, rfl, rfl, rfl, by omega, by omega, by omega, HA1.out, HDT.out.symm, HM1.out, HX.out⟩
          · have hd : decide (t ≤ mo) = false := by simp; omega
            have hX : dmM l = 0 := by
              rw [← hfx, first_skip (mo + 1 - (s + 1)).toNat (s + 1) (mo + 1) (by omega) (by omega) (fun v h1 h2 => c4 v (by omega) (by omega)), first_out (by omega)]
            have HX := Lib.hid hX
            have HR := Lib.hid (HR3'.out HX.out)
            clear hfx hX AR hq ht c2 c3 c4 c5 HR1 HR3'
            go_wp2
            go_ret3
            exact ⟨by rw [HR.out]; rfl, HX0.out.trans z.bel⟩
end Go.Proofs.Ytbncnadjlppknaa
