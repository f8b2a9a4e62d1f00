/- foliotref38.Tick: the walk. -/
import Derived.Test.YtbilfpoghohddaaZYrtm
import Derived.Test.YtbilfpoghohddaaZTakev
import Derived.Deep.CutRange
namespace Go.Proofs.Ytbilfpoghohddaa
open Go.RowKit
theorem start_len {now : Int} : ∀ (is : List Nat) (ns : List Int) (p : List JobX × List Don), (startX now is ns p).1.length = p.1.length
  | [], _, p => by cases p; rfl
  | _ :: _, [], p => rfl
  | i :: is, n :: ns, p => by unfold startX; rw [start_len is ns]; simp
theorem Try.doneInfo : (Try.prog.info? 60).map (fun i => (i.zero, i.size, i.bytes)) = some (some (.agg #[.int .i64 0, .int .i64 0, .int .i64 0, .int .i64 0, .bool false]), 5, 40) := by kernel_rfl
set_option maxRecDepth 100000 in
set_option maxHeartbeats 16000000 in
theorem rtick_any {N : Nat} {wb : World} {br : Nat} {lv xv v1 v2 v3 : Value} {l : List Tsk} {xs : List Int} {st : ExS} (w : World) (nv : Value) (needs : List Int) (h : RxAt N wb w br lv xv v1 v2 v3 l xs st) (hok : ExOk l xs st) (hn : st.now ≤ 100000) (hv : IntsAt wb wb.heap.size nv needs) (hnl : needs.length ≤ 1000000) :
    Calls Try.prog 18 #[.pointer (some ⟨br, 0, none⟩), nv] w (RTickPost N wb w br lv xv v1 v2 v3 l xs (tickX l xs st needs)) := by
  obtain ⟨Al, cl, rfl, _⟩ := h.tl.form
  obtain ⟨Ax, cx, rfl, _⟩ := h.tx.form
  obtain ⟨An, cn, rfl, _⟩ := hv.form
  have hl1 := hok.l1
  have hl8 := hok.l8
  have hx1 := hok.x1
  have hx2 := hok.x2
  have hn0 := hok.n0
  have hjn := hok.ln
  have HOK := Lib.hid hok
  have HV := Lib.hid hv
  have HTL := Lib.hid h.tl
  have HTX := Lib.hid h.tx
  have HNB := Lib.hid h.nb0
  obtain ⟨g1, c1, e1, _, _, hg1⟩ := own_form h.o.o1 (by rw [List.length_map]; omega)
  obtain ⟨g2, c2, e2, _, _, hg2⟩ := own_form h.o.o2 (by rw [List.length_map]; omega)
  obtain ⟨g3, c3, e3, _, _, hg3⟩ := own_form h.o.o3 (by rw [List.length_map]; omega)
  rw [List.length_map] at e1 e2 e3
  subst e1; subst e2; subst e3
  obtain ⟨n, hnn⟩ : ∃ n, n = st.js.length := ⟨_, rfl⟩
  have HY : Hid (RyAt N wb w br g1 g2 g3 c1 c2 c3 n (.slice Al l.length cl) (.slice Ax xs.length cx) l xs st) := Lib.hid ⟨by rw [hnn]; exact h, hnn⟩
  have HNL : Hid (n = l.length) := Lib.hid (by omega)
  rw [← hnn]
  have HRL := Lib.hid (rreleased_any w hok.h0 hl1 hl8 h.tl h.bl h.row hn0 (by omega))
  have HLO : Hid (g1 < w.heap.size ∧ g2 < w.heap.size ∧ g3 < w.heap.size ∧ br < w.heap.size) := Lib.hid ⟨hg1, hg2, hg3, h.lt⟩
  obtain ⟨dd, hd0, hz0, hz1, hz2⟩ := info_parts Try.doneInfo
  clear h hok hv hg1 hg2 hg3 hnn hjn
  go_enter Try.func18, Try.ntmps18
  go_wp2_with fail
  refine HRL.out.mono ?_
  rintro e w3 ⟨rv, rfl, ho, hb⟩
  have HK : Hid (RkAt N wb w w3.heap.size w3 br g1 g2 g3 c1 c2 c3 n (.slice Al l.length cl) (.slice Ax xs.length cx) l xs st (.slice none 0 0) [] rv (relL st.now 0 l)) := Lib.hid
    ⟨HY.out.bel hb, ho, World.ownsRow_nil _ _ _ _, grs_bel (grs_refl _ _) hb, HY.out.noDon, hb.le, Nat.le_refl _, HLO.out.1, HLO.out.2.1, HLO.out.2.2.1, HLO.out.2.2.2⟩
  obtain ⟨Ar, cr, rfl, _⟩ := own_slice ho
  clear hb ho HRL HY HLO
  have HLR := Lib.hid (relL_len st.now l 0)
  have HMEM := Lib.hid (fun i hi => relL_mem (now := st.now) (i := i) l 0 hi)
  have HSO0 := Lib.hid (relL_sorted st.now l 0)
  have HTK : Hid (tickX l xs st needs = if needs.length = (relL st.now 0 l).length ∧ needOk l (relL st.now 0 l) needs = true then
      let p := startX st.now (relL st.now 0 l) needs (st.js, [])
      let q := runX st.now (tickK xs st.now) p
      ⟨q.1, q.2.2, 0, ⟨st.now + 1, q.2.1⟩⟩
    else ⟨-1, [], 2, st⟩) := Lib.hid rfl
  generalize relL st.now 0 l = is at *
  by_cases hlen : needs.length = is.length
  case neg =>
    have q1 : ((needs.length : Int) == is.length) = false := by simp; omega
    have q2 : ((needs.length : Int) != is.length) = true := by simp; omega
    have HR : Hid (tickX l xs st needs = ⟨-1, [], 2, st⟩) := Lib.hid (by rw [HTK.out, if_neg (fun q => hlen q.1)])
    clear hlen
    have HP := Lib.hid (rtick_of HR.out HK.out)
    go_wp2
    go_ret3
    exact HP.out
  have hlen2 : (needs.length : Int) = (is.length : Int) := by omega
  have q1 : ((needs.length : Int) == is.length) = true := by simp; omega
  have q2 : ((needs.length : Int) != is.length) = false := by simp; omega
  have HLEN := Lib.hid hlen
  clear hlen hlen2
  have HVB : Hid (0 < needs.length → ∃ bn on, An = some ⟨bn, on, none⟩ ∧ bn < wb.heap.size ∧ ∀ i, i < needs.length → ∀ W, Bel wb W → W.cell? ⟨bn, on + i, none⟩ = some (.int .i64 (needs.getD i 0))) := Lib.hid (fun h0 => by
    obtain ⟨bn, on, e, h1, h2⟩ := HV.out.at_ h0
    exact ⟨bn, on, e, h1, fun i hi W hW => (hW.cells bn (on + i) h1).trans (h2 i hi)⟩)
  have HRB : Hid (∀ (W : World) (st : ExS) (dv : Value) (ds : List Don), RkAt N wb w w3.heap.size W br g1 g2 g3 c1 c2 c3 n (.slice Al l.length cl) (.slice Ax xs.length cx) l xs st dv ds (.slice Ar is.length cr) is → 0 < is.length → ∃ b_, Ar = some ⟨b_, 0, none⟩ ∧ b_ < W.heap.size ∧ ∀ i, i < is.length → W.cell? ⟨b_, i, none⟩ = some (.int .i64 (is.getD i 0 : Nat))) := Lib.hid (fun W st dv ds hk h0 => by
    obtain ⟨g, cap, e, h1, h2, h3⟩ := own_form hk.rr h0
    injection e with e1 e2 e3
    subst e1; subst e3
    refine ⟨g, rfl, h3, fun i hi => ?_⟩
    have := hk.rr.cellAt i (by omega)
    rw [this]
    simp [natC, List.getD, hi])
  have HNN := Lib.hid HK.out.m0
  generalize w3.heap.size = m3 at *
  go_wp2
  clear q1 q2
  have HN0 : Hid (needOk l (is.drop 0) (needs.drop 0) = needOk l is needs) := Lib.hid rfl
  go_loopw [8] (fun si wr => ∃ (i : Nat) (z : Ext w3), i ≤ needs.length ∧ si = .int .i64 i ∧ wr = z.w ∧ needOk l (is.drop i) (needs.drop i) = needOk l is needs) (fun si _ => needs.length - (intOf si).toNat)
  case atStart => exact ⟨0, ⟨w3, Bel.refl⟩, by omega, rfl, rfl, HN0.out⟩
  case round =>
    clear HN0
    obtain ⟨i, z, hi, rfl, rfl, hnd⟩ := hrel
    have HZK := Lib.hid (HK.out.bel z.bel)
    by_cases hlt : i < needs.length
    · have hlt2 : i < is.length := by rw [← HLEN.out]; exact hlt
      have hiN : (i : Int) < (needs.length : Int) := by omega
      have hiI : (i : Int) < (is.length : Int) := by omega
      rw [need_at hlt2 hlt] at hnd
      obtain ⟨bn, on, rfl, hbn, hcn⟩ := HVB.out (by omega)
      obtain ⟨b_, rfl, hbr, hcr⟩ := HRB.out _ _ _ _ HZK.out (by omega)
      have n0 := hcn i hlt z.w HZK.out.y.x.bl
      have nz := Nat.lt_of_lt_of_le hbn HZK.out.y.x.bl.le
      have r0 := hcr i hlt2
      have hmem := HMEM.out (is.getD i 0) (by simp [List.getD, hlt2])
      have HCN := Lib.hid hcn
      generalize is.getD i 0 = k at *
      generalize needs.getD i 0 = nd at *
      have hkl : k < l.length := by omega
      have hkI : (k : Int) < (l.length : Int) := by omega
      have x0 := HZK.out.y.x.row.cell (i := 0) rfl
      have xz := HZK.out.y.x.row.lt
      obtain ⟨bt, ot, rfl, hbt, hA⟩ := HTL.out.at_ (by omega)
      obtain ⟨sv, ⟨t0, t1, t2, t3, t4, t5, t6⟩, hS⟩ := hA k hkl
      have u4 := (HZK.out.y.x.bl.cells bt (ot + k * 7 + 4) hbt).trans t4
      have uz := Nat.lt_of_lt_of_le hbt HZK.out.y.x.bl.le
      have HND := Lib.hid hnd
      clear hcn hcr hmem hA hS t0 t1 t2 t3 t4 t5 t6 hnd
      go_upto_region 7 with (fail)
      have HZB := Lib.hid z.bel
      generalize z.w = wz at *
      by_cases hneg : nd < 0
      · have hd1 : decide (nd < 0) = true := by simpa using hneg
        (refine wp_region_ext (wb := wz) (by (repeat (first | exact Ext.bel _ | exact Bel.refl | refine Bel.alloc ?_ _ | refine Bel.drew ?_ | refine Bel.drewN ?_ _))) (by kernel_rfl) (by kernel_rfl) ?_; (repeat (any_goals (first | go_big_quiet_step (fail) | quiet_step (fail) | (refine wpQuiet_step (fun K hK => ?_); go_simp; split <;> (refine hK _ ?_; clear hK K))))); all_goals (refine wpQuiet_nil ?_; intro _ hw'; obtain ⟨y, hw''⟩ := hw'; subst hw''))
        have HR : Hid (tickX l xs st needs = ⟨-1, [], 2, st⟩) := Lib.hid (by rw [HTK.out, if_neg (fun q => by rw [← HND.out] at q; simp at q; omega)])
        have HP := Lib.hid (rtick_of HR.out (HZK.out.bel y.bel))
        go_wp2
        go_ret3
        exact HP.out
      have hd1 : decide (nd < 0) = false := by simpa using hneg
      have hn00 : 0 ≤ nd := by omega
      by_cases hbig : (tskAt l k).cost < nd
      · have hd2 : decide ((tskAt l k).cost < nd) = true := by simpa using hbig
        (refine wp_region_ext (wb := wz) (by (repeat (first | exact Ext.bel _ | exact Bel.refl | refine Bel.alloc ?_ _ | refine Bel.drew ?_ | refine Bel.drewN ?_ _))) (by kernel_rfl) (by kernel_rfl) ?_; (repeat (any_goals (first | go_big_quiet_step (fail) | quiet_step (fail) | (refine wpQuiet_step (fun K hK => ?_); go_simp; split <;> (refine hK _ ?_; clear hK K))))); all_goals (refine wpQuiet_nil ?_; intro _ hw'; obtain ⟨y, hw''⟩ := hw'; subst hw''))
        have HR : Hid (tickX l xs st needs = ⟨-1, [], 2, st⟩) := Lib.hid (by rw [HTK.out, if_neg (fun q => by rw [← HND.out] at q; simp at q; omega)])
        have HP := Lib.hid (rtick_of HR.out (HZK.out.bel y.bel))
        go_wp2
        go_ret3
        exact HP.out
      have hd2 : decide ((tskAt l k).cost < nd) = false := by simpa using hbig
      (refine wp_region_ext (wb := wz) (by (repeat (first | exact Ext.bel _ | exact Bel.refl | refine Bel.alloc ?_ _ | refine Bel.drew ?_ | refine Bel.drewN ?_ _))) (by kernel_rfl) (by kernel_rfl) ?_; (repeat (any_goals (first | go_big_quiet_step (fail) | quiet_step (fail) | (refine wpQuiet_step (fun K hK => ?_); go_simp; split <;> (refine hK _ ?_; clear hK K))))); all_goals (refine wpQuiet_nil ?_; intro _ hw'; obtain ⟨y, hw''⟩ := hw'; subst hw''))
      have HND2 : Hid (needOk l (is.drop (i + 1)) (needs.drop (i + 1)) = needOk l is needs) := Lib.hid (by
        rw [← HND.out, decide_eq_true (show 0 ≤ nd by omega), decide_eq_true (show nd ≤ (tskAt l k).cost by omega)]; rfl)
      obtain ⟨z2, hz2⟩ := ext_of (HZB.out.trans y.bel)
      rw [hz2]
      clear hz2 hd1 hd2 hneg hbig n0 nz r0 x0 xz u4 uz
      go_wp2
      go_roundw
      case rel => exact ⟨i + 1, z2, by omega, by go_num, rfl, HND2.out⟩
      case measure => simp [intOf]; omega
    · obtain rfl : i = needs.length := by omega
      have hdl : decide ((needs.length : Int) < (needs.length : Int)) = false := by simp
      have hdl2 : decide ((needs.length : Int) < (is.length : Int)) = false := by rw [HLEN.out]; simp
      have hdl4 : decide (needs.length < is.length) = false := by rw [HLEN.out]; simp
      rw [need_end (by rw [HLEN.out]; exact Nat.le_refl _)] at hnd
      have HGO : Hid (tickX l xs st needs = ⟨(runX st.now (tickK xs st.now) (startX st.now is needs (st.js, []))).1, (runX st.now (tickK xs st.now) (startX st.now is needs (st.js, []))).2.2, 0, ⟨st.now + 1, (runX st.now (tickK xs st.now) (startX st.now is needs (st.js, []))).2.1⟩⟩) := Lib.hid (by
        rw [HTK.out, if_pos ⟨HLEN.out, hnd.symm⟩])
      have HNK : Hid (needOk l is needs = true) := Lib.hid hnd.symm
      clear hnd HTK HK
      have hxn := hn0
      have HNW : Hid (N ≤ w.heap.size) := Lib.hid (by have := HZK.out.y.x.nb; have := HZK.out.lob; omega)
      have HP0 : Hid (startX st.now (is.drop 0) (needs.drop 0) (st.js, []) = startX st.now is needs (st.js, [])) := Lib.hid rfl
      have HM0 : Hid (MidOk l st.now st.js ∧ Fresh st.now st.js (is.drop 0)) := Lib.hid ⟨HOK.out.mid, fun i hi => (HOK.out.jn i (by have := HMEM.out i (by simpa using hi); omega)).2⟩
      have HSO : Hid (is.Pairwise (· < ·)) := HSO0
      go_wp2
      go_loopw [10, 9] (fun si sv wr => ∃ (k : Nat) (dv : Value) (p : List JobX × List Don), k ≤ is.length ∧ si = .int .i64 k ∧ dv = sv ∧ RkAt N wb w m3 wr br g1 g2 g3 c1 c2 c3 n (.slice Al l.length cl) (.slice Ax xs.length cx) l xs ⟨st.now, p.1⟩ dv p.2 (.slice Ar is.length cr) is ∧ startX st.now (is.drop k) (needs.drop k) p = startX st.now is needs (st.js, []) ∧ (MidOk l st.now p.1 ∧ Fresh st.now p.1 (is.drop k)) ∧ p.2.length ≤ k) (fun si _ _ => is.length - (intOf si).toNat)
      case atStart => exact ⟨0, _, (st.js, []), by omega, rfl, rfl, HZK.out, HP0.out, HM0.out, by simp⟩
      case round =>
        clear HP0 HM0 HZK
        obtain ⟨k, dv, p, hk, rfl, rfl, ht, hp, hm, hpl⟩ := hrel
        have HTK := Lib.hid ht
        have HP := Lib.hid hp
        have HM := Lib.hid hm
        clear ht hp hm
        by_cases hlt : k < is.length
        · skip
          · have hlr := HLR.out
            have hlt2 : k < needs.length := by rw [HLEN.out]; exact hlt
            have hkN : (k : Int) < (needs.length : Int) := by omega
            have hkI : (k : Int) < (is.length : Int) := by omega
            have hsp := start_at (now := st.now) (p := p) hlt hlt2
            rw [HP.out] at hsp
            obtain ⟨bn, on, rfl, hbn, hcn⟩ := HVB.out (by omega)
            obtain ⟨b_, rfl, hbr, hcr⟩ := HRB.out _ _ _ _ HTK.out (by omega)
            have cn_ := hcn k hlt2 wr HTK.out.y.x.bl
            have nz := Nat.lt_of_lt_of_le hbn HTK.out.y.x.bl.le
            have cr_ := hcr k hlt
            have hmem := HMEM.out (is.getD k 0) (by simp [List.getD, hlt])
            have hnk := need_k HNK.out hlt hlt2
            have hfr := HM.out.2 (is.getD k 0) (by rw [show is.getD k 0 = is[k] by simp [List.getD, hlt], List.drop_eq_getElem_cons hlt]; exact List.mem_cons_self)
            have HFR : Hid (Fresh st.now p.1 (is.drop (k + 1)) ∧ ∀ q ∈ is.drop (k + 1), is.getD k 0 < q) := Lib.hid ⟨fun q hq => HM.out.2 q (by rw [List.drop_eq_getElem_cons hlt]; exact List.mem_cons_of_mem _ hq), fun q hq => by
              have hs := HSO.out.drop (i := k)
              rw [List.drop_eq_getElem_cons hlt, List.pairwise_cons] at hs
              have := hs.1 q hq
              simpa [List.getD, hlt] using this⟩
            have HSP := Lib.hid hsp
            have HCN := Lib.hid (fun W hW => hcn k hlt2 W hW)
            clear hcn hcr hsp
            generalize is.getD k 0 = t at *
            generalize needs.getD k 0 = nd at *
            have htl : t < l.length := by omega
            have htj : t < p.1.length := by rw [HM.out.1.ln]; exact htl
            have htn : (t : Int) < (n : Int) := by have := HNL.out; omega
            have htn2 : t < n := by omega
            have HMN := Lib.hid (mid_start HM.out.1 htl hxn hfr hnk.1 hnk.2)
            have HFN := Lib.hid (fresh_start (j := ⟨(jxAt p.1 t).num + 1, st.now, nd⟩) HFR.out.1 htj HFR.out.2)
            have HJN := HM.out.1.jn t htl
            have hj1 : IntKind.i64.wrap ((jxAt p.1 t).num + 1) = (jxAt p.1 t).num + 1 := IntWalk.i64_in _ (by omega)
            have HSP2 : Hid (startX st.now (is.drop (k + 1)) (needs.drop (k + 1)) (p.1.set t ⟨(jxAt p.1 t).num + 1, st.now, nd⟩, if nd = 0 then p.2 ++ [⟨t, (jxAt p.1 t).num + 1, st.now, 0, false⟩] else p.2) = startX st.now is needs (st.js, [])) := Lib.hid HSP.out.symm
            clear hmem hfr hnk HP HM HFR HSP
            have b2 := HTK.out.y.x.row.cell (i := 2) rfl
            have b3 := HTK.out.y.x.row.cell (i := 3) rfl
            have b4 := HTK.out.y.x.row.cell (i := 4) rfl
            have b5 := HTK.out.y.x.row.cell (i := 5) rfl
            have bz := HTK.out.y.x.row.lt
            have k1 := HTK.out.y.k1 (k := t) htj
            have k2 := HTK.out.y.k2 (k := t) htj
            have k3 := HTK.out.y.k3 (k := t) htj
            have z1 := HTK.out.y.n1.2
            have z2 := HTK.out.y.n2.2
            have z3 := HTK.out.y.n3.2
            have f1 := HTK.out.y.f1 t
            have f2 := HTK.out.y.f2 t
            have f3 := HTK.out.y.f3 t
            have HTN := Lib.hid ((HTK.out.release (k := t) htj ((jxAt p.1 t).num + 1) st.now nd).bel Bel.refl.drew)
            have ne12 : g2 ≠ g1 := fun e => (apt_types HTK.out.y.x.o.o1 HTK.out.y.x.o.o2 (by decide)) g1 rfl (by rw [e]; rfl)
            have ne13 : g3 ≠ g1 := fun e => (apt_types HTK.out.y.x.o.o1 HTK.out.y.x.o.o3 (by decide)) g1 rfl (by rw [e]; rfl)
            have ne23 : g3 ≠ g2 := fun e => HTK.out.y.x.o.d g2 rfl (by rw [e]; rfl)
            go_upto_region 14 with (fail)
            (refine wp_region_T (TV wr [] [0, 1, 2, 3, 4, 5, 6, 7, 8, 10, 11, 12, 13, 15, 16, 17, 18, 19, 20, 21, 22, 23, 24, 25, 26, 27, 28, 29, 30]) (by kernel_rfl) ?_; refine anyT_takes (fun w' => ∃ y : Wld wr, w' = y.w) 36 [9, 14] tv_0 (tv_i0 (by rfl)) (fun _ _ _ _ _ h => h) ⟨(_ : World), rfl⟩ (by kernel_rfl) (by rfl) ?_; simp only [opsOf, List.filterMap_cons, List.filterMap_nil, List.getElem?_toArray, List.getElem?_cons_succ, List.getElem?_cons_zero, List.foldl_cons, List.foldl_nil]; (repeat (any_goals (first | go_big_quiet_step (fail) | quiet_step (fail)))); refine wpQuiet_nil ?_; refine anyT_takes (fun w' => ∃ y : Grs wr [], w' = y.w) 31 [0, 1, 2, 3, 4, 5, 6, 7, 8, 10, 11, 12, 13, 15, 16, 17, 18, 19, 20, 21, 22, 23, 24, 25, 26, 27, 28, 29, 30] (tv_1 (by kernel_rfl)) tv_i (fun _ _ _ _ _ h => h) ⟨⟨_, grs_drew _ _⟩, rfl⟩ (by kernel_rfl) (by rfl) ?_; simp only [opsOf, List.filterMap_cons, List.filterMap_nil, List.getElem?_toArray, List.getElem?_cons_succ, List.getElem?_cons_zero, List.foldl_cons, List.foldl_nil]; (repeat (any_goals (first | go_big_quiet_step (fail) | quiet_step (fail)))); refine wpQuiet_nil ?_)
            (refine anyT_tail 31 (tv_late (by rfl)) (by rfl) (by kernel_rfl) ?_; simp only [List.drop_succ_cons, List.drop_zero])
            go_wp2
            refine NoPanic.normal ?_
            generalize hW : World.drew _ = W3 at *
            clear hW b2 b3 b4 b5 bz k1 k2 k3 z1 z2 z3 f1 f2 f3 cn_ cr_ hbr nz HTK hj1 HJN ne12 ne13 ne23
            have HE := HTN
            clear HTN
            have cn_ := HCN.out W3 HE.out.y.x.bl
            have nz := Nat.lt_of_lt_of_le hbn HE.out.y.x.bl.le
            by_cases hz : nd = 0
            · have hzq : (nd == 0) = true := by simpa using hz
              rw [if_pos hz] at HSP2
              subst hz
              go_upto_region 16 with (fail)
              clear hzq cn_ nz
              have b2 := HE.out.y.x.row.cell (i := 2) rfl
              have b3 := HE.out.y.x.row.cell (i := 3) rfl
              have bz := HE.out.y.x.row.lt
              have k1 := HE.out.y.k1 (k := t) (by simpa using htj)
              dsimp only at k1
              rw [jxAt_set htj, if_pos rfl] at k1
              have z1 := HE.out.y.n1.2
              obtain ⟨row, hrow⟩ : ∃ r, r = dv.ownBlock := ⟨_, rfl⟩
              have hn1 : some br ≠ row := by rw [hrow]; exact box_row_ne HE.out.y.x.row HE.out.d (by decide)
              have hn2 : some g1 ≠ row := fun e => by rw [hrow] at e; exact (apt_types HE.out.y.x.o.o1 HE.out.d (by decide)) g1 rfl e.symm
              have hn3 : some g2 ≠ row := fun e => by rw [hrow] at e; exact (apt_types HE.out.y.x.o.o2 HE.out.d (by decide)) g2 rfl e.symm
              have HROW := Lib.hid hrow
              clear hrow
              (refine wp_region_E 16 row (by kernel_rfl) ?_; refine anyE_takes [0, 1, 2, 3, 4, 5, 6, 7, 8, 9, 10, 11, 12, 13] (fun _ _ _ _ _ h => h) ⟨⟨_, gro_drew (gro_refl _)⟩, rfl⟩ (by kernel_rfl) (by rfl) ?_; simp only [opsOf, List.filterMap_cons, List.filterMap_nil, List.getElem?_toArray, List.getElem?_cons_succ, List.getElem?_cons_zero, List.foldl_cons, List.foldl_nil]; (repeat (any_goals (first | go_big_quiet_step (fail) | quiet_step (fail)))); refine wpQuiet_nil ?_)
              have HEY := Lib.hid (HE.out.bel Bel.refl.drew)
              have hgd : Hid (W3.grownBy W3.drew row) := Lib.hid (gro_drew (gro_refl _))
              obtain ⟨Ad, cd, rfl, _⟩ := own_slice HEY.out.d
              have HM1 := HEY.out.m1
              generalize W3.drew = yy at *
              (refine anyE_one 14 _ (by kernel_rfl) (by rfl) (fun K hK => ?_))
              go_simp
              refine hK _ _ (fun _ => ⟨⟨_, gro_alloc hgd.out _⟩, rfl⟩) ?_
              clear hK K
              (refine anyE_one 15 _ (by kernel_rfl) (by rfl) (fun K hK => ?_))
              rw [if_pos (by rfl)]
              refine wp_append_own _ _ _ 42 rfl m3 60 dd _ 5 40 Try.underlying42 hd0 hz0 hz1 hz2 rfl (by decide) _ _ _ rfl (HEY.out.d.alloc _) ⟨yy.heap.size, 0, none⟩ 1 1 (donC ⟨t, (jxAt p.1 t).num + 1, st.now, 0, false⟩) rfl rfl ?d1 ?d2 ?d3 ?d4 ?d5 ?_
              case d1 => exact cells_new _ (donC ⟨t, (jxAt p.1 t).num + 1, st.now, 0, false⟩) _
              case d2 => intro u hu; simp [donC] at hu; rcases hu with h | h | h | h | h <;> subst h <;> rfl
              case d3 => unfold maxLen; omega
              case d4 => omega
              case d5 => simp; omega
              intro v' w4 hown3 hg3 _
              replace hg3 := (World.grownBy_alloc yy _ _).trans hg3
              refine hK _ _ (fun _ => ⟨⟨_, hgd.out.trans (by rw [HROW.out]; exact hg3)⟩, rfl⟩) ?_
              clear hK K
              have HS4 := Lib.hid (HEY.out.grow (ds' := p.2 ++ [⟨t, (jxAt p.1 t).num + 1, st.now, 0, false⟩]) HNW.out hg3 (by rw [List.flatMap_append, List.length_append]; simpa using hown3))
              clear hown3 hg3 HM1
              (refine anyE_tail 16 (by decide) (by rfl) (by kernel_rfl) ?_; simp only [List.drop_succ_cons, List.drop_zero])
              go_wp2
              refine NoPanic.normal ?_
              clear b2 b3 bz k1 z1 hn1 hn2 hn3 hgd HEY HE
              go_wp2
              go_roundw
              case rel => exact ⟨k + 1, _, (p.1.set t ⟨(jxAt p.1 t).num + 1, st.now, 0⟩, p.2 ++ [(⟨t, (jxAt p.1 t).num + 1, st.now, 0, false⟩ : Don)]), by omega, by go_num, rfl, HS4.out, HSP2.out, ⟨HMN.out, HFN.out⟩, by show (p.2 ++ _).length ≤ k + 1; rw [List.length_append]; simp; omega⟩
              case measure => simp [intOf]; omega
            · have hzq : (nd == 0) = false := by simpa using hz
              rw [if_neg hz] at HSP2
              clear hz
              go_wp2
              go_roundw
              case rel => exact ⟨k + 1, _, (p.1.set t ⟨(jxAt p.1 t).num + 1, st.now, nd⟩, p.2), by omega, by go_num, rfl, HE.out, HSP2.out, ⟨HMN.out, HFN.out⟩, by show p.2.length ≤ k + 1; omega⟩
              case measure => simp [intOf]; omega
        · obtain rfl : k = is.length := by omega
          · have hlr := HLR.out
            have hpe := HP.out
            rw [start_end (Nat.le_refl _)] at hpe
            have hdl3 : decide ((is.length : Int) < (is.length : Int)) = false := by simp
            have HMM := Lib.hid HM.out.1
            rw [← hpe] at HGO
            clear hpe HP HM HVB HRB HNK HMEM HSO
            have HKM := Lib.hid (HOK.out.xk _ (tickK_mem hxn hx1))
            have HKT : Hid (tickK xs st.now = xs.getD (st.now % (xs.length : Int)).toNat 0) := Lib.hid rfl
            generalize tickK xs st.now = K at *
            obtain ⟨q, hq⟩ : ∃ q : Nat, st.now % (xs.length : Int) = q := ⟨(st.now % (xs.length : Int)).toNat, (Int.toNat_of_nonneg (Int.emod_nonneg st.now (b := (xs.length : Int)) (by omega))).symm⟩
            have hq2 : q < xs.length := by have := Int.emod_lt_of_pos st.now (b := (xs.length : Int)) (by omega); rw [hq] at this; omega
            have hqi : (q : Int) < (xs.length : Int) := by omega
            rw [hq, Int.toNat_natCast] at HKT
            have htm := Int.tmod_eq_emod_of_nonneg (a := st.now) (b := (xs.length : Int)) hxn
            rw [hq] at htm
            have hxz : ((xs.length : Int) == 0) = false := beq_eq_false_iff_ne.2 (by omega)
            obtain ⟨bq, oq, rfl, hbq, hcq⟩ := HTX.out.at_ (by omega)
            have hcq2 := (HTK.out.y.x.bl.cells bq (oq + q) hbq).trans (hcq q hq2)
            have hbqz := Nat.lt_of_lt_of_le hbq HTK.out.y.x.bl.le
            rw [← HKT.out] at hcq2
            have b1 := HTK.out.y.x.row.cell (i := 1) rfl
            have b2 := HTK.out.y.x.row.cell (i := 2) rfl
            have bz := HTK.out.y.x.row.lt
            clear hcq hq
            go_upto_region 17 with (fail)
            (refine wp_region_ext (wb := wr) (by (repeat (first | exact Ext.bel _ | exact Bel.refl | refine Bel.alloc ?_ _ | refine Bel.drew ?_ | refine Bel.drewN ?_ _))) (by kernel_rfl) (by kernel_rfl) ?_; (repeat (any_goals (first | go_big_quiet_step (fail) | quiet_step (fail) | (refine wpQuiet_step (fun K hK => ?_); go_simp; split <;> (refine hK _ ?_; clear hK K))))); all_goals (refine wpQuiet_nil ?_; intro _ hw'; obtain ⟨y, hw''⟩ := hw'; subst hw''))
            have HT6 := Lib.hid (HTK.out.bel y.bel)
            clear b1 b2 bz hcq2 htm hxz HTK hbqz
            generalize y.w = wy at *
            clear y
            have b2 := HT6.out.y.x.row.cell (i := 2) rfl
            have bz := HT6.out.y.x.row.lt
            have bf := HT6.out.y.x.row.frozen 2
            have HT7 := Lib.hid (HT6.out.bump (st.now + 1))
            have hw1 : IntKind.i64.wrap (st.now + 1) = st.now + 1 := IntWalk.i64_in _ (by omega)
            clear HT6
            go_upto_region 19 with (fail)
            generalize hW : World.setCell wy _ _ = W7 at *
            clear hW b2 bz bf hw1
            by_cases hK : K < 0
            · have hd1 : decide (K < 0) = true := by simpa using hK
              have HR : Hid (tickX l xs st needs = ⟨-1, p.2, 0, ⟨st.now + 1, p.1⟩⟩) := Lib.hid (by rw [HGO.out, run_none (.inl hK)])
              have HPO := Lib.hid (rtick_of HR.out HT7.out)
              go_wp2
              go_ret3
              exact HPO.out
            have hd1 : decide (K < 0) = false := by simpa using hK
            obtain ⟨t, rfl⟩ : ∃ t : Nat, K = t := ⟨K.toNat, by omega⟩
            have htl : t < l.length := by have := HKM.out; omega
            have htj : t < p.1.length := by rw [HMM.out.ln]; exact htl
            have htn : (t : Int) < (n : Int) := by have := HNL.out; omega
            have htn2 : t < n := by omega
            clear hK
            have b5 := HT7.out.y.x.row.cell (i := 5) rfl
            have bz := HT7.out.y.x.row.lt
            have k3 := HT7.out.y.k3 (k := t) htj
            dsimp only at k3
            have z3 := HT7.out.y.n3.2
            by_cases hz : (jxAt p.1 t).lft = 0
            · have hq1 : ((jxAt p.1 t).lft == 0) = true := by simpa using hz
              have HR : Hid (tickX l xs st needs = ⟨-1, p.2, 0, ⟨st.now + 1, p.1⟩⟩) := Lib.hid (by rw [HGO.out, run_none (.inr (by rw [Int.toNat_natCast]; exact hz))])
              have HPO := Lib.hid (rtick_of HR.out HT7.out)
              rw [hz] at k3
              clear hq1
              go_wp2
              go_ret3
              exact HPO.out
            have hq1 : ((jxAt p.1 t).lft == 0) = false := by simpa using hz
            have hrs := run_some (st := ⟨st.now, p.1⟩) (d := p.2) htj hz
            have HR : Hid (tickX l xs st needs = ⟨t, finD (exeSt ⟨st.now, p.1⟩ t) t 1 p.2, 0, ⟨st.now + 1, (exeSt ⟨st.now, p.1⟩ t).js⟩⟩) := Lib.hid (by rw [HGO.out, hrs])
            have HFD : Hid (finD (exeSt ⟨st.now, p.1⟩ t) t 1 p.2 = if (jxAt p.1 t).lft - 1 = 0 then p.2 ++ [⟨t, (jxAt p.1 t).num, (jxAt p.1 t).rel, st.now + 1 - (jxAt p.1 t).rel, false⟩] else p.2) := Lib.hid (by
              unfold finD exeSt
              dsimp only
              rw [jxAt_set htj, if_pos rfl])
            have hjl := HMM.out.jl t htl
            have hjr := HMM.out.jr t htl
            have hco := tok_at HOK.out.h0 htl
            have hc2 := hco.c2
            have hd2 := hco.d2
            have hp2 := hco.p2
            have hwr : IntKind.i64.wrap ((jxAt p.1 t).lft - 1) = (jxAt p.1 t).lft - 1 := IntWalk.i64_in _ (by omega)
            have f3 := HT7.out.y.f3 t
            have HT8 := Lib.hid (HT7.out.execute (k := t) htj ((jxAt p.1 t).lft - 1))
            clear hrs hco hz
            go_upto_region 22 with (fail)
            generalize hW : World.setCell W7 _ _ = W8 at *
            clear hW b5 bz k3 z3 f3 hq1 HT7 hwr
            have HE := HT8
            clear HT8
            have b5 := HE.out.y.x.row.cell (i := 5) rfl
            have bz := HE.out.y.x.row.lt
            have k3 := HE.out.y.k3 (k := t) (by simpa using htj)
            dsimp only at k3
            rw [jxAt_set htj, if_pos rfl] at k3
            have z3 := HE.out.y.n3.2
            by_cases hz : (jxAt p.1 t).lft - 1 = 0
            · rw [if_pos hz] at HFD
              rw [HFD.out] at HR
              dsimp only at k3
              rw [hz] at k3
              go_upto_region 23 with (fail)
              clear b5 k3 z3
              have b2 := HE.out.y.x.row.cell (i := 2) rfl
              have b3 := HE.out.y.x.row.cell (i := 3) rfl
              have b4 := HE.out.y.x.row.cell (i := 4) rfl
              have k1 := HE.out.y.k1 (k := t) (by simpa using htj)
              have k2 := HE.out.y.k2 (k := t) (by simpa using htj)
              dsimp only at k1 k2
              rw [jxAt_set htj, if_pos rfl] at k1 k2
              dsimp only at k1 k2
              have z1 := HE.out.y.n1.2
              have z2 := HE.out.y.n2.2
              have hw2 : IntKind.i64.wrap (st.now + 1 - (jxAt p.1 t).rel) = st.now + 1 - (jxAt p.1 t).rel := IntWalk.i64_in _ (by omega)
              obtain ⟨row, hrow⟩ : ∃ r, r = dv.ownBlock := ⟨_, rfl⟩
              have hn1 : some br ≠ row := by rw [hrow]; exact box_row_ne HE.out.y.x.row HE.out.d (by decide)
              have hn2 : some g1 ≠ row := fun e => by rw [hrow] at e; exact (apt_types HE.out.y.x.o.o1 HE.out.d (by decide)) g1 rfl e.symm
              have hn3 : some g2 ≠ row := fun e => by rw [hrow] at e; exact (apt_types HE.out.y.x.o.o2 HE.out.d (by decide)) g2 rfl e.symm
              have HROW := Lib.hid hrow
              clear hrow
              (refine wp_region_E 31 row (by kernel_rfl) ?_; refine anyE_takes [0, 1, 2, 3, 4, 5, 6, 7, 8, 9, 10, 11, 12, 13, 14, 15, 16, 17, 18, 19, 20, 21, 22, 23, 24, 25, 26, 27, 28] (fun _ _ _ _ _ h => h) ⟨⟨_, gro_drew (gro_refl _)⟩, rfl⟩ (by kernel_rfl) (by rfl) ?_; simp only [opsOf, List.filterMap_cons, List.filterMap_nil, List.getElem?_toArray, List.getElem?_cons_succ, List.getElem?_cons_zero, List.foldl_cons, List.foldl_nil]; (repeat (any_goals (first | go_big_quiet_step (fail) | quiet_step (fail)))); refine wpQuiet_nil ?_)
              have HEY := Lib.hid (HE.out.bel Bel.refl.drew)
              have hgd : Hid (W8.grownBy W8.drew row) := Lib.hid (gro_drew (gro_refl _))
              clear hw2
              obtain ⟨Ad, cd, rfl, _⟩ := own_slice HEY.out.d
              have HM1 := HEY.out.m1
              generalize W8.drew = yy at *
              (refine anyE_one 29 _ (by kernel_rfl) (by rfl) (fun K hK => ?_))
              go_simp
              refine hK _ _ (fun _ => ⟨⟨_, gro_alloc hgd.out _⟩, rfl⟩) ?_
              clear hK K
              (refine anyE_one 30 _ (by kernel_rfl) (by rfl) (fun K hK => ?_))
              rw [if_pos (by rfl)]
              refine wp_append_own _ _ _ 42 rfl m3 60 dd _ 5 40 Try.underlying42 hd0 hz0 hz1 hz2 rfl (by decide) _ _ _ rfl (HEY.out.d.alloc _) ⟨yy.heap.size, 0, none⟩ 1 1 (donC ⟨t, (jxAt p.1 t).num, (jxAt p.1 t).rel, st.now + 1 - (jxAt p.1 t).rel, false⟩) rfl rfl ?d1 ?d2 ?d3 ?d4 ?d5 ?_
              case d1 => exact cells_new _ (donC ⟨t, (jxAt p.1 t).num, (jxAt p.1 t).rel, st.now + 1 - (jxAt p.1 t).rel, false⟩) _
              case d2 => intro u hu; simp [donC] at hu; rcases hu with h | h | h | h | h <;> subst h <;> rfl
              case d3 => unfold maxLen; omega
              case d4 => omega
              case d5 => simp; omega
              intro v' w4 hown3 hg3 _
              replace hg3 := (World.grownBy_alloc yy _ _).trans hg3
              refine hK _ _ (fun _ => ⟨⟨_, hgd.out.trans (by rw [HROW.out]; exact hg3)⟩, rfl⟩) ?_
              clear hK K
              have HS4 := Lib.hid (HEY.out.grow (ds' := p.2 ++ [⟨t, (jxAt p.1 t).num, (jxAt p.1 t).rel, st.now + 1 - (jxAt p.1 t).rel, false⟩]) HNW.out hg3 (by rw [List.flatMap_append, List.length_append]; simpa using hown3))
              clear hown3 hg3 HM1
              (refine anyE_tail 31 (by decide) (by rfl) (by kernel_rfl) ?_; simp only [List.drop_succ_cons, List.drop_zero])
              go_wp2
              refine NoPanic.normal ?_
              have HPO := Lib.hid (rtick_of HR.out HS4.out)
              clear b2 b3 b4 bz k1 k2 z1 z2 hn1 hn2 hn3 hgd HEY HE
              go_wp2
              go_ret3
              exact HPO.out
            · have hq1 : ((jxAt p.1 t).lft - 1 == 0) = false := by simpa using hz
              rw [if_neg hz] at HFD
              rw [HFD.out] at HR
              have HPO := Lib.hid (rtick_of HR.out HE.out)
              dsimp only at k3
              clear hz
              go_wp2
              go_ret3
              exact HPO.out
end Go.Proofs.Ytbilfpoghohddaa
