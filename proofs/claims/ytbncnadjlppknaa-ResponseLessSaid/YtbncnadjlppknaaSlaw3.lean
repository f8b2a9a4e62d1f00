import Derived.Test.YtbncnadjlppknaaSshow
import Derived.Test.YtbncnadjlppknaaSown
import Derived.Test.YtbncnadjlppknaaTpick
import Derived.Test.YtbncnadjlppknaaTsz
namespace Go.Proofs.Ytbncnadjlppknaa
open Go.RowKit
theorem respR_len (l : List Tsk) (n : Nat) : (respR l n).length = n := by simp [respR]
theorem respR_get (l : List Tsk) {n i : Nat} (h : i < n) : (respR l n).getD i 0 = respM l (blocks l) i := by simp [respR, List.getD, h]
theorem dem_two {l : List Tsk} (h : rchk l = 0) (hs : secsB l = false) : (demandM l).1 = false ∨ ((demandM l).1 = true ∧ (demandM l).2.2 = 0) := by
  unfold demandM
  rw [if_pos h, hs]
  by_cases h1 : dmM l = 0 <;> by_cases h2 : busyM l = 0 <;> simp [h1, h2]
set_option maxRecDepth 100000 in
set_option maxHeartbeats 16000000 in
theorem less_any (v : Value) (l : List Tsk) (a1 : Int) (w : World) (h : TsksAt w w.heap.size v l) (hl : l.length ≤ 9223372036854775807)
    (hs : ∀ i, i < l.length → (tskAt l i).secs.length ≤ 9223372036854775807 ∧ (tskAt l i).name.size ≤ 9223372036854775807) (hwf : ∀ i, i < l.length → (tskAt l i).wf) (ha1 : i64 a1) :
    Calls Try.prog 4 #[v, .int .i64 a1] w fun e w' => e = .returned (.bool true) ∧ Bel w w' := by
  have HT := Lib.hid h
  have HS := Lib.hid hs
  have HW := Lib.hid hwf
  obtain ⟨A, c, rfl, _⟩ := h.form
  clear h hs hwf
  go_enter Try.func4, Try.ntmps4
  go_wp2_with fail
  refine (shown32_any _).mono ?_
  rintro e w1 ⟨rfl, hB⟩
  have HB1 := Lib.hid hB
  have HT1 := Lib.hid (HT.out.keep hB.keeps hB.le)
  clear hB
  go_wp2_with fail
  refine (beyond_any _ l w1 HT1.out HS.out hl).mono ?_
  rintro e w2 ⟨rfl, hw⟩
  obtain rfl : w1 = w2 := hw.symm
  cases hbe : beyond l
  case true =>
    go_wp2
    go_ret
    exact ⟨rfl, HB1.out⟩
  have HZ := Lib.hid (sized_of hbe HW.out)
  clear hbe
  go_wp2_with fail
  refine (rcheck_any _ l w1 HT1.out HZ.out.len HZ.out.parts).mono ?_
  rintro e w2 ⟨rfl, hB⟩
  have HB2 := Lib.hid (HB1.out.trans hB)
  have HT2 := Lib.hid (HT1.out.keep hB.keeps hB.le)
  clear hB HB1 HT1
  by_cases h0 : rchk l = 0
  case neg =>
    generalize rchk l = ck at *
    have hne : (ck == 0) = false := by simpa using h0
    go_wp2
    go_ret
    exact ⟨rfl, HB2.out⟩
  rw [h0]
  go_wp2_with fail
  refine (rsecs_any _ l w2 HT2.out HZ.out.len).mono ?_
  rintro e w3 ⟨rfl, hB⟩
  have HB3 := Lib.hid (HB2.out.trans hB)
  have HT3 := Lib.hid (HT2.out.keep hB.keeps hB.le)
  clear hB HB2 HT2
  cases hse : secsB l
  case true =>
    go_wp2
    go_ret
    exact ⟨rfl, HB3.out⟩
  have hpos := rchk_pos h0
  have hl8 := (rchk_ok h0).1
  go_wp2_with fail
  refine (pick_any a1 (l.length : Int) w3 (by omega) (by omega) ha1).mono ?_
  rintro e w4 ⟨⟨i, hi0, rfl⟩, hB⟩
  have hlt : i < l.length := by omega
  have HB4 := Lib.hid (HB3.out.trans hB)
  have HT4 := Lib.hid (HT3.out.keep hB.keeps hB.le)
  clear hB HB3 HT3 hi0
  go_wp2_with fail
  refine (pfixed_any _ l w4 HT4.out HZ.out).mono ?_
  rintro e wk ⟨va, rfl, hva, hB, _⟩
  rw [fixedM_ok h0] at hva ⊢
  dsimp only at hva ⊢
  obtain ⟨Aa, ca, rfl, _⟩ := hva.form
  have HBK := Lib.hid (HB4.out.trans hB)
  have HTK := Lib.hid (HT4.out.keep hB.keeps hB.le)
  have HC0 := Lib.hid h0
  have HSE := Lib.hid hse
  obtain ⟨bt, ot, rfl, hbt, hAT⟩ := HTK.out.at_ hpos
  obtain ⟨ba, oa, rfl, hba, hAA⟩ := hva.at_ (by rw [respR_len]; exact hpos)
  have HAT := Lib.hid hAT
  have HAA : Hid (∀ i, i < l.length → wk.cell? ⟨ba, oa + i, none⟩ = some (.int .i64 (respM l (blocks l) i))) := Lib.hid (fun i hi => by have := hAA i (by rw [respR_len]; exact hi); rw [respR_get l hi] at this; exact this)
  rw [respR_len]
  have hk := toks_of h0 _ (tsk_mem hlt)
  have hc1 := hk.c1
  have hc2 : (tskAt l i).cost ≤ 1000 := by have := hk.c2; have := hk.d2; have := hk.p2; omega
  have HCI : Hid (∀ k, k < l.length → 1 ≤ (tskAt l k).cost ∧ (tskAt l k).cost ≤ (tskAt l k).dl) := Lib.hid (fun k hk => ⟨(toks_of h0 _ (tsk_mem hk)).c1, (toks_of h0 _ (tsk_mem hk)).c2⟩)
  obtain ⟨sv, ⟨_, _, _, _, u4, u5, _⟩, _⟩ := HAT.out i hlt
  have HU4 := Lib.hid u4
  have HU5 := Lib.hid u5
  clear hva hAT hAA hB HB4 HT4 h0 hse hk u5
  generalize hab : (respR l l.length).all okB = ab at *
  clear hab
  go_upto_region 9 with (fail)
  by_cases hco : 1 < (tskAt l i).cost
  · have hdc : decide (1 < (tskAt l i).cost) = true := by simpa using hco
    have hwc : IntKind.i64.wrap ((tskAt l i).cost - 1) = (tskAt l i).cost - 1 := IntWalk.i64_in _ (by omega)
    go_upto_region 10 with (fail)
    go_wp2_with fail
    refine (copied_own _ l wk HTK.out HZ.out.len (fun i hi => (HZ.out.parts i hi).1)).mono ?_
    rintro e w7 ⟨v8, rfl, ho, hB⟩
    obtain ⟨g8, cap8, rfl, hcap8, hb8, hg8⟩ := ho.form hpos
    have ho' : OwnT w7 wk.heap.size (.slice (some ⟨g8, 0, none⟩) l.length cap8) (mk l (fun k => (tskAt l k).prio) (fun k => (tskAt l k).cost)) := by rw [mk_self]; exact ho
    have c4 := ho.cost rfl hlt
    have f4 := ho.frozen rfl (i * 7 + 4)
    have HO8 := Lib.hid (ho'.set_cost (x := (tskAt l i).cost - 1) rfl hlt)
    have HB8 := Lib.hid (hB.set (p := ⟨g8, i * 7 + 4, none⟩) hb8 (.int .i64 ((tskAt l i).cost - 1)))
    clear ho ho' hB
    go_upto_region 12 with (fail)
    generalize hW : World.setCell w7 _ _ = w8 at *
    clear hW c4 f4 hwc
    have hck := mk_chk (f := fun k => (tskAt l k).prio) (g := fun r => if r = i then (tskAt l i).cost - 1 else (tskAt l r).cost) HC0.out HSE.out (fun k hk => prio_ge HC0.out hk) (fun a b hb hab => (prio_ne HC0.out hb hab).1) (fun k hk => by have := HCI.out k hk; split <;> (try subst_vars) <;> omega)
    have hsz := mk_sized (f := fun k => (tskAt l k).prio) (g := fun r => if r = i then (tskAt l i).cost - 1 else (tskAt l r).cost) HZ.out (fun k hk => (HZ.out.wf k hk).prio) (fun k hk => by split <;> first | exact (HZ.out.wf k hk).cost | (unfold i64; omega))
    have hse2 := mk_secs HSE.out (fun k => (tskAt l k).prio) (fun r => if r = i then (tskAt l i).cost - 1 else (tskAt l r).cost)
    have hml := mk_len l (fun k => (tskAt l k).prio) (fun r => if r = i then (tskAt l i).cost - 1 else (tskAt l r).cost)
    have hat : ∀ k, k < l.length → (tskAt (mk l (fun k => (tskAt l k).prio) (fun r => if r = i then (tskAt l i).cost - 1 else (tskAt l r).cost)) k).per = (tskAt l k).per ∧ (tskAt (mk l (fun k => (tskAt l k).prio) (fun r => if r = i then (tskAt l i).cost - 1 else (tskAt l r).cost)) k).prio = (tskAt l k).prio ∧ (tskAt (mk l (fun k => (tskAt l k).prio) (fun r => if r = i then (tskAt l i).cost - 1 else (tskAt l r).cost)) k).dl = (tskAt l k).dl ∧ (tskAt (mk l (fun k => (tskAt l k).prio) (fun r => if r = i then (tskAt l i).cost - 1 else (tskAt l r).cost)) k).cost ≤ (tskAt l k).cost := fun k hk => by
      rw [mk_at _ _ hk]; refine ⟨rfl, rfl, rfl, ?_⟩; dsimp only; split
      · next e => rw [e]; omega
      · exact Int.le_refl _
    have hll := lessL_of _ l hml (fun k hk => by rw [hml] at hk; exact hat k hk)
    have HRL := Lib.hid (fun k (hk : k < l.length) => resp_less HC0.out hck HSE.out hse2 hll hml hk ⟨(hat k hk).2.1, (hat k hk).2.2.1, (hat k hk).2.2.2⟩)
    have HDL := Lib.hid (demand_less HC0.out hck HSE.out hse2 hll)
    generalize mk l (fun k => (tskAt l k).prio) (fun r => if r = i then (tskAt l i).cost - 1 else (tskAt l r).cost) = ls at *
    have HSZ2 := Lib.hid hsz
    clear hat hll hsz hse2
    go_wp2_with fail
    refine (pfixed_any _ ls w8 HO8.out.tsks HSZ2.out).mono ?_
    rintro e w9 ⟨vb, rfl, hvb, hB, _⟩
    rw [fixedM_ok hck] at hvb ⊢
    dsimp only at hvb ⊢
    rw [hml] at hvb ⊢
    obtain ⟨Ab, cb, rfl, _⟩ := hvb.form
    obtain ⟨bb, ob, rfl, hbb, hAB⟩ := hvb.at_ (by rw [respR_len]; exact hpos)
    rw [respR_len]
    have HB9 := Lib.hid (HB8.out.trans hB)
    have HO9 := Lib.hid (HO8.out.bel hB)
    have HAB : Hid (∀ k, k < l.length → w9.cell? ⟨bb, ob + k, none⟩ = some (.int .i64 (respM ls (blocks ls) k))) := Lib.hid (fun k hk => by have := hAB k (by rw [respR_len]; exact hk); rw [respR_get ls hk] at this; exact this)
    have HA9 : Hid (∀ k, k < l.length → w9.cell? ⟨ba, oa + k, none⟩ = some (.int .i64 (respM l (blocks l) k))) := Lib.hid (fun k hk => (HB9.out.cells _ _ hba).trans (HAA.out k hk))
    have hba9 : ba < w9.heap.size := Nat.lt_of_lt_of_le hba HB9.out.le
    generalize (respR ls l.length).all okB = ab2
    clear hvb hAB hB HB8 HO8 hck
    go_wp2
    go_loopg [12] l.length (fun gk s12 wr => ∃ (j : Nat) (z : Ext w9), j + gk = l.length ∧ s12 = .int .i64 j ∧ wr = z.w)
    case atStart => exact ⟨0, ⟨w9, Bel.refl⟩, by omega, rfl, rfl⟩
    case round =>
      obtain ⟨j, z, hj, rfl, rfl⟩ := hrel
      by_cases hlj : j < l.length
      · have hdl : decide ((j : Int) < (l.length : Int)) = true := by simp; omega
        have x1 := HA9.out j hlj
        have x2 := HAB.out j hlj
        have x3 := HRL.out j hlj
        generalize respM l (blocks l) j = ra at *
        generalize respM ls (blocks ls) j = rb at *
        by_cases hra : 0 ≤ ra
        · obtain ⟨y1, y2⟩ := x3 hra
          have d1 : decide (0 ≤ ra) = true := by simpa using hra
          have d2 : decide (rb < 0) = false := by simp; omega
          have d3 : decide (ra < rb) = false := by simp; omega
          clear x3
          go_upto_region 18 with (fail)
          (refine wp_region_ext (wb := w9) (by (repeat (first | exact Ext.bel _ | exact Bel.refl | refine Bel.alloc ?_ _ | refine Bel.drew ?_ | refine Bel.drewN ?_ _))) (by kernel_rfl) (by kernel_rfl) ?_; (repeat (any_goals (first | go_big_quiet_step (fail) | quiet_step (fail) | (refine wpQuiet_step (fun K hK => ?_); go_simp; split <;> (refine hK _ ?_; clear hK K))))); all_goals (refine wpQuiet_nil ?_; intro _ hw'; obtain ⟨y, hw''⟩ := hw'; subst hw''))
          go_wp2
          go_roundg (gk - 1)
          case measure => omega
          case rel => exact ⟨j + 1, y, by omega, by go_num, rfl⟩
        · have d1 : decide (0 ≤ ra) = false := by simpa using hra
          clear x3
          go_upto_region 18 with (fail)
          (refine wp_region_ext (wb := w9) (by (repeat (first | exact Ext.bel _ | exact Bel.refl | refine Bel.alloc ?_ _ | refine Bel.drew ?_ | refine Bel.drewN ?_ _))) (by kernel_rfl) (by kernel_rfl) ?_; (repeat (any_goals (first | go_big_quiet_step (fail) | quiet_step (fail) | (refine wpQuiet_step (fun K hK => ?_); go_simp; split <;> (refine hK _ ?_; clear hK K))))); all_goals (refine wpQuiet_nil ?_; intro _ hw'; obtain ⟨y, hw''⟩ := hw'; subst hw''))
          go_wp2
          go_roundg (gk - 1)
          case measure => omega
          case rel => exact ⟨j + 1, y, by omega, by go_num, rfl⟩
      · obtain rfl : j = l.length := by omega
        have hdl : decide ((l.length : Int) < (l.length : Int)) = false := by simp
        go_wp2_with fail
        refine (pDemand_any _ l z.w (HTK.out.keep (HB9.out.trans z.bel).keeps (HB9.out.trans z.bel).le) HZ.out).mono ?_
        rintro e wa ⟨rfl, hBa⟩
        go_wp2_with fail
        refine (pDemand_any _ ls wa (HO9.out.tsks.keep (z.bel.trans hBa).keeps (z.bel.trans hBa).le) HSZ2.out).mono ?_
        rintro e wh ⟨rfl, hBh⟩
        have HBKH := Lib.hid (((HB9.out.trans z.bel).trans hBa).trans hBh)
        have hd2 := dem_two HC0.out HSE.out
        have hdl2 := HDL.out
        clear hBa hBh HB9 HO9 HAB HA9 HRL HDL HSZ2
        generalize (demandM l).2.1 = e1 at *
        generalize (demandM l).2.2 = e2 at *
        rcases hd2 with hf | ⟨hf, he⟩
        · rw [hf]
          generalize demandM ls = dm at *
          obtain ⟨dm0, dm1, dm2⟩ := dm
          dsimp only
          clear hf hdl2
          by_cases he2 : e2 = 0
          · subst he2
            go_wp2_with fail
            refine (copied_own _ l wh (HTK.out.keep HBKH.out.keeps HBKH.out.le) HZ.out.len (fun i hi => (HZ.out.parts i hi).1)).mono ?_
            rintro e wc ⟨v19, rfl, ho, hB⟩
            obtain ⟨gb, capb, rfl, hcapb, hbb1, hgb⟩ := ho.form hpos
            have HO0 : Hid (OwnT wc wh.heap.size (.slice (some ⟨gb, 0, none⟩) l.length capb) (mk l (fun r => if r = i then (tskAt l i).prio else (tskAt l r).prio) (fun k => (tskAt l k).cost))) := Lib.hid (by
              rw [mk_congr (f' := fun r => (tskAt l r).prio) (g' := fun k => (tskAt l k).cost) (fun k _ => by by_cases hk : k = i <;> simp [hk]) (fun k _ => rfl), mk_self]; exact ho)
            obtain ⟨z0, rfl⟩ := ext_of hB
            clear ho hB hgb
            go_wp2
            go_loopg [20] l.length (fun gk s20 wr => ∃ (j : Nat) (m : Int) (z : Ext wh), j + gk = l.length ∧ s20 = .int .i64 j ∧ wr = z.w ∧ OwnT z.w wh.heap.size (.slice (some ⟨gb, 0, none⟩) l.length capb) (mk l (fun r => if r = i then m else (tskAt l r).prio) (fun k => (tskAt l k).cost)) ∧ maxF m (l.drop j) = maxF (tskAt l i).prio l)
            case atStart => exact ⟨0, (tskAt l i).prio, z0, by omega, rfl, rfl, HO0.out, rfl⟩
            case round =>
              obtain ⟨j, m, z, hj, rfl, rfl, hoj, hmx⟩ := hrel
              clear HO0
              by_cases hlj : j < l.length
              · have hdl : decide ((j : Int) < (l.length : Int)) = true := by simp; omega
                obtain ⟨sv, ⟨_, _, _, _, _, v5, _⟩, _⟩ := HAT.out j hlj
                have q5 := ((HBKH.out.trans z.bel).cells _ _ hbt).trans v5
                have hbz : bt < z.w.heap.size := Nat.lt_of_lt_of_le hbt (HBKH.out.trans z.bel).le
                have c5 := hoj.prio (by rw [mk_len]) (k := i) (by rw [mk_len]; exact hlt)
                rw [mk_at _ _ hlt] at c5
                replace c5 : z.w.cell? ⟨gb, i * 7 + 5, none⟩ = some (.int .i64 m) := by simpa using c5
                have f5 := hoj.frozen (by rw [mk_len]) (i * 7 + 5)
                have hgz := hoj.lt (by rw [mk_len]; exact hpos)
                rw [tsks_drop hlj] at hmx
                simp only [maxF] at hmx
                have HOJ := Lib.hid hoj
                have HZB := Lib.hid z.bel
                have HMX := Lib.hid hmx
                clear hoj hmx v5
                generalize (tskAt l j).prio = q at *
                generalize z.w = wz at *
                clear z
                have HNX : Hid (∀ x : Int, (if m < q then q else m) = x → maxF x (l.drop (j + 1)) = maxF (tskAt l i).prio l) := Lib.hid (fun x e => by rw [← e]; exact HMX.out)
                have HST : Hid (∀ (x : Int) (V : World), Bel wz V → ∃ z2 : Ext wh, V.setCell ⟨gb, i * 7 + 5, none⟩ (.int .i64 x) = z2.w ∧ OwnT z2.w wh.heap.size (.slice (some ⟨gb, 0, none⟩) l.length capb) (mk l (fun r => if r = i then x else (tskAt l r).prio) (fun k => (tskAt l k).cost))) := Lib.hid (fun x V hV => by
                  obtain ⟨z2, hz2⟩ := ext_of ((HZB.out.trans hV).set (p := ⟨gb, i * 7 + 5, none⟩) hbb1 (.int .i64 x))
                  have hs := (HOJ.out.bel hV).set_prio (x := x) rfl hlt
                  rw [mk_congr (f' := fun r => if r = i then x else (tskAt l r).prio) (g' := fun k => (tskAt l k).cost) (fun k _ => by by_cases hk : k = i <;> simp [hk]) (fun k _ => rfl)] at hs
                  exact ⟨z2, hz2, by rw [← hz2]; exact hs⟩)
                have HFZ := Lib.hid (fun (V : World) (hV : Bel wz V) => (HOJ.out.bel hV).frozen (by rw [mk_len]) (i * 7 + 5))
                have HHB := Lib.hid hbb1
                clear HMX HOJ f5 hbb1
                rcases Int.lt_trichotomy m q with hmq | hmq | hmq
                · have hdm : decide (m < q) = true := by simpa using hmq
                  have HE := Lib.hid (HNX.out q (by rw [if_pos hmq]))
                  go_upto_region 28 with (fail)
                  (refine wp_region_qtail 15 (wb := wz) (by (repeat (first | exact Ext.bel _ | exact Bel.refl | refine Bel.alloc ?_ _ | refine Bel.drew ?_ | refine Bel.drewN ?_ _))) (by kernel_rfl) (by kernel_rfl) ?_; simp only [List.take_succ_cons, List.take_zero, List.drop_succ_cons, List.drop_zero]; (repeat (any_goals (first | go_big_quiet_step (fail) | quiet_step (fail) | (refine wpQuiet_step (fun K hK => ?_); go_simp; split <;> (refine hK _ ?_; clear hK K))))); all_goals (refine wpQuiet_nil ?_; intro _ hw'; obtain ⟨y, hw''⟩ := hw'; subst hw''))
                  all_goals
                    have c5y := (y.bel.cells _ _ hgz).trans c5
                    have f5y := HFZ.out _ y.bel
                    have hgy := Nat.lt_of_lt_of_le hgz y.bel.le
                    have HYB := Lib.hid y.bel
                    go_wp2
                    go_roundg (gk - 1)
                    case measure => omega
                    case rel =>
                      obtain ⟨z2, hz2, ho2⟩ := HST.out q _ HYB.out
                      exact ⟨j + 1, q, z2, by omega, by go_num, hz2, ho2, HE.out⟩
                · subst hmq
                  have HE := Lib.hid (HNX.out m (by rw [if_neg (by omega)]))
                  go_upto_region 28 with (fail)
                  (refine wp_region_qtail 15 (wb := wz) (by (repeat (first | exact Ext.bel _ | exact Bel.refl | refine Bel.alloc ?_ _ | refine Bel.drew ?_ | refine Bel.drewN ?_ _))) (by kernel_rfl) (by kernel_rfl) ?_; simp only [List.take_succ_cons, List.take_zero, List.drop_succ_cons, List.drop_zero]; (repeat (any_goals (first | go_big_quiet_step (fail) | quiet_step (fail) | (refine wpQuiet_step (fun K hK => ?_); go_simp; split <;> (refine hK _ ?_; clear hK K))))); all_goals (refine wpQuiet_nil ?_; intro _ hw'; obtain ⟨y, hw''⟩ := hw'; subst hw''))
                  all_goals
                    have c5y := (y.bel.cells _ _ hgz).trans c5
                    have f5y := HFZ.out _ y.bel
                    have hgy := Nat.lt_of_lt_of_le hgz y.bel.le
                    have HYB := Lib.hid y.bel
                    go_wp2
                    go_roundg (gk - 1)
                    case measure => omega
                    case rel =>
                      obtain ⟨z2, hz2, ho2⟩ := HST.out m _ HYB.out
                      exact ⟨j + 1, m, z2, by omega, by go_num, hz2, ho2, HE.out⟩
                · have hdm : decide (q < m) = true := by simpa using hmq
                  have hdm2 : decide (m < q) = false := by simp; omega
                  have HE := Lib.hid (HNX.out m (by rw [if_neg (by omega)]))
                  go_upto_region 28 with (fail)
                  (refine wp_region_qtail 15 (wb := wz) (by (repeat (first | exact Ext.bel _ | exact Bel.refl | refine Bel.alloc ?_ _ | refine Bel.drew ?_ | refine Bel.drewN ?_ _))) (by kernel_rfl) (by kernel_rfl) ?_; simp only [List.take_succ_cons, List.take_zero, List.drop_succ_cons, List.drop_zero]; (repeat (any_goals (first | go_big_quiet_step (fail) | quiet_step (fail) | (refine wpQuiet_step (fun K hK => ?_); go_simp; split <;> (refine hK _ ?_; clear hK K))))); all_goals (refine wpQuiet_nil ?_; intro _ hw'; obtain ⟨y, hw''⟩ := hw'; subst hw''))
                  all_goals
                    have c5y := (y.bel.cells _ _ hgz).trans c5
                    have f5y := HFZ.out _ y.bel
                    have hgy := Nat.lt_of_lt_of_le hgz y.bel.le
                    have HYB := Lib.hid y.bel
                    go_wp2
                    go_roundg (gk - 1)
                    case measure => omega
                    case rel =>
                      obtain ⟨z2, hz2, ho2⟩ := HST.out m _ HYB.out
                      exact ⟨j + 1, m, z2, by omega, by go_num, hz2, ho2, HE.out⟩
              · obtain rfl : j = l.length := by omega
                have hdl : decide ((l.length : Int) < (l.length : Int)) = false := by simp
                have hm : m = maxF (tskAt l i).prio l := by rw [← hmx]; simp [maxF]
                have HO3 : Hid (OwnT z.w wh.heap.size (.slice (some ⟨gb, 0, none⟩) l.length capb) (mk l (fun r => if r = i ∨ r < 0 then hiP l i r else (tskAt l r).prio) (fun k => (tskAt l k).cost))) := Lib.hid (by
                  rw [mk_congr (f' := fun r => if r = i then m else (tskAt l r).prio) (g' := fun k => (tskAt l k).cost) (fun k _ => by
                    by_cases hk : k = i
                    · subst hk; simp [hiP, hm]
                    · simp [hk]) (fun k _ => rfl)]; exact hoj)
                clear hoj hmx hm
                go_wp2
                go_loopg [21] l.length (fun gk s21 wr => ∃ (j : Nat) (z : Ext wh), j + gk = l.length ∧ s21 = .int .i64 j ∧ wr = z.w ∧ OwnT z.w wh.heap.size (.slice (some ⟨gb, 0, none⟩) l.length capb) (mk l (fun r => if r = i ∨ r < j then hiP l i r else (tskAt l r).prio) (fun k => (tskAt l k).cost)))
                case atStart => exact ⟨0, z, by omega, rfl, rfl, HO3.out⟩
                case round =>
                  clear HO3
                  obtain ⟨j, z, hj, rfl, rfl, hoj⟩ := hrel
                  by_cases hlj : j < l.length
                  · have hdl : decide ((j : Int) < (l.length : Int)) = true := by simp; omega
                    obtain ⟨sv, ⟨_, _, _, _, _, v5, _⟩, _⟩ := HAT.out j hlj
                    have q5 := ((HBKH.out.trans z.bel).cells _ _ hbt).trans v5
                    have p5 := ((HBKH.out.trans z.bel).cells _ _ hbt).trans HU5.out
                    have hbz : bt < z.w.heap.size := Nat.lt_of_lt_of_le hbt (HBKH.out.trans z.bel).le
                    have HOJ := Lib.hid hoj
                    have HZB := Lib.hid z.bel
                    have HTZ := Lib.hid (HTK.out.keep (HBKH.out.trans z.bel).keeps (HBKH.out.trans z.bel).le)
                    have HHB := Lib.hid hbb1
                    clear hoj v5
                    generalize z.w = wz at *
                    clear z
                    have HSAME : Hid (hiP l i j = (tskAt l j).prio ∨ j = i → ∀ V : World, Bel wz V → ∃ z2 : Ext wh, V = z2.w ∧ OwnT z2.w wh.heap.size (.slice (some ⟨gb, 0, none⟩) l.length capb) (mk l (fun r => if r = i ∨ r < j + 1 then hiP l i r else (tskAt l r).prio) (fun k => (tskAt l k).cost))) := Lib.hid (fun hh V hV => by
                      obtain ⟨z2, hz2⟩ := ext_of (HZB.out.trans hV)
                      have hs := HOJ.out.bel hV
                      rw [mk_congr (f' := fun r => if r = i ∨ r < j + 1 then hiP l i r else (tskAt l r).prio) (g' := fun k => (tskAt l k).cost) (fun k _ => by
                        by_cases hki : k = i
                        · simp [hki]
                        · by_cases hkj : k = j
                          · subst hkj
                            rcases hh with hh | hh
                            · simp [hki, hh]
                            · exact absurd hh hki
                          · by_cases hk2 : k < j
                            · simp [hki, hk2, show k < j + 1 by omega]
                            · simp [hki, hk2, show ¬ k < j + 1 by omega]) (fun k _ => rfl)] at hs
                      exact ⟨z2, hz2, by rw [← hz2]; exact hs⟩)
                    by_cases hji : j = i
                    · have j1 : (j == i) = true := by simpa using hji
                      have j2 : ((j : Int) == (i : Int)) = true := by simp; omega
                      have HS2 := Lib.hid (HSAME.out (.inr hji))
                      have HJI := Lib.hid hji
                      go_upto_region 32 with (fail)
                      (refine wp_region_ext (wb := wz) (by (repeat (first | exact Ext.bel _ | exact Bel.refl | refine Bel.alloc ?_ _ | refine Bel.drew ?_ | refine Bel.drewN ?_ _))) (by kernel_rfl) (by kernel_rfl) ?_; (repeat (any_goals (first | go_big_quiet_step (fail) | quiet_step (fail) | (refine wpQuiet_step (fun K hK => ?_); go_simp; split <;> (refine hK _ ?_; clear hK K))))); all_goals (refine wpQuiet_nil ?_; intro _ hw'; obtain ⟨y, hw''⟩ := hw'; subst hw''))
                      have HYB := Lib.hid y.bel
                      go_wp2
                      go_roundg (gk - 1)
                      case measure => omega
                      case rel =>
                        obtain ⟨z2, hz2, ho2⟩ := HS2.out _ HYB.out
                        exact ⟨j + 1, z2, by omega, by go_num, hz2, ho2⟩
                    · have j1 : (j == i) = false := by simpa using hji
                      have j2 : ((j : Int) == (i : Int)) = false := by simp; omega
                      have j3 : ¬ (j : Int) = (i : Int) := by omega
                      by_cases hpp : (tskAt l i).prio < (tskAt l j).prio
                      · have hdp : decide ((tskAt l i).prio < (tskAt l j).prio) = true := by simpa using hpp
                        have HHI : Hid (hiP l i j = belowM l (tskAt l j).prio) := Lib.hid (by unfold hiP; rw [if_neg hji, if_pos hpp])
                        go_upto_region 32 with (fail)
                        (refine wp_region_ext (wb := wz) (by (repeat (first | exact Ext.bel _ | exact Bel.refl | refine Bel.alloc ?_ _ | refine Bel.drew ?_ | refine Bel.drewN ?_ _))) (by kernel_rfl) (by kernel_rfl) ?_; (repeat (any_goals (first | go_big_quiet_step (fail) | quiet_step (fail) | (refine wpQuiet_step (fun K hK => ?_); go_simp; split <;> (refine hK _ ?_; clear hK K))))); all_goals (refine wpQuiet_nil ?_; intro _ hw'; obtain ⟨y, hw''⟩ := hw'; subst hw''))
                        go_wp2_with fail
                        refine (below_any _ l (tskAt l j).prio y.w (HTZ.out.keep y.bel.keeps y.bel.le) hl8).mono ?_
                        rintro e wd ⟨rfl, hBd⟩
                        have OD := (HOJ.out.bel y.bel).bel hBd
                        have c5 := OD.prio (by rw [mk_len]) (k := j) (by rw [mk_len]; exact hlj)
                        have f5 := OD.frozen (by rw [mk_len]) (j * 7 + 5)
                        have hgz := OD.lt (by rw [mk_len]; exact hpos)
                        have HOD := Lib.hid OD
                        have HBD2 := Lib.hid ((HZB.out.trans y.bel).trans hBd)
                        clear OD hBd
                        generalize hbv : belowM l (tskAt l j).prio = bv at *
                        go_wp2
                        go_roundg (gk - 1)
                        case measure => omega
                        case rel =>
                          obtain ⟨z2, hz2⟩ := ext_of (HBD2.out.set (p := ⟨gb, j * 7 + 5, none⟩) HHB.out (.int .i64 bv))
                          have hs := HOD.out.set_prio (x := bv) rfl hlj
                          rw [mk_congr (f' := fun r => if r = i ∨ r < j + 1 then hiP l i r else (tskAt l r).prio) (g' := fun k => (tskAt l k).cost) (fun k _ => by
                            by_cases hkj : k = j
                            · subst hkj; simp [HHI.out]
                            · by_cases hki : k = i
                              · simp [hki, Ne.symm hji]
                              · by_cases hk2 : k < j
                                · simp [hki, hkj, hk2, show k < j + 1 by omega]
                                · simp [hki, hkj, hk2, show ¬ k < j + 1 by omega]) (fun k _ => rfl)] at hs
                          exact ⟨j + 1, z2, by omega, by go_num, hz2, by rw [← hz2]; exact hs⟩
                      · have hdp : decide ((tskAt l i).prio < (tskAt l j).prio) = false := by simpa using hpp
                        have HS2 := Lib.hid (HSAME.out (.inl (by unfold hiP; rw [if_neg hji, if_neg hpp])))
                        go_upto_region 32 with (fail)
                        (refine wp_region_ext (wb := wz) (by (repeat (first | exact Ext.bel _ | exact Bel.refl | refine Bel.alloc ?_ _ | refine Bel.drew ?_ | refine Bel.drewN ?_ _))) (by kernel_rfl) (by kernel_rfl) ?_; (repeat (any_goals (first | go_big_quiet_step (fail) | quiet_step (fail) | (refine wpQuiet_step (fun K hK => ?_); go_simp; split <;> (refine hK _ ?_; clear hK K))))); all_goals (refine wpQuiet_nil ?_; intro _ hw'; obtain ⟨y, hw''⟩ := hw'; subst hw''))
                        have HYB := Lib.hid y.bel
                        go_wp2
                        go_roundg (gk - 1)
                        case measure => omega
                        case rel =>
                          obtain ⟨z2, hz2, ho2⟩ := HS2.out _ HYB.out
                          exact ⟨j + 1, z2, by omega, by go_num, hz2, ho2⟩
                  · obtain rfl : j = l.length := by omega
                    have hdl : decide ((l.length : Int) < (l.length : Int)) = false := by simp
                    have hof : OwnT z.w wh.heap.size (.slice (some ⟨gb, 0, none⟩) l.length capb) (mk l (hiP l i) (fun k => (tskAt l k).cost)) := by
                      rw [mk_congr (f := hiP l i) (f' := fun r => if r = i ∨ r < l.length then hiP l i r else (tskAt l r).prio) (g' := fun k => (tskAt l k).cost) (fun k hk => by simp [hk]) (fun k _ => rfl)]; exact hoj
                    obtain ⟨hk1, hk2, hk3⟩ := resp_high HC0.out HSE.out hlt
                    obtain ⟨hp1, hp2, _⟩ := hiP_ok HC0.out hlt
                    have hmi := maxF_i64 l (tskAt l i).prio (HZ.out.wf i hlt).prio (tsk_all fun k hk => (HZ.out.wf k hk).prio)
                    have hsz := mk_sized (f := hiP l i) (g := fun k => (tskAt l k).cost) HZ.out (fun k hk => by have a := hp1 k hk; have b := hp2 k hk; unfold i64 at hmi ⊢; omega) (fun k hk => (HZ.out.wf k hk).cost)
                    have hml := mk_len l (hiP l i) (fun k => (tskAt l k).cost)
                    generalize mk l (hiP l i) (fun k => (tskAt l k).cost) = hs at *
                    have HOF := Lib.hid hof
                    have HSF := Lib.hid hsz
                    clear hoj hof hp1 hp2 hmi hsz
                    go_wp2_with fail
                    refine (pfixed_any _ hs z.w HOF.out.tsks HSF.out).mono ?_
                    rintro e wf ⟨vc, rfl, hvc, hBf, _⟩
                    rw [fixedM_ok hk1] at hvc ⊢
                    dsimp only at hvc ⊢
                    rw [hml] at hvc ⊢
                    obtain ⟨Ac, cc, rfl, _⟩ := hvc.form
                    obtain ⟨bc, oc, rfl, hbc, hAC⟩ := hvc.at_ (by rw [respR_len]; exact hpos)
                    rw [respR_len]
                    have hkf := (HBKH.out.trans z.bel).trans hBf
                    have x1 := hAC i (by rw [respR_len]; exact hlt)
                    rw [respR_get hs hlt, hk2] at x1
                    have x2 := (hkf.cells _ _ hba).trans (HAA.out i hlt)
                    have x3 := (hkf.cells _ _ hbt).trans HU4.out
                    have hba2 := Nat.lt_of_lt_of_le hba hkf.le
                    have hbt2 := Nat.lt_of_lt_of_le hbt hkf.le
                    have HKF := Lib.hid hkf
                    generalize (respR hs l.length).all okB = ab3
                    clear hvc hAC hBf hkf hk1 hk2
                    generalize respM l (blocks l) i = ra at *
                    rcases hk3 with hk3 | hk3
                    · have d1 : decide (ra < 0) = true := by simpa using hk3
                      go_upto_region 35 with (fail)
                      (refine wp_region_ext (wb := wf) (by (repeat (first | exact Ext.bel _ | exact Bel.refl | refine Bel.alloc ?_ _ | refine Bel.drew ?_ | refine Bel.drewN ?_ _))) (by kernel_rfl) (by kernel_rfl) ?_; (repeat (any_goals (first | go_big_quiet_step (fail) | quiet_step (fail) | (refine wpQuiet_step (fun K hK => ?_); go_simp; split <;> (refine hK _ ?_; clear hK K))))); all_goals (refine wpQuiet_nil ?_; intro _ hw'; obtain ⟨y, hw''⟩ := hw'; subst hw''))
                      go_wp2
                      go_ret
                      exact ⟨rfl, (HBK.out.trans HKF.out).trans y.bel⟩
                    · have d1 : decide (ra < 0) = false := by simp; omega
                      have d2 : decide ((tskAt l i).cost ≤ ra) = true := by simpa using hk3
                      go_upto_region 35 with (fail)
                      (refine wp_region_ext (wb := wf) (by (repeat (first | exact Ext.bel _ | exact Bel.refl | refine Bel.alloc ?_ _ | refine Bel.drew ?_ | refine Bel.drewN ?_ _))) (by kernel_rfl) (by kernel_rfl) ?_; (repeat (any_goals (first | go_big_quiet_step (fail) | quiet_step (fail) | (refine wpQuiet_step (fun K hK => ?_); go_simp; split <;> (refine hK _ ?_; clear hK K))))); all_goals (refine wpQuiet_nil ?_; intro _ hw'; obtain ⟨y, hw''⟩ := hw'; subst hw''))
                      go_wp2
                      go_ret
                      exact ⟨rfl, (HBK.out.trans HKF.out).trans y.bel⟩
          · have hee : (e2 == 0) = false := by simpa using he2
            go_wp2_with fail
            refine (copied_own _ l wh (HTK.out.keep HBKH.out.keeps HBKH.out.le) HZ.out.len (fun i hi => (HZ.out.parts i hi).1)).mono ?_
            rintro e wc ⟨v19, rfl, ho, hB⟩
            obtain ⟨gb, capb, rfl, hcapb, hbb1, hgb⟩ := ho.form hpos
            have HO0 : Hid (OwnT wc wh.heap.size (.slice (some ⟨gb, 0, none⟩) l.length capb) (mk l (fun r => if r = i then (tskAt l i).prio else (tskAt l r).prio) (fun k => (tskAt l k).cost))) := Lib.hid (by
              rw [mk_congr (f' := fun r => (tskAt l r).prio) (g' := fun k => (tskAt l k).cost) (fun k _ => by by_cases hk : k = i <;> simp [hk]) (fun k _ => rfl), mk_self]; exact ho)
            obtain ⟨z0, rfl⟩ := ext_of hB
            clear ho hB hgb
            go_wp2
            go_loopg [20] l.length (fun gk s20 wr => ∃ (j : Nat) (m : Int) (z : Ext wh), j + gk = l.length ∧ s20 = .int .i64 j ∧ wr = z.w ∧ OwnT z.w wh.heap.size (.slice (some ⟨gb, 0, none⟩) l.length capb) (mk l (fun r => if r = i then m else (tskAt l r).prio) (fun k => (tskAt l k).cost)) ∧ maxF m (l.drop j) = maxF (tskAt l i).prio l)
            case atStart => exact ⟨0, (tskAt l i).prio, z0, by omega, rfl, rfl, HO0.out, rfl⟩
            case round =>
              obtain ⟨j, m, z, hj, rfl, rfl, hoj, hmx⟩ := hrel
              clear HO0
              by_cases hlj : j < l.length
              · have hdl : decide ((j : Int) < (l.length : Int)) = true := by simp; omega
                obtain ⟨sv, ⟨_, _, _, _, _, v5, _⟩, _⟩ := HAT.out j hlj
                have q5 := ((HBKH.out.trans z.bel).cells _ _ hbt).trans v5
                have hbz : bt < z.w.heap.size := Nat.lt_of_lt_of_le hbt (HBKH.out.trans z.bel).le
                have c5 := hoj.prio (by rw [mk_len]) (k := i) (by rw [mk_len]; exact hlt)
                rw [mk_at _ _ hlt] at c5
                replace c5 : z.w.cell? ⟨gb, i * 7 + 5, none⟩ = some (.int .i64 m) := by simpa using c5
                have f5 := hoj.frozen (by rw [mk_len]) (i * 7 + 5)
                have hgz := hoj.lt (by rw [mk_len]; exact hpos)
                rw [tsks_drop hlj] at hmx
                simp only [maxF] at hmx
                have HOJ := Lib.hid hoj
                have HZB := Lib.hid z.bel
                have HMX := Lib.hid hmx
                clear hoj hmx v5
                generalize (tskAt l j).prio = q at *
                generalize z.w = wz at *
                clear z
                have HNX : Hid (∀ x : Int, (if m < q then q else m) = x → maxF x (l.drop (j + 1)) = maxF (tskAt l i).prio l) := Lib.hid (fun x e => by rw [← e]; exact HMX.out)
                have HST : Hid (∀ (x : Int) (V : World), Bel wz V → ∃ z2 : Ext wh, V.setCell ⟨gb, i * 7 + 5, none⟩ (.int .i64 x) = z2.w ∧ OwnT z2.w wh.heap.size (.slice (some ⟨gb, 0, none⟩) l.length capb) (mk l (fun r => if r = i then x else (tskAt l r).prio) (fun k => (tskAt l k).cost))) := Lib.hid (fun x V hV => by
                  obtain ⟨z2, hz2⟩ := ext_of ((HZB.out.trans hV).set (p := ⟨gb, i * 7 + 5, none⟩) hbb1 (.int .i64 x))
                  have hs := (HOJ.out.bel hV).set_prio (x := x) rfl hlt
                  rw [mk_congr (f' := fun r => if r = i then x else (tskAt l r).prio) (g' := fun k => (tskAt l k).cost) (fun k _ => by by_cases hk : k = i <;> simp [hk]) (fun k _ => rfl)] at hs
                  exact ⟨z2, hz2, by rw [← hz2]; exact hs⟩)
                have HFZ := Lib.hid (fun (V : World) (hV : Bel wz V) => (HOJ.out.bel hV).frozen (by rw [mk_len]) (i * 7 + 5))
                have HHB := Lib.hid hbb1
                clear HMX HOJ f5 hbb1
                rcases Int.lt_trichotomy m q with hmq | hmq | hmq
                · have hdm : decide (m < q) = true := by simpa using hmq
                  have HE := Lib.hid (HNX.out q (by rw [if_pos hmq]))
                  go_upto_region 28 with (fail)
                  (refine wp_region_qtail 15 (wb := wz) (by (repeat (first | exact Ext.bel _ | exact Bel.refl | refine Bel.alloc ?_ _ | refine Bel.drew ?_ | refine Bel.drewN ?_ _))) (by kernel_rfl) (by kernel_rfl) ?_; simp only [List.take_succ_cons, List.take_zero, List.drop_succ_cons, List.drop_zero]; (repeat (any_goals (first | go_big_quiet_step (fail) | quiet_step (fail) | (refine wpQuiet_step (fun K hK => ?_); go_simp; split <;> (refine hK _ ?_; clear hK K))))); all_goals (refine wpQuiet_nil ?_; intro _ hw'; obtain ⟨y, hw''⟩ := hw'; subst hw''))
                  all_goals
                    have c5y := (y.bel.cells _ _ hgz).trans c5
                    have f5y := HFZ.out _ y.bel
                    have hgy := Nat.lt_of_lt_of_le hgz y.bel.le
                    have HYB := Lib.hid y.bel
                    go_wp2
                    go_roundg (gk - 1)
                    case measure => omega
                    case rel =>
                      obtain ⟨z2, hz2, ho2⟩ := HST.out q _ HYB.out
                      exact ⟨j + 1, q, z2, by omega, by go_num, hz2, ho2, HE.out⟩
                · subst hmq
                  have HE := Lib.hid (HNX.out m (by rw [if_neg (by omega)]))
                  go_upto_region 28 with (fail)
                  (refine wp_region_qtail 15 (wb := wz) (by (repeat (first | exact Ext.bel _ | exact Bel.refl | refine Bel.alloc ?_ _ | refine Bel.drew ?_ | refine Bel.drewN ?_ _))) (by kernel_rfl) (by kernel_rfl) ?_; simp only [List.take_succ_cons, List.take_zero, List.drop_succ_cons, List.drop_zero]; (repeat (any_goals (first | go_big_quiet_step (fail) | quiet_step (fail) | (refine wpQuiet_step (fun K hK => ?_); go_simp; split <;> (refine hK _ ?_; clear hK K))))); all_goals (refine wpQuiet_nil ?_; intro _ hw'; obtain ⟨y, hw''⟩ := hw'; subst hw''))
                  all_goals
                    have c5y := (y.bel.cells _ _ hgz).trans c5
                    have f5y := HFZ.out _ y.bel
                    have hgy := Nat.lt_of_lt_of_le hgz y.bel.le
                    have HYB := Lib.hid y.bel
                    go_wp2
                    go_roundg (gk - 1)
                    case measure => omega
                    case rel =>
                      obtain ⟨z2, hz2, ho2⟩ := HST.out m _ HYB.out
                      exact ⟨j + 1, m, z2, by omega, by go_num, hz2, ho2, HE.out⟩
                · have hdm : decide (q < m) = true := by simpa using hmq
                  have hdm2 : decide (m < q) = false := by simp; omega
                  have HE := Lib.hid (HNX.out m (by rw [if_neg (by omega)]))
                  go_upto_region 28 with (fail)
                  (refine wp_region_qtail 15 (wb := wz) (by (repeat (first | exact Ext.bel _ | exact Bel.refl | refine Bel.alloc ?_ _ | refine Bel.drew ?_ | refine Bel.drewN ?_ _))) (by kernel_rfl) (by kernel_rfl) ?_; simp only [List.take_succ_cons, List.take_zero, List.drop_succ_cons, List.drop_zero]; (repeat (any_goals (first | go_big_quiet_step (fail) | quiet_step (fail) | (refine wpQuiet_step (fun K hK => ?_); go_simp; split <;> (refine hK _ ?_; clear hK K))))); all_goals (refine wpQuiet_nil ?_; intro _ hw'; obtain ⟨y, hw''⟩ := hw'; subst hw''))
                  all_goals
                    have c5y := (y.bel.cells _ _ hgz).trans c5
                    have f5y := HFZ.out _ y.bel
                    have hgy := Nat.lt_of_lt_of_le hgz y.bel.le
                    have HYB := Lib.hid y.bel
                    go_wp2
                    go_roundg (gk - 1)
                    case measure => omega
                    case rel =>
                      obtain ⟨z2, hz2, ho2⟩ := HST.out m _ HYB.out
                      exact ⟨j + 1, m, z2, by omega, by go_num, hz2, ho2, HE.out⟩
              · obtain rfl : j = l.length := by omega
                have hdl : decide ((l.length : Int) < (l.length : Int)) = false := by simp
                have hm : m = maxF (tskAt l i).prio l := by rw [← hmx]; simp [maxF]
                have HO3 : Hid (OwnT z.w wh.heap.size (.slice (some ⟨gb, 0, none⟩) l.length capb) (mk l (fun r => if r = i ∨ r < 0 then hiP l i r else (tskAt l r).prio) (fun k => (tskAt l k).cost))) := Lib.hid (by
                  rw [mk_congr (f' := fun r => if r = i then m else (tskAt l r).prio) (g' := fun k => (tskAt l k).cost) (fun k _ => by
                    by_cases hk : k = i
                    · subst hk; simp [hiP, hm]
                    · simp [hk]) (fun k _ => rfl)]; exact hoj)
                clear hoj hmx hm
                go_wp2
                go_loopg [21] l.length (fun gk s21 wr => ∃ (j : Nat) (z : Ext wh), j + gk = l.length ∧ s21 = .int .i64 j ∧ wr = z.w ∧ OwnT z.w wh.heap.size (.slice (some ⟨gb, 0, none⟩) l.length capb) (mk l (fun r => if r = i ∨ r < j then hiP l i r else (tskAt l r).prio) (fun k => (tskAt l k).cost)))
                case atStart => exact ⟨0, z, by omega, rfl, rfl, HO3.out⟩
                case round =>
                  clear HO3
                  obtain ⟨j, z, hj, rfl, rfl, hoj⟩ := hrel
                  by_cases hlj : j < l.length
                  · have hdl : decide ((j : Int) < (l.length : Int)) = true := by simp; omega
                    obtain ⟨sv, ⟨_, _, _, _, _, v5, _⟩, _⟩ := HAT.out j hlj
                    have q5 := ((HBKH.out.trans z.bel).cells _ _ hbt).trans v5
                    have p5 := ((HBKH.out.trans z.bel).cells _ _ hbt).trans HU5.out
                    have hbz : bt < z.w.heap.size := Nat.lt_of_lt_of_le hbt (HBKH.out.trans z.bel).le
                    have HOJ := Lib.hid hoj
                    have HZB := Lib.hid z.bel
                    have HTZ := Lib.hid (HTK.out.keep (HBKH.out.trans z.bel).keeps (HBKH.out.trans z.bel).le)
                    have HHB := Lib.hid hbb1
                    clear hoj v5
                    generalize z.w = wz at *
                    clear z
                    have HSAME : Hid (hiP l i j = (tskAt l j).prio ∨ j = i → ∀ V : World, Bel wz V → ∃ z2 : Ext wh, V = z2.w ∧ OwnT z2.w wh.heap.size (.slice (some ⟨gb, 0, none⟩) l.length capb) (mk l (fun r => if r = i ∨ r < j + 1 then hiP l i r else (tskAt l r).prio) (fun k => (tskAt l k).cost))) := Lib.hid (fun hh V hV => by
                      obtain ⟨z2, hz2⟩ := ext_of (HZB.out.trans hV)
                      have hs := HOJ.out.bel hV
                      rw [mk_congr (f' := fun r => if r = i ∨ r < j + 1 then hiP l i r else (tskAt l r).prio) (g' := fun k => (tskAt l k).cost) (fun k _ => by
                        by_cases hki : k = i
                        · simp [hki]
                        · by_cases hkj : k = j
                          · subst hkj
                            rcases hh with hh | hh
                            · simp [hki, hh]
                            · exact absurd hh hki
                          · by_cases hk2 : k < j
                            · simp [hki, hk2, show k < j + 1 by omega]
                            · simp [hki, hk2, show ¬ k < j + 1 by omega]) (fun k _ => rfl)] at hs
                      exact ⟨z2, hz2, by rw [← hz2]; exact hs⟩)
                    by_cases hji : j = i
                    · have j1 : (j == i) = true := by simpa using hji
                      have j2 : ((j : Int) == (i : Int)) = true := by simp; omega
                      have HS2 := Lib.hid (HSAME.out (.inr hji))
                      have HJI := Lib.hid hji
                      go_upto_region 32 with (fail)
                      (refine wp_region_ext (wb := wz) (by (repeat (first | exact Ext.bel _ | exact Bel.refl | refine Bel.alloc ?_ _ | refine Bel.drew ?_ | refine Bel.drewN ?_ _))) (by kernel_rfl) (by kernel_rfl) ?_; (repeat (any_goals (first | go_big_quiet_step (fail) | quiet_step (fail) | (refine wpQuiet_step (fun K hK => ?_); go_simp; split <;> (refine hK _ ?_; clear hK K))))); all_goals (refine wpQuiet_nil ?_; intro _ hw'; obtain ⟨y, hw''⟩ := hw'; subst hw''))
                      have HYB := Lib.hid y.bel
                      go_wp2
                      go_roundg (gk - 1)
                      case measure => omega
                      case rel =>
                        obtain ⟨z2, hz2, ho2⟩ := HS2.out _ HYB.out
                        exact ⟨j + 1, z2, by omega, by go_num, hz2, ho2⟩
                    · have j1 : (j == i) = false := by simpa using hji
                      have j2 : ((j : Int) == (i : Int)) = false := by simp; omega
                      have j3 : ¬ (j : Int) = (i : Int) := by omega
                      by_cases hpp : (tskAt l i).prio < (tskAt l j).prio
                      · have hdp : decide ((tskAt l i).prio < (tskAt l j).prio) = true := by simpa using hpp
                        have HHI : Hid (hiP l i j = belowM l (tskAt l j).prio) := Lib.hid (by unfold hiP; rw [if_neg hji, if_pos hpp])
                        go_upto_region 32 with (fail)
                        (refine wp_region_ext (wb := wz) (by (repeat (first | exact Ext.bel _ | exact Bel.refl | refine Bel.alloc ?_ _ | refine Bel.drew ?_ | refine Bel.drewN ?_ _))) (by kernel_rfl) (by kernel_rfl) ?_; (repeat (any_goals (first | go_big_quiet_step (fail) | quiet_step (fail) | (refine wpQuiet_step (fun K hK => ?_); go_simp; split <;> (refine hK _ ?_; clear hK K))))); all_goals (refine wpQuiet_nil ?_; intro _ hw'; obtain ⟨y, hw''⟩ := hw'; subst hw''))
                        go_wp2_with fail
                        refine (below_any _ l (tskAt l j).prio y.w (HTZ.out.keep y.bel.keeps y.bel.le) hl8).mono ?_
                        rintro e wd ⟨rfl, hBd⟩
                        have OD := (HOJ.out.bel y.bel).bel hBd
                        have c5 := OD.prio (by rw [mk_len]) (k := j) (by rw [mk_len]; exact hlj)
                        have f5 := OD.frozen (by rw [mk_len]) (j * 7 + 5)
                        have hgz := OD.lt (by rw [mk_len]; exact hpos)
                        have HOD := Lib.hid OD
                        have HBD2 := Lib.hid ((HZB.out.trans y.bel).trans hBd)
                        clear OD hBd
                        generalize hbv : belowM l (tskAt l j).prio = bv at *
                        go_wp2
                        go_roundg (gk - 1)
                        case measure => omega
                        case rel =>
                          obtain ⟨z2, hz2⟩ := ext_of (HBD2.out.set (p := ⟨gb, j * 7 + 5, none⟩) HHB.out (.int .i64 bv))
                          have hs := HOD.out.set_prio (x := bv) rfl hlj
                          rw [mk_congr (f' := fun r => if r = i ∨ r < j + 1 then hiP l i r else (tskAt l r).prio) (g' := fun k => (tskAt l k).cost) (fun k _ => by
                            by_cases hkj : k = j
                            · subst hkj; simp [HHI.out]
                            · by_cases hki : k = i
                              · simp [hki, Ne.symm hji]
                              · by_cases hk2 : k < j
                                · simp [hki, hkj, hk2, show k < j + 1 by omega]
                                · simp [hki, hkj, hk2, show ¬ k < j + 1 by omega]) (fun k _ => rfl)] at hs
                          exact ⟨j + 1, z2, by omega, by go_num, hz2, by rw [← hz2]; exact hs⟩
                      · have hdp : decide ((tskAt l i).prio < (tskAt l j).prio) = false := by simpa using hpp
                        have HS2 := Lib.hid (HSAME.out (.inl (by unfold hiP; rw [if_neg hji, if_neg hpp])))
                        go_upto_region 32 with (fail)
                        (refine wp_region_ext (wb := wz) (by (repeat (first | exact Ext.bel _ | exact Bel.refl | refine Bel.alloc ?_ _ | refine Bel.drew ?_ | refine Bel.drewN ?_ _))) (by kernel_rfl) (by kernel_rfl) ?_; (repeat (any_goals (first | go_big_quiet_step (fail) | quiet_step (fail) | (refine wpQuiet_step (fun K hK => ?_); go_simp; split <;> (refine hK _ ?_; clear hK K))))); all_goals (refine wpQuiet_nil ?_; intro _ hw'; obtain ⟨y, hw''⟩ := hw'; subst hw''))
                        have HYB := Lib.hid y.bel
                        go_wp2
                        go_roundg (gk - 1)
                        case measure => omega
                        case rel =>
                          obtain ⟨z2, hz2, ho2⟩ := HS2.out _ HYB.out
                          exact ⟨j + 1, z2, by omega, by go_num, hz2, ho2⟩
                  · obtain rfl : j = l.length := by omega
                    have hdl : decide ((l.length : Int) < (l.length : Int)) = false := by simp
                    have hof : OwnT z.w wh.heap.size (.slice (some ⟨gb, 0, none⟩) l.length capb) (mk l (hiP l i) (fun k => (tskAt l k).cost)) := by
                      rw [mk_congr (f := hiP l i) (f' := fun r => if r = i ∨ r < l.length then hiP l i r else (tskAt l r).prio) (g' := fun k => (tskAt l k).cost) (fun k hk => by simp [hk]) (fun k _ => rfl)]; exact hoj
                    obtain ⟨hk1, hk2, hk3⟩ := resp_high HC0.out HSE.out hlt
                    obtain ⟨hp1, hp2, _⟩ := hiP_ok HC0.out hlt
                    have hmi := maxF_i64 l (tskAt l i).prio (HZ.out.wf i hlt).prio (tsk_all fun k hk => (HZ.out.wf k hk).prio)
                    have hsz := mk_sized (f := hiP l i) (g := fun k => (tskAt l k).cost) HZ.out (fun k hk => by have a := hp1 k hk; have b := hp2 k hk; unfold i64 at hmi ⊢; omega) (fun k hk => (HZ.out.wf k hk).cost)
                    have hml := mk_len l (hiP l i) (fun k => (tskAt l k).cost)
                    generalize mk l (hiP l i) (fun k => (tskAt l k).cost) = hs at *
                    have HOF := Lib.hid hof
                    have HSF := Lib.hid hsz
                    clear hoj hof hp1 hp2 hmi hsz
                    go_wp2_with fail
                    refine (pfixed_any _ hs z.w HOF.out.tsks HSF.out).mono ?_
                    rintro e wf ⟨vc, rfl, hvc, hBf, _⟩
                    rw [fixedM_ok hk1] at hvc ⊢
                    dsimp only at hvc ⊢
                    rw [hml] at hvc ⊢
                    obtain ⟨Ac, cc, rfl, _⟩ := hvc.form
                    obtain ⟨bc, oc, rfl, hbc, hAC⟩ := hvc.at_ (by rw [respR_len]; exact hpos)
                    rw [respR_len]
                    have hkf := (HBKH.out.trans z.bel).trans hBf
                    have x1 := hAC i (by rw [respR_len]; exact hlt)
                    rw [respR_get hs hlt, hk2] at x1
                    have x2 := (hkf.cells _ _ hba).trans (HAA.out i hlt)
                    have x3 := (hkf.cells _ _ hbt).trans HU4.out
                    have hba2 := Nat.lt_of_lt_of_le hba hkf.le
                    have hbt2 := Nat.lt_of_lt_of_le hbt hkf.le
                    have HKF := Lib.hid hkf
                    generalize (respR hs l.length).all okB = ab3
                    clear hvc hAC hBf hkf hk1 hk2
                    generalize respM l (blocks l) i = ra at *
                    rcases hk3 with hk3 | hk3
                    · have d1 : decide (ra < 0) = true := by simpa using hk3
                      go_upto_region 35 with (fail)
                      (refine wp_region_ext (wb := wf) (by (repeat (first | exact Ext.bel _ | exact Bel.refl | refine Bel.alloc ?_ _ | refine Bel.drew ?_ | refine Bel.drewN ?_ _))) (by kernel_rfl) (by kernel_rfl) ?_; (repeat (any_goals (first | go_big_quiet_step (fail) | quiet_step (fail) | (refine wpQuiet_step (fun K hK => ?_); go_simp; split <;> (refine hK _ ?_; clear hK K))))); all_goals (refine wpQuiet_nil ?_; intro _ hw'; obtain ⟨y, hw''⟩ := hw'; subst hw''))
                      go_wp2
                      go_ret
                      exact ⟨rfl, (HBK.out.trans HKF.out).trans y.bel⟩
                    · have d1 : decide (ra < 0) = false := by simp; omega
                      have d2 : decide ((tskAt l i).cost ≤ ra) = true := by simpa using hk3
                      go_upto_region 35 with (fail)
                      (refine wp_region_ext (wb := wf) (by (repeat (first | exact Ext.bel _ | exact Bel.refl | refine Bel.alloc ?_ _ | refine Bel.drew ?_ | refine Bel.drewN ?_ _))) (by kernel_rfl) (by kernel_rfl) ?_; (repeat (any_goals (first | go_big_quiet_step (fail) | quiet_step (fail) | (refine wpQuiet_step (fun K hK => ?_); go_simp; split <;> (refine hK _ ?_; clear hK K))))); all_goals (refine wpQuiet_nil ?_; intro _ hw'; obtain ⟨y, hw''⟩ := hw'; subst hw''))
                      go_wp2
                      go_ret
                      exact ⟨rfl, (HBK.out.trans HKF.out).trans y.bel⟩
        · rw [hdl2 hf, hf, he]
          dsimp only
          clear hf he hdl2
          go_wp2_with fail
          refine (copied_own _ l wh (HTK.out.keep HBKH.out.keeps HBKH.out.le) HZ.out.len (fun i hi => (HZ.out.parts i hi).1)).mono ?_
          rintro e wc ⟨v19, rfl, ho, hB⟩
          obtain ⟨gb, capb, rfl, hcapb, hbb1, hgb⟩ := ho.form hpos
          have HO0 : Hid (OwnT wc wh.heap.size (.slice (some ⟨gb, 0, none⟩) l.length capb) (mk l (fun r => if r = i then (tskAt l i).prio else (tskAt l r).prio) (fun k => (tskAt l k).cost))) := Lib.hid (by
            rw [mk_congr (f' := fun r => (tskAt l r).prio) (g' := fun k => (tskAt l k).cost) (fun k _ => by by_cases hk : k = i <;> simp [hk]) (fun k _ => rfl), mk_self]; exact ho)
          obtain ⟨z0, rfl⟩ := ext_of hB
          clear ho hB hgb
          go_wp2
          go_loopg [20] l.length (fun gk s20 wr => ∃ (j : Nat) (m : Int) (z : Ext wh), j + gk = l.length ∧ s20 = .int .i64 j ∧ wr = z.w ∧ OwnT z.w wh.heap.size (.slice (some ⟨gb, 0, none⟩) l.length capb) (mk l (fun r => if r = i then m else (tskAt l r).prio) (fun k => (tskAt l k).cost)) ∧ maxF m (l.drop j) = maxF (tskAt l i).prio l)
          case atStart => exact ⟨0, (tskAt l i).prio, z0, by omega, rfl, rfl, HO0.out, rfl⟩
          case round =>
            obtain ⟨j, m, z, hj, rfl, rfl, hoj, hmx⟩ := hrel
            clear HO0
            by_cases hlj : j < l.length
            · have hdl : decide ((j : Int) < (l.length : Int)) = true := by simp; omega
              obtain ⟨sv, ⟨_, _, _, _, _, v5, _⟩, _⟩ := HAT.out j hlj
              have q5 := ((HBKH.out.trans z.bel).cells _ _ hbt).trans v5
              have hbz : bt < z.w.heap.size := Nat.lt_of_lt_of_le hbt (HBKH.out.trans z.bel).le
              have c5 := hoj.prio (by rw [mk_len]) (k := i) (by rw [mk_len]; exact hlt)
              rw [mk_at _ _ hlt] at c5
              replace c5 : z.w.cell? ⟨gb, i * 7 + 5, none⟩ = some (.int .i64 m) := by simpa using c5
              have f5 := hoj.frozen (by rw [mk_len]) (i * 7 + 5)
              have hgz := hoj.lt (by rw [mk_len]; exact hpos)
              rw [tsks_drop hlj] at hmx
              simp only [maxF] at hmx
              have HOJ := Lib.hid hoj
              have HZB := Lib.hid z.bel
              have HMX := Lib.hid hmx
              clear hoj hmx v5
              generalize (tskAt l j).prio = q at *
              generalize z.w = wz at *
              clear z
              have HNX : Hid (∀ x : Int, (if m < q then q else m) = x → maxF x (l.drop (j + 1)) = maxF (tskAt l i).prio l) := Lib.hid (fun x e => by rw [← e]; exact HMX.out)
              have HST : Hid (∀ (x : Int) (V : World), Bel wz V → ∃ z2 : Ext wh, V.setCell ⟨gb, i * 7 + 5, none⟩ (.int .i64 x) = z2.w ∧ OwnT z2.w wh.heap.size (.slice (some ⟨gb, 0, none⟩) l.length capb) (mk l (fun r => if r = i then x else (tskAt l r).prio) (fun k => (tskAt l k).cost))) := Lib.hid (fun x V hV => by
                obtain ⟨z2, hz2⟩ := ext_of ((HZB.out.trans hV).set (p := ⟨gb, i * 7 + 5, none⟩) hbb1 (.int .i64 x))
                have hs := (HOJ.out.bel hV).set_prio (x := x) rfl hlt
                rw [mk_congr (f' := fun r => if r = i then x else (tskAt l r).prio) (g' := fun k => (tskAt l k).cost) (fun k _ => by by_cases hk : k = i <;> simp [hk]) (fun k _ => rfl)] at hs
                exact ⟨z2, hz2, by rw [← hz2]; exact hs⟩)
              have HFZ := Lib.hid (fun (V : World) (hV : Bel wz V) => (HOJ.out.bel hV).frozen (by rw [mk_len]) (i * 7 + 5))
              have HHB := Lib.hid hbb1
              clear HMX HOJ f5 hbb1
              rcases Int.lt_trichotomy m q with hmq | hmq | hmq
              · have hdm : decide (m < q) = true := by simpa using hmq
                have HE := Lib.hid (HNX.out q (by rw [if_pos hmq]))
                go_upto_region 28 with (fail)
                (refine wp_region_qtail 15 (wb := wz) (by (repeat (first | exact Ext.bel _ | exact Bel.refl | refine Bel.alloc ?_ _ | refine Bel.drew ?_ | refine Bel.drewN ?_ _))) (by kernel_rfl) (by kernel_rfl) ?_; simp only [List.take_succ_cons, List.take_zero, List.drop_succ_cons, List.drop_zero]; (repeat (any_goals (first | go_big_quiet_step (fail) | quiet_step (fail) | (refine wpQuiet_step (fun K hK => ?_); go_simp; split <;> (refine hK _ ?_; clear hK K))))); all_goals (refine wpQuiet_nil ?_; intro _ hw'; obtain ⟨y, hw''⟩ := hw'; subst hw''))
                all_goals
                  have c5y := (y.bel.cells _ _ hgz).trans c5
                  have f5y := HFZ.out _ y.bel
                  have hgy := Nat.lt_of_lt_of_le hgz y.bel.le
                  have HYB := Lib.hid y.bel
                  go_wp2
                  go_roundg (gk - 1)
                  case measure => omega
                  case rel =>
                    obtain ⟨z2, hz2, ho2⟩ := HST.out q _ HYB.out
                    exact ⟨j + 1, q, z2, by omega, by go_num, hz2, ho2, HE.out⟩
              · subst hmq
                have HE := Lib.hid (HNX.out m (by rw [if_neg (by omega)]))
                go_upto_region 28 with (fail)
                (refine wp_region_qtail 15 (wb := wz) (by (repeat (first | exact Ext.bel _ | exact Bel.refl | refine Bel.alloc ?_ _ | refine Bel.drew ?_ | refine Bel.drewN ?_ _))) (by kernel_rfl) (by kernel_rfl) ?_; simp only [List.take_succ_cons, List.take_zero, List.drop_succ_cons, List.drop_zero]; (repeat (any_goals (first | go_big_quiet_step (fail) | quiet_step (fail) | (refine wpQuiet_step (fun K hK => ?_); go_simp; split <;> (refine hK _ ?_; clear hK K))))); all_goals (refine wpQuiet_nil ?_; intro _ hw'; obtain ⟨y, hw''⟩ := hw'; subst hw''))
                all_goals
                  have c5y := (y.bel.cells _ _ hgz).trans c5
                  have f5y := HFZ.out _ y.bel
                  have hgy := Nat.lt_of_lt_of_le hgz y.bel.le
                  have HYB := Lib.hid y.bel
                  go_wp2
                  go_roundg (gk - 1)
                  case measure => omega
                  case rel =>
                    obtain ⟨z2, hz2, ho2⟩ := HST.out m _ HYB.out
                    exact ⟨j + 1, m, z2, by omega, by go_num, hz2, ho2, HE.out⟩
              · have hdm : decide (q < m) = true := by simpa using hmq
                have hdm2 : decide (m < q) = false := by simp; omega
                have HE := Lib.hid (HNX.out m (by rw [if_neg (by omega)]))
                go_upto_region 28 with (fail)
                (refine wp_region_qtail 15 (wb := wz) (by (repeat (first | exact Ext.bel _ | exact Bel.refl | refine Bel.alloc ?_ _ | refine Bel.drew ?_ | refine Bel.drewN ?_ _))) (by kernel_rfl) (by kernel_rfl) ?_; simp only [List.take_succ_cons, List.take_zero, List.drop_succ_cons, List.drop_zero]; (repeat (any_goals (first | go_big_quiet_step (fail) | quiet_step (fail) | (refine wpQuiet_step (fun K hK => ?_); go_simp; split <;> (refine hK _ ?_; clear hK K))))); all_goals (refine wpQuiet_nil ?_; intro _ hw'; obtain ⟨y, hw''⟩ := hw'; subst hw''))
                all_goals
                  have c5y := (y.bel.cells _ _ hgz).trans c5
                  have f5y := HFZ.out _ y.bel
                  have hgy := Nat.lt_of_lt_of_le hgz y.bel.le
                  have HYB := Lib.hid y.bel
                  go_wp2
                  go_roundg (gk - 1)
                  case measure => omega
                  case rel =>
                    obtain ⟨z2, hz2, ho2⟩ := HST.out m _ HYB.out
                    exact ⟨j + 1, m, z2, by omega, by go_num, hz2, ho2, HE.out⟩
            · obtain rfl : j = l.length := by omega
              have hdl : decide ((l.length : Int) < (l.length : Int)) = false := by simp
              have hm : m = maxF (tskAt l i).prio l := by rw [← hmx]; simp [maxF]
              have HO3 : Hid (OwnT z.w wh.heap.size (.slice (some ⟨gb, 0, none⟩) l.length capb) (mk l (fun r => if r = i ∨ r < 0 then hiP l i r else (tskAt l r).prio) (fun k => (tskAt l k).cost))) := Lib.hid (by
                rw [mk_congr (f' := fun r => if r = i then m else (tskAt l r).prio) (g' := fun k => (tskAt l k).cost) (fun k _ => by
                  by_cases hk : k = i
                  · subst hk; simp [hiP, hm]
                  · simp [hk]) (fun k _ => rfl)]; exact hoj)
              clear hoj hmx hm
              go_wp2
              go_loopg [21] l.length (fun gk s21 wr => ∃ (j : Nat) (z : Ext wh), j + gk = l.length ∧ s21 = .int .i64 j ∧ wr = z.w ∧ OwnT z.w wh.heap.size (.slice (some ⟨gb, 0, none⟩) l.length capb) (mk l (fun r => if r = i ∨ r < j then hiP l i r else (tskAt l r).prio) (fun k => (tskAt l k).cost)))
              case atStart => exact ⟨0, z, by omega, rfl, rfl, HO3.out⟩
              case round =>
                clear HO3
                obtain ⟨j, z, hj, rfl, rfl, hoj⟩ := hrel
                by_cases hlj : j < l.length
                · have hdl : decide ((j : Int) < (l.length : Int)) = true := by simp; omega
                  obtain ⟨sv, ⟨_, _, _, _, _, v5, _⟩, _⟩ := HAT.out j hlj
                  have q5 := ((HBKH.out.trans z.bel).cells _ _ hbt).trans v5
                  have p5 := ((HBKH.out.trans z.bel).cells _ _ hbt).trans HU5.out
                  have hbz : bt < z.w.heap.size := Nat.lt_of_lt_of_le hbt (HBKH.out.trans z.bel).le
                  have HOJ := Lib.hid hoj
                  have HZB := Lib.hid z.bel
                  have HTZ := Lib.hid (HTK.out.keep (HBKH.out.trans z.bel).keeps (HBKH.out.trans z.bel).le)
                  have HHB := Lib.hid hbb1
                  clear hoj v5
                  generalize z.w = wz at *
                  clear z
                  have HSAME : Hid (hiP l i j = (tskAt l j).prio ∨ j = i → ∀ V : World, Bel wz V → ∃ z2 : Ext wh, V = z2.w ∧ OwnT z2.w wh.heap.size (.slice (some ⟨gb, 0, none⟩) l.length capb) (mk l (fun r => if r = i ∨ r < j + 1 then hiP l i r else (tskAt l r).prio) (fun k => (tskAt l k).cost))) := Lib.hid (fun hh V hV => by
                    obtain ⟨z2, hz2⟩ := ext_of (HZB.out.trans hV)
                    have hs := HOJ.out.bel hV
                    rw [mk_congr (f' := fun r => if r = i ∨ r < j + 1 then hiP l i r else (tskAt l r).prio) (g' := fun k => (tskAt l k).cost) (fun k _ => by
                      by_cases hki : k = i
                      · simp [hki]
                      · by_cases hkj : k = j
                        · subst hkj
                          rcases hh with hh | hh
                          · simp [hki, hh]
                          · exact absurd hh hki
                        · by_cases hk2 : k < j
                          · simp [hki, hk2, show k < j + 1 by omega]
                          · simp [hki, hk2, show ¬ k < j + 1 by omega]) (fun k _ => rfl)] at hs
                    exact ⟨z2, hz2, by rw [← hz2]; exact hs⟩)
                  by_cases hji : j = i
                  · have j1 : (j == i) = true := by simpa using hji
                    have j2 : ((j : Int) == (i : Int)) = true := by simp; omega
                    have HS2 := Lib.hid (HSAME.out (.inr hji))
                    have HJI := Lib.hid hji
                    go_upto_region 32 with (fail)
                    (refine wp_region_ext (wb := wz) (by (repeat (first | exact Ext.bel _ | exact Bel.refl | refine Bel.alloc ?_ _ | refine Bel.drew ?_ | refine Bel.drewN ?_ _))) (by kernel_rfl) (by kernel_rfl) ?_; (repeat (any_goals (first | go_big_quiet_step (fail) | quiet_step (fail) | (refine wpQuiet_step (fun K hK => ?_); go_simp; split <;> (refine hK _ ?_; clear hK K))))); all_goals (refine wpQuiet_nil ?_; intro _ hw'; obtain ⟨y, hw''⟩ := hw'; subst hw''))
                    have HYB := Lib.hid y.bel
                    go_wp2
                    go_roundg (gk - 1)
                    case measure => omega
                    case rel =>
                      obtain ⟨z2, hz2, ho2⟩ := HS2.out _ HYB.out
                      exact ⟨j + 1, z2, by omega, by go_num, hz2, ho2⟩
                  · have j1 : (j == i) = false := by simpa using hji
                    have j2 : ((j : Int) == (i : Int)) = false := by simp; omega
                    have j3 : ¬ (j : Int) = (i : Int) := by omega
                    by_cases hpp : (tskAt l i).prio < (tskAt l j).prio
                    · have hdp : decide ((tskAt l i).prio < (tskAt l j).prio) = true := by simpa using hpp
                      have HHI : Hid (hiP l i j = belowM l (tskAt l j).prio) := Lib.hid (by unfold hiP; rw [if_neg hji, if_pos hpp])
                      go_upto_region 32 with (fail)
                      (refine wp_region_ext (wb := wz) (by (repeat (first | exact Ext.bel _ | exact Bel.refl | refine Bel.alloc ?_ _ | refine Bel.drew ?_ | refine Bel.drewN ?_ _))) (by kernel_rfl) (by kernel_rfl) ?_; (repeat (any_goals (first | go_big_quiet_step (fail) | quiet_step (fail) | (refine wpQuiet_step (fun K hK => ?_); go_simp; split <;> (refine hK _ ?_; clear hK K))))); all_goals (refine wpQuiet_nil ?_; intro _ hw'; obtain ⟨y, hw''⟩ := hw'; subst hw''))
                      go_wp2_with fail
                      refine (below_any _ l (tskAt l j).prio y.w (HTZ.out.keep y.bel.keeps y.bel.le) hl8).mono ?_
                      rintro e wd ⟨rfl, hBd⟩
                      have OD := (HOJ.out.bel y.bel).bel hBd
                      have c5 := OD.prio (by rw [mk_len]) (k := j) (by rw [mk_len]; exact hlj)
                      have f5 := OD.frozen (by rw [mk_len]) (j * 7 + 5)
                      have hgz := OD.lt (by rw [mk_len]; exact hpos)
                      have HOD := Lib.hid OD
                      have HBD2 := Lib.hid ((HZB.out.trans y.bel).trans hBd)
                      clear OD hBd
                      generalize hbv : belowM l (tskAt l j).prio = bv at *
                      go_wp2
                      go_roundg (gk - 1)
                      case measure => omega
                      case rel =>
                        obtain ⟨z2, hz2⟩ := ext_of (HBD2.out.set (p := ⟨gb, j * 7 + 5, none⟩) HHB.out (.int .i64 bv))
                        have hs := HOD.out.set_prio (x := bv) rfl hlj
                        rw [mk_congr (f' := fun r => if r = i ∨ r < j + 1 then hiP l i r else (tskAt l r).prio) (g' := fun k => (tskAt l k).cost) (fun k _ => by
                          by_cases hkj : k = j
                          · subst hkj; simp [HHI.out]
                          · by_cases hki : k = i
                            · simp [hki, Ne.symm hji]
                            · by_cases hk2 : k < j
                              · simp [hki, hkj, hk2, show k < j + 1 by omega]
                              · simp [hki, hkj, hk2, show ¬ k < j + 1 by omega]) (fun k _ => rfl)] at hs
                        exact ⟨j + 1, z2, by omega, by go_num, hz2, by rw [← hz2]; exact hs⟩
                    · have hdp : decide ((tskAt l i).prio < (tskAt l j).prio) = false := by simpa using hpp
                      have HS2 := Lib.hid (HSAME.out (.inl (by unfold hiP; rw [if_neg hji, if_neg hpp])))
                      go_upto_region 32 with (fail)
                      (refine wp_region_ext (wb := wz) (by (repeat (first | exact Ext.bel _ | exact Bel.refl | refine Bel.alloc ?_ _ | refine Bel.drew ?_ | refine Bel.drewN ?_ _))) (by kernel_rfl) (by kernel_rfl) ?_; (repeat (any_goals (first | go_big_quiet_step (fail) | quiet_step (fail) | (refine wpQuiet_step (fun K hK => ?_); go_simp; split <;> (refine hK _ ?_; clear hK K))))); all_goals (refine wpQuiet_nil ?_; intro _ hw'; obtain ⟨y, hw''⟩ := hw'; subst hw''))
                      have HYB := Lib.hid y.bel
                      go_wp2
                      go_roundg (gk - 1)
                      case measure => omega
                      case rel =>
                        obtain ⟨z2, hz2, ho2⟩ := HS2.out _ HYB.out
                        exact ⟨j + 1, z2, by omega, by go_num, hz2, ho2⟩
                · obtain rfl : j = l.length := by omega
                  have hdl : decide ((l.length : Int) < (l.length : Int)) = false := by simp
                  have hof : OwnT z.w wh.heap.size (.slice (some ⟨gb, 0, none⟩) l.length capb) (mk l (hiP l i) (fun k => (tskAt l k).cost)) := by
                    rw [mk_congr (f := hiP l i) (f' := fun r => if r = i ∨ r < l.length then hiP l i r else (tskAt l r).prio) (g' := fun k => (tskAt l k).cost) (fun k hk => by simp [hk]) (fun k _ => rfl)]; exact hoj
                  obtain ⟨hk1, hk2, hk3⟩ := resp_high HC0.out HSE.out hlt
                  obtain ⟨hp1, hp2, _⟩ := hiP_ok HC0.out hlt
                  have hmi := maxF_i64 l (tskAt l i).prio (HZ.out.wf i hlt).prio (tsk_all fun k hk => (HZ.out.wf k hk).prio)
                  have hsz := mk_sized (f := hiP l i) (g := fun k => (tskAt l k).cost) HZ.out (fun k hk => by have a := hp1 k hk; have b := hp2 k hk; unfold i64 at hmi ⊢; omega) (fun k hk => (HZ.out.wf k hk).cost)
                  have hml := mk_len l (hiP l i) (fun k => (tskAt l k).cost)
                  generalize mk l (hiP l i) (fun k => (tskAt l k).cost) = hs at *
                  have HOF := Lib.hid hof
                  have HSF := Lib.hid hsz
                  clear hoj hof hp1 hp2 hmi hsz
                  go_wp2_with fail
                  refine (pfixed_any _ hs z.w HOF.out.tsks HSF.out).mono ?_
                  rintro e wf ⟨vc, rfl, hvc, hBf, _⟩
                  rw [fixedM_ok hk1] at hvc ⊢
                  dsimp only at hvc ⊢
                  rw [hml] at hvc ⊢
                  obtain ⟨Ac, cc, rfl, _⟩ := hvc.form
                  obtain ⟨bc, oc, rfl, hbc, hAC⟩ := hvc.at_ (by rw [respR_len]; exact hpos)
                  rw [respR_len]
                  have hkf := (HBKH.out.trans z.bel).trans hBf
                  have x1 := hAC i (by rw [respR_len]; exact hlt)
                  rw [respR_get hs hlt, hk2] at x1
                  have x2 := (hkf.cells _ _ hba).trans (HAA.out i hlt)
                  have x3 := (hkf.cells _ _ hbt).trans HU4.out
                  have hba2 := Nat.lt_of_lt_of_le hba hkf.le
                  have hbt2 := Nat.lt_of_lt_of_le hbt hkf.le
                  have HKF := Lib.hid hkf
                  generalize (respR hs l.length).all okB = ab3
                  clear hvc hAC hBf hkf hk1 hk2
                  generalize respM l (blocks l) i = ra at *
                  rcases hk3 with hk3 | hk3
                  · have d1 : decide (ra < 0) = true := by simpa using hk3
                    go_upto_region 35 with (fail)
                    (refine wp_region_ext (wb := wf) (by (repeat (first | exact Ext.bel _ | exact Bel.refl | refine Bel.alloc ?_ _ | refine Bel.drew ?_ | refine Bel.drewN ?_ _))) (by kernel_rfl) (by kernel_rfl) ?_; (repeat (any_goals (first | go_big_quiet_step (fail) | quiet_step (fail) | (refine wpQuiet_step (fun K hK => ?_); go_simp; split <;> (refine hK _ ?_; clear hK K))))); all_goals (refine wpQuiet_nil ?_; intro _ hw'; obtain ⟨y, hw''⟩ := hw'; subst hw''))
                    go_wp2
                    go_ret
                    exact ⟨rfl, (HBK.out.trans HKF.out).trans y.bel⟩
                  · have d1 : decide (ra < 0) = false := by simp; omega
                    have d2 : decide ((tskAt l i).cost ≤ ra) = true := by simpa using hk3
                    go_upto_region 35 with (fail)
                    (refine wp_region_ext (wb := wf) (by (repeat (first | exact Ext.bel _ | exact Bel.refl | refine Bel.alloc ?_ _ | refine Bel.drew ?_ | refine Bel.drewN ?_ _))) (by kernel_rfl) (by kernel_rfl) ?_; (repeat (any_goals (first | go_big_quiet_step (fail) | quiet_step (fail) | (refine wpQuiet_step (fun K hK => ?_); go_simp; split <;> (refine hK _ ?_; clear hK K))))); all_goals (refine wpQuiet_nil ?_; intro _ hw'; obtain ⟨y, hw''⟩ := hw'; subst hw''))
                    go_wp2
                    go_ret
                    exact ⟨rfl, (HBK.out.trans HKF.out).trans y.bel⟩
  · have hdc : decide (1 < (tskAt l i).cost) = false := by simpa using hco
    have HBKH : Hid (Bel wk wk) := Lib.hid Bel.refl
    go_wp2_with fail
    refine (copied_own _ l wk (HTK.out.keep HBKH.out.keeps HBKH.out.le) HZ.out.len (fun i hi => (HZ.out.parts i hi).1)).mono ?_
    rintro e wc ⟨v19, rfl, ho, hB⟩
    obtain ⟨gb, capb, rfl, hcapb, hbb1, hgb⟩ := ho.form hpos
    have HO0 : Hid (OwnT wc wk.heap.size (.slice (some ⟨gb, 0, none⟩) l.length capb) (mk l (fun r => if r = i then (tskAt l i).prio else (tskAt l r).prio) (fun k => (tskAt l k).cost))) := Lib.hid (by
      rw [mk_congr (f' := fun r => (tskAt l r).prio) (g' := fun k => (tskAt l k).cost) (fun k _ => by by_cases hk : k = i <;> simp [hk]) (fun k _ => rfl), mk_self]; exact ho)
    obtain ⟨z0, rfl⟩ := ext_of hB
    clear ho hB hgb
    go_wp2
    go_loopg [20] l.length (fun gk s20 wr => ∃ (j : Nat) (m : Int) (z : Ext wk), j + gk = l.length ∧ s20 = .int .i64 j ∧ wr = z.w ∧ OwnT z.w wk.heap.size (.slice (some ⟨gb, 0, none⟩) l.length capb) (mk l (fun r => if r = i then m else (tskAt l r).prio) (fun k => (tskAt l k).cost)) ∧ maxF m (l.drop j) = maxF (tskAt l i).prio l)
    case atStart => exact ⟨0, (tskAt l i).prio, z0, by omega, rfl, rfl, HO0.out, rfl⟩
    case round =>
      obtain ⟨j, m, z, hj, rfl, rfl, hoj, hmx⟩ := hrel
      clear HO0
      by_cases hlj : j < l.length
      · have hdl : decide ((j : Int) < (l.length : Int)) = true := by simp; omega
        obtain ⟨sv, ⟨_, _, _, _, _, v5, _⟩, _⟩ := HAT.out j hlj
        have q5 := ((HBKH.out.trans z.bel).cells _ _ hbt).trans v5
        have hbz : bt < z.w.heap.size := Nat.lt_of_lt_of_le hbt (HBKH.out.trans z.bel).le
        have c5 := hoj.prio (by rw [mk_len]) (k := i) (by rw [mk_len]; exact hlt)
        rw [mk_at _ _ hlt] at c5
        replace c5 : z.w.cell? ⟨gb, i * 7 + 5, none⟩ = some (.int .i64 m) := by simpa using c5
        have f5 := hoj.frozen (by rw [mk_len]) (i * 7 + 5)
        have hgz := hoj.lt (by rw [mk_len]; exact hpos)
        rw [tsks_drop hlj] at hmx
        simp only [maxF] at hmx
        have HOJ := Lib.hid hoj
        have HZB := Lib.hid z.bel
        have HMX := Lib.hid hmx
        clear hoj hmx v5
        generalize (tskAt l j).prio = q at *
        generalize z.w = wz at *
        clear z
        have HNX : Hid (∀ x : Int, (if m < q then q else m) = x → maxF x (l.drop (j + 1)) = maxF (tskAt l i).prio l) := Lib.hid (fun x e => by rw [← e]; exact HMX.out)
        have HST : Hid (∀ (x : Int) (V : World), Bel wz V → ∃ z2 : Ext wk, V.setCell ⟨gb, i * 7 + 5, none⟩ (.int .i64 x) = z2.w ∧ OwnT z2.w wk.heap.size (.slice (some ⟨gb, 0, none⟩) l.length capb) (mk l (fun r => if r = i then x else (tskAt l r).prio) (fun k => (tskAt l k).cost))) := Lib.hid (fun x V hV => by
          obtain ⟨z2, hz2⟩ := ext_of ((HZB.out.trans hV).set (p := ⟨gb, i * 7 + 5, none⟩) hbb1 (.int .i64 x))
          have hs := (HOJ.out.bel hV).set_prio (x := x) rfl hlt
          rw [mk_congr (f' := fun r => if r = i then x else (tskAt l r).prio) (g' := fun k => (tskAt l k).cost) (fun k _ => by by_cases hk : k = i <;> simp [hk]) (fun k _ => rfl)] at hs
          exact ⟨z2, hz2, by rw [← hz2]; exact hs⟩)
        have HFZ := Lib.hid (fun (V : World) (hV : Bel wz V) => (HOJ.out.bel hV).frozen (by rw [mk_len]) (i * 7 + 5))
        have HHB := Lib.hid hbb1
        clear HMX HOJ f5 hbb1
        rcases Int.lt_trichotomy m q with hmq | hmq | hmq
        · have hdm : decide (m < q) = true := by simpa using hmq
          have HE := Lib.hid (HNX.out q (by rw [if_pos hmq]))
          go_upto_region 28 with (fail)
          (refine wp_region_qtail 15 (wb := wz) (by (repeat (first | exact Ext.bel _ | exact Bel.refl | refine Bel.alloc ?_ _ | refine Bel.drew ?_ | refine Bel.drewN ?_ _))) (by kernel_rfl) (by kernel_rfl) ?_; simp only [List.take_succ_cons, List.take_zero, List.drop_succ_cons, List.drop_zero]; (repeat (any_goals (first | go_big_quiet_step (fail) | quiet_step (fail) | (refine wpQuiet_step (fun K hK => ?_); go_simp; split <;> (refine hK _ ?_; clear hK K))))); all_goals (refine wpQuiet_nil ?_; intro _ hw'; obtain ⟨y, hw''⟩ := hw'; subst hw''))
          all_goals
            have c5y := (y.bel.cells _ _ hgz).trans c5
            have f5y := HFZ.out _ y.bel
            have hgy := Nat.lt_of_lt_of_le hgz y.bel.le
            have HYB := Lib.hid y.bel
            go_wp2
            go_roundg (gk - 1)
            case measure => omega
            case rel =>
              obtain ⟨z2, hz2, ho2⟩ := HST.out q _ HYB.out
              exact ⟨j + 1, q, z2, by omega, by go_num, hz2, ho2, HE.out⟩
        · subst hmq
          have HE := Lib.hid (HNX.out m (by rw [if_neg (by omega)]))
          go_upto_region 28 with (fail)
          (refine wp_region_qtail 15 (wb := wz) (by (repeat (first | exact Ext.bel _ | exact Bel.refl | refine Bel.alloc ?_ _ | refine Bel.drew ?_ | refine Bel.drewN ?_ _))) (by kernel_rfl) (by kernel_rfl) ?_; simp only [List.take_succ_cons, List.take_zero, List.drop_succ_cons, List.drop_zero]; (repeat (any_goals (first | go_big_quiet_step (fail) | quiet_step (fail) | (refine wpQuiet_step (fun K hK => ?_); go_simp; split <;> (refine hK _ ?_; clear hK K))))); all_goals (refine wpQuiet_nil ?_; intro _ hw'; obtain ⟨y, hw''⟩ := hw'; subst hw''))
          all_goals
            have c5y := (y.bel.cells _ _ hgz).trans c5
            have f5y := HFZ.out _ y.bel
            have hgy := Nat.lt_of_lt_of_le hgz y.bel.le
            have HYB := Lib.hid y.bel
            go_wp2
            go_roundg (gk - 1)
            case measure => omega
            case rel =>
              obtain ⟨z2, hz2, ho2⟩ := HST.out m _ HYB.out
              exact ⟨j + 1, m, z2, by omega, by go_num, hz2, ho2, HE.out⟩
        · have hdm : decide (q < m) = true := by simpa using hmq
          have hdm2 : decide (m < q) = false := by simp; omega
          have HE := Lib.hid (HNX.out m (by rw [if_neg (by omega)]))
          go_upto_region 28 with (fail)
          (refine wp_region_qtail 15 (wb := wz) (by (repeat (first | exact Ext.bel _ | exact Bel.refl | refine Bel.alloc ?_ _ | refine Bel.drew ?_ | refine Bel.drewN ?_ _))) (by kernel_rfl) (by kernel_rfl) ?_; simp only [List.take_succ_cons, List.take_zero, List.drop_succ_cons, List.drop_zero]; (repeat (any_goals (first | go_big_quiet_step (fail) | quiet_step (fail) | (refine wpQuiet_step (fun K hK => ?_); go_simp; split <;> (refine hK _ ?_; clear hK K))))); all_goals (refine wpQuiet_nil ?_; intro _ hw'; obtain ⟨y, hw''⟩ := hw'; subst hw''))
          all_goals
            have c5y := (y.bel.cells _ _ hgz).trans c5
            have f5y := HFZ.out _ y.bel
            have hgy := Nat.lt_of_lt_of_le hgz y.bel.le
            have HYB := Lib.hid y.bel
            go_wp2
            go_roundg (gk - 1)
            case measure => omega
            case rel =>
              obtain ⟨z2, hz2, ho2⟩ := HST.out m _ HYB.out
              exact ⟨j + 1, m, z2, by omega, by go_num, hz2, ho2, HE.out⟩
      · obtain rfl : j = l.length := by omega
        have hdl : decide ((l.length : Int) < (l.length : Int)) = false := by simp
        have hm : m = maxF (tskAt l i).prio l := by rw [← hmx]; simp [maxF]
        have HO3 : Hid (OwnT z.w wk.heap.size (.slice (some ⟨gb, 0, none⟩) l.length capb) (mk l (fun r => if r = i ∨ r < 0 then hiP l i r else (tskAt l r).prio) (fun k => (tskAt l k).cost))) := Lib.hid (by
          rw [mk_congr (f' := fun r => if r = i then m else (tskAt l r).prio) (g' := fun k => (tskAt l k).cost) (fun k _ => by
            by_cases hk : k = i
            · subst hk; simp [hiP, hm]
            · simp [hk]) (fun k _ => rfl)]; exact hoj)
        clear hoj hmx hm
        go_wp2
        go_loopg [21] l.length (fun gk s21 wr => ∃ (j : Nat) (z : Ext wk), j + gk = l.length ∧ s21 = .int .i64 j ∧ wr = z.w ∧ OwnT z.w wk.heap.size (.slice (some ⟨gb, 0, none⟩) l.length capb) (mk l (fun r => if r = i ∨ r < j then hiP l i r else (tskAt l r).prio) (fun k => (tskAt l k).cost)))
        case atStart => exact ⟨0, z, by omega, rfl, rfl, HO3.out⟩
        case round =>
          clear HO3
          obtain ⟨j, z, hj, rfl, rfl, hoj⟩ := hrel
          by_cases hlj : j < l.length
          · have hdl : decide ((j : Int) < (l.length : Int)) = true := by simp; omega
            obtain ⟨sv, ⟨_, _, _, _, _, v5, _⟩, _⟩ := HAT.out j hlj
            have q5 := ((HBKH.out.trans z.bel).cells _ _ hbt).trans v5
            have p5 := ((HBKH.out.trans z.bel).cells _ _ hbt).trans HU5.out
            have hbz : bt < z.w.heap.size := Nat.lt_of_lt_of_le hbt (HBKH.out.trans z.bel).le
            have HOJ := Lib.hid hoj
            have HZB := Lib.hid z.bel
            have HTZ := Lib.hid (HTK.out.keep (HBKH.out.trans z.bel).keeps (HBKH.out.trans z.bel).le)
            have HHB := Lib.hid hbb1
            clear hoj v5
            generalize z.w = wz at *
            clear z
            have HSAME : Hid (hiP l i j = (tskAt l j).prio ∨ j = i → ∀ V : World, Bel wz V → ∃ z2 : Ext wk, V = z2.w ∧ OwnT z2.w wk.heap.size (.slice (some ⟨gb, 0, none⟩) l.length capb) (mk l (fun r => if r = i ∨ r < j + 1 then hiP l i r else (tskAt l r).prio) (fun k => (tskAt l k).cost))) := Lib.hid (fun hh V hV => by
              obtain ⟨z2, hz2⟩ := ext_of (HZB.out.trans hV)
              have hs := HOJ.out.bel hV
              rw [mk_congr (f' := fun r => if r = i ∨ r < j + 1 then hiP l i r else (tskAt l r).prio) (g' := fun k => (tskAt l k).cost) (fun k _ => by
                by_cases hki : k = i
                · simp [hki]
                · by_cases hkj : k = j
                  · subst hkj
                    rcases hh with hh | hh
                    · simp [hki, hh]
                    · exact absurd hh hki
                  · by_cases hk2 : k < j
                    · simp [hki, hk2, show k < j + 1 by omega]
                    · simp [hki, hk2, show ¬ k < j + 1 by omega]) (fun k _ => rfl)] at hs
              exact ⟨z2, hz2, by rw [← hz2]; exact hs⟩)
            by_cases hji : j = i
            · have j1 : (j == i) = true := by simpa using hji
              have j2 : ((j : Int) == (i : Int)) = true := by simp; omega
              have HS2 := Lib.hid (HSAME.out (.inr hji))
              have HJI := Lib.hid hji
              go_upto_region 32 with (fail)
              (refine wp_region_ext (wb := wz) (by (repeat (first | exact Ext.bel _ | exact Bel.refl | refine Bel.alloc ?_ _ | refine Bel.drew ?_ | refine Bel.drewN ?_ _))) (by kernel_rfl) (by kernel_rfl) ?_; (repeat (any_goals (first | go_big_quiet_step (fail) | quiet_step (fail) | (refine wpQuiet_step (fun K hK => ?_); go_simp; split <;> (refine hK _ ?_; clear hK K))))); all_goals (refine wpQuiet_nil ?_; intro _ hw'; obtain ⟨y, hw''⟩ := hw'; subst hw''))
              have HYB := Lib.hid y.bel
              go_wp2
              go_roundg (gk - 1)
              case measure => omega
              case rel =>
                obtain ⟨z2, hz2, ho2⟩ := HS2.out _ HYB.out
                exact ⟨j + 1, z2, by omega, by go_num, hz2, ho2⟩
            · have j1 : (j == i) = false := by simpa using hji
              have j2 : ((j : Int) == (i : Int)) = false := by simp; omega
              have j3 : ¬ (j : Int) = (i : Int) := by omega
              by_cases hpp : (tskAt l i).prio < (tskAt l j).prio
              · have hdp : decide ((tskAt l i).prio < (tskAt l j).prio) = true := by simpa using hpp
                have HHI : Hid (hiP l i j = belowM l (tskAt l j).prio) := Lib.hid (by unfold hiP; rw [if_neg hji, if_pos hpp])
                go_upto_region 32 with (fail)
                (refine wp_region_ext (wb := wz) (by (repeat (first | exact Ext.bel _ | exact Bel.refl | refine Bel.alloc ?_ _ | refine Bel.drew ?_ | refine Bel.drewN ?_ _))) (by kernel_rfl) (by kernel_rfl) ?_; (repeat (any_goals (first | go_big_quiet_step (fail) | quiet_step (fail) | (refine wpQuiet_step (fun K hK => ?_); go_simp; split <;> (refine hK _ ?_; clear hK K))))); all_goals (refine wpQuiet_nil ?_; intro _ hw'; obtain ⟨y, hw''⟩ := hw'; subst hw''))
                go_wp2_with fail
                refine (below_any _ l (tskAt l j).prio y.w (HTZ.out.keep y.bel.keeps y.bel.le) hl8).mono ?_
                rintro e wd ⟨rfl, hBd⟩
                have OD := (HOJ.out.bel y.bel).bel hBd
                have c5 := OD.prio (by rw [mk_len]) (k := j) (by rw [mk_len]; exact hlj)
                have f5 := OD.frozen (by rw [mk_len]) (j * 7 + 5)
                have hgz := OD.lt (by rw [mk_len]; exact hpos)
                have HOD := Lib.hid OD
                have HBD2 := Lib.hid ((HZB.out.trans y.bel).trans hBd)
                clear OD hBd
                generalize hbv : belowM l (tskAt l j).prio = bv at *
                go_wp2
                go_roundg (gk - 1)
                case measure => omega
                case rel =>
                  obtain ⟨z2, hz2⟩ := ext_of (HBD2.out.set (p := ⟨gb, j * 7 + 5, none⟩) HHB.out (.int .i64 bv))
                  have hs := HOD.out.set_prio (x := bv) rfl hlj
                  rw [mk_congr (f' := fun r => if r = i ∨ r < j + 1 then hiP l i r else (tskAt l r).prio) (g' := fun k => (tskAt l k).cost) (fun k _ => by
                    by_cases hkj : k = j
                    · subst hkj; simp [HHI.out]
                    · by_cases hki : k = i
                      · simp [hki, Ne.symm hji]
                      · by_cases hk2 : k < j
                        · simp [hki, hkj, hk2, show k < j + 1 by omega]
                        · simp [hki, hkj, hk2, show ¬ k < j + 1 by omega]) (fun k _ => rfl)] at hs
                  exact ⟨j + 1, z2, by omega, by go_num, hz2, by rw [← hz2]; exact hs⟩
              · have hdp : decide ((tskAt l i).prio < (tskAt l j).prio) = false := by simpa using hpp
                have HS2 := Lib.hid (HSAME.out (.inl (by unfold hiP; rw [if_neg hji, if_neg hpp])))
                go_upto_region 32 with (fail)
                (refine wp_region_ext (wb := wz) (by (repeat (first | exact Ext.bel _ | exact Bel.refl | refine Bel.alloc ?_ _ | refine Bel.drew ?_ | refine Bel.drewN ?_ _))) (by kernel_rfl) (by kernel_rfl) ?_; (repeat (any_goals (first | go_big_quiet_step (fail) | quiet_step (fail) | (refine wpQuiet_step (fun K hK => ?_); go_simp; split <;> (refine hK _ ?_; clear hK K))))); all_goals (refine wpQuiet_nil ?_; intro _ hw'; obtain ⟨y, hw''⟩ := hw'; subst hw''))
                have HYB := Lib.hid y.bel
                go_wp2
                go_roundg (gk - 1)
                case measure => omega
                case rel =>
                  obtain ⟨z2, hz2, ho2⟩ := HS2.out _ HYB.out
                  exact ⟨j + 1, z2, by omega, by go_num, hz2, ho2⟩
          · obtain rfl : j = l.length := by omega
            have hdl : decide ((l.length : Int) < (l.length : Int)) = false := by simp
            have hof : OwnT z.w wk.heap.size (.slice (some ⟨gb, 0, none⟩) l.length capb) (mk l (hiP l i) (fun k => (tskAt l k).cost)) := by
              rw [mk_congr (f := hiP l i) (f' := fun r => if r = i ∨ r < l.length then hiP l i r else (tskAt l r).prio) (g' := fun k => (tskAt l k).cost) (fun k hk => by simp [hk]) (fun k _ => rfl)]; exact hoj
            obtain ⟨hk1, hk2, hk3⟩ := resp_high HC0.out HSE.out hlt
            obtain ⟨hp1, hp2, _⟩ := hiP_ok HC0.out hlt
            have hmi := maxF_i64 l (tskAt l i).prio (HZ.out.wf i hlt).prio (tsk_all fun k hk => (HZ.out.wf k hk).prio)
            have hsz := mk_sized (f := hiP l i) (g := fun k => (tskAt l k).cost) HZ.out (fun k hk => by have a := hp1 k hk; have b := hp2 k hk; unfold i64 at hmi ⊢; omega) (fun k hk => (HZ.out.wf k hk).cost)
            have hml := mk_len l (hiP l i) (fun k => (tskAt l k).cost)
            generalize mk l (hiP l i) (fun k => (tskAt l k).cost) = hs at *
            have HOF := Lib.hid hof
            have HSF := Lib.hid hsz
            clear hoj hof hp1 hp2 hmi hsz
            go_wp2_with fail
            refine (pfixed_any _ hs z.w HOF.out.tsks HSF.out).mono ?_
            rintro e wf ⟨vc, rfl, hvc, hBf, _⟩
            rw [fixedM_ok hk1] at hvc ⊢
            dsimp only at hvc ⊢
            rw [hml] at hvc ⊢
            obtain ⟨Ac, cc, rfl, _⟩ := hvc.form
            obtain ⟨bc, oc, rfl, hbc, hAC⟩ := hvc.at_ (by rw [respR_len]; exact hpos)
            rw [respR_len]
            have hkf := (HBKH.out.trans z.bel).trans hBf
            have x1 := hAC i (by rw [respR_len]; exact hlt)
            rw [respR_get hs hlt, hk2] at x1
            have x2 := (hkf.cells _ _ hba).trans (HAA.out i hlt)
            have x3 := (hkf.cells _ _ hbt).trans HU4.out
            have hba2 := Nat.lt_of_lt_of_le hba hkf.le
            have hbt2 := Nat.lt_of_lt_of_le hbt hkf.le
            have HKF := Lib.hid hkf
            generalize (respR hs l.length).all okB = ab3
            clear hvc hAC hBf hkf hk1 hk2
            generalize respM l (blocks l) i = ra at *
            rcases hk3 with hk3 | hk3
            · have d1 : decide (ra < 0) = true := by simpa using hk3
              go_upto_region 35 with (fail)
              (refine wp_region_ext (wb := wf) (by (repeat (first | exact Ext.bel _ | exact Bel.refl | refine Bel.alloc ?_ _ | refine Bel.drew ?_ | refine Bel.drewN ?_ _))) (by kernel_rfl) (by kernel_rfl) ?_; (repeat (any_goals (first | go_big_quiet_step (fail) | quiet_step (fail) | (refine wpQuiet_step (fun K hK => ?_); go_simp; split <;> (refine hK _ ?_; clear hK K))))); all_goals (refine wpQuiet_nil ?_; intro _ hw'; obtain ⟨y, hw''⟩ := hw'; subst hw''))
              go_wp2
              go_ret
              exact ⟨rfl, (HBK.out.trans HKF.out).trans y.bel⟩
            · have d1 : decide (ra < 0) = false := by simp; omega
              have d2 : decide ((tskAt l i).cost ≤ ra) = true := by simpa using hk3
              go_upto_region 35 with (fail)
              (refine wp_region_ext (wb := wf) (by (repeat (first | exact Ext.bel _ | exact Bel.refl | refine Bel.alloc ?_ _ | refine Bel.drew ?_ | refine Bel.drewN ?_ _))) (by kernel_rfl) (by kernel_rfl) ?_; (repeat (any_goals (first | go_big_quiet_step (fail) | quiet_step (fail) | (refine wpQuiet_step (fun K hK => ?_); go_simp; split <;> (refine hK _ ?_; clear hK K))))); all_goals (refine wpQuiet_nil ?_; intro _ hw'; obtain ⟨y, hw''⟩ := hw'; subst hw''))
              go_wp2
              go_ret
              exact ⟨rfl, (HBK.out.trans HKF.out).trans y.bel⟩
end Go.Proofs.Ytbncnadjlppknaa
