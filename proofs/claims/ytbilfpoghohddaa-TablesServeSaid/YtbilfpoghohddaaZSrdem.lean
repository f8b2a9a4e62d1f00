import Derived.Test.YtbilfpoghohddaaG4
import Derived.Test.YtbilfpoghohddaaZSref
import Derived.Test.YtbilfpoghohddaaZTrchk
namespace Go.Proofs.Ytbilfpoghohddaa
open Go.RowKit
set_option maxRecDepth 100000 in
set_option maxHeartbeats 4000000 in
theorem due_any (v : Value) (l : List Tsk) (t : Int) (w : World) (h : TsksAt w w.heap.size v l) (hl : l.length ≤ 8) (ht : ∀ x ∈ l, TOk x) (h1 : 1 ≤ t) (h2 : t ≤ 20000) :
    Calls Try.prog 56 #[v, .int .i64 t] w fun e w' => e = .returned (.bool (dueB l t)) ∧ Bel w w' := by
  obtain ⟨A, c, rfl, hc, hA⟩ := h
  have HA := Lib.hid hA
  have HTK := Lib.hid ht
  clear hA ht
  go_enter Try.func56, Try.ntmps56
  go_wp2
  go_loopg [5] l.length (fun gk s5 wr => ∃ (j : Nat) (z : Ext w), j + gk = l.length ∧ s5 = .int .i64 j ∧ wr = z.w ∧ (l.drop j).any (dueT t) = dueB l t)
  case atStart => exact ⟨0, ⟨w, Bel.refl⟩, by omega, rfl, rfl, rfl⟩
  case round =>
    obtain ⟨j, z, hj, rfl, rfl, hd⟩ := hrel
    by_cases hlt : j < l.length
    · have hdl : decide ((j : Int) < (l.length : Int)) = true := by simp; omega
      rw [tsks_drop hlt] at hd
      obtain ⟨b, off, rfl, hb, hA⟩ := HA.out (by omega)
      obtain ⟨sv, ⟨t0, u1, t2, u3, t4, t5, t6⟩, hS⟩ := (hA j hlt)
      have hk : TOk (tskAt l j) := HTK.out _ (by simp [tskAt, List.getD, hlt])
      have hp1 := hk.p1
      have hp2 := hk.p2
      have hd1 := hk.d1
      have hd2 : (tskAt l j).dl ≤ 1000 := by have := hk.d2; omega
      have hds : dueT t (tskAt l j) = (decide ((tskAt l j).dl ≤ t) && decide ((t - (tskAt l j).dl) % (tskAt l j).per = 0)) := rfl
      rw [List.any_cons, hds] at hd
      clear hA hS t0 t2 t4 t5 t6 hk hds
      generalize (tskAt l j).per = per at *
      generalize (tskAt l j).dl = dl at *
      by_cases hle : dl ≤ t
      · have hdp : decide (dl ≤ t) = true := by simpa using hle
        have hne : ¬ per = 0 := by omega
        have hw1 : IntKind.i64.wrap (t - dl) = t - dl := IntWalk.i64_in _ (by omega)
        have hmm : (t - dl).tmod per = (t - dl) % per := Int.tmod_eq_emod_of_nonneg (by omega)
        have hm0 := Int.emod_nonneg (t - dl) hne
        have hm1 := Int.emod_lt_of_pos (t - dl) (show 0 < per by omega)
        have hw2 : IntKind.i64.wrap ((t - dl).tmod per) = (t - dl) % per := by rw [hmm]; exact IntWalk.i64_in _ (by omega)
        rw [hdp, Bool.true_and] at hd
        by_cases hz : (t - dl) % per = 0
        · rw [hz] at hd hw2 hmm
          have HD : Hid (dueB l t = true) := Lib.hid (by rw [← hd]; simp)
          clear hd hm0 hm1 hz
          go_upto_region 4 with (fail)
          (refine wp_region_ext (wb := w) (by (repeat (first | exact Ext.bel _ | exact Bel.refl | refine Bel.alloc ?_ _ | refine Bel.drew ?_ | refine Bel.drewN ?_ _))) (by kernel_rfl) (by kernel_rfl) ?_; (repeat (any_goals (first | go_big_quiet_step (fail) | quiet_step (fail) | (refine wpQuiet_step (fun K hK => ?_); go_simp; split <;> (refine hK _ ?_; clear hK K))))); all_goals (refine wpQuiet_nil ?_; intro _ hw'; obtain ⟨y, hw''⟩ := hw'; subst hw''))
          go_wp2
          go_ret
          exact ⟨ret_bool HD.out.symm, y.bel⟩
        · have hzz : ((t - dl) % per == 0) = false := by simpa using hz
          have HD : Hid ((l.drop (j + 1)).any (dueT t) = dueB l t) := Lib.hid (by rw [← hd, decide_eq_false hz, Bool.false_or])
          generalize (t - dl) % per = m at *
          clear hd hm0 hm1
          go_upto_region 4 with (fail)
          (refine wp_region_ext (wb := w) (by (repeat (first | exact Ext.bel _ | exact Bel.refl | refine Bel.alloc ?_ _ | refine Bel.drew ?_ | refine Bel.drewN ?_ _))) (by kernel_rfl) (by kernel_rfl) ?_; (repeat (any_goals (first | go_big_quiet_step (fail) | quiet_step (fail) | (refine wpQuiet_step (fun K hK => ?_); go_simp; split <;> (refine hK _ ?_; clear hK K))))); all_goals (refine wpQuiet_nil ?_; intro _ hw'; obtain ⟨y, hw''⟩ := hw'; subst hw''))
          go_wp2
          go_roundg (gk - 1)
          case measure => omega
          case rel => exact ⟨j + 1, y, by omega, by go_num, rfl, HD.out⟩
      · have hdp : decide (dl ≤ t) = false := by simpa using hle
        have HD : Hid ((l.drop (j + 1)).any (dueT t) = dueB l t) := Lib.hid (by rw [← hd, hdp, Bool.false_and, Bool.false_or])
        clear hd
        go_upto_region 4 with (fail)
        (refine wp_region_ext (wb := w) (by (repeat (first | exact Ext.bel _ | exact Bel.refl | refine Bel.alloc ?_ _ | refine Bel.drew ?_ | refine Bel.drewN ?_ _))) (by kernel_rfl) (by kernel_rfl) ?_; (repeat (any_goals (first | go_big_quiet_step (fail) | quiet_step (fail) | (refine wpQuiet_step (fun K hK => ?_); go_simp; split <;> (refine hK _ ?_; clear hK K))))); all_goals (refine wpQuiet_nil ?_; intro _ hw'; obtain ⟨y, hw''⟩ := hw'; subst hw''))
        go_wp2
        go_roundg (gk - 1)
        case measure => omega
        case rel => exact ⟨j + 1, y, by omega, by go_num, rfl, HD.out⟩
    · obtain rfl : j = l.length := by omega
      have hdl : decide ((l.length : Int) < (l.length : Int)) = false := by simp
      have HD : Hid (dueB l t = false) := Lib.hid (by rw [← hd]; simp)
      clear hd
      go_wp2
      go_ret
      exact ⟨ret_bool HD.out.symm, z.bel⟩
set_option maxRecDepth 100000 in
set_option maxHeartbeats 4000000 in
theorem demand_any (v : Value) (l : List Tsk) (t : Int) (w : World) (h : TsksAt w w.heap.size v l) (hl : l.length ≤ 8) (ht : ∀ x ∈ l, TOk x) (h1 : 1 ≤ t) (h2 : t ≤ 20000) :
    Calls Try.prog 57 #[v, .int .i64 t] w fun e w' => e = .returned (.int .i64 (demL t 0 l)) ∧ Bel w w' := by
  obtain ⟨A, c, rfl, hc, hA⟩ := h
  have HA := Lib.hid hA
  have HTK := Lib.hid ht
  clear hA ht
  go_enter Try.func57, Try.ntmps57
  go_wp2
  go_loopg [5, 6] l.length (fun gk s5 s6 wr => ∃ (j : Nat) (s : Int) (z : Ext w), j + gk = l.length ∧ s5 = .int .i64 s ∧ s6 = .int .i64 j ∧ wr = z.w ∧ 0 ≤ s ∧ s ≤ j * 20000000 ∧ demL t s (l.drop j) = demL t 0 l)
  case atStart => exact ⟨0, 0, ⟨w, Bel.refl⟩, by omega, rfl, rfl, rfl, by omega, by omega, rfl⟩
  case round =>
    obtain ⟨j, s, z, hj, rfl, rfl, rfl, hs0, hs1, hd⟩ := hrel
    by_cases hlt : j < l.length
    · have hdl : decide ((j : Int) < (l.length : Int)) = true := by simp; omega
      rw [tsks_drop hlt] at hd
      obtain ⟨b, off, rfl, hb, hA⟩ := HA.out (by omega)
      obtain ⟨sv, ⟨t0, u1, t2, u3, u4, t5, t6⟩, hS⟩ := (hA j hlt)
      have hk : TOk (tskAt l j) := HTK.out _ (by simp [tskAt, List.getD, hlt])
      have hp1 := hk.p1
      have hp2 := hk.p2
      have hd1 := hk.d1
      have hd2 : (tskAt l j).dl ≤ 1000 := by have := hk.d2; omega
      have hc1 := hk.c1
      have hc2 : (tskAt l j).cost ≤ 1000 := by have := hk.c2; omega
      obtain ⟨hb0, hb1⟩ := cnt_bd hk (t := t) (by omega) h2
      obtain ⟨hb2, hb3⟩ := cnt_cost hk (t := t) (by omega) h2
      have hcd : cntU (tskAt l j) t = if (tskAt l j).dl ≤ t then (t - (tskAt l j).dl) / (tskAt l j).per + 1 else 0 := rfl
      simp only [demL] at hd
      rw [hcd] at hd hb0 hb1 hb2 hb3
      clear hA hS t0 t2 t5 t6 hk hcd
      generalize (tskAt l j).per = per at *
      generalize (tskAt l j).dl = dl at *
      generalize (tskAt l j).cost = cost at *
      by_cases hle : dl ≤ t
      · have hdp : decide (dl ≤ t) = true := by simpa using hle
        rw [if_pos hle] at hd hb0 hb1 hb2 hb3
        have hne : ¬ per = 0 := by omega
        have hw1 : IntKind.i64.wrap (t - dl) = t - dl := IntWalk.i64_in _ (by omega)
        have hmm : (t - dl).tdiv per = (t - dl) / per := Int.tdiv_eq_ediv_of_nonneg (by omega)
        generalize (t - dl) / per = q at *
        have hw2 : IntKind.i64.wrap ((t - dl).tdiv per) = q := by rw [hmm]; exact IntWalk.i64_in _ (by omega)
        have hw3 : IntKind.i64.wrap (q + 1) = q + 1 := IntWalk.i64_in _ (by omega)
        have hw4 : IntKind.i64.wrap ((q + 1) * cost) = (q + 1) * cost := IntWalk.i64_in _ (by omega)
        have hw5 : IntKind.i64.wrap (s + (q + 1) * cost) = s + (q + 1) * cost := IntWalk.i64_in _ (by omega)
        have HD := Lib.hid hd
        clear hd
        go_upto_region 6 with (fail)
        (refine wp_region_ext (wb := w) (by (repeat (first | exact Ext.bel _ | exact Bel.refl | refine Bel.alloc ?_ _ | refine Bel.drew ?_ | refine Bel.drewN ?_ _))) (by kernel_rfl) (by kernel_rfl) ?_; (repeat (any_goals (first | go_big_quiet_step (fail) | quiet_step (fail) | (refine wpQuiet_step (fun K hK => ?_); go_simp; split <;> (refine hK _ ?_; clear hK K))))); all_goals (refine wpQuiet_nil ?_; intro _ hw'; obtain ⟨y, hw''⟩ := hw'; subst hw''))
        go_wp2
        go_roundg (gk - 1)
        case measure => omega
        case rel => exact ⟨j + 1, _, y, by omega, rfl, by go_num, rfl, by omega, by push_cast; omega, HD.out⟩
      · have hdp : decide (dl ≤ t) = false := by simpa using hle
        rw [if_neg hle, Int.zero_mul, Int.add_zero] at hd
        have HD := Lib.hid hd
        clear hd hb0 hb1 hb2 hb3
        go_wp2
        go_roundg (gk - 1)
        case measure => omega
        case rel => exact ⟨j + 1, _, z, by omega, rfl, by go_num, rfl, by omega, by push_cast; omega, HD.out⟩
    · obtain rfl : j = l.length := by omega
      have hdl : decide ((l.length : Int) < (l.length : Int)) = false := by simp
      have HD : Hid (demL t 0 l = s) := Lib.hid (by rw [← hd]; simp [demL])
      clear hd
      go_wp2
      go_ret
      exact ⟨ret_int HD.out.symm, z.bel⟩
theorem demandM_no {l : List Tsk} (h : ¬ rchk l = 0) : demandM l = (false, 0, rchk l) := by simp [demandM, h]
theorem demandM_secs {l : List Tsk} (h : rchk l = 0) (hs : secsB l = true) : demandM l = (false, 0, 2) := by simp [demandM, h, hs]
theorem demandM_bad {l : List Tsk} (h : rchk l = 0) (hs : secsB l = false) (hd : ¬ dmM l = 0) : demandM l = (false, dmM l, 0) := by simp [demandM, h, hs, hd]
theorem demandM_long {l : List Tsk} (h : rchk l = 0) (hs : secsB l = false) (hd : dmM l = 0) (hb : busyM l = 0) : demandM l = (false, 0, 3) := by simp [demandM, h, hs, hd, hb]
theorem demandM_ok {l : List Tsk} (h : rchk l = 0) (hs : secsB l = false) (hd : dmM l = 0) (hb : ¬ busyM l = 0) : demandM l = (true, 0, 0) := by simp [demandM, h, hs, hd, hb]
set_option maxRecDepth 100000 in
set_option maxHeartbeats 4000000 in
theorem rDemand_any (v : Value) (l : List Tsk) (w : World) (h : TsksAt w w.heap.size v l) (hs : Sized l) :
    Calls Try.prog 30 #[v] w fun e w' => e = .returned (.tuple #[.bool (demandM l).1, .int .i64 (demandM l).2.1, .int .i64 (demandM l).2.2]) ∧ Bel w w' := by
  have HC := rcheck_any v l w h hs.len hs.parts
  have HS := fun (x : Ext w) => rsecs_any v l x.w (h.keep x.bel.keeps x.bel.le) hs.len
  obtain ⟨A, c, rfl, hc⟩ := h.form
  by_cases h0 : rchk l = 0
  case neg =>
    have HR := Lib.hid (demandM_no h0)
    replace HC := Lib.hid HC
    generalize rchk l = ck at *
    have hne : (ck == 0) = false := by simpa using h0
    clear h hs HS
    go_enter Try.func30, Try.ntmps30
    go_wp2_with (first | (go_at_call 27; (with_reducible refine (HC.out).mono ?_); rintro e w2 ⟨rfl, hb2⟩; obtain ⟨x, rfl⟩ : ∃ x : Ext w, w2 = x.w := ext_of (hb2.after (by (repeat (first | exact Ext.bel _ | exact Bel.refl | refine Bel.alloc ?_ _ | refine Bel.drew ?_ | refine Bel.drewN ?_ _)))); clear hb2))
    go_ret3
    exact ⟨by rw [HR.out]; rfl, x.bel⟩
  rw [h0] at HC
  replace HC := Lib.hid HC
  by_cases hsc : secsB l = true
  · have HR := Lib.hid (demandM_secs h0 hsc)
    rw [hsc] at HS
    replace HS := Lib.hid HS
    clear h hs h0 hsc
    go_enter Try.func30, Try.ntmps30
    go_wp2_with (first | (go_at_call 27; (with_reducible refine (HC.out).mono ?_); rintro e w2 ⟨rfl, hb2⟩; obtain ⟨x, rfl⟩ : ∃ x : Ext w, w2 = x.w := ext_of (hb2.after (by (repeat (first | exact Ext.bel _ | exact Bel.refl | refine Bel.alloc ?_ _ | refine Bel.drew ?_ | refine Bel.drewN ?_ _)))); clear hb2) | (go_at_call 54; (with_reducible refine (HS.out _).mono ?_); rintro e w2 ⟨rfl, hb2⟩; obtain ⟨x, rfl⟩ : ∃ x : Ext w, w2 = x.w := ext_of (hb2.after (by (repeat (first | exact Ext.bel _ | exact Bel.refl | refine Bel.alloc ?_ _ | refine Bel.drew ?_ | refine Bel.drewN ?_ _)))); clear hb2))
    go_ret3
    exact ⟨by rw [HR.out]; rfl, x.bel⟩
  have hs0 : secsB l = false := by simpa using hsc
  rw [hs0] at HS
  replace HS := Lib.hid HS
  obtain ⟨hl8, _⟩ := rchk_ok h0
  have HT := Lib.hid (toks_of h0)
  have HH := Lib.hid h
  have hB := fun (x : Ext w) => rbusy_any _ l x.w (h.keep x.bel.keeps x.bel.le) hl8 (toks_of h0)
  have HB := Lib.hid hB
  have HR1 := Lib.hid (fun hd => demandM_bad h0 hs0 hd)
  have HR2 := Lib.hid (fun hd hb => demandM_long h0 hs0 hd hb)
  have HR3 := Lib.hid (fun hd hb => demandM_ok h0 hs0 hd hb)
  obtain ⟨lb1, lb2⟩ := lastM_bd l
  have HST : Hid (firstN (badB l) (lastM l + 1 - 1).toNat 1 = dmM l) := Lib.hid (by rw [show lastM l + 1 - 1 = lastM l by omega]; rfl)
  have HLM : Hid (lastM l = if busyM l = 0 then 20000 else busyM l) := Lib.hid rfl
  clear h hs h0 hsc hs0 hB
  go_enter Try.func30, Try.ntmps30
  go_upto_region 7 with (first | (go_at_call 27; (with_reducible refine (HC.out).mono ?_); rintro e w2 ⟨rfl, hb2⟩; obtain ⟨x, rfl⟩ : ∃ x : Ext w, w2 = x.w := ext_of (hb2.after (by (repeat (first | exact Ext.bel _ | exact Bel.refl | refine Bel.alloc ?_ _ | refine Bel.drew ?_ | refine Bel.drewN ?_ _)))); clear hb2) | (go_at_call 54; (with_reducible refine (HS.out _).mono ?_); rintro e w2 ⟨rfl, hb2⟩; obtain ⟨x, rfl⟩ : ∃ x : Ext w, w2 = x.w := ext_of (hb2.after (by (repeat (first | exact Ext.bel _ | exact Bel.refl | refine Bel.alloc ?_ _ | refine Bel.drew ?_ | refine Bel.drewN ?_ _)))); clear hb2) | (go_at_call 55; (with_reducible refine (HB.out _).mono ?_); rintro e w2 ⟨rfl, hb2⟩; obtain ⟨x, rfl⟩ : ∃ x : Ext w, w2 = x.w := ext_of (hb2.after (by (repeat (first | exact Ext.bel _ | exact Bel.refl | refine Bel.alloc ?_ _ | refine Bel.drew ?_ | refine Bel.drewN ?_ _)))); clear hb2))
  clear HC HS HB
  by_cases hm0 : busyM l = 0
  · have HM0 := Lib.hid hm0
    have hlm := HLM.out
    rw [if_pos hm0] at hlm
    rw [hlm] at HST lb1 lb2
    rw [hm0]
    clear hm0 hlm HLM
    go_upto_region 11 with (fail)
    go_loopg [8] 20000 (fun gk s8 wr => ∃ (t : Int) (z : Ext w), s8 = .int .i64 t ∧ wr = z.w ∧ 1 ≤ t ∧ (gk : Int) + t = 20001 ∧ firstN (badB l) (20000 + 1 - t).toNat t = dmM l)
    case atStart => exact ⟨1, x, rfl, rfl, by omega, by omega, HST.out⟩
    case round =>
      clear x HST
      obtain ⟨t, z, rfl, rfl, ht, hg, hfx⟩ := hrel
      by_cases hlt : t ≤ 20000
      · have hd : decide (t ≤ 20000) = true := by simp; omega
        have hr1 : IntKind.i64.wrap (t + 1) = t + 1 := IntWalk.i64_in _ (by omega)
        have hdu := fun (W : World) (hW : Bel w W) => due_any _ l t W (HH.out.keep hW.keeps hW.le) hl8 HT.out ht (by omega)
        have hde := fun (W : World) (hW : Bel w W) => demand_any _ l t W (HH.out.keep hW.keeps hW.le) hl8 HT.out ht (by omega)
        have hbb : badB l t = (dueB l t && decide (t < demL t 0 l)) := rfl
        cases hb : dueB l t
        · rw [hb] at hdu
          have HDU := Lib.hid hdu
          have HN : Hid (firstN (badB l) (20000 + 1 - (t + 1)).toNat (t + 1) = dmM l) := Lib.hid (by rw [← first_on hlt (by rw [hbb, hb]; rfl), hfx])
          clear hdu hde hbb hb hfx
          go_wp2_with (first | (go_at_call 56; (with_reducible refine (HDU.out _ (by (repeat (first | exact Ext.bel _ | exact Bel.refl | refine Bel.alloc ?_ _ | refine Bel.drew ?_ | refine Bel.drewN ?_ _)))).mono ?_); rintro e w2 ⟨rfl, hb2⟩; obtain ⟨x, rfl⟩ : ∃ x : Ext w, w2 = x.w := ext_of (hb2.after (by (repeat (first | exact Ext.bel _ | exact Bel.refl | refine Bel.alloc ?_ _ | refine Bel.drew ?_ | refine Bel.drewN ?_ _)))); clear hb2))
          go_roundg (gk - 1)
          case measure => omega
          case rel => exact ⟨t + 1, x, rfl, rfl, by omega, by omega, HN.out⟩
        · rw [hb] at hdu
          have HDU := Lib.hid hdu
          have HDE := Lib.hid hde
          by_cases hq : t < demL t 0 l
          · have HX : Hid (dmM l = t) := Lib.hid (by rw [← hfx, first_at hlt (by rw [hbb, hb, decide_eq_true hq]; rfl)])
            have hdq : decide (t < demL t 0 l) = true := by simpa using hq
            have hR := HR1.out
            rw [HX.out] at hR
            have HR := Lib.hid (hR (by omega))
            clear hdu hde hbb hb hfx hq hR HR1
            generalize demL t 0 l = q at *
            go_wp2_with (first | (go_at_call 56; (with_reducible refine (HDU.out _ (by (repeat (first | exact Ext.bel _ | exact Bel.refl | refine Bel.alloc ?_ _ | refine Bel.drew ?_ | refine Bel.drewN ?_ _)))).mono ?_); rintro e w2 ⟨rfl, hb2⟩; obtain ⟨x, rfl⟩ : ∃ x : Ext w, w2 = x.w := ext_of (hb2.after (by (repeat (first | exact Ext.bel _ | exact Bel.refl | refine Bel.alloc ?_ _ | refine Bel.drew ?_ | refine Bel.drewN ?_ _)))); clear hb2) | (go_at_call 57; (with_reducible refine (HDE.out _ (by (repeat (first | exact Ext.bel _ | exact Bel.refl | refine Bel.alloc ?_ _ | refine Bel.drew ?_ | refine Bel.drewN ?_ _)))).mono ?_); rintro e w2 ⟨rfl, hb2⟩; obtain ⟨x, rfl⟩ : ∃ x : Ext w, w2 = x.w := ext_of (hb2.after (by (repeat (first | exact Ext.bel _ | exact Bel.refl | refine Bel.alloc ?_ _ | refine Bel.drew ?_ | refine Bel.drewN ?_ _)))); clear hb2))
            go_ret3
            exact ⟨by rw [HR.out]; rfl, x.bel⟩
          · have HN : Hid (firstN (badB l) (20000 + 1 - (t + 1)).toNat (t + 1) = dmM l) := Lib.hid (by rw [← first_on hlt (by rw [hbb, hb, decide_eq_false hq]; rfl), hfx])
            have hdq : decide (t < demL t 0 l) = false := by simpa using hq
            clear hdu hde hbb hb hfx hq
            generalize demL t 0 l = q at *
            go_wp2_with (first | (go_at_call 56; (with_reducible refine (HDU.out _ (by (repeat (first | exact Ext.bel _ | exact Bel.refl | refine Bel.alloc ?_ _ | refine Bel.drew ?_ | refine Bel.drewN ?_ _)))).mono ?_); rintro e w2 ⟨rfl, hb2⟩; obtain ⟨x, rfl⟩ : ∃ x : Ext w, w2 = x.w := ext_of (hb2.after (by (repeat (first | exact Ext.bel _ | exact Bel.refl | refine Bel.alloc ?_ _ | refine Bel.drew ?_ | refine Bel.drewN ?_ _)))); clear hb2) | (go_at_call 57; (with_reducible refine (HDE.out _ (by (repeat (first | exact Ext.bel _ | exact Bel.refl | refine Bel.alloc ?_ _ | refine Bel.drew ?_ | refine Bel.drewN ?_ _)))).mono ?_); rintro e w2 ⟨rfl, hb2⟩; obtain ⟨x, rfl⟩ : ∃ x : Ext w, w2 = x.w := ext_of (hb2.after (by (repeat (first | exact Ext.bel _ | exact Bel.refl | refine Bel.alloc ?_ _ | refine Bel.drew ?_ | refine Bel.drewN ?_ _)))); clear hb2))
            go_roundg (gk - 1)
            case measure => omega
            case rel => exact ⟨t + 1, x, rfl, rfl, by omega, by omega, HN.out⟩
      · have hd : decide (t ≤ 20000) = false := by simp; omega
        have HX : Hid (dmM l = 0) := Lib.hid (by rw [← hfx, first_out (by omega)])
        have HR := Lib.hid (HR2.out HX.out HM0.out)
        clear hfx HR1 HR2 HR3
        go_wp2
        go_ret3
        exact ⟨by rw [HR.out]; rfl, z.bel⟩
  · have HM0 := Lib.hid hm0
    have hlm := HLM.out
    rw [if_neg hm0] at hlm
    rw [hlm] at HST lb1 lb2
    clear hlm HLM
    have HR3' : Hid (dmM l = 0 → demandM l = (true, 0, 0)) := Lib.hid (fun h => HR3.out h HM0.out)
    clear HR2 HR3 HM0
    have hme : (busyM l == 0) = false := by simpa using hm0
    clear hm0
    generalize busyM l = mo at *
    go_upto_region 11 with (fail)
    go_loopg [8] 20000 (fun gk s8 wr => ∃ (t : Int) (z : Ext w), s8 = .int .i64 t ∧ wr = z.w ∧ 1 ≤ t ∧ (gk : Int) + t = 20001 ∧ firstN (badB l) (mo + 1 - t).toNat t = dmM l)
    case atStart => exact ⟨1, x, rfl, rfl, by omega, by omega, HST.out⟩
    case round =>
      clear x HST
      obtain ⟨t, z, rfl, rfl, ht, hg, hfx⟩ := hrel
      by_cases hlt : t ≤ mo
      · have hd : decide (t ≤ mo) = true := by simp; omega
        have hr1 : IntKind.i64.wrap (t + 1) = t + 1 := IntWalk.i64_in _ (by omega)
        have hdu := fun (W : World) (hW : Bel w W) => due_any _ l t W (HH.out.keep hW.keeps hW.le) hl8 HT.out ht (by omega)
        have hde := fun (W : World) (hW : Bel w W) => demand_any _ l t W (HH.out.keep hW.keeps hW.le) hl8 HT.out ht (by omega)
        have hbb : badB l t = (dueB l t && decide (t < demL t 0 l)) := rfl
        cases hb : dueB l t
        · rw [hb] at hdu
          have HDU := Lib.hid hdu
          have HN : Hid (firstN (badB l) (mo + 1 - (t + 1)).toNat (t + 1) = dmM l) := Lib.hid (by rw [← first_on hlt (by rw [hbb, hb]; rfl), hfx])
          clear hdu hde hbb hb hfx
          go_wp2_with (first | (go_at_call 56; (with_reducible refine (HDU.out _ (by (repeat (first | exact Ext.bel _ | exact Bel.refl | refine Bel.alloc ?_ _ | refine Bel.drew ?_ | refine Bel.drewN ?_ _)))).mono ?_); rintro e w2 ⟨rfl, hb2⟩; obtain ⟨x, rfl⟩ : ∃ x : Ext w, w2 = x.w := ext_of (hb2.after (by (repeat (first | exact Ext.bel _ | exact Bel.refl | refine Bel.alloc ?_ _ | refine Bel.drew ?_ | refine Bel.drewN ?_ _)))); clear hb2))
          go_roundg (gk - 1)
          case measure => omega
          case rel => exact ⟨t + 1, x, rfl, rfl, by omega, by omega, HN.out⟩
        · rw [hb] at hdu
          have HDU := Lib.hid hdu
          have HDE := Lib.hid hde
          by_cases hq : t < demL t 0 l
          · have HX : Hid (dmM l = t) := Lib.hid (by rw [← hfx, first_at hlt (by rw [hbb, hb, decide_eq_true hq]; rfl)])
            have hdq : decide (t < demL t 0 l) = true := by simpa using hq
            have hR := HR1.out
            rw [HX.out] at hR
            have HR := Lib.hid (hR (by omega))
            clear hdu hde hbb hb hfx hq hR HR1
            generalize demL t 0 l = q at *
            go_wp2_with (first | (go_at_call 56; (with_reducible refine (HDU.out _ (by (repeat (first | exact Ext.bel _ | exact Bel.refl | refine Bel.alloc ?_ _ | refine Bel.drew ?_ | refine Bel.drewN ?_ _)))).mono ?_); rintro e w2 ⟨rfl, hb2⟩; obtain ⟨x, rfl⟩ : ∃ x : Ext w, w2 = x.w := ext_of (hb2.after (by (repeat (first | exact Ext.bel _ | exact Bel.refl | refine Bel.alloc ?_ _ | refine Bel.drew ?_ | refine Bel.drewN ?_ _)))); clear hb2) | (go_at_call 57; (with_reducible refine (HDE.out _ (by (repeat (first | exact Ext.bel _ | exact Bel.refl | refine Bel.alloc ?_ _ | refine Bel.drew ?_ | refine Bel.drewN ?_ _)))).mono ?_); rintro e w2 ⟨rfl, hb2⟩; obtain ⟨x, rfl⟩ : ∃ x : Ext w, w2 = x.w := ext_of (hb2.after (by (repeat (first | exact Ext.bel _ | exact Bel.refl | refine Bel.alloc ?_ _ | refine Bel.drew ?_ | refine Bel.drewN ?_ _)))); clear hb2))
            go_ret3
            exact ⟨by rw [HR.out]; rfl, x.bel⟩
          · have HN : Hid (firstN (badB l) (mo + 1 - (t + 1)).toNat (t + 1) = dmM l) := Lib.hid (by rw [← first_on hlt (by rw [hbb, hb, decide_eq_false hq]; rfl), hfx])
            have hdq : decide (t < demL t 0 l) = false := by simpa using hq
            clear hdu hde hbb hb hfx hq
            generalize demL t 0 l = q at *
            go_wp2_with (first | (go_at_call 56; (with_reducible refine (HDU.out _ (by (repeat (first | exact Ext.bel _ | exact Bel.refl | refine Bel.alloc ?_ _ | refine Bel.drew ?_ | refine Bel.drewN ?_ _)))).mono ?_); rintro e w2 ⟨rfl, hb2⟩; obtain ⟨x, rfl⟩ : ∃ x : Ext w, w2 = x.w := ext_of (hb2.after (by (repeat (first | exact Ext.bel _ | exact Bel.refl | refine Bel.alloc ?_ _ | refine Bel.drew ?_ | refine Bel.drewN ?_ _)))); clear hb2) | (go_at_call 57; (with_reducible refine (HDE.out _ (by (repeat (first | exact Ext.bel _ | exact Bel.refl | refine Bel.alloc ?_ _ | refine Bel.drew ?_ | refine Bel.drewN ?_ _)))).mono ?_); rintro e w2 ⟨rfl, hb2⟩; obtain ⟨x, rfl⟩ : ∃ x : Ext w, w2 = x.w := ext_of (hb2.after (by (repeat (first | exact Ext.bel _ | exact Bel.refl | refine Bel.alloc ?_ _ | refine Bel.drew ?_ | refine Bel.drewN ?_ _)))); clear hb2))
            go_roundg (gk - 1)
            case measure => omega
            case rel => exact ⟨t + 1, x, rfl, rfl, by omega, by omega, HN.out⟩
      · have hd : decide (t ≤ mo) = false := by simp; omega
        have HX : Hid (dmM l = 0) := Lib.hid (by rw [← hfx, first_out (by omega)])
        have HR := Lib.hid (HR3'.out HX.out)
        clear hfx HR1 HR3'
        go_wp2
        go_ret3
        exact ⟨by rw [HR.out]; rfl, z.bel⟩
end Go.Proofs.Ytbilfpoghohddaa
