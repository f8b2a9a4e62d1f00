import Derived.Test.YthcdemmamggboaaZHrun
import Derived.Test.YthcdemmamggboaaZHshow
import Derived.Test.YthcdemmamggboaaG6
import Derived.Test.YthcdemmamggboaaZSrefa
import Derived.Test.YthcdemmamggboaaG4
import Derived.Test.YthcdemmamggboaaZHwk
import Derived.Deep.CutRange
namespace Go.Proofs.Ythcdemmamggboaa
open Go.RowKit
set_option maxRecDepth 100000 in
set_option maxHeartbeats 16000000 in
theorem keeps_any (v : Value) (l : List Tsk) (ticks : Int) (w : World) (h : TsksAt w w.heap.size v l) (hl : l.length ≤ 9223372036854775807)
    (hs : ∀ i, i < l.length → (tskAt l i).secs.length ≤ 9223372036854775807 ∧ (tskAt l i).name.size ≤ 9223372036854775807) (hwf : ∀ i, i < l.length → (tskAt l i).wf) :
    Calls Try.prog 5 #[v, .int .i64 ticks] w fun e w' => e = .returned (.bool true) ∧ Bel w w' := by
  have HT := Lib.hid h
  have HS := Lib.hid hs
  have HW := Lib.hid hwf
  obtain ⟨A, c, rfl, _⟩ := h.form
  clear h hs hwf
  go_enter Try.func5, Try.ntmps5
  go_wp2_with fail
  refine (shown33_any _).mono ?_
  rintro e w1 ⟨rfl, hB⟩
  have HB1 := Lib.hid hB
  have HT1 := Lib.hid (HT.out.keep hB.keeps hB.le)
  clear hB HT
  go_wp2_with fail
  refine (beyond_any _ l w1 HT1.out HS.out hl).mono ?_
  rintro e w2 ⟨rfl, hw⟩
  obtain rfl : w1 = w2 := hw.symm
  cases hbe : beyond l
  case true =>
    go_wp2
    go_ret
    exact ⟨rfl, HB1.out⟩
  have HZ := Lib.hid (sized_of hbe HW.out)
  clear hbe
  go_wp2_with fail
  refine (rcheck_any _ l w1 HT1.out HZ.out.len HZ.out.parts).mono ?_
  rintro e w3 ⟨rfl, hB⟩
  have HB3 := Lib.hid (HB1.out.trans hB)
  have HT3 := Lib.hid (HT1.out.keep hB.keeps hB.le)
  clear hB HB1 HT1
  by_cases h0 : rchk l = 0
  case neg =>
    have hne : (rchk l == 0) = false := by simpa using h0
    generalize rchk l = ck at *
    go_wp2
    go_ret
    exact ⟨rfl, HB3.out⟩
  rw [h0]
  have H0 := Lib.hid h0
  clear h0
  by_cases ht0 : ticks < 0
  · have q1 : decide (ticks < 0) = true := decide_eq_true ht0
    go_wp2
    go_ret
    exact ⟨rfl, HB3.out⟩
  have q1 : decide (ticks < 0) = false := decide_eq_false ht0
  by_cases ht3 : 1500 < ticks
  · have q2 : decide (1500 < ticks) = true := decide_eq_true ht3
    go_wp2
    go_ret
    exact ⟨rfl, HB3.out⟩
  have q2 : decide (1500 < ticks) = false := decide_eq_false ht3
  obtain ⟨n, rfl⟩ : ∃ n : Nat, ticks = n := ⟨ticks.toNat, by omega⟩
  have hn3 : n ≤ 1500 := by omega
  clear ht0 ht3
  go_wp2_with fail
  refine (rfixed_any _ l w3 HT3.out HZ.out).mono ?_
  rintro e w5 ⟨vf, rfl, hvf, hB, _⟩
  have HB5 := Lib.hid (HB3.out.trans hB)
  have HT5 := Lib.hid (HT3.out.keep hB.keeps hB.le)
  have hfm : fixedM l = (fixedL l, (fixedL l).all (fun r => decide (0 ≤ r)), 0) := by unfold fixedM; rw [if_pos H0.out]
  rw [hfm] at hvf ⊢
  dsimp only at hvf ⊢
  obtain ⟨Af, cf, rfl, _⟩ := hvf.form
  have HVF := Lib.hid hvf
  have hfl : (fixedL l).length = l.length := by simp [fixedL]
  have HALL : Hid (∀ b, (fixedL l).all (fun r => decide (0 ≤ r)) = b → (fixedL l).all (fun r => decide (0 ≤ r)) = b) := Lib.hid fun _ h => h
  generalize hall : (fixedL l).all (fun r => decide (0 ≤ r)) = all at *
  have HALLE := Lib.hid hall
  have hlp := rchk_pos H0.out
  have hl8 := (rchk_ok H0.out).1
  obtain ⟨bt, ot, rfl, hbt, hAT⟩ := HT5.out.at_ hlp
  clear hall hAT hB hvf hfm HALL HB3 HT3 q1 q2
  rw [hfl]
  go_upto_if 42 with (fail)
  go_cut [8, 9, 10, 11] from 43 to 118 (fun s8 s9 s10 s11 wx => ∃ (y : Ext w5), wx = y.w)
  case first =>
    cases all
    · go_wp2
      go_meet
      case rel => exact ⟨⟨w5, Bel.refl⟩, rfl⟩
    · have hp : ¬ ((1 : Int) ≠ 1 ∧ ((1 : Int) ≠ 2 ∨ secsB l = true)) := by simp
      go_wp2_with fail
      refine (run_any _ l 1 n w5 HT5.out HZ.out).mono ?_
      rintro e w6 ⟨vs, vj, rfl, hvs, hvj, hB⟩
      rw [sched_ok H0.out hp (show n ≤ 20000 by omega)] at hvs hvj ⊢
      dsimp only at hvs hvj ⊢
      obtain ⟨_, hlj⟩ := upTo_len H0.out 1 (show n ≤ 20000 by omega)
      have hlj2 : ((upTo l 1 n).jobs.map (missM l n)).length ≤ 160000 := by rw [List.length_map]; exact hlj
      have HFP := Lib.hid (fun k (hk : k < ((upTo l 1 n).jobs.map (missM l n)).length) => fp_law H0.out HALLE.out n hk)
      clear hlj hp
      generalize (upTo l 1 n).jobs.map (missM l n) = js at *
      generalize (upTo l 1 n).stints = ss at *
      obtain ⟨A1, c1, rfl, _⟩ := hvs.form
      obtain ⟨A2, c2, rfl, _⟩ := hvj.form
      have HVJ := Lib.hid hvj
      clear hvs hvj
      go_upto_region 8 with (fail)
      generalize hW : World.alloc w6 _ = w7 at *
      have r7 : RowAt w7 w6.heap.size 29 [.slice A1 ss.length c1, .slice A2 js.length c2] := by rw [← hW]; exact RowAt.new _ _ _
      have hB7 : Bel w6 w7 := by rw [← hW]; exact Bel.refl.alloc _
      clear hW
      obtain ⟨y0, hy0⟩ := ext_of (hB.trans hB7)
      have HVJ7 := Lib.hid (HVJ.out.keep hB7.keeps hB7.le)
      subst hy0
      generalize w6.heap.size = p8 at *
      have x0 := r7.cell (i := 0) rfl
      have x1 := r7.cell (i := 1) rfl
      have x7 := r7.lt
      clear r7 hB hB7 HVJ
      go_wp2
      go_loopg [10] js.length (fun gk s10 wr => ∃ (k : Nat) (u : Ext y0.w), k + gk = js.length ∧ s10 = .int .i64 k ∧ wr = u.w)
      case atStart => exact ⟨0, ⟨y0.w, Bel.refl⟩, by omega, rfl, rfl⟩
      case round =>
        obtain ⟨k, u, hk, rfl, rfl⟩ := hrel
        by_cases hltk : k < js.length
        · have hdlk : decide ((k : Int) < (js.length : Int)) = true := by simp; omega
          have hkl2 : (k : Int) < (js.length : Int) := by omega
          obtain ⟨bj, oj, rfl, hbj, kj⟩ := HVJ7.out.at_ (by omega)
          obtain ⟨e1, e2, e3, e4, e5⟩ := HFP.out k hltk
          obtain ⟨j0, j1, j2, j3, j4⟩ := rd_don hltk kj
          obtain ⟨bf, of, rfl, hbf, kf⟩ := HVF.out.at_ (by omega)
          have tf := kf (dnAt js k).tk (by omega)
          rw [← ext_cells y0 _ _ hbf] at tf
          have hbf2 := ext_lt y0 hbf
          have etm : (fixedL l).getD (dnAt js k).tk 0 = timesM l (dnAt js k).tk := rfl
          rw [etm] at tf
          have htl : ((dnAt js k).tk : Int) < (l.length : Int) := by omega
          have hE5 := Lib.hid e5
          clear kj kf etm e5
          generalize htm : timesM l (dnAt js k).tk = tm at *
          generalize dnAt js k = d at *
          clear htm
          have HT8 := Lib.hid (fun (W : World) (hW : Bel y0.w W) => HT5.out.keep (y0.bel.trans hW).keeps (y0.bel.trans hW).le)
          have t1 : decide ((d.tk : Int) < 0) = false := by simp
          have t2 : decide ((l.length : Int) ≤ (d.tk : Int)) = false := by simp; omega
          have t3 : decide (tm < d.resp) = false := by simp; omega
          have hms := e2
          go_upto_region 14 with (fail)
          generalize hW : World.alloc u.w _ = W at *
          have r17 : RowAt W u.w.heap.size 42 [.int .i64 d.tk, .int .i64 d.job, .int .i64 d.rel, .int .i64 d.resp, .bool false] := by rw [← hW]; exact RowAt.new _ _ _
          have hbW : Bel u.w W := by rw [← hW]; exact Bel.refl.alloc _
          clear hW j0 j1 j2 j3 j4
          obtain ⟨u2, hu2⟩ := ext_of (u.bel.trans hbW)
          clear hbW
          subst hu2
          have q0 := r17.cell (i := 0) rfl
          have q1 := r17.cell (i := 1) rfl
          have q3 := r17.cell (i := 3) rfl
          have q4 : u2.w.cell? ⟨u.w.heap.size, 4, none⟩ = some (.bool false) := by exact r17.cell (i := 4) rfl
          have x17 := r17.lt
          clear r17 e2 hms
          generalize u.w.heap.size = p17 at *
          (refine wp_region_ext (wb := u2.w) (by (repeat (first | exact Ext.bel _ | exact Bel.refl | refine Bel.alloc ?_ _ | refine Bel.drew ?_ | refine Bel.drewN ?_ _))) (by kernel_rfl) (by kernel_rfl) ?_; (repeat (any_goals (first | go_big_quiet_step (fail) | quiet_step (fail) | (refine wpQuiet_step (fun K hK => ?_); go_simp; split <;> (refine hK _ ?_; clear hK K))))); all_goals (refine wpQuiet_nil ?_; intro _ hw'; obtain ⟨y, hw''⟩ := hw'; subst hw''))
          obtain ⟨u3, hu3⟩ := ext_of (u2.bel.trans y.bel)
          rw [← ext_cells y _ _ x17] at q0 q1 q3
          have x18 := ext_lt y x17
          clear q4 x17 t1 t2 t3
          generalize y.w = wy at *
          subst hu3
          clear y u2 u
          have HS := Lib.hid (fun (W : World) (hW : Bel u3.w W) => rsecs_any _ l W (HT8.out W (u3.bel.trans hW)) (by omega))
          have HOF := Lib.hid (fun (W : World) (hW : Bel u3.w W) => roffs_any _ l W (HT8.out W (u3.bel.trans hW)) (by omega))
          go_upto_region 16 with (fail)
          by_cases f1 : d.job = 0
          · have t1 : (d.job == 0) = true := by simpa using f1
            cases hsb : secsB l
            · cases hob : offsB l
              · rw [hsb] at HS
                rw [hob] at HOF
                by_cases f2 : tm ≤ n
                · have hr := hE5.out f1 hsb hob f2
                  have t2 : decide (tm ≤ (n : Int)) = true := by simpa using f2
                  clear f1 f2 hE5
                  generalize d.resp = rs at *
                  subst hr
                  (refine wp_region_ext (wb := u3.w) (by (repeat (first | exact Ext.bel _ | exact Bel.refl | refine Bel.alloc ?_ _ | refine Bel.drew ?_ | refine Bel.drewN ?_ _))) (by kernel_rfl) (by kernel_rfl) ?_; (repeat (any_goals (first | go_big_quiet_step (first | (go_at_call 17; with_reducible exact ext_call (HS.out _ (Ext.bel _))) | (go_at_call 18; with_reducible exact ext_call (HOF.out _ (Ext.bel _)))) | quiet_step (first | (go_at_call 17; with_reducible exact ext_call (HS.out _ (Ext.bel _))) | (go_at_call 18; with_reducible exact ext_call (HOF.out _ (Ext.bel _)))) | (refine wpQuiet_step (fun K hK => ?_); go_simp; split <;> (refine hK _ ?_; clear hK K))))); all_goals (refine wpQuiet_nil ?_; intro _ hw'; obtain ⟨y, hw''⟩ := hw'; subst hw''))
                  go_wp2
                  go_roundg (gk - 1)
                  case measure => omega
                  case rel => exact ⟨k + 1, ⟨_, u3.bel.trans y.bel⟩, by omega, by go_num, rfl⟩
                · have t2 : decide (tm ≤ (n : Int)) = false := by simpa using f2
                  clear f1 f2 hE5
                  (refine wp_region_ext (wb := u3.w) (by (repeat (first | exact Ext.bel _ | exact Bel.refl | refine Bel.alloc ?_ _ | refine Bel.drew ?_ | refine Bel.drewN ?_ _))) (by kernel_rfl) (by kernel_rfl) ?_; (repeat (any_goals (first | go_big_quiet_step (first | (go_at_call 17; with_reducible exact ext_call (HS.out _ (Ext.bel _))) | (go_at_call 18; with_reducible exact ext_call (HOF.out _ (Ext.bel _)))) | quiet_step (first | (go_at_call 17; with_reducible exact ext_call (HS.out _ (Ext.bel _))) | (go_at_call 18; with_reducible exact ext_call (HOF.out _ (Ext.bel _)))) | (refine wpQuiet_step (fun K hK => ?_); go_simp; split <;> (refine hK _ ?_; clear hK K))))); all_goals (refine wpQuiet_nil ?_; intro _ hw'; obtain ⟨y, hw''⟩ := hw'; subst hw''))
                  go_wp2
                  go_roundg (gk - 1)
                  case measure => omega
                  case rel => exact ⟨k + 1, ⟨_, u3.bel.trans y.bel⟩, by omega, by go_num, rfl⟩
              · rw [hsb] at HS
                rw [hob] at HOF
                clear f1 hE5
                (refine wp_region_ext (wb := u3.w) (by (repeat (first | exact Ext.bel _ | exact Bel.refl | refine Bel.alloc ?_ _ | refine Bel.drew ?_ | refine Bel.drewN ?_ _))) (by kernel_rfl) (by kernel_rfl) ?_; (repeat (any_goals (first | go_big_quiet_step (first | (go_at_call 17; with_reducible exact ext_call (HS.out _ (Ext.bel _))) | (go_at_call 18; with_reducible exact ext_call (HOF.out _ (Ext.bel _)))) | quiet_step (first | (go_at_call 17; with_reducible exact ext_call (HS.out _ (Ext.bel _))) | (go_at_call 18; with_reducible exact ext_call (HOF.out _ (Ext.bel _)))) | (refine wpQuiet_step (fun K hK => ?_); go_simp; split <;> (refine hK _ ?_; clear hK K))))); all_goals (refine wpQuiet_nil ?_; intro _ hw'; obtain ⟨y, hw''⟩ := hw'; subst hw''))
                go_wp2
                go_roundg (gk - 1)
                case measure => omega
                case rel => exact ⟨k + 1, ⟨_, u3.bel.trans y.bel⟩, by omega, by go_num, rfl⟩
            · rw [hsb] at HS
              clear f1 hE5
              (refine wp_region_ext (wb := u3.w) (by (repeat (first | exact Ext.bel _ | exact Bel.refl | refine Bel.alloc ?_ _ | refine Bel.drew ?_ | refine Bel.drewN ?_ _))) (by kernel_rfl) (by kernel_rfl) ?_; (repeat (any_goals (first | go_big_quiet_step (first | (go_at_call 17; with_reducible exact ext_call (HS.out _ (Ext.bel _))) | (go_at_call 18; with_reducible exact ext_call (HOF.out _ (Ext.bel _)))) | quiet_step (first | (go_at_call 17; with_reducible exact ext_call (HS.out _ (Ext.bel _))) | (go_at_call 18; with_reducible exact ext_call (HOF.out _ (Ext.bel _)))) | (refine wpQuiet_step (fun K hK => ?_); go_simp; split <;> (refine hK _ ?_; clear hK K))))); all_goals (refine wpQuiet_nil ?_; intro _ hw'; obtain ⟨y, hw''⟩ := hw'; subst hw''))
              go_wp2
              go_roundg (gk - 1)
              case measure => omega
              case rel => exact ⟨k + 1, ⟨_, u3.bel.trans y.bel⟩, by omega, by go_num, rfl⟩
          · have t1 : (d.job == 0) = false := by simpa using f1
            clear f1 hE5
            (refine wp_region_ext (wb := u3.w) (by (repeat (first | exact Ext.bel _ | exact Bel.refl | refine Bel.alloc ?_ _ | refine Bel.drew ?_ | refine Bel.drewN ?_ _))) (by kernel_rfl) (by kernel_rfl) ?_; (repeat (any_goals (first | go_big_quiet_step (first | (go_at_call 17; with_reducible exact ext_call (HS.out _ (Ext.bel _))) | (go_at_call 18; with_reducible exact ext_call (HOF.out _ (Ext.bel _)))) | quiet_step (first | (go_at_call 17; with_reducible exact ext_call (HS.out _ (Ext.bel _))) | (go_at_call 18; with_reducible exact ext_call (HOF.out _ (Ext.bel _)))) | (refine wpQuiet_step (fun K hK => ?_); go_simp; split <;> (refine hK _ ?_; clear hK K))))); all_goals (refine wpQuiet_nil ?_; intro _ hw'; obtain ⟨y, hw''⟩ := hw'; subst hw''))
            go_wp2
            go_roundg (gk - 1)
            case measure => omega
            case rel => exact ⟨k + 1, ⟨_, u3.bel.trans y.bel⟩, by omega, by go_num, rfl⟩
        · obtain rfl : k = js.length := by omega
          have hdlk : decide ((js.length : Int) < (js.length : Int)) = false := by simp
          go_wp2
          go_meet
          case rel => exact ⟨⟨_, y0.bel.trans u.bel⟩, rfl⟩
  case rest =>
  obtain ⟨y, rfl⟩ := hcut
  have HT6 := Lib.hid (HT5.out.keep y.bel.keeps y.bel.le)
  go_wp2_with fail
  refine (rsecs_any _ l y.w HT6.out (by omega)).mono ?_
  rintro e w6 ⟨rfl, hB⟩
  have HT7 := Lib.hid (HT6.out.keep hB.keeps hB.le)
  have HB7 := Lib.hid ((HB5.out.trans y.bel).trans hB)
  clear hB HT6
  cases hsb : secsB l
  case true =>
    go_wp2
    go_ret
    exact ⟨rfl, HB7.out⟩
  go_wp2_with fail
  refine (rDemand_any _ l w6 HT7.out HZ.out).mono ?_
  rintro e w7 ⟨rfl, hB⟩
  have HT8 := Lib.hid (HT7.out.keep hB.keeps hB.le)
  have HB8 := Lib.hid (HB7.out.trans hB)
  clear hB HT7 HB7
  -- the three answers of the demand test
  have hdm : (∃ keeps : Bool, ∃ at_ : Int, demandM l = (keeps, at_, 0) ∧ (keeps = true → dmM l = 0 ∧ ¬ busyM l = 0) ∧ (keeps = false → ¬ dmM l = 0 ∧ at_ = dmM l)) ∨ (∃ x : Int, demandM l = (false, 0, x) ∧ x ≠ 0) := by
    by_cases hd : dmM l = 0
    · by_cases hb : busyM l = 0
      · exact .inr ⟨3, demandM_long H0.out hsb hd hb, by decide⟩
      · exact .inl ⟨true, 0, demandM_ok H0.out hsb hd hb, fun _ => ⟨hd, hb⟩, fun h => by cases h⟩
    · exact .inl ⟨false, dmM l, demandM_bad H0.out hsb hd, (fun h => by cases h), fun _ => ⟨hd, rfl⟩⟩
  rcases hdm with ⟨kp, at_, hdm, hk1, hk2⟩ | ⟨x, hdm, hx⟩
  case inr =>
    rw [hdm]
    dsimp only
    have hxe : (x == 0) = false := by simpa using hx
    go_wp2
    go_ret
    exact ⟨rfl, HB8.out⟩
  rw [hdm]
  dsimp only
  have hp : ¬ ((2 : Int) ≠ 1 ∧ ((2 : Int) ≠ 2 ∨ secsB l = true)) := by simp [hsb]
  have HK1 := Lib.hid hk1
  have HK2 := Lib.hid hk2
  have HRUN := Lib.hid (run_any _ l 2 n w7 HT8.out HZ.out)
  rw [sched_ok H0.out hp (show n ≤ 20000 by omega)] at HRUN
  obtain ⟨_, hlj⟩ := upTo_len H0.out 2 (show n ≤ 20000 by omega)
  have hlj2 : ((upTo l 2 n).jobs.map (missM l n)).length ≤ 160000 := by rw [List.length_map]; exact hlj
  have HMK : Hid (kp = true → missAny ((upTo l 2 n).jobs.map (missM l n)) ((upTo l 2 n).jobs.map (missM l n)).length = false) := Lib.hid fun h => missAny_false fun k hk => edf_keeps H0.out (hk1 h).1 (hk1 h).2 n hk
  have HMN : Hid (kp = false → offsB l = false → at_ ≤ n → missAny ((upTo l 2 n).jobs.map (missM l n)) ((upTo l 2 n).jobs.map (missM l n)).length = true) := Lib.hid fun h ho hn => by
    obtain ⟨h1, h2⟩ := hk2 h
    obtain ⟨k, hk, hm⟩ := edf_not H0.out h1 ho (n := n) (by rw [← h2]; exact hn)
    exact missAny_true hk hm
  clear hdm hk1 hk2 hp hlj
  generalize (upTo l 2 n).jobs.map (missM l n) = js at *
  generalize (upTo l 2 n).stints = ss at *
  go_wp2_with fail
  refine HRUN.out.mono ?_
  rintro e w8 ⟨vs, vj, rfl, hvs, hvj, hB⟩
  dsimp only at hvs hvj ⊢
  obtain ⟨A1, c1, rfl, _⟩ := hvs.form
  obtain ⟨A2, c2, rfl, _⟩ := hvj.form
  have HVJ := Lib.hid hvj
  have HT9 := Lib.hid (HT8.out.keep hB.keeps hB.le)
  have HB9 := Lib.hid (HB8.out.trans hB)
  clear hvs hvj hB HT8 HB8 HRUN
  go_upto_region 24 with (fail)
  generalize hW : World.alloc w8 _ = w9 at *
  have r7 : RowAt w9 w8.heap.size 29 [.slice A1 ss.length c1, .slice A2 js.length c2] := by rw [← hW]; exact RowAt.new _ _ _
  have hB : Bel w8 w9 := by rw [← hW]; exact Bel.refl.alloc _
  clear hW
  have HVJ9 := Lib.hid (HVJ.out.keep hB.keeps hB.le)
  have HT10 := Lib.hid (HT9.out.keep hB.keeps hB.le)
  have HB10 := Lib.hid (HB9.out.trans hB)
  generalize w8.heap.size = p15 at *
  have x0 := r7.cell (i := 0) rfl
  have x1 := r7.cell (i := 1) rfl
  have x7 := r7.lt
  have HM0 : Hid (missAny js 0 = false) := Lib.hid rfl
  clear r7 hB HVJ HT9 HB9
  go_wp2
  go_loopg [17, 18] js.length (fun gk s17 s18 wr => ∃ (k : Nat), k + gk = js.length ∧ s17 = .bool (missAny js k) ∧ s18 = .int .i64 k ∧ wr = w9)
  case atStart => exact ⟨0, by omega, by rw [HM0.out], rfl, rfl⟩
  case round =>
    obtain ⟨k, hk, rfl, rfl, rfl⟩ := hrel
    by_cases hltk : k < js.length
    · have hdlk : decide ((k : Int) < (js.length : Int)) = true := by simp; omega
      have hkl2 : (k : Int) < (js.length : Int) := by omega
      obtain ⟨bj, oj, rfl, hbj, kj⟩ := HVJ9.out.at_ (by omega)
      obtain ⟨_, _, _, _, j4⟩ := rd_don hltk kj
      have HN := Lib.hid (missAny_succ hltk)
      clear kj
      generalize (dnAt js k).miss = ms at *
      generalize hm : missAny js k = m0 at *
      clear hm
      cases m0
      · go_wp2
        go_roundg (gk - 1)
        case measure => omega
        case rel => exact ⟨k + 1, by omega, by rw [HN.out]; simp, by go_num, rfl⟩
      · go_wp2
        go_roundg (gk - 1)
        case measure => omega
        case rel => exact ⟨k + 1, by omega, by rw [HN.out]; simp, by go_num, rfl⟩
    · obtain rfl : k = js.length := by omega
      have hdlk : decide ((js.length : Int) < (js.length : Int)) = false := by simp
      cases kp
      case true =>
        have hmk := HMK.out rfl
        rw [hmk]
        go_wp2
        go_ret
        exact ⟨rfl, HB10.out⟩
      generalize hm : missAny js js.length = m0 at *
      have hmn := HMN.out rfl
      clear hm
      go_wp2_with fail
      refine (roffs_any _ l wr HT10.out (by omega)).mono ?_
      rintro e w11 ⟨rfl, hB⟩
      have HB11 := Lib.hid (HB10.out.trans hB)
      clear hB
      cases hob : offsB l
      case true =>
        go_wp2
        go_ret
        exact ⟨rfl, HB11.out⟩
      by_cases f2 : (n : Int) < at_
      · have t2 : decide ((n : Int) < at_) = true := by simpa using f2
        clear hmn
        go_wp2
        go_ret
        exact ⟨rfl, HB11.out⟩
      · have t2 : decide ((n : Int) < at_) = false := by simpa using f2
        obtain rfl : m0 = true := hmn hob (by omega)
        clear hmn
        go_wp2
        go_ret
        exact ⟨rfl, HB11.out⟩
end Go.Proofs.Ythcdemmamggboaa
