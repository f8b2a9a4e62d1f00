import Derived.Test.YtbilfpoghohddaaZSleaf
namespace Go.Proofs.Ytbilfpoghohddaa
open Go.RowKit
set_option maxRecDepth 100000 in
set_option maxHeartbeats 4000000 in
theorem rbusy_any (v : Value) (l : List Tsk) (w : World) (h : TsksAt w w.heap.size v l) (hl : l.length ≤ 8) (ht : ∀ t ∈ l, TOk t) :
    Calls Try.prog 55 #[v] w fun e w' => e = .returned (.int .i64 (busyM l)) ∧ Bel w w' := by
  have HH := Lib.hid h
  have HTK := Lib.hid ht
  obtain ⟨A, c, rfl, hcc⟩ := h.form
  have HM : Hid (fixN (busyF l) ((20000 : Int) + 1 - 1).toNat 1 = busyM l) := Lib.hid rfl
  clear h ht
  go_enter Try.func55, Try.ntmps55
  go_wp2
  go_loopg [3] 20000 (fun gk s3 wr => ∃ (r : Int) (z : Ext w), s3 = .int .i64 r ∧ wr = z.w ∧ 1 ≤ r ∧ (gk : Int) + r = 20001 ∧ fixN (busyF l) ((20000 : Int) + 1 - r).toNat r = busyM l)
  case atStart => exact ⟨1, ⟨w, Bel.refl⟩, rfl, rfl, by omega, by omega, HM.out⟩
  case round =>
    clear HM
    obtain ⟨r, z0, rfl, rfl, hr, hg, hfx⟩ := hrel
    obtain ⟨G, hG⟩ : ∃ G, G = gk := ⟨gk, rfl⟩
    rw [← hG] at hg
    have HFX := Lib.hid hfx
    clear hfx
    by_cases hlt : r ≤ 20000
    · have hd : decide (r ≤ 20000) = true := by simpa using hlt
      have HRES : Hid (busyF l r = sumB (fun _ => true) r 0 l) := Lib.hid rfl
      have hr1 : IntKind.i64.wrap (r + 1) = r + 1 := IntWalk.i64_in _ (by omega)
      go_wp2
      go_loopg [4, 5] l.length (fun g2 s4 s5 wr => ∃ (j : Nat) (s : Int) (z : Ext w), j + g2 = l.length ∧ s4 = .int .i64 s ∧ s5 = .int .i64 j ∧ wr = z.w ∧ 0 ≤ s ∧ s ≤ j * 20000000 ∧ sumB (fun _ => true) r s (l.drop j) = sumB (fun _ => true) r 0 l)
      case atStart => exact ⟨0, 0, z0, by omega, rfl, rfl, rfl, by omega, by omega, rfl⟩
      case round =>
        clear z0
        obtain ⟨j, s, z, hj, rfl, rfl, rfl, hs0, hs1, hdr⟩ := hrel
        obtain ⟨g2, hg2⟩ : ∃ g2, g2 = gk := ⟨gk, rfl⟩
        rw [← hg2] at hj
        by_cases hlj : j < l.length
        · have hdl : decide ((j : Int) < (l.length : Int)) = true := by simp; omega
          obtain ⟨b4, off, rfl, hb4, hA⟩ := HH.out.at_ (by omega)
          obtain ⟨sv, ⟨t0, t1, t2, t3, t4, t5, t6⟩, hS⟩ := (hA j hlj)
          rw [tsks_drop hlj] at hdr
          have hk : TOk (tskAt l j) := HTK.out _ (by simp [tskAt, List.getD, hlj])
          obtain ⟨i1, i2⟩ := job_cost hk hr hlt
          obtain ⟨i3, i4⟩ := jobs_bd (p := (tskAt l j).per) hr hk.p1
          have hp1 := hk.p1
          have hp2 := hk.p2
          have hcc1 := hk.c1
          have hcc2 : (tskAt l j).cost ≤ 1000 := by have := hk.c2; have := hk.d2; omega
          have HJ := Lib.hid fun W => up_any r (tskAt l j).per W hr (by omega) hp1 (by omega)
          have HD : Hid (sumB (fun _ => true) r (s + jobsF r (tskAt l j).per * (tskAt l j).cost) (l.drop (j + 1)) = sumB (fun _ => true) r 0 l) := Lib.hid (by rw [← hdr]; simp only [sumB, if_true])
          clear hA hdr hk hS t0 t2 t3 t5 t6
          generalize (tskAt l j).per = per at *
          generalize (tskAt l j).cost = cost at *
          have hw1 : IntKind.i64.wrap (jobsF r per * cost) = jobsF r per * cost := IntWalk.i64_in _ (by omega)
          have hw2 : IntKind.i64.wrap (s + jobsF r per * cost) = s + jobsF r per * cost := IntWalk.i64_in _ (by omega)
          generalize jobsF r per = jb at *
          go_upto_region 8 with (fail)
          (refine wp_region_ext (wb := w) (by (repeat (first | exact Ext.bel _ | exact Bel.refl | refine Bel.alloc ?_ _ | refine Bel.drew ?_ | refine Bel.drewN ?_ _))) (by kernel_rfl) (by kernel_rfl) ?_; (repeat (any_goals (first | go_big_quiet_step ((go_at_call 78; with_reducible exact ext_call (HJ.out _))) | quiet_step ((go_at_call 78; with_reducible exact ext_call (HJ.out _))) | (refine wpQuiet_step (fun K hK => ?_); go_simp; split <;> (refine hK _ ?_; clear hK K))))); all_goals (refine wpQuiet_nil ?_; intro _ hw'; obtain ⟨y, hw''⟩ := hw'; subst hw''))
          go_wp2
          go_roundg (g2 - 1)
          case measure => omega
          case rel => exact ⟨j + 1, _, y, by omega, rfl, by go_num, rfl, by omega, by push_cast; omega, HD.out⟩
        · obtain rfl : j = l.length := by omega
          have hdl : decide ((l.length : Int) < (l.length : Int)) = false := by simp
          have HD : Hid (busyF l r = s) := Lib.hid (by rw [HRES.out, ← hdr]; simp [sumB])
          clear hdr
          by_cases he : s = r
          · subst he
            have HR : Hid (busyM l = s) := Lib.hid (by rw [← HFX.out, fixN_at hlt HD.out])
            go_wp2
            go_ret
            exact ⟨ret_int HR.out.symm, z.bel⟩
          · have hne : (s == r) = false := by simpa using he
            have HN : Hid (fixN (busyF l) ((20000 : Int) + 1 - (r + 1)).toNat (r + 1) = busyM l) := Lib.hid (by rw [← fixN_on hlt (by rw [HD.out]; exact he), HFX.out])
            go_wp2
            go_roundg (G - 1)
            case measure => omega
            case rel => exact ⟨r + 1, z, rfl, rfl, by omega, by omega, HN.out⟩
    · have hd : decide (r ≤ 20000) = false := by simpa using hlt
      have HR : Hid (busyM l = 0) := Lib.hid (by rw [← HFX.out, fixN_out (by omega)])
      go_wp2
      go_ret
      exact ⟨ret_int HR.out.symm, z0.bel⟩
set_option maxRecDepth 100000 in
set_option maxHeartbeats 4000000 in
theorem rresp_any (v bv : Value) (l : List Tsk) (bl : List Int) (i : Nat) (w : World) (h : TsksAt w w.heap.size v l) (hbv : IntsAt w w.heap.size bv bl) (hl : l.length ≤ 8) (ht : ∀ t ∈ l, TOk t) (hi : i < l.length) (hbl : bl.length = l.length)
    (hb1 : 0 ≤ bl.getD i 0) (hb2 : bl.getD i 0 ≤ 1000) :
    Calls Try.prog 53 #[v, bv, .int .i64 i] w fun e w' => e = .returned (.int .i64 (respM l bl i)) ∧ Bel w w' := by
  have HH := Lib.hid h
  have HTK := Lib.hid ht
  have hki : TOk (tskAt l i) := ht _ (by simp [tskAt, List.getD, hi])
  obtain ⟨A, c, rfl, hcc⟩ := h.form
  obtain ⟨B, c3, rfl, hc3⟩ := hbv.form
  obtain ⟨bb, boff, rfl, hbb, hB⟩ := hbv.at_ (by omega)
  obtain ⟨b4, off, rfl, hb4, hA⟩ := HH.out.at_ (by omega)
  have kc := hB i (by omega)
  obtain ⟨sv, ⟨t0, d1, d2, t3, t4, t5, d6⟩, hS⟩ := (hA i hi)
  have HAA := Lib.hid hA
  clear hS d1 d2 d6 t0
  have hdl1 := hki.d1
  have hdl2 : (tskAt l i).dl ≤ 1000 := by have := hki.d2; have := hki.p2; omega
  have hc1 := hki.c1
  have hc2 : (tskAt l i).cost ≤ 1000 := by have := hki.c2; omega
  have HM : Hid (respM l bl i = if fixN (respF l ((tskAt l i).cost + bl.getD i 0) (tskAt l i).prio) (tskAt l i).dl.toNat 1 = 0 then -1 else fixN (respF l ((tskAt l i).cost + bl.getD i 0) (tskAt l i).prio) (tskAt l i).dl.toNat 1) := Lib.hid rfl
  generalize bl.getD i 0 = q at *
  generalize (tskAt l i).dl = dlI at *
  generalize (tskAt l i).cost = cI at *
  generalize (tskAt l i).prio = pI at *
  have hw0 : IntKind.i64.wrap (cI + q) = cI + q := IntWalk.i64_in _ (by omega)
  have HST : Hid (fixN (respF l (cI + q) pI) (dlI + 1 - 1).toNat 1 = fixN (respF l (cI + q) pI) dlI.toNat 1) := Lib.hid (by rw [show dlI + 1 - 1 = dlI by omega])
  clear h ht hbv hB hA hki
  go_enter Try.func53, Try.ntmps53
  go_wp2
  go_loopg [7] 1000 (fun gk s7 wr => ∃ (r : Int) (z : Ext w), s7 = .int .i64 r ∧ wr = z.w ∧ 1 ≤ r ∧ r ≤ 1001 ∧ (gk : Int) + r = 1001 ∧ fixN (respF l (cI + q) pI) (dlI + 1 - r).toNat r = fixN (respF l (cI + q) pI) dlI.toNat 1)
  case atStart => exact ⟨1, ⟨w, Bel.refl⟩, rfl, rfl, by omega, by omega, by omega, HST.out⟩
  case round =>
    clear HST
    obtain ⟨r, z0, rfl, rfl, hr, hr1, hg, hfx⟩ := hrel
    obtain ⟨G, hG⟩ : ∃ G, G = gk := ⟨gk, rfl⟩
    rw [← hG] at hg
    have HFX := Lib.hid hfx
    clear hfx
    by_cases hlt : r ≤ dlI
    · have hd : decide (r ≤ dlI) = true := by simpa using hlt
      have HRES : Hid (respF l (cI + q) pI r = sumB (aboveB pI) r (cI + q) l) := Lib.hid rfl
      have hr1 : IntKind.i64.wrap (r + 1) = r + 1 := IntWalk.i64_in _ (by omega)
      go_upto_region 4 with (fail)
      (refine wp_region_ext (wb := w) (by (repeat (first | exact Ext.bel _ | exact Bel.refl | refine Bel.alloc ?_ _ | refine Bel.drew ?_ | refine Bel.drewN ?_ _))) (by kernel_rfl) (by kernel_rfl) ?_; (repeat (any_goals (first | go_big_quiet_step (fail) | quiet_step (fail) | (refine wpQuiet_step (fun K hK => ?_); go_simp; split <;> (refine hK _ ?_; clear hK K))))); all_goals (refine wpQuiet_nil ?_; intro _ hw'; obtain ⟨y, hw''⟩ := hw'; subst hw''))
      clear z0
      go_wp2
      go_loopg [8, 9] l.length (fun g2 s8 s9 wr => ∃ (j : Nat) (s : Int) (z : Ext w), j + g2 = l.length ∧ s8 = .int .i64 s ∧ s9 = .int .i64 j ∧ wr = z.w ∧ 0 ≤ s ∧ s ≤ 2000 + j * 20000000 ∧ sumB (aboveB pI) r s (l.drop j) = sumB (aboveB pI) r (cI + q) l)
      case atStart => exact ⟨0, cI + q, y, by omega, rfl, rfl, rfl, by omega, by omega, rfl⟩
      case round =>
        clear y
        obtain ⟨j, s, z, hj, rfl, rfl, rfl, hs0, hs1, hdr⟩ := hrel
        obtain ⟨g2, hg2⟩ : ∃ g2, g2 = gk := ⟨gk, rfl⟩
        rw [← hg2] at hj
        by_cases hlj : j < l.length
        · have hdl : decide ((j : Int) < (l.length : Int)) = true := by simp; omega
          obtain ⟨sv, ⟨_, u1, _, _, u4, u5, _⟩, _⟩ := (HAA.out j hlj)
          rw [tsks_drop hlj] at hdr
          have hk : TOk (tskAt l j) := HTK.out _ (by simp [tskAt, List.getD, hlj])
          obtain ⟨i1, i2⟩ := job_cost hk hr (by omega)
          obtain ⟨i3, i4⟩ := jobs_bd (p := (tskAt l j).per) hr hk.p1
          have hp1 := hk.p1
          have hp2 := hk.p2
          have hcc1 := hk.c1
          have hcc2 : (tskAt l j).cost ≤ 1000 := by have := hk.c2; have := hk.d2; omega
          have HJ := Lib.hid fun W => up_any r (tskAt l j).per W hr (by omega) hp1 (by omega)
          by_cases hpr : pI < (tskAt l j).prio
          · have HD : Hid (sumB (aboveB pI) r (s + jobsF r (tskAt l j).per * (tskAt l j).cost) (l.drop (j + 1)) = sumB (aboveB pI) r (cI + q) l) := Lib.hid (by rw [← hdr]; simp [sumB, aboveB, hpr])
            have hdp : decide (pI < (tskAt l j).prio) = true := by simpa using hpr
            clear hdr hk hpr
            generalize (tskAt l j).per = per at *
            generalize (tskAt l j).cost = cost at *
            generalize (tskAt l j).prio = prio at *
            have hw1 : IntKind.i64.wrap (jobsF r per * cost) = jobsF r per * cost := IntWalk.i64_in _ (by omega)
            have hw2 : IntKind.i64.wrap (s + jobsF r per * cost) = s + jobsF r per * cost := IntWalk.i64_in _ (by omega)
            generalize jobsF r per = jb at *
            go_upto_region 8 with (fail)
            (refine wp_region_ext (wb := w) (by (repeat (first | exact Ext.bel _ | exact Bel.refl | refine Bel.alloc ?_ _ | refine Bel.drew ?_ | refine Bel.drewN ?_ _))) (by kernel_rfl) (by kernel_rfl) ?_; (repeat (any_goals (first | go_big_quiet_step (fail) | quiet_step (fail) | (refine wpQuiet_step (fun K hK => ?_); go_simp; split <;> (refine hK _ ?_; clear hK K))))); all_goals (refine wpQuiet_nil ?_; intro _ hw'; obtain ⟨y, hw''⟩ := hw'; subst hw''))
            go_upto_region 9 with (fail)
            (refine wp_region_ext (wb := w) (by (repeat (first | exact Ext.bel _ | exact Bel.refl | refine Bel.alloc ?_ _ | refine Bel.drew ?_ | refine Bel.drewN ?_ _))) (by kernel_rfl) (by kernel_rfl) ?_; (repeat (any_goals (first | go_big_quiet_step ((go_at_call 78; with_reducible exact ext_call (HJ.out _))) | quiet_step ((go_at_call 78; with_reducible exact ext_call (HJ.out _))) | (refine wpQuiet_step (fun K hK => ?_); go_simp; split <;> (refine hK _ ?_; clear hK K))))); all_goals (refine wpQuiet_nil ?_; intro _ hw'; obtain ⟨y, hw''⟩ := hw'; subst hw''))
            go_wp2
            go_roundg (g2 - 1)
            case measure => omega
            case rel => exact ⟨j + 1, _, y, by omega, rfl, by go_num, rfl, by omega, by push_cast; omega, HD.out⟩
          · have HD : Hid (sumB (aboveB pI) r s (l.drop (j + 1)) = sumB (aboveB pI) r (cI + q) l) := Lib.hid (by rw [← hdr]; simp [sumB, aboveB, hpr])
            have hdp : decide (pI < (tskAt l j).prio) = false := by simpa using hpr
            clear hdr hk hpr HJ i1 i2 i3 i4
            generalize (tskAt l j).prio = prio at *
            go_upto_region 8 with (fail)
            (refine wp_region_ext (wb := w) (by (repeat (first | exact Ext.bel _ | exact Bel.refl | refine Bel.alloc ?_ _ | refine Bel.drew ?_ | refine Bel.drewN ?_ _))) (by kernel_rfl) (by kernel_rfl) ?_; (repeat (any_goals (first | go_big_quiet_step (fail) | quiet_step (fail) | (refine wpQuiet_step (fun K hK => ?_); go_simp; split <;> (refine hK _ ?_; clear hK K))))); all_goals (refine wpQuiet_nil ?_; intro _ hw'; obtain ⟨y, hw''⟩ := hw'; subst hw''))
            go_wp2
            go_roundg (g2 - 1)
            case measure => omega
            case rel => exact ⟨j + 1, _, y, by omega, rfl, by go_num, rfl, by omega, by push_cast; omega, HD.out⟩
        · obtain rfl : j = l.length := by omega
          have hdl : decide ((l.length : Int) < (l.length : Int)) = false := by simp
          have HD : Hid (respF l (cI + q) pI r = s) := Lib.hid (by rw [HRES.out, ← hdr]; simp [sumB])
          clear hdr
          by_cases he : s = r
          · subst he
            have HR : Hid (respM l bl i = s) := Lib.hid (by rw [HM.out, ← HFX.out, fixN_at hlt HD.out, if_neg (by omega)])
            go_wp2
            go_ret
            exact ⟨ret_int HR.out.symm, z.bel⟩
          · have hne : (s == r) = false := by simpa using he
            have HN : Hid (fixN (respF l (cI + q) pI) (dlI + 1 - (r + 1)).toNat (r + 1) = fixN (respF l (cI + q) pI) dlI.toNat 1) := Lib.hid (by rw [← fixN_on hlt (by rw [HD.out]; exact he), HFX.out])
            go_wp2
            go_roundg (G - 1)
            case measure => omega
            case rel => exact ⟨r + 1, z, rfl, rfl, by omega, by omega, by omega, HN.out⟩
    · have hd : decide (r ≤ dlI) = false := by simpa using hlt
      have HR : Hid (respM l bl i = -1) := Lib.hid (by rw [HM.out, ← HFX.out, fixN_out (by omega), if_pos rfl])
      go_wp2
      go_ret
      exact ⟨ret_int HR.out.symm, z0.bel⟩
end Go.Proofs.Ytbilfpoghohddaa
