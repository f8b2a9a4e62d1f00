import Derived.Test.YthcdemmamggboaaG3
import Derived.Test.YthcdemmamggboaaG1
import Derived.Deep.CutRange
import Derived.Deep.LoopGhost
import Derived.Test.YthcdemmamggboaaG4
import Derived.Test.YthcdemmamggboaaZTrchk
namespace Go.Proofs.Ythcdemmamggboaa
open Go.RowKit
theorem jobs_tdiv {t p : Int} (ht : 1 ≤ t) (hp : 1 ≤ p) : (t + p - 1).tdiv p = jobsF t p := by
  unfold jobsF; rw [Int.tdiv_eq_ediv_of_nonneg (by omega)]
set_option maxHeartbeats 1000000 in
theorem up_any (t p : Int) (w : World) (h1 : 1 ≤ t) (h2 : t ≤ 1000000) (h3 : 1 ≤ p) (h4 : p ≤ 1000000) : Calls Try.prog 43 #[.int .i64 t, .int .i64 p] w fun e w' => e = .returned (.int .i64 (jobsF t p)) ∧ Bel w w' := by
  have hb := jobs_bd (r := t) (p := p) h1 h3
  have ht := jobs_tdiv h1 h3
  have hne : ¬ p = 0 := by omega
  have w1 : IntKind.i64.wrap (t + p) = t + p := IntWalk.i64_in _ (by omega)
  have w2 : IntKind.i64.wrap (t + p - 1) = t + p - 1 := IntWalk.i64_in _ (by omega)
  have w3 : IntKind.i64.wrap ((t + p - 1).tdiv p) = jobsF t p := by rw [ht]; exact IntWalk.i64_in _ (by omega)
  have HR := Lib.hid ht
  go_enter Try.func43, Try.ntmps43
  go_wp2
  go_ret
  exact ⟨by first | rfl | (rw [HR.out]), Bel.refl⟩
end Go.Proofs.Ythcdemmamggboaa
namespace Go.Proofs.Ythcdemmamggboaa
open Go.RowKit
set_option maxRecDepth 100000 in
set_option maxHeartbeats 4000000 in
theorem rbusy_any (v : Value) (l : List Tsk) (w : World) (h : TsksAt w w.heap.size v l) (hl : l.length ≤ 8) (ht : ∀ t ∈ l, TOk t) :
    Calls Try.prog 32 #[v] w fun e w' => e = .returned (.int .i64 (busyM l)) ∧ Bel w w' := by
  have HH := Lib.hid h
  have HTK := Lib.hid ht
  obtain ⟨A, c, rfl, hcc⟩ := h.form
  have HM : Hid (fixN (busyF l) ((20000 : Int) + 1 - 1).toNat 1 = busyM l) := Lib.hid rfl
  clear h ht
  go_enter Try.func32, Try.ntmps32
  go_wp2
  go_loopg [3] 20000 (fun gk s3 wr => ∃ (r : Int) (z : Ext w), s3 = .int .i64 r ∧ wr = z.w ∧ 1 ≤ r ∧ (gk : Int) + r = 20001 ∧ fixN (busyF l) ((20000 : Int) + 1 - r).toNat r = busyM l)
  case atStart => exact ⟨1, ⟨w, Bel.refl⟩, rfl, rfl, by omega, by omega, HM.out⟩
  case round =>
    clear HM
    obtain ⟨r, z0, rfl, rfl, hr, hg, hfx⟩ := hrel
    obtain ⟨G, hG⟩ : ∃ G, G = gk := ⟨gk, rfl⟩
    rw [← hG] at hg
    have HFX := Lib.hid hfx
    clear hfx
    by_cases hlt : r ≤ 20000
    · have hd : decide (r ≤ 20000) = true := by simpa using hlt
      have HRES : Hid (busyF l r = sumB (fun _ => true) r 0 l) := Lib.hid rfl
      have hr1 : IntKind.i64.wrap (r + 1) = r + 1 := IntWalk.i64_in _ (by omega)
      go_wp2
      go_loopg [4, 5] l.length (fun g2 s4 s5 wr => ∃ (j : Nat) (s : Int) (z : Ext w), j + g2 = l.length ∧ s4 = .int .i64 s ∧ s5 = .int .i64 j ∧ wr = z.w ∧ 0 ≤ s ∧ s ≤ j * 20000000 ∧ sumB (fun _ => true) r s (l.drop j) = sumB (fun _ => true) r 0 l)
      case atStart => exact ⟨0, 0, z0, by omega, rfl, rfl, rfl, by omega, by omega, rfl⟩
      case round =>
        clear z0
        obtain ⟨j, s, z, hj, rfl, rfl, rfl, hs0, hs1, hdr⟩ := hrel
        obtain ⟨g2, hg2⟩ : ∃ g2, g2 = gk := ⟨gk, rfl⟩
        rw [← hg2] at hj
        by_cases hlj : j < l.length
        · have hdl : decide ((j : Int) < (l.length : Int)) = true := by simp; omega
          obtain ⟨b4, off, rfl, hb4, hA⟩ := HH.out.at_ (by omega)
          obtain ⟨sv, ⟨t0, t1, t2, t3, t4, t5, t6⟩, hS⟩ := (hA j hlj)
          rw [tsks_drop hlj] at hdr
          have hk : TOk (tskAt l j) := HTK.out _ (by simp [tskAt, List.getD, hlj])
          obtain ⟨i1, i2⟩ := job_cost hk hr hlt
          obtain ⟨i3, i4⟩ := jobs_bd (p := (tskAt l j).per) hr hk.p1
          have hp1 := hk.p1
          have hp2 := hk.p2
          have hcc1 := hk.c1
          have hcc2 : (tskAt l j).cost ≤ 1000 := by have := hk.c2; have := hk.d2; omega
          have HJ := Lib.hid fun W => up_any r (tskAt l j).per W hr (by omega) hp1 (by omega)
          have HD : Hid (sumB (fun _ => true) r (s + jobsF r (tskAt l j).per * (tskAt l j).cost) (l.drop (j + 1)) = sumB (fun _ => true) r 0 l) := Lib.hid (by rw [← hdr]; simp only [sumB, if_true])
          clear hA hdr hk hS t0 t2 t3 t5 t6
          generalize (tskAt l j).per = per at *
          generalize (tskAt l j).cost = cost at *
          have hw1 : IntKind.i64.wrap (jobsF r per * cost) = jobsF r per * cost := IntWalk.i64_in _ (by omega)
          have hw2 : IntKind.i64.wrap (s + jobsF r per * cost) = s + jobsF r per * cost := IntWalk.i64_in _ (by omega)
          generalize jobsF r per = jb at *
          go_upto_region 8 with (fail)
          (refine wp_region_ext (wb := w) (by (repeat (first | exact Ext.bel _ | exact Bel.refl | refine Bel.alloc ?_ _ | refine Bel.drew ?_ | refine Bel.drewN ?_ _))) (by kernel_rfl) (by kernel_rfl) ?_; (repeat (any_goals (first | go_big_quiet_step ((go_at_call 43; with_reducible exact ext_call (HJ.out _))) | quiet_step ((go_at_call 43; with_reducible exact ext_call (HJ.out _))) | (refine wpQuiet_step (fun K hK => ?_); go_simp; split <;> (refine hK _ ?_; clear hK K))))); all_goals (refine wpQuiet_nil ?_; intro _ hw'; obtain ⟨y, hw''⟩ := hw'; subst hw''))
          go_wp2
          go_roundg (g2 - 1)
          case measure => omega
          case rel => exact ⟨j + 1, _, y, by omega, rfl, by go_num, rfl, by omega, by push_cast; omega, HD.out⟩
        · obtain rfl : j = l.length := by omega
          have hdl : decide ((l.length : Int) < (l.length : Int)) = false := by simp
          have HD : Hid (busyF l r = s) := Lib.hid (by rw [HRES.out, ← hdr]; simp [sumB])
          clear hdr
          by_cases he : s = r
          · subst he
            have HR : Hid (busyM l = s) := Lib.hid (by rw [← HFX.out, fixN_at hlt HD.out])
            go_wp2
            go_ret
            exact ⟨ret_int HR.out.symm, z.bel⟩
          · have hne : (s == r) = false := by simpa using he
            have HN : Hid (fixN (busyF l) ((20000 : Int) + 1 - (r + 1)).toNat (r + 1) = busyM l) := Lib.hid (by rw [← fixN_on hlt (by rw [HD.out]; exact he), HFX.out])
            go_wp2
            go_roundg (G - 1)
            case measure => omega
            case rel => exact ⟨r + 1, z, rfl, rfl, by omega, by omega, HN.out⟩
    · have hd : decide (r ≤ 20000) = false := by simpa using hlt
      have HR : Hid (busyM l = 0) := Lib.hid (by rw [← HFX.out, fixN_out (by omega)])
      go_wp2
      go_ret
      exact ⟨ret_int HR.out.symm, z0.bel⟩
set_option maxRecDepth 100000 in
set_option maxHeartbeats 4000000 in
theorem rresp_any (v bv : Value) (l : List Tsk) (bl : List Int) (i : Nat) (w : World) (h : TsksAt w w.heap.size v l) (hbv : IntsAt w w.heap.size bv bl) (hl : l.length ≤ 8) (ht : ∀ t ∈ l, TOk t) (hi : i < l.length) (hbl : bl.length = l.length)
    (hb1 : 0 ≤ bl.getD i 0) (hb2 : bl.getD i 0 ≤ 1000) :
    Calls Try.prog 31 #[v, bv, .int .i64 i] w fun e w' => e = .returned (.int .i64 (respM l bl i)) ∧ Bel w w' := by
  have HH := Lib.hid h
  have HTK := Lib.hid ht
  have hki : TOk (tskAt l i) := ht _ (by simp [tskAt, List.getD, hi])
  obtain ⟨A, c, rfl, hcc⟩ := h.form
  obtain ⟨B, c3, rfl, hc3⟩ := hbv.form
  obtain ⟨bb, boff, rfl, hbb, hB⟩ := hbv.at_ (by omega)
  obtain ⟨b4, off, rfl, hb4, hA⟩ := HH.out.at_ (by omega)
  have kc := hB i (by omega)
  obtain ⟨sv, ⟨t0, d1, d2, t3, t4, t5, d6⟩, hS⟩ := (hA i hi)
  have HAA := Lib.hid hA
  clear hS d1 d2 d6 t0
  have hdl1 := hki.d1
  have hdl2 : (tskAt l i).dl ≤ 1000 := by have := hki.d2; have := hki.p2; omega
  have hc1 := hki.c1
  have hc2 : (tskAt l i).cost ≤ 1000 := by have := hki.c2; omega
  have HM : Hid (respM l bl i = if fixN (respF l ((tskAt l i).cost + bl.getD i 0) (tskAt l i).prio) (tskAt l i).dl.toNat 1 = 0 then -1 else fixN (respF l ((tskAt l i).cost + bl.getD i 0) (tskAt l i).prio) (tskAt l i).dl.toNat 1) := Lib.hid rfl
  generalize bl.getD i 0 = q at *
  generalize (tskAt l i).dl = dlI at *
  generalize (tskAt l i).cost = cI at *
  generalize (tskAt l i).prio = pI at *
  have hw0 : IntKind.i64.wrap (cI + q) = cI + q := IntWalk.i64_in _ (by omega)
  have HST : Hid (fixN (respF l (cI + q) pI) (dlI + 1 - 1).toNat 1 = fixN (respF l (cI + q) pI) dlI.toNat 1) := Lib.hid (by rw [show dlI + 1 - 1 = dlI by omega])
  clear h ht hbv hB hA hki
  go_enter Try.func31, Try.ntmps31
  go_wp2
  go_loopg [7] 1000 (fun gk s7 wr => ∃ (r : Int) (z : Ext w), s7 = .int .i64 r ∧ wr = z.w ∧ 1 ≤ r ∧ r ≤ 1001 ∧ (gk : Int) + r = 1001 ∧ fixN (respF l (cI + q) pI) (dlI + 1 - r).toNat r = fixN (respF l (cI + q) pI) dlI.toNat 1)
  case atStart => exact ⟨1, ⟨w, Bel.refl⟩, rfl, rfl, by omega, by omega, by omega, HST.out⟩
  case round =>
    clear HST
    obtain ⟨r, z0, rfl, rfl, hr, hr1, hg, hfx⟩ := hrel
    obtain ⟨G, hG⟩ : ∃ G, G = gk := ⟨gk, rfl⟩
    rw [← hG] at hg
    have HFX := Lib.hid hfx
    clear hfx
    by_cases hlt : r ≤ dlI
    · have hd : decide (r ≤ dlI) = true := by simpa using hlt
      have HRES : Hid (respF l (cI + q) pI r = sumB (aboveB pI) r (cI + q) l) := Lib.hid rfl
      have hr1 : IntKind.i64.wrap (r + 1) = r + 1 := IntWalk.i64_in _ (by omega)
      go_upto_region 4 with (fail)
      (refine wp_region_ext (wb := w) (by (repeat (first | exact Ext.bel _ | exact Bel.refl | refine Bel.alloc ?_ _ | refine Bel.drew ?_ | refine Bel.drewN ?_ _))) (by kernel_rfl) (by kernel_rfl) ?_; (repeat (any_goals (first | go_big_quiet_step (fail) | quiet_step (fail) | (refine wpQuiet_step (fun K hK => ?_); go_simp; split <;> (refine hK _ ?_; clear hK K))))); all_goals (refine wpQuiet_nil ?_; intro _ hw'; obtain ⟨y, hw''⟩ := hw'; subst hw''))
      clear z0
      go_wp2
      go_loopg [8, 9] l.length (fun g2 s8 s9 wr => ∃ (j : Nat) (s : Int) (z : Ext w), j + g2 = l.length ∧ s8 = .int .i64 s ∧ s9 = .int .i64 j ∧ wr = z.w ∧ 0 ≤ s ∧ s ≤ 2000 + j * 20000000 ∧ sumB (aboveB pI) r s (l.drop j) = sumB (aboveB pI) r (cI + q) l)
      case atStart => exact ⟨0, cI + q, y, by omega, rfl, rfl, rfl, by omega, by omega, rfl⟩
      case round =>
        clear y
        obtain ⟨j, s, z, hj, rfl, rfl, rfl, hs0, hs1, hdr⟩ := hrel
        obtain ⟨g2, hg2⟩ : ∃ g2, g2 = gk := ⟨gk, rfl⟩
        rw [← hg2] at hj
        by_cases hlj : j < l.length
        · have hdl : decide ((j : Int) < (l.length : Int)) = true := by simp; omega
          obtain ⟨sv, ⟨_, u1, _, _, u4, u5, _⟩, _⟩ := (HAA.out j hlj)
          rw [tsks_drop hlj] at hdr
          have hk : TOk (tskAt l j) := HTK.out _ (by simp [tskAt, List.getD, hlj])
          obtain ⟨i1, i2⟩ := job_cost hk hr (by omega)
          obtain ⟨i3, i4⟩ := jobs_bd (p := (tskAt l j).per) hr hk.p1
          have hp1 := hk.p1
          have hp2 := hk.p2
          have hcc1 := hk.c1
          have hcc2 : (tskAt l j).cost ≤ 1000 := by have := hk.c2; have := hk.d2; omega
          have HJ := Lib.hid fun W => up_any r (tskAt l j).per W hr (by omega) hp1 (by omega)
          by_cases hpr : pI < (tskAt l j).prio
          · have HD : Hid (sumB (aboveB pI) r (s + jobsF r (tskAt l j).per * (tskAt l j).cost) (l.drop (j + 1)) = sumB (aboveB pI) r (cI + q) l) := Lib.hid (by rw [← hdr]; simp [sumB, aboveB, hpr])
            have hdp : decide (pI < (tskAt l j).prio) = true := by simpa using hpr
            clear hdr hk hpr
            generalize (tskAt l j).per = per at *
            generalize (tskAt l j).cost = cost at *
            generalize (tskAt l j).prio = prio at *
            have hw1 : IntKind.i64.wrap (jobsF r per * cost) = jobsF r per * cost := IntWalk.i64_in _ (by omega)
            have hw2 : IntKind.i64.wrap (s + jobsF r per * cost) = s + jobsF r per * cost := IntWalk.i64_in _ (by omega)
            generalize jobsF r per = jb at *
            go_upto_region 8 with (fail)
            (refine wp_region_ext (wb := w) (by (repeat (first | exact Ext.bel _ | exact Bel.refl | refine Bel.alloc ?_ _ | refine Bel.drew ?_ | refine Bel.drewN ?_ _))) (by kernel_rfl) (by kernel_rfl) ?_; (repeat (any_goals (first | go_big_quiet_step (fail) | quiet_step (fail) | (refine wpQuiet_step (fun K hK => ?_); go_simp; split <;> (refine hK _ ?_; clear hK K))))); all_goals (refine wpQuiet_nil ?_; intro _ hw'; obtain ⟨y, hw''⟩ := hw'; subst hw''))
            go_upto_region 9 with (fail)
            (refine wp_region_ext (wb := w) (by (repeat (first | exact Ext.bel _ | exact Bel.refl | refine Bel.alloc ?_ _ | refine Bel.drew ?_ | refine Bel.drewN ?_ _))) (by kernel_rfl) (by kernel_rfl) ?_; (repeat (any_goals (first | go_big_quiet_step ((go_at_call 43; with_reducible exact ext_call (HJ.out _))) | quiet_step ((go_at_call 43; with_reducible exact ext_call (HJ.out _))) | (refine wpQuiet_step (fun K hK => ?_); go_simp; split <;> (refine hK _ ?_; clear hK K))))); all_goals (refine wpQuiet_nil ?_; intro _ hw'; obtain ⟨y, hw''⟩ := hw'; subst hw''))
            go_wp2
            go_roundg (g2 - 1)
            case measure => omega
            case rel => exact ⟨j + 1, _, y, by omega, rfl, by go_num, rfl, by omega, by push_cast; omega, HD.out⟩
          · have HD : Hid (sumB (aboveB pI) r s (l.drop (j + 1)) = sumB (aboveB pI) r (cI + q) l) := Lib.hid (by rw [← hdr]; simp [sumB, aboveB, hpr])
            have hdp : decide (pI < (tskAt l j).prio) = false := by simpa using hpr
            clear hdr hk hpr HJ i1 i2 i3 i4
            generalize (tskAt l j).prio = prio at *
            go_upto_region 8 with (fail)
            (refine wp_region_ext (wb := w) (by (repeat (first | exact Ext.bel _ | exact Bel.refl | refine Bel.alloc ?_ _ | refine Bel.drew ?_ | refine Bel.drewN ?_ _))) (by kernel_rfl) (by kernel_rfl) ?_; (repeat (any_goals (first | go_big_quiet_step (fail) | quiet_step (fail) | (refine wpQuiet_step (fun K hK => ?_); go_simp; split <;> (refine hK _ ?_; clear hK K))))); all_goals (refine wpQuiet_nil ?_; intro _ hw'; obtain ⟨y, hw''⟩ := hw'; subst hw''))
            go_wp2
            go_roundg (g2 - 1)
            case measure => omega
            case rel => exact ⟨j + 1, _, y, by omega, rfl, by go_num, rfl, by omega, by push_cast; omega, HD.out⟩
        · obtain rfl : j = l.length := by omega
          have hdl : decide ((l.length : Int) < (l.length : Int)) = false := by simp
          have HD : Hid (respF l (cI + q) pI r = s) := Lib.hid (by rw [HRES.out, ← hdr]; simp [sumB])
          clear hdr
          by_cases he : s = r
          · subst he
            have HR : Hid (respM l bl i = s) := Lib.hid (by rw [HM.out, ← HFX.out, fixN_at hlt HD.out, if_neg (by omega)])
            go_wp2
            go_ret
            exact ⟨ret_int HR.out.symm, z.bel⟩
          · have hne : (s == r) = false := by simpa using he
            have HN : Hid (fixN (respF l (cI + q) pI) (dlI + 1 - (r + 1)).toNat (r + 1) = fixN (respF l (cI + q) pI) dlI.toNat 1) := Lib.hid (by rw [← fixN_on hlt (by rw [HD.out]; exact he), HFX.out])
            go_wp2
            go_roundg (G - 1)
            case measure => omega
            case rel => exact ⟨r + 1, z, rfl, rfl, by omega, by omega, by omega, HN.out⟩
    · have hd : decide (r ≤ dlI) = false := by simpa using hlt
      have HR : Hid (respM l bl i = -1) := Lib.hid (by rw [HM.out, ← HFX.out, fixN_out (by omega), if_pos rfl])
      go_wp2
      go_ret
      exact ⟨ret_int HR.out.symm, z0.bel⟩
end Go.Proofs.Ythcdemmamggboaa
namespace Go.Proofs.Ythcdemmamggboaa
open Go.RowKit
def respR (l : List Tsk) (j : Nat) : List Int := (List.range j).map (respM l (blocks l))
def okB (r : Int) : Bool := decide (0 ≤ r)
theorem respR_succ (l : List Tsk) (j : Nat) : respR l (j + 1) = respR l j ++ [respM l (blocks l) j] := by simp [respR, List.range_succ]
theorem respR_all (l : List Tsk) (j : Nat) : (respR l (j + 1)).all okB = ((respR l j).all okB && okB (respM l (blocks l) j)) := by rw [respR_succ]; simp
theorem fixedM_ok {l : List Tsk} (h : rchk l = 0) : fixedM l = (respR l l.length, (respR l l.length).all okB, 0) := by unfold fixedM; rw [if_pos h]; rfl
theorem fixedM_no {l : List Tsk} (h : rchk l ≠ 0) : fixedM l = ([], false, rchk l) := by unfold fixedM; rw [if_neg h]
/-- what Fixed hands back -/
def FixedPost (l : List Tsk) (w : World) (e : Ending) (w' : World) : Prop :=
  ∃ v, e = .returned (.tuple #[v, .bool (fixedM l).2.1, .int .i64 (fixedM l).2.2]) ∧ IntsAt w' w'.heap.size v (fixedM l).1 ∧ Bel w w' ∧ ∀ k, v.ownBlock = some k → w.heap.size ≤ k
theorem respM_sign (l : List Tsk) (bl : List Int) (i : Nat) : respM l bl i = -1 ∨ (1 ≤ respM l bl i ∧ respM l bl i ≤ (tskAt l i).dl.toNat) := by
  unfold respM
  rcases fixN_bd (f := respF l ((tskAt l i).cost + bl.getD i 0) (tskAt l i).prio) (tskAt l i).dl.toNat 1 (by omega) with h | ⟨h1, h2, _⟩
  · rw [if_pos h]; exact .inl rfl
  · rw [if_neg (by omega)]; exact .inr ⟨h1, by omega⟩
set_option maxRecDepth 100000 in
set_option maxHeartbeats 8000000 in
theorem rfixed_any (v : Value) (l : List Tsk) (w : World) (h : TsksAt w w.heap.size v l) (hs : Sized l) : Calls Try.prog 16 #[v] w (FixedPost l w) := by
  have HBK := Lib.hid (rblocking_any v l w h hs)
  by_cases h0 : rchk l = 0
  · obtain ⟨hl8, hok⟩ := rchk_ok h0
    have hmd := fixedM_ok h0
    have HT := Lib.hid (toks_of h0)
    have HBD := Lib.hid (fun i (hi : i < l.length) => blocks_bd h0 hi)
    have HH := Lib.hid h
    obtain ⟨A, c, rfl, hlc⟩ := h.form
    have HMD := Lib.hid hmd
    have H0 := Lib.hid h0
    clear h hs hok hmd h0
    go_enter Try.func16, Try.ntmps16
    go_wp2_with fail
    refine HBK.out.mono ?_
    rintro e w2 ⟨vb, rfl, hvb, hb2, _⟩
    rw [H0.out] at hvb ⊢
    rw [if_pos rfl] at hvb
    obtain ⟨x0, rfl⟩ := ext_of hb2
    have HVB := Lib.hid hvb
    obtain ⟨Ab, cb, rfl, hcb⟩ := hvb.form
    rw [blocks_len] at *
    clear hvb HBK hb2 hcb
    go_wp2
    go_loopw [7, 8, 9] (fun s7 s8 s9 wr => ∃ (j : Nat) (v7 : Value) (z : Ext x0.w), j ≤ l.length ∧ s7 = v7 ∧ s8 = .bool ((respR l j).all okB) ∧ s9 = .int .i64 j ∧ wr = z.w ∧ z.w.ownsRow x0.w.heap.size 2 1 v7 j ((respR l j).map (Value.int .i64))) (fun _ _ s9 _ => l.length - (intOf s9).toNat)
    case atStart => exact ⟨0, _, ⟨x0.w, Bel.refl⟩, by omega, rfl, rfl, rfl, rfl, World.ownsRow_nil x0.w _ _ _⟩
    case round =>
      obtain ⟨j, v7, z, hj, rfl, rfl, rfl, rfl, hown⟩ := hrel
      by_cases hlt : j < l.length
      · have hdl : decide ((j : Int) < (l.length : Int)) = true := by simp; omega
        have HC := Lib.hid (rresp_any _ _ l (blocks l) j z.w (HH.out.keep (x0.bel.trans z.bel).keeps (x0.bel.trans z.bel).le) (HVB.out.keep z.bel.keeps z.bel.le) hl8 HT.out hlt (blocks_len l) (HBD.out j hlt).1 (HBD.out j hlt).2)
        have HOWN := Lib.hid hown
        have hall := respR_all l j
        have hsc := respR_succ l j
        have hsg := respM_sign l (blocks l) j
        generalize respM l (blocks l) j = r at *
        have HALL := Lib.hid hall
        have HSC := Lib.hid hsc
        clear hall hsc hown
        obtain ⟨j0, hj0, hy0, hy1, hy2⟩ := info_parts Try.infoLong
        go_upto_region 10 with (first | (go_at_call 31; (with_reducible refine (HC.out).mono ?_); rintro e w2 ⟨rfl, hb2⟩; have HB2 := Lib.hid hb2; clear hb2))
        have hown := ownsRow_bel HOWN.out HB2.out
        have hle : x0.w.heap.size ≤ w2.heap.size := (z.bel.trans HB2.out).le
        generalize hab : (respR l j).all okB = ab at *
        clear hab
        go_upto_region 11 with (at_builtin; go_must (refine wpList_append_own _ rfl _ _ 37 rfl x0.w.heap.size 2 j0 _ 1 8 Try.underlying37 hj0 hy0 hy1 hy2 rfl (by decide) _ _ _ rfl (hown.alloc _) ⟨w2.heap.size, 0, none⟩ 1 1 [.int .i64 r] rfl rfl ?d1 ?d2 ?d3 ?d4 ?d5 ?_))
        case d1 => exact cells_new _ [.int .i64 r] _
        case d2 => intro u hu; simp at hu; subst hu; rfl
        case d3 => unfold maxLen; omega
        case d4 => omega
        case d5 => simp; omega
        intro v8 w3 hown3 hg3 _
        have hbel := bel_grown ((z.bel.trans HB2.out).alloc _) (hown.alloc _) hg3
        have HOW3 : Hid (w3.ownsRow x0.w.heap.size 2 1 v8 (j + 1) ((respR l (j + 1)).map (Value.int .i64))) := Lib.hid (by rw [HSC.out, List.map_append]; exact hown3)
        have HBL := Lib.hid hbel
        clear hown3 hg3 hbel hown hj0 hy0 hy1 hy2 hsg
        by_cases hr0 : 0 ≤ r
        · have hdr : decide (0 ≤ r) = true := by simpa using hr0
          have hok : okB r = true := hdr
          rw [hok] at HALL
          cases ab
          all_goals
            go_wp2
            go_roundw
            case rel => exact ⟨j + 1, _, ⟨w3, HBL.out⟩, by omega, rfl, by rw [HALL.out]; rfl, by go_num, rfl, HOW3.out⟩
            case measure => simp [intOf]; omega
        · have hdr : decide (0 ≤ r) = false := by simpa using hr0
          have hok : okB r = false := hdr
          rw [hok] at HALL
          cases ab
          all_goals
            go_wp2
            go_roundw
            case rel => exact ⟨j + 1, _, ⟨w3, HBL.out⟩, by omega, rfl, by rw [HALL.out]; rfl, by go_num, rfl, HOW3.out⟩
            case measure => simp [intOf]; omega
      · obtain rfl : j = l.length := by omega
        have hdl : decide ((l.length : Int) < (l.length : Int)) = false := by simp
        have hI : IntsAt z.w z.w.heap.size _ (respR l l.length) := IntsAt.of_own (by rw [show (respR l l.length).length = l.length by simp [respR]]; exact hown)
        obtain ⟨A3, c3, rfl, _⟩ := hI.form
        have HI := Lib.hid hI
        have hob := hown.lt
        have HOB := Lib.hid hob
        have hx0 := x0.bel.le
        clear hI hown hob
        rw [show (respR l l.length).length = l.length by simp [respR]] at *
        go_wp2
        go_ret3
        exact ⟨_, by rw [HMD.out]; rfl, by rw [HMD.out]; exact HI.out, x0.bel.trans z.bel, fun k hk => by have := (HOB.out k hk).1; omega⟩
  · have HMD := Lib.hid (fixedM_no h0)
    have hne : (rchk l == 0) = false := by simpa using h0
    obtain ⟨A, c, rfl, hlc⟩ := h.form
    clear h hs
    go_enter Try.func16, Try.ntmps16
    go_wp2_with fail
    refine HBK.out.mono ?_
    rintro e w2 ⟨vb, rfl, hvb, hb2, _⟩
    rw [if_neg h0] at hvb
    obtain ⟨Ab, cb, rfl, hcb⟩ := hvb.form
    have HB2 := Lib.hid hb2
    clear hvb HBK hb2 hcb
    generalize rchk l = ck at *
    go_wp2
    go_ret3
    exact ⟨_, by rw [HMD.out]; rfl, by rw [HMD.out]; exact ⟨none, 0, rfl, Nat.le_refl _, fun h => absurd h (by simp)⟩, HB2.out, fun k hk => by simp [Value.ownBlock] at hk⟩
end Go.Proofs.Ythcdemmamggboaa
namespace Go.Proofs.Ythcdemmamggboaa
open Go.RowKit
set_option maxRecDepth 100000 in
set_option maxHeartbeats 4000000 in
theorem due_any (v : Value) (l : List Tsk) (t : Int) (w : World) (h : TsksAt w w.heap.size v l) (hl : l.length ≤ 8) (ht : ∀ x ∈ l, TOk x) (h1 : 1 ≤ t) (h2 : t ≤ 20000) :
    Calls Try.prog 33 #[v, .int .i64 t] w fun e w' => e = .returned (.bool (dueB l t)) ∧ Bel w w' := by
  obtain ⟨A, c, rfl, hc, hA⟩ := h
  have HA := Lib.hid hA
  have HTK := Lib.hid ht
  clear hA ht
  go_enter Try.func33, Try.ntmps33
  go_wp2
  go_loopg [5] l.length (fun gk s5 wr => ∃ (j : Nat) (z : Ext w), j + gk = l.length ∧ s5 = .int .i64 j ∧ wr = z.w ∧ (l.drop j).any (dueT t) = dueB l t)
  case atStart => exact ⟨0, ⟨w, Bel.refl⟩, by omega, rfl, rfl, rfl⟩
  case round =>
    obtain ⟨j, z, hj, rfl, rfl, hd⟩ := hrel
    by_cases hlt : j < l.length
    · have hdl : decide ((j : Int) < (l.length : Int)) = true := by simp; omega
      rw [tsks_drop hlt] at hd
      obtain ⟨b, off, rfl, hb, hA⟩ := HA.out (by omega)
      obtain ⟨sv, ⟨t0, u1, t2, u3, t4, t5, t6⟩, hS⟩ := (hA j hlt)
      have hk : TOk (tskAt l j) := HTK.out _ (by simp [tskAt, List.getD, hlt])
      have hp1 := hk.p1
      have hp2 := hk.p2
      have hd1 := hk.d1
      have hd2 : (tskAt l j).dl ≤ 1000 := by have := hk.d2; omega
      have hds : dueT t (tskAt l j) = (decide ((tskAt l j).dl ≤ t) && decide ((t - (tskAt l j).dl) % (tskAt l j).per = 0)) := rfl
      rw [List.any_cons, hds] at hd
      clear hA hS t0 t2 t4 t5 t6 hk hds
      generalize (tskAt l j).per = per at *
      generalize (tskAt l j).dl = dl at *
      by_cases hle : dl ≤ t
      · have hdp : decide (dl ≤ t) = true := by simpa using hle
        have hne : ¬ per = 0 := by omega
        have hw1 : IntKind.i64.wrap (t - dl) = t - dl := IntWalk.i64_in _ (by omega)
        have hmm : (t - dl).tmod per = (t - dl) % per := Int.tmod_eq_emod_of_nonneg (by omega)
        have hm0 := Int.emod_nonneg (t - dl) hne
        have hm1 := Int.emod_lt_of_pos (t - dl) (show 0 < per by omega)
        have hw2 : IntKind.i64.wrap ((t - dl).tmod per) = (t - dl) % per := by rw [hmm]; exact IntWalk.i64_in _ (by omega)
        rw [hdp, Bool.true_and] at hd
        by_cases hz : (t - dl) % per = 0
        · rw [hz] at hd hw2 hmm
          have HD : Hid (dueB l t = true) := Lib.hid (by rw [← hd]; simp)
          clear hd hm0 hm1 hz
          go_upto_region 4 with (fail)
          (refine wp_region_ext (wb := w) (by (repeat (first | exact Ext.bel _ | exact Bel.refl | refine Bel.alloc ?_ _ | refine Bel.drew ?_ | refine Bel.drewN ?_ _))) (by kernel_rfl) (by kernel_rfl) ?_; (repeat (any_goals (first | go_big_quiet_step (fail) | quiet_step (fail) | (refine wpQuiet_step (fun K hK => ?_); go_simp; split <;> (refine hK _ ?_; clear hK K))))); all_goals (refine wpQuiet_nil ?_; intro _ hw'; obtain ⟨y, hw''⟩ := hw'; subst hw''))
          go_wp2
          go_ret
          exact ⟨ret_bool HD.out.symm, y.bel⟩
        · have hzz : ((t - dl) % per == 0) = false := by simpa using hz
          have HD : Hid ((l.drop (j + 1)).any (dueT t) = dueB l t) := Lib.hid (by rw [← hd, decide_eq_false hz, Bool.false_or])
          generalize (t - dl) % per = m at *
          clear hd hm0 hm1
          go_upto_region 4 with (fail)
          (refine wp_region_ext (wb := w) (by (repeat (first | exact Ext.bel _ | exact Bel.refl | refine Bel.alloc ?_ _ | refine Bel.drew ?_ | refine Bel.drewN ?_ _))) (by kernel_rfl) (by kernel_rfl) ?_; (repeat (any_goals (first | go_big_quiet_step (fail) | quiet_step (fail) | (refine wpQuiet_step (fun K hK => ?_); go_simp; split <;> (refine hK _ ?_; clear hK K))))); all_goals (refine wpQuiet_nil ?_; intro _ hw'; obtain ⟨y, hw''⟩ := hw'; subst hw''))
          go_wp2
          go_roundg (gk - 1)
          case measure => omega
          case rel => exact ⟨j + 1, y, by omega, by go_num, rfl, HD.out⟩
      · have hdp : decide (dl ≤ t) = false := by simpa using hle
        have HD : Hid ((l.drop (j + 1)).any (dueT t) = dueB l t) := Lib.hid (by rw [← hd, hdp, Bool.false_and, Bool.false_or])
        clear hd
        go_upto_region 4 with (fail)
        (refine wp_region_ext (wb := w) (by (repeat (first | exact Ext.bel _ | exact Bel.refl | refine Bel.alloc ?_ _ | refine Bel.drew ?_ | refine Bel.drewN ?_ _))) (by kernel_rfl) (by kernel_rfl) ?_; (repeat (any_goals (first | go_big_quiet_step (fail) | quiet_step (fail) | (refine wpQuiet_step (fun K hK => ?_); go_simp; split <;> (refine hK _ ?_; clear hK K))))); all_goals (refine wpQuiet_nil ?_; intro _ hw'; obtain ⟨y, hw''⟩ := hw'; subst hw''))
        go_wp2
        go_roundg (gk - 1)
        case measure => omega
        case rel => exact ⟨j + 1, y, by omega, by go_num, rfl, HD.out⟩
    · obtain rfl : j = l.length := by omega
      have hdl : decide ((l.length : Int) < (l.length : Int)) = false := by simp
      have HD : Hid (dueB l t = false) := Lib.hid (by rw [← hd]; simp)
      clear hd
      go_wp2
      go_ret
      exact ⟨ret_bool HD.out.symm, z.bel⟩
set_option maxRecDepth 100000 in
set_option maxHeartbeats 4000000 in
theorem demand_any (v : Value) (l : List Tsk) (t : Int) (w : World) (h : TsksAt w w.heap.size v l) (hl : l.length ≤ 8) (ht : ∀ x ∈ l, TOk x) (h1 : 1 ≤ t) (h2 : t ≤ 20000) :
    Calls Try.prog 34 #[v, .int .i64 t] w fun e w' => e = .returned (.int .i64 (demL t 0 l)) ∧ Bel w w' := by
  obtain ⟨A, c, rfl, hc, hA⟩ := h
  have HA := Lib.hid hA
  have HTK := Lib.hid ht
  clear hA ht
  go_enter Try.func34, Try.ntmps34
  go_wp2
  go_loopg [5, 6] l.length (fun gk s5 s6 wr => ∃ (j : Nat) (s : Int) (z : Ext w), j + gk = l.length ∧ s5 = .int .i64 s ∧ s6 = .int .i64 j ∧ wr = z.w ∧ 0 ≤ s ∧ s ≤ j * 20000000 ∧ demL t s (l.drop j) = demL t 0 l)
  case atStart => exact ⟨0, 0, ⟨w, Bel.refl⟩, by omega, rfl, rfl, rfl, by omega, by omega, rfl⟩
  case round =>
    obtain ⟨j, s, z, hj, rfl, rfl, rfl, hs0, hs1, hd⟩ := hrel
    by_cases hlt : j < l.length
    · have hdl : decide ((j : Int) < (l.length : Int)) = true := by simp; omega
      rw [tsks_drop hlt] at hd
      obtain ⟨b, off, rfl, hb, hA⟩ := HA.out (by omega)
      obtain ⟨sv, ⟨t0, u1, t2, u3, u4, t5, t6⟩, hS⟩ := (hA j hlt)
      have hk : TOk (tskAt l j) := HTK.out _ (by simp [tskAt, List.getD, hlt])
      have hp1 := hk.p1
      have hp2 := hk.p2
      have hd1 := hk.d1
      have hd2 : (tskAt l j).dl ≤ 1000 := by have := hk.d2; omega
      have hc1 := hk.c1
      have hc2 : (tskAt l j).cost ≤ 1000 := by have := hk.c2; omega
      obtain ⟨hb0, hb1⟩ := cnt_bd hk (t := t) (by omega) h2
      obtain ⟨hb2, hb3⟩ := cnt_cost hk (t := t) (by omega) h2
      have hcd : cntU (tskAt l j) t = if (tskAt l j).dl ≤ t then (t - (tskAt l j).dl) / (tskAt l j).per + 1 else 0 := rfl
      simp only [demL] at hd
      rw [hcd] at hd hb0 hb1 hb2 hb3
      clear hA hS t0 t2 t5 t6 hk hcd
      generalize (tskAt l j).per = per at *
      generalize (tskAt l j).dl = dl at *
      generalize (tskAt l j).cost = cost at *
      by_cases hle : dl ≤ t
      · have hdp : decide (dl ≤ t) = true := by simpa using hle
        rw [if_pos hle] at hd hb0 hb1 hb2 hb3
        have hne : ¬ per = 0 := by omega
        have hw1 : IntKind.i64.wrap (t - dl) = t - dl := IntWalk.i64_in _ (by omega)
        have hmm : (t - dl).tdiv per = (t - dl) / per := Int.tdiv_eq_ediv_of_nonneg (by omega)
        generalize (t - dl) / per = q at *
        have hw2 : IntKind.i64.wrap ((t - dl).tdiv per) = q := by rw [hmm]; exact IntWalk.i64_in _ (by omega)
        have hw3 : IntKind.i64.wrap (q + 1) = q + 1 := IntWalk.i64_in _ (by omega)
        have hw4 : IntKind.i64.wrap ((q + 1) * cost) = (q + 1) * cost := IntWalk.i64_in _ (by omega)
        have hw5 : IntKind.i64.wrap (s + (q + 1) * cost) = s + (q + 1) * cost := IntWalk.i64_in _ (by omega)
        have HD := Lib.hid hd
        clear hd
        go_upto_region 6 with (fail)
        (refine wp_region_ext (wb := w) (by (repeat (first | exact Ext.bel _ | exact Bel.refl | refine Bel.alloc ?_ _ | refine Bel.drew ?_ | refine Bel.drewN ?_ _))) (by kernel_rfl) (by kernel_rfl) ?_; (repeat (any_goals (first | go_big_quiet_step (fail) | quiet_step (fail) | (refine wpQuiet_step (fun K hK => ?_); go_simp; split <;> (refine hK _ ?_; clear hK K))))); all_goals (refine wpQuiet_nil ?_; intro _ hw'; obtain ⟨y, hw''⟩ := hw'; subst hw''))
        go_wp2
        go_roundg (gk - 1)
        case measure => omega
        case rel => exact ⟨j + 1, _, y, by omega, rfl, by go_num, rfl, by omega, by push_cast; omega, HD.out⟩
      · have hdp : decide (dl ≤ t) = false := by simpa using hle
        rw [if_neg hle, Int.zero_mul, Int.add_zero] at hd
        have HD := Lib.hid hd
        clear hd hb0 hb1 hb2 hb3
        go_wp2
        go_roundg (gk - 1)
        case measure => omega
        case rel => exact ⟨j + 1, _, z, by omega, rfl, by go_num, rfl, by omega, by push_cast; omega, HD.out⟩
    · obtain rfl : j = l.length := by omega
      have hdl : decide ((l.length : Int) < (l.length : Int)) = false := by simp
      have HD : Hid (demL t 0 l = s) := Lib.hid (by rw [← hd]; simp [demL])
      clear hd
      go_wp2
      go_ret
      exact ⟨ret_int HD.out.symm, z.bel⟩
theorem demandM_no {l : List Tsk} (h : ¬ rchk l = 0) : demandM l = (false, 0, rchk l) := by simp [demandM, h]
theorem demandM_secs {l : List Tsk} (h : rchk l = 0) (hs : secsB l = true) : demandM l = (false, 0, 2) := by simp [demandM, h, hs]
theorem demandM_bad {l : List Tsk} (h : rchk l = 0) (hs : secsB l = false) (hd : ¬ dmM l = 0) : demandM l = (false, dmM l, 0) := by simp [demandM, h, hs, hd]
theorem demandM_long {l : List Tsk} (h : rchk l = 0) (hs : secsB l = false) (hd : dmM l = 0) (hb : busyM l = 0) : demandM l = (false, 0, 3) := by simp [demandM, h, hs, hd, hb]
theorem demandM_ok {l : List Tsk} (h : rchk l = 0) (hs : secsB l = false) (hd : dmM l = 0) (hb : ¬ busyM l = 0) : demandM l = (true, 0, 0) := by simp [demandM, h, hs, hd, hb]
set_option maxRecDepth 100000 in
set_option maxHeartbeats 4000000 in
theorem rDemand_any (v : Value) (l : List Tsk) (w : World) (h : TsksAt w w.heap.size v l) (hs : Sized l) :
    Calls Try.prog 19 #[v] w fun e w' => e = .returned (.tuple #[.bool (demandM l).1, .int .i64 (demandM l).2.1, .int .i64 (demandM l).2.2]) ∧ Bel w w' := by
  have HC := rcheck_any v l w h hs.len hs.parts
  have HS := fun (x : Ext w) => rsecs_any v l x.w (h.keep x.bel.keeps x.bel.le) hs.len
  obtain ⟨A, c, rfl, hc⟩ := h.form
  by_cases h0 : rchk l = 0
  case neg =>
    have HR := Lib.hid (demandM_no h0)
    replace HC := Lib.hid HC
    generalize rchk l = ck at *
    have hne : (ck == 0) = false := by simpa using h0
    clear h hs HS
    go_enter Try.func19, Try.ntmps19
    go_wp2_with (first | (go_at_call 14; (with_reducible refine (HC.out).mono ?_); rintro e w2 ⟨rfl, hb2⟩; obtain ⟨x, rfl⟩ : ∃ x : Ext w, w2 = x.w := ext_of (hb2.after (by (repeat (first | exact Ext.bel _ | exact Bel.refl | refine Bel.alloc ?_ _ | refine Bel.drew ?_ | refine Bel.drewN ?_ _)))); clear hb2))
    go_ret3
    exact ⟨by rw [HR.out]; rfl, x.bel⟩
  rw [h0] at HC
  replace HC := Lib.hid HC
  by_cases hsc : secsB l = true
  · have HR := Lib.hid (demandM_secs h0 hsc)
    rw [hsc] at HS
    replace HS := Lib.hid HS
    clear h hs h0 hsc
    go_enter Try.func19, Try.ntmps19
    go_wp2_with (first | (go_at_call 14; (with_reducible refine (HC.out).mono ?_); rintro e w2 ⟨rfl, hb2⟩; obtain ⟨x, rfl⟩ : ∃ x : Ext w, w2 = x.w := ext_of (hb2.after (by (repeat (first | exact Ext.bel _ | exact Bel.refl | refine Bel.alloc ?_ _ | refine Bel.drew ?_ | refine Bel.drewN ?_ _)))); clear hb2) | (go_at_call 17; (with_reducible refine (HS.out _).mono ?_); rintro e w2 ⟨rfl, hb2⟩; obtain ⟨x, rfl⟩ : ∃ x : Ext w, w2 = x.w := ext_of (hb2.after (by (repeat (first | exact Ext.bel _ | exact Bel.refl | refine Bel.alloc ?_ _ | refine Bel.drew ?_ | refine Bel.drewN ?_ _)))); clear hb2))
    go_ret3
    exact ⟨by rw [HR.out]; rfl, x.bel⟩
  have hs0 : secsB l = false := by simpa using hsc
  rw [hs0] at HS
  replace HS := Lib.hid HS
  obtain ⟨hl8, _⟩ := rchk_ok h0
  have HT := Lib.hid (toks_of h0)
  have HH := Lib.hid h
  have hB := fun (x : Ext w) => rbusy_any _ l x.w (h.keep x.bel.keeps x.bel.le) hl8 (toks_of h0)
  have HB := Lib.hid hB
  have HR1 := Lib.hid (fun hd => demandM_bad h0 hs0 hd)
  have HR2 := Lib.hid (fun hd hb => demandM_long h0 hs0 hd hb)
  have HR3 := Lib.hid (fun hd hb => demandM_ok h0 hs0 hd hb)
  obtain ⟨lb1, lb2⟩ := lastM_bd l
  have HST : Hid (firstN (badB l) (lastM l + 1 - 1).toNat 1 = dmM l) := Lib.hid (by rw [show lastM l + 1 - 1 = lastM l by omega]; rfl)
  have HLM : Hid (lastM l = if busyM l = 0 then 20000 else busyM l) := Lib.hid rfl
  clear h hs h0 hsc hs0 hB
  go_enter Try.func19, Try.ntmps19
  go_upto_region 7 with (first | (go_at_call 14; (with_reducible refine (HC.out).mono ?_); rintro e w2 ⟨rfl, hb2⟩; obtain ⟨x, rfl⟩ : ∃ x : Ext w, w2 = x.w := ext_of (hb2.after (by (repeat (first | exact Ext.bel _ | exact Bel.refl | refine Bel.alloc ?_ _ | refine Bel.drew ?_ | refine Bel.drewN ?_ _)))); clear hb2) | (go_at_call 17; (with_reducible refine (HS.out _).mono ?_); rintro e w2 ⟨rfl, hb2⟩; obtain ⟨x, rfl⟩ : ∃ x : Ext w, w2 = x.w := ext_of (hb2.after (by (repeat (first | exact Ext.bel _ | exact Bel.refl | refine Bel.alloc ?_ _ | refine Bel.drew ?_ | refine Bel.drewN ?_ _)))); clear hb2) | (go_at_call 32; (with_reducible refine (HB.out _).mono ?_); rintro e w2 ⟨rfl, hb2⟩; obtain ⟨x, rfl⟩ : ∃ x : Ext w, w2 = x.w := ext_of (hb2.after (by (repeat (first | exact Ext.bel _ | exact Bel.refl | refine Bel.alloc ?_ _ | refine Bel.drew ?_ | refine Bel.drewN ?_ _)))); clear hb2))
  clear HC HS HB
  by_cases hm0 : busyM l = 0
  · have HM0 := Lib.hid hm0
    have hlm := HLM.out
    rw [if_pos hm0] at hlm
    rw [hlm] at HST lb1 lb2
    rw [hm0]
    clear hm0 hlm HLM
    go_upto_region 11 with (fail)
    go_loopg [8] 20000 (fun gk s8 wr => ∃ (t : Int) (z : Ext w), s8 = .int .i64 t ∧ wr = z.w ∧ 1 ≤ t ∧ (gk : Int) + t = 20001 ∧ firstN (badB l) (20000 + 1 - t).toNat t = dmM l)
    case atStart => exact ⟨1, x, rfl, rfl, by omega, by omega, HST.out⟩
    case round =>
      clear x HST
      obtain ⟨t, z, rfl, rfl, ht, hg, hfx⟩ := hrel
      by_cases hlt : t ≤ 20000
      · have hd : decide (t ≤ 20000) = true := by simp; omega
        have hr1 : IntKind.i64.wrap (t + 1) = t + 1 := IntWalk.i64_in _ (by omega)
        have hdu := fun (W : World) (hW : Bel w W) => due_any _ l t W (HH.out.keep hW.keeps hW.le) hl8 HT.out ht (by omega)
        have hde := fun (W : World) (hW : Bel w W) => demand_any _ l t W (HH.out.keep hW.keeps hW.le) hl8 HT.out ht (by omega)
        have hbb : badB l t = (dueB l t && decide (t < demL t 0 l)) := rfl
        cases hb : dueB l t
        · rw [hb] at hdu
          have HDU := Lib.hid hdu
          have HN : Hid (firstN (badB l) (20000 + 1 - (t + 1)).toNat (t + 1) = dmM l) := Lib.hid (by rw [← first_on hlt (by rw [hbb, hb]; rfl), hfx])
          clear hdu hde hbb hb hfx
          go_wp2_with (first | (go_at_call 33; (with_reducible refine (HDU.out _ (by (repeat (first | exact Ext.bel _ | exact Bel.refl | refine Bel.alloc ?_ _ | refine Bel.drew ?_ | refine Bel.drewN ?_ _)))).mono ?_); rintro e w2 ⟨rfl, hb2⟩; obtain ⟨x, rfl⟩ : ∃ x : Ext w, w2 = x.w := ext_of (hb2.after (by (repeat (first | exact Ext.bel _ | exact Bel.refl | refine Bel.alloc ?_ _ | refine Bel.drew ?_ | refine Bel.drewN ?_ _)))); clear hb2))
          go_roundg (gk - 1)
          case measure => omega
          case rel => exact ⟨t + 1, x, rfl, rfl, by omega, by omega, HN.out⟩
        · rw [hb] at hdu
          have HDU := Lib.hid hdu
          have HDE := Lib.hid hde
          by_cases hq : t < demL t 0 l
          · have HX : Hid (dmM l = t) := Lib.hid (by rw [← hfx, first_at hlt (by rw [hbb, hb, decide_eq_true hq]; rfl)])
            have hdq : decide (t < demL t 0 l) = true := by simpa using hq
            have hR := HR1.out
            rw [HX.out] at hR
            have HR := Lib.hid (hR (by omega))
            clear hdu hde hbb hb hfx hq hR HR1
            generalize demL t 0 l = q at *
            go_wp2_with (first | (go_at_call 33; (with_reducible refine (HDU.out _ (by (repeat (first | exact Ext.bel _ | exact Bel.refl | refine Bel.alloc ?_ _ | refine Bel.drew ?_ | refine Bel.drewN ?_ _)))).mono ?_); rintro e w2 ⟨rfl, hb2⟩; obtain ⟨x, rfl⟩ : ∃ x : Ext w, w2 = x.w := ext_of (hb2.after (by (repeat (first | exact Ext.bel _ | exact Bel.refl | refine Bel.alloc ?_ _ | refine Bel.drew ?_ | refine Bel.drewN ?_ _)))); clear hb2) | (go_at_call 34; (with_reducible refine (HDE.out _ (by (repeat (first | exact Ext.bel _ | exact Bel.refl | refine Bel.alloc ?_ _ | refine Bel.drew ?_ | refine Bel.drewN ?_ _)))).mono ?_); rintro e w2 ⟨rfl, hb2⟩; obtain ⟨x, rfl⟩ : ∃ x : Ext w, w2 = x.w := ext_of (hb2.after (by (repeat (first | exact Ext.bel _ | exact Bel.refl | refine Bel.alloc ?_ _ | refine Bel.drew ?_ | refine Bel.drewN ?_ _)))); clear hb2))
            go_ret3
            exact ⟨by rw [HR.out]; rfl, x.bel⟩
          · have HN : Hid (firstN (badB l) (20000 + 1 - (t + 1)).toNat (t + 1) = dmM l) := Lib.hid (by rw [← first_on hlt (by rw [hbb, hb, decide_eq_false hq]; rfl), hfx])
            have hdq : decide (t < demL t 0 l) = false := by simpa using hq
            clear hdu hde hbb hb hfx hq
            generalize demL t 0 l = q at *
            go_wp2_with (first | (go_at_call 33; (with_reducible refine (HDU.out _ (by (repeat (first | exact Ext.bel _ | exact Bel.refl | refine Bel.alloc ?_ _ | refine Bel.drew ?_ | refine Bel.drewN ?_ _)))).mono ?_); rintro e w2 ⟨rfl, hb2⟩; obtain ⟨x, rfl⟩ : ∃ x : Ext w, w2 = x.w := ext_of (hb2.after (by (repeat (first | exact Ext.bel _ | exact Bel.refl | refine Bel.alloc ?_ _ | refine Bel.drew ?_ | refine Bel.drewN ?_ _)))); clear hb2) | (go_at_call 34; (with_reducible refine (HDE.out _ (by (repeat (first | exact Ext.bel _ | exact Bel.refl | refine Bel.alloc ?_ _ | refine Bel.drew ?_ | refine Bel.drewN ?_ _)))).mono ?_); rintro e w2 ⟨rfl, hb2⟩; obtain ⟨x, rfl⟩ : ∃ x : Ext w, w2 = x.w := ext_of (hb2.after (by (repeat (first | exact Ext.bel _ | exact Bel.refl | refine Bel.alloc ?_ _ | refine Bel.drew ?_ | refine Bel.drewN ?_ _)))); clear hb2))
            go_roundg (gk - 1)
            case measure => omega
            case rel => exact ⟨t + 1, x, rfl, rfl, by omega, by omega, HN.out⟩
      · have hd : decide (t ≤ 20000) = false := by simp; omega
        have HX : Hid (dmM l = 0) := Lib.hid (by rw [← hfx, first_out (by omega)])
        have HR := Lib.hid (HR2.out HX.out HM0.out)
        clear hfx HR1 HR2 HR3
        go_wp2
        go_ret3
        exact ⟨by rw [HR.out]; rfl, z.bel⟩
  · have HM0 := Lib.hid hm0
    have hlm := HLM.out
    rw [if_neg hm0] at hlm
    rw [hlm] at HST lb1 lb2
    clear hlm HLM
    have HR3' : Hid (dmM l = 0 → demandM l = (true, 0, 0)) := Lib.hid (fun h => HR3.out h HM0.out)
    clear HR2 HR3 HM0
    have hme : (busyM l == 0) = false := by simpa using hm0
    clear hm0
    generalize busyM l = mo at *
    go_upto_region 11 with (fail)
    go_loopg [8] 20000 (fun gk s8 wr => ∃ (t : Int) (z : Ext w), s8 = .int .i64 t ∧ wr = z.w ∧ 1 ≤ t ∧ (gk : Int) + t = 20001 ∧ firstN (badB l) (mo + 1 - t).toNat t = dmM l)
    case atStart => exact ⟨1, x, rfl, rfl, by omega, by omega, HST.out⟩
    case round =>
      clear x HST
      obtain ⟨t, z, rfl, rfl, ht, hg, hfx⟩ := hrel
      by_cases hlt : t ≤ mo
      · have hd : decide (t ≤ mo) = true := by simp; omega
        have hr1 : IntKind.i64.wrap (t + 1) = t + 1 := IntWalk.i64_in _ (by omega)
        have hdu := fun (W : World) (hW : Bel w W) => due_any _ l t W (HH.out.keep hW.keeps hW.le) hl8 HT.out ht (by omega)
        have hde := fun (W : World) (hW : Bel w W) => demand_any _ l t W (HH.out.keep hW.keeps hW.le) hl8 HT.out ht (by omega)
        have hbb : badB l t = (dueB l t && decide (t < demL t 0 l)) := rfl
        cases hb : dueB l t
        · rw [hb] at hdu
          have HDU := Lib.hid hdu
          have HN : Hid (firstN (badB l) (mo + 1 - (t + 1)).toNat (t + 1) = dmM l) := Lib.hid (by rw [← first_on hlt (by rw [hbb, hb]; rfl), hfx])
          clear hdu hde hbb hb hfx
          go_wp2_with (first | (go_at_call 33; (with_reducible refine (HDU.out _ (by (repeat (first | exact Ext.bel _ | exact Bel.refl | refine Bel.alloc ?_ _ | refine Bel.drew ?_ | refine Bel.drewN ?_ _)))).mono ?_); rintro e w2 ⟨rfl, hb2⟩; obtain ⟨x, rfl⟩ : ∃ x : Ext w, w2 = x.w := ext_of (hb2.after (by (repeat (first | exact Ext.bel _ | exact Bel.refl | refine Bel.alloc ?_ _ | refine Bel.drew ?_ | refine Bel.drewN ?_ _)))); clear hb2))
          go_roundg (gk - 1)
          case measure => omega
          case rel => exact ⟨t + 1, x, rfl, rfl, by omega, by omega, HN.out⟩
        · rw [hb] at hdu
          have HDU := Lib.hid hdu
          have HDE := Lib.hid hde
          by_cases hq : t < demL t 0 l
          · have HX : Hid (dmM l = t) := Lib.hid (by rw [← hfx, first_at hlt (by rw [hbb, hb, decide_eq_true hq]; rfl)])
            have hdq : decide (t < demL t 0 l) = true := by simpa using hq
            have hR := HR1.out
            rw [HX.out] at hR
            have HR := Lib.hid (hR (by omega))
            clear hdu hde hbb hb hfx hq hR HR1
            generalize demL t 0 l = q at *
            go_wp2_with (first | (go_at_call 33; (with_reducible refine (HDU.out _ (by (repeat (first | exact Ext.bel _ | exact Bel.refl | refine Bel.alloc ?_ _ | refine Bel.drew ?_ | refine Bel.drewN ?_ _)))).mono ?_); rintro e w2 ⟨rfl, hb2⟩; obtain ⟨x, rfl⟩ : ∃ x : Ext w, w2 = x.w := ext_of (hb2.after (by (repeat (first | exact Ext.bel _ | exact Bel.refl | refine Bel.alloc ?_ _ | refine Bel.drew ?_ | refine Bel.drewN ?_ _)))); clear hb2) | (go_at_call 34; (with_reducible refine (HDE.out _ (by (repeat (first | exact Ext.bel _ | exact Bel.refl | refine Bel.alloc ?_ _ | refine Bel.drew ?_ | refine Bel.drewN ?_ _)))).mono ?_); rintro e w2 ⟨rfl, hb2⟩; obtain ⟨x, rfl⟩ : ∃ x : Ext w, w2 = x.w := ext_of (hb2.after (by (repeat (first | exact Ext.bel _ | exact Bel.refl | refine Bel.alloc ?_ _ | refine Bel.drew ?_ | refine Bel.drewN ?_ _)))); clear hb2))
            go_ret3
            exact ⟨by rw [HR.out]; rfl, x.bel⟩
          · have HN : Hid (firstN (badB l) (mo + 1 - (t + 1)).toNat (t + 1) = dmM l) := Lib.hid (by rw [← first_on hlt (by rw [hbb, hb, decide_eq_false hq]; rfl), hfx])
            have hdq : decide (t < demL t 0 l) = false := by simpa using hq
            clear hdu hde hbb hb hfx hq
            generalize demL t 0 l = q at *
            go_wp2_with (first | (go_at_call 33; (with_reducible refine (HDU.out _ (by (repeat (first | exact Ext.bel _ | exact Bel.refl | refine Bel.alloc ?_ _ | refine Bel.drew ?_ | refine Bel.drewN ?_ _)))).mono ?_); rintro e w2 ⟨rfl, hb2⟩; obtain ⟨x, rfl⟩ : ∃ x : Ext w, w2 = x.w := ext_of (hb2.after (by (repeat (first | exact Ext.bel _ | exact Bel.refl | refine Bel.alloc ?_ _ | refine Bel.drew ?_ | refine Bel.drewN ?_ _)))); clear hb2) | (go_at_call 34; (with_reducible refine (HDE.out _ (by (repeat (first | exact Ext.bel _ | exact Bel.refl | refine Bel.alloc ?_ _ | refine Bel.drew ?_ | refine Bel.drewN ?_ _)))).mono ?_); rintro e w2 ⟨rfl, hb2⟩; obtain ⟨x, rfl⟩ : ∃ x : Ext w, w2 = x.w := ext_of (hb2.after (by (repeat (first | exact Ext.bel _ | exact Bel.refl | refine Bel.alloc ?_ _ | refine Bel.drew ?_ | refine Bel.drewN ?_ _)))); clear hb2))
            go_roundg (gk - 1)
            case measure => omega
            case rel => exact ⟨t + 1, x, rfl, rfl, by omega, by omega, HN.out⟩
      · have hd : decide (t ≤ mo) = false := by simp; omega
        have HX : Hid (dmM l = 0) := Lib.hid (by rw [← hfx, first_out (by omega)])
        have HR := Lib.hid (HR3'.out HX.out)
        clear hfx HR1 HR3'
        go_wp2
        go_ret3
        exact ⟨by rw [HR.out]; rfl, z.bel⟩
end Go.Proofs.Ythcdemmamggboaa
