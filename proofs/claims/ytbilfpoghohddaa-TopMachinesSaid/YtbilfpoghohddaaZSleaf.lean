import Derived.Test.YtbilfpoghohddaaG3
import Derived.Test.YtbilfpoghohddaaG1
import Derived.Deep.CutRange
import Derived.Deep.LoopGhost
namespace Go.Proofs.Ytbilfpoghohddaa
open Go.RowKit
theorem jobs_tdiv {t p : Int} (ht : 1 ≤ t) (hp : 1 ≤ p) : (t + p - 1).tdiv p = jobsF t p := by
  unfold jobsF; rw [Int.tdiv_eq_ediv_of_nonneg (by omega)]
set_option maxHeartbeats 1000000 in
theorem jobs_any (t p : Int) (w : World) (h1 : 1 ≤ t) (h2 : t ≤ 1000000) (h3 : 1 ≤ p) (h4 : p ≤ 1000000) : Calls Try.prog 61 #[.int .i64 t, .int .i64 p] w fun e w' => e = .returned (.int .i64 (jobsF t p)) ∧ Bel w w' := by
  have hb := jobs_bd (r := t) (p := p) h1 h3
  have ht := jobs_tdiv h1 h3
  have hne : ¬ p = 0 := by omega
  have w1 : IntKind.i64.wrap (t + p) = t + p := IntWalk.i64_in _ (by omega)
  have w2 : IntKind.i64.wrap (t + p - 1) = t + p - 1 := IntWalk.i64_in _ (by omega)
  have w3 : IntKind.i64.wrap ((t + p - 1).tdiv p) = jobsF t p := by rw [ht]; exact IntWalk.i64_in _ (by omega)
  have HR := Lib.hid ht
  go_enter Try.func61, Try.ntmps61
  go_wp2
  go_ret
  exact ⟨by first | rfl | (rw [HR.out]), Bel.refl⟩
set_option maxHeartbeats 1000000 in
theorem up_any (t p : Int) (w : World) (h1 : 1 ≤ t) (h2 : t ≤ 1000000) (h3 : 1 ≤ p) (h4 : p ≤ 1000000) : Calls Try.prog 78 #[.int .i64 t, .int .i64 p] w fun e w' => e = .returned (.int .i64 (jobsF t p)) ∧ Bel w w' := by
  have hb := jobs_bd (r := t) (p := p) h1 h3
  have ht := jobs_tdiv h1 h3
  have hne : ¬ p = 0 := by omega
  have w1 : IntKind.i64.wrap (t + p) = t + p := IntWalk.i64_in _ (by omega)
  have w2 : IntKind.i64.wrap (t + p - 1) = t + p - 1 := IntWalk.i64_in _ (by omega)
  have w3 : IntKind.i64.wrap ((t + p - 1).tdiv p) = jobsF t p := by rw [ht]; exact IntWalk.i64_in _ (by omega)
  have HR := Lib.hid ht
  go_enter Try.func78, Try.ntmps78
  go_wp2
  go_ret
  exact ⟨by first | rfl | (rw [HR.out]), Bel.refl⟩
set_option maxRecDepth 100000 in
set_option maxHeartbeats 4000000 in
theorem resp1_any (v bv : Value) (l : List Tsk) (bl : List Int) (i : Nat) (r cst pri : Int) (tb kb ib lb : Nat) (w : World) (h : TsksAt w w.heap.size v l) (hbv : IntsAt w w.heap.size bv bl) (hl : l.length ≤ 8) (ht : ∀ t ∈ l, TOk t)
    (hi : i < bl.length) (hi2 : bl.length ≤ 1000000) (htb : tb < w.heap.size) (ht4 : w.cell? ⟨tb, 4, none⟩ = some (.int .i64 cst)) (ht5 : w.cell? ⟨tb, 5, none⟩ = some (.int .i64 pri))
    (hkb : kb < w.heap.size) (hk0 : w.cell? ⟨kb, 0, none⟩ = some bv) (hib : ib < w.heap.size) (hi0 : w.cell? ⟨ib, 0, none⟩ = some (.int .i64 i)) (hlb : lb < w.heap.size) (hl0 : w.cell? ⟨lb, 0, none⟩ = some v)
    (hr : 1 ≤ r) (hr2 : r ≤ 20000) (hc1 : 1 ≤ cst) (hc2 : cst ≤ 1000) (hb1 : 0 ≤ bl.getD i 0) (hb2 : bl.getD i 0 ≤ 1000) :
    Calls Try.prog 60 #[.int .i64 r, .pointer (some ⟨tb, 0, none⟩), .pointer (some ⟨kb, 0, none⟩), .pointer (some ⟨ib, 0, none⟩), .pointer (some ⟨lb, 0, none⟩)] w fun e w' => e = .returned (.int .i64 (respF l (cst + bl.getD i 0) pri r)) ∧ Bel w w' := by
  have HH := Lib.hid h
  have HTK := Lib.hid ht
  obtain ⟨A, c, rfl, hcc⟩ := h.form
  obtain ⟨B, c3, rfl, hc3⟩ := hbv.form
  obtain ⟨bb, boff, rfl, hbb, hB⟩ := hbv.at_ (by omega)
  have kc := hB i hi
  have HRES : Hid (respF l (cst + bl.getD i 0) pri r = sumB (aboveB pri) r (cst + bl.getD i 0) l) := Lib.hid rfl
  generalize bl.getD i 0 = q at *
  have hw0 : IntKind.i64.wrap (cst + q) = cst + q := IntWalk.i64_in _ (by omega)
  clear h ht hbv hB
  go_enter Try.func60, Try.ntmps60
  go_upto_region 1 with (fail)
  (refine wp_region_ext (wb := w) (by (repeat (first | exact Ext.bel _ | exact Bel.refl | refine Bel.alloc ?_ _ | refine Bel.drew ?_ | refine Bel.drewN ?_ _))) (by kernel_rfl) (by kernel_rfl) ?_; (repeat (any_goals (first | go_big_quiet_step (fail) | quiet_step (fail) | (refine wpQuiet_step (fun K hK => ?_); go_simp; split <;> (refine hK _ ?_; clear hK K))))); all_goals (refine wpQuiet_nil ?_; intro _ hw'; obtain ⟨y, hw''⟩ := hw'; subst hw''))
  go_wp2
  go_loopw [7, 19] (fun s7 s19 wr => ∃ (j : Nat) (s : Int) (z : Ext w), j ≤ l.length ∧ s7 = .int .i64 s ∧ s19 = .int .i64 j ∧ wr = z.w ∧ 0 ≤ s ∧ s ≤ 2000 + j * 20000000 ∧ sumB (aboveB pri) r s (l.drop j) = sumB (aboveB pri) r (cst + q) l) (fun _ s19 _ => l.length - (intOf s19).toNat)
  case atStart => exact ⟨0, cst + q, y, by omega, rfl, rfl, rfl, by omega, by omega, rfl⟩
  case round =>
    clear hw0 kc hk0 hi0
    obtain ⟨j, s, z, hj, rfl, rfl, rfl, hs0, hs1, hd⟩ := hrel
    by_cases hlt : j < l.length
    · have hdl : decide ((j : Int) < (l.length : Int)) = true := by simp; omega
      obtain ⟨b4, off, rfl, hb4, hA⟩ := HH.out.at_ (by omega)
      obtain ⟨sv, ⟨t0, t1, t2, t3, t4, t5, t6⟩, hS⟩ := (hA j hlt)
      obtain ⟨A2, c2, rfl, _⟩ := hS.form
      rw [tsks_drop hlt] at hd
      have hk : TOk (tskAt l j) := HTK.out _ (by simp [tskAt, List.getD, hlt])
      obtain ⟨i1, i2⟩ := job_cost hk hr hr2
      obtain ⟨i3, i4⟩ := jobs_bd (p := (tskAt l j).per) hr hk.p1
      have hp1 := hk.p1
      have hp2 := hk.p2
      have hcc1 := hk.c1
      have hcc2 : (tskAt l j).cost ≤ 1000 := by have := hk.c2; have := hk.d2; omega
      have HJ := Lib.hid fun W => jobs_any r (tskAt l j).per W hr (by omega) hp1 (by omega)
      by_cases hpr : pri < (tskAt l j).prio
      · have HD : Hid (sumB (aboveB pri) r (s + jobsF r (tskAt l j).per * (tskAt l j).cost) (l.drop (j + 1)) = sumB (aboveB pri) r (cst + q) l) := Lib.hid (by rw [← hd]; simp [sumB, aboveB, hpr])
        have hdp : decide (pri < (tskAt l j).prio) = true := by simpa using hpr
        clear hA hd hk hS hpr
        generalize (tskAt l j).name = nm at *
        generalize (tskAt l j).per = per at *
        generalize (tskAt l j).off = of at *
        generalize (tskAt l j).dl = dl at *
        generalize (tskAt l j).cost = cost at *
        generalize (tskAt l j).prio = prio at *
        have hw1 : IntKind.i64.wrap (jobsF r per * cost) = jobsF r per * cost := IntWalk.i64_in _ (by omega)
        have hw2 : IntKind.i64.wrap (s + jobsF r per * cost) = s + jobsF r per * cost := IntWalk.i64_in _ (by omega)
        generalize jobsF r per = jb at *
        go_upto_region 5 with (fail)
        (generalize hW : World.alloc _ _ = wb; have q0_0 := (congrArg (fun W : World => W.cell? ⟨z.w.heap.size, 0, none⟩) hW).symm; simp [go_sem] at q0_0; have q0_1 := (congrArg (fun W : World => W.cell? ⟨z.w.heap.size, 1, none⟩) hW).symm; simp [go_sem] at q0_1; have q0_2 := (congrArg (fun W : World => W.cell? ⟨z.w.heap.size, 2, none⟩) hW).symm; simp [go_sem] at q0_2; have q0_3 := (congrArg (fun W : World => W.cell? ⟨z.w.heap.size, 3, none⟩) hW).symm; simp [go_sem] at q0_3; have q0_4 := (congrArg (fun W : World => W.cell? ⟨z.w.heap.size, 4, none⟩) hW).symm; simp [go_sem] at q0_4; have q0_5 := (congrArg (fun W : World => W.cell? ⟨z.w.heap.size, 5, none⟩) hW).symm; simp [go_sem] at q0_5; have q0_6 := (congrArg (fun W : World => W.cell? ⟨z.w.heap.size, 6, none⟩) hW).symm; simp [go_sem] at q0_6; have qz0 : z.w.heap.size < wb.heap.size := (by rw [← hW]; simp [go_sem]; try omega); have HBW : Hid (Bel z.w wb) := Lib.hid (by rw [← hW]; (repeat (first | exact Ext.bel _ | exact Bel.refl | refine Bel.alloc ?_ _ | refine Bel.drew ?_ | refine Bel.drewN ?_ _))); clear hW; have hkw := HBW.out.cells)
        have g5 := (hkw tb 5 (Nat.lt_of_lt_of_le htb z.bel.le)).trans ((z.bel.cells tb 5 htb).trans ht5)
        have htbw : tb < wb.heap.size := Nat.lt_of_lt_of_le (Nat.lt_of_lt_of_le htb z.bel.le) HBW.out.le
        clear hkw
        go_upto_region 6 with (fail)
        (refine wp_region_ext (wb := wb) (by (repeat (first | exact Ext.bel _ | exact Bel.refl | refine Bel.alloc ?_ _ | refine Bel.drew ?_ | refine Bel.drewN ?_ _))) (by kernel_rfl) (by kernel_rfl) ?_; (repeat (any_goals (first | go_big_quiet_step ((go_at_call 61; with_reducible exact ext_call (HJ.out _))) | quiet_step ((go_at_call 61; with_reducible exact ext_call (HJ.out _))) | (refine wpQuiet_step (fun K hK => ?_); go_simp; split <;> (refine hK _ ?_; clear hK K))))); all_goals (refine wpQuiet_nil ?_; intro _ hw'; obtain ⟨y, hw''⟩ := hw'; subst hw''))
        go_wp2
        go_roundw
        case rel => exact ⟨j + 1, _, ⟨y.w, (z.bel.trans HBW.out).trans y.bel⟩, by omega, rfl, by go_num, rfl, by omega, by push_cast; omega, HD.out⟩
        case measure => simp [intOf]; omega
      · have HD : Hid (sumB (aboveB pri) r s (l.drop (j + 1)) = sumB (aboveB pri) r (cst + q) l) := Lib.hid (by rw [← hd]; simp [sumB, aboveB, hpr])
        have hdp : decide (pri < (tskAt l j).prio) = false := by simpa using hpr
        clear hA hd hk hS hpr
        generalize (tskAt l j).name = nm at *
        generalize (tskAt l j).per = per at *
        generalize (tskAt l j).off = of at *
        generalize (tskAt l j).dl = dl at *
        generalize (tskAt l j).cost = cost at *
        generalize (tskAt l j).prio = prio at *
        go_upto_region 5 with (fail)
        (generalize hW : World.alloc _ _ = wb; have q0_0 := (congrArg (fun W : World => W.cell? ⟨z.w.heap.size, 0, none⟩) hW).symm; simp [go_sem] at q0_0; have q0_1 := (congrArg (fun W : World => W.cell? ⟨z.w.heap.size, 1, none⟩) hW).symm; simp [go_sem] at q0_1; have q0_2 := (congrArg (fun W : World => W.cell? ⟨z.w.heap.size, 2, none⟩) hW).symm; simp [go_sem] at q0_2; have q0_3 := (congrArg (fun W : World => W.cell? ⟨z.w.heap.size, 3, none⟩) hW).symm; simp [go_sem] at q0_3; have q0_4 := (congrArg (fun W : World => W.cell? ⟨z.w.heap.size, 4, none⟩) hW).symm; simp [go_sem] at q0_4; have q0_5 := (congrArg (fun W : World => W.cell? ⟨z.w.heap.size, 5, none⟩) hW).symm; simp [go_sem] at q0_5; have q0_6 := (congrArg (fun W : World => W.cell? ⟨z.w.heap.size, 6, none⟩) hW).symm; simp [go_sem] at q0_6; have qz0 : z.w.heap.size < wb.heap.size := (by rw [← hW]; simp [go_sem]; try omega); have HBW : Hid (Bel z.w wb) := Lib.hid (by rw [← hW]; (repeat (first | exact Ext.bel _ | exact Bel.refl | refine Bel.alloc ?_ _ | refine Bel.drew ?_ | refine Bel.drewN ?_ _))); clear hW; have hkw := HBW.out.cells)
        have g5 := (hkw tb 5 (Nat.lt_of_lt_of_le htb z.bel.le)).trans ((z.bel.cells tb 5 htb).trans ht5)
        have htbw : tb < wb.heap.size := Nat.lt_of_lt_of_le (Nat.lt_of_lt_of_le htb z.bel.le) HBW.out.le
        clear hkw
        go_wp2
        go_roundw
        case rel => exact ⟨j + 1, _, ⟨wb, z.bel.trans HBW.out⟩, by omega, rfl, by go_num, rfl, by omega, by push_cast; omega, HD.out⟩
        case measure => simp [intOf]; omega
    · obtain rfl : j = l.length := by omega
      have hdl : decide ((l.length : Int) < (l.length : Int)) = false := by simp
      have HD : Hid (respF l (cst + q) pri r = s) := Lib.hid (by rw [HRES.out, ← hd]; simp [sumB])
      clear hd
      go_wp2
      go_ret
      exact ⟨ret_int (by rw [HD.out]), z.bel⟩
end Go.Proofs.Ytbilfpoghohddaa
