/- TopMachines: the walk. -/
import Derived.Test.YtbilfpoghohddaaZMtop
import Derived.Test.YtbilfpoghohddaaG4
import Derived.Test.YtbilfpoghohddaaZWmake
import Derived.Test.YtbilfpoghohddaaG9
import Derived.Deep.CutRange
namespace Go.Proofs.Ytbilfpoghohddaa
open Go.RowKit
set_option maxRecDepth 100000 in
set_option maxHeartbeats 16000000 in
theorem top_any (v nv : Value) (l : List Tsk) (ns : List Int) (w : World) (h : TsksAt w w.heap.size v l) (hl : l.length ≤ 9223372036854775807)
    (hs : ∀ i, i < l.length → (tskAt l i).secs.length ≤ 9223372036854775807 ∧ (tskAt l i).name.size ≤ 9223372036854775807) (hwf : ∀ i, i < l.length → (tskAt l i).wf) (hn : IntsAt w w.heap.size nv ns) (hni : ∀ c ∈ ns, i64 c) :
    Calls Try.prog 8 #[v, nv] w fun e w' => e = .returned (.bool true) ∧ Bel w w' := by
  have HS := Lib.hid hs
  have HW := Lib.hid hwf
  have HT := Lib.hid h
  have HNS := Lib.hid hn
  have HNI := Lib.hid hni
  obtain ⟨A, c, rfl, _⟩ := h.form
  obtain ⟨An, cn, rfl, _⟩ := hn.form
  clear h hs hwf hn hni
  go_enter Try.func8, Try.ntmps8
  go_wp2_with fail
  refine (beyond_any _ l w HT.out HS.out hl).mono ?_
  rintro e w2' ⟨rfl, hw⟩
  obtain rfl : w2' = w := hw
  cases hbe : beyond l
  case true =>
    go_wp2
    go_ret
    exact ⟨rfl, Bel.refl⟩
  have HZ := Lib.hid (sized_of hbe HW.out)
  clear hbe
  go_wp2_with fail
  refine (rcheck_any _ l w2' HT.out HZ.out.len HZ.out.parts).mono ?_
  rintro e w3 ⟨rfl, hB⟩
  have HT3 := Lib.hid (HT.out.keep hB.keeps hB.le)
  have HN3 := Lib.hid (HNS.out.keep hB.keeps hB.le)
  have HB3 := Lib.hid hB
  clear hB HT HNS
  by_cases h0 : rchk l = 0
  case neg =>
    have q1 : (rchk l == 0) = false := by simpa using h0
    have q2 : (rchk l != 0) = true := by simpa using h0
    generalize rchk l = rc at *
    clear h0
    go_wp2
    go_ret
    exact ⟨rfl, HB3.out⟩
  rw [h0]
  have H0 := Lib.hid h0
  clear h0
  go_wp2_with fail
  refine (roffs_any _ l w3 HT3.out HZ.out.len).mono ?_
  rintro e w4 ⟨rfl, hB⟩
  have HT4 := Lib.hid (HT3.out.keep hB.keeps hB.le)
  have HN4 := Lib.hid (HN3.out.keep hB.keeps hB.le)
  have HB4 := Lib.hid (HB3.out.trans hB)
  clear hB HT3 HN3 HB3
  cases hof : offsB l
  case true =>
    go_wp2
    go_ret
    exact ⟨rfl, HB4.out⟩
  have HOF := Lib.hid hof
  clear hof
  by_cases hln : 300 < ns.length
  · have q3 : decide (300 < ns.length) = true := by simpa using hln
    have q4 : decide ((300 : Int) < (ns.length : Int)) = true := by simp; omega
    go_wp2
    go_ret
    exact ⟨rfl, HB4.out⟩
  have q3 : decide (300 < ns.length) = false := by simpa using hln
  have q4 : decide ((300 : Int) < (ns.length : Int)) = false := by simp; omega
  have HLN : Hid (ns.length ≤ 300) := Lib.hid (by omega)
  clear hln
  go_wp2_with fail
  refine (rhyper_any _ l w4 HT4.out HZ.out.len HZ.out.parts).mono ?_
  rintro e w5 ⟨rfl, hB⟩
  clear q3 q4
  have HT5 := Lib.hid (HT4.out.keep hB.keeps hB.le)
  have HN5 := Lib.hid (HN4.out.keep hB.keeps hB.le)
  have HB5 := Lib.hid (HB4.out.trans hB)
  clear hB HT4 HN4 HB4
  by_cases he : (hyp l).2 = 0
  case neg =>
    have q1 : ((hyp l).2 == 0) = false := by simpa using he
    have q2 : ((hyp l).2 != 0) = true := by simpa using he
    generalize (hyp l).2 = er at *
    generalize (hyp l).1 = hh at *
    clear he
    go_wp2
    go_ret
    exact ⟨rfl, HB5.out⟩
  obtain ⟨H, hH, hsc⟩ := top_sched H0.out he
  rw [he, hH]
  have HE := Lib.hid he
  have HHH := Lib.hid hH
  have HSC := Lib.hid hsc
  clear he hH hsc
  by_cases h200 : 200 < H
  · have q1 : decide ((200 : Int) < (H : Int)) = true := by simp; omega
    go_wp2
    go_ret
    exact ⟨rfl, HB5.out⟩
  have q1 : decide ((200 : Int) < (H : Int)) = false := by simp; omega
  have H200 : Hid (H ≤ 200) := Lib.hid (by omega)
  clear h200
  go_wp2_with fail
  refine (pfixed_any _ l w5 HT5.out HZ.out).mono ?_
  rintro e w6 ⟨vf, rfl, hvf, hB, _⟩
  obtain ⟨Af, cf, rfl, _⟩ := hvf.form
  clear q1
  have HT6 := Lib.hid (HT5.out.keep hB.keeps hB.le)
  have HN6 := Lib.hid (HN5.out.keep hB.keeps hB.le)
  have HB6 := Lib.hid (HB5.out.trans hB)
  have HF6 := Lib.hid hvf
  clear hvf hB HT5 HN5 HB5
  have HFL : Hid ((fixedM l).1.length = l.length) := Lib.hid (by rw [fixedM_ok H0.out]; simp [respR])
  have hfe : (fixedM l).2.2 = 0 := by rw [fixedM_ok H0.out]
  rw [hfe]
  clear hfe
  go_wp2_with fail
  refine (make_any _ l 1 w6 HT6.out HZ.out).mono ?_
  rintro e w7 ⟨va, rfl, hm, hB⟩
  obtain ⟨Aa, ca, rfl, _⟩ := (made_ints hm).form
  have HT7 := Lib.hid (HT6.out.keep hB.keeps hB.le)
  have HN7 := Lib.hid (HN6.out.keep hB.keeps hB.le)
  have HF7 := Lib.hid (HF6.out.keep hB.keeps hB.le)
  have HB7 := Lib.hid (HB6.out.trans hB)
  have HX7 := Lib.hid (made_ints hm)
  clear hm hB HT6 HN6 HF6 HB6
  go_upto_region 8 with (fail)
  generalize hW : World.alloc w7 _ = w8 at *
  have hB : Bel w7 w8 := by rw [← hW]; exact Bel.refl.alloc _
  have r9 : RowAt w8 w7.heap.size 25 [.slice Aa (makeT l 1).1.length ca] := by rw [← hW]; exact RowAt.new _ _ _
  clear hW
  have HT8 := Lib.hid (HT7.out.keep hB.keeps hB.le)
  have HN8 := Lib.hid (HN7.out.keep hB.keeps hB.le)
  have HF8 := Lib.hid (HF7.out.keep hB.keeps hB.le)
  have HX8 := Lib.hid (HX7.out.keep hB.keeps hB.le)
  have HB8 := Lib.hid (HB7.out.trans hB)
  have HR8 := Lib.hid r9
  clear r9 hB HT7 HN7 HF7 HX7 HB7
  generalize w7.heap.size = n9 at *
  go_wp2_with fail
  refine (run_any _ l 1 H w8 HT8.out HZ.out).mono ?_
  rintro e wa ⟨vs, vj, rfl, hvs, hvj, hB⟩
  obtain ⟨A1, c1, rfl, _⟩ := hvs.form
  obtain ⟨A2, c2, rfl, _⟩ := hvj.form
  rw [HSC.out]
  have HTa := Lib.hid (HT8.out.keep hB.keeps hB.le)
  have HNa := Lib.hid (HN8.out.keep hB.keeps hB.le)
  have HFa := Lib.hid (HF8.out.keep hB.keeps hB.le)
  have HXa := Lib.hid (HX8.out.keep hB.keeps hB.le)
  have HBa := Lib.hid (HB8.out.trans hB)
  have HRa := Lib.hid (HR8.out.bel hB)
  have HVJ := Lib.hid hvj
  clear hvs hvj hB HT8 HN8 HF8 HX8 HB8 HR8 HSC
  go_upto_region 9 with (fail)
  generalize hW : World.alloc wa _ = wb at *
  have hB : Bel wa wb := by rw [← hW]; exact Bel.refl.alloc _
  have r11 : RowAt wb wa.heap.size 74 [.slice A1 (scheduleM l 1 H).1.length c1, .slice A2 (scheduleM l 1 H).2.1.length c2] := by rw [← hW]; exact RowAt.new _ _ _
  clear hW
  have HTb := Lib.hid (HTa.out.keep hB.keeps hB.le)
  have HNb := Lib.hid (HNa.out.keep hB.keeps hB.le)
  have HFb := Lib.hid (HFa.out.keep hB.keeps hB.le)
  have HXb := Lib.hid (HXa.out.keep hB.keeps hB.le)
  have HBb := Lib.hid (HBa.out.trans hB)
  have HRb := Lib.hid (HRa.out.bel hB)
  have HVJb := Lib.hid (HVJ.out.keep hB.keeps hB.le)
  have HLb := Lib.hid r11
  clear r11 hB HTa HNa HFa HXa HBa HRa HVJ
  generalize wa.heap.size = n11 at *
  by_cases hmk : (makeT l 1).2 = 0
  case neg =>
    obtain ⟨hm1, hm2⟩ := top_no H0.out HE.out HOF.out hmk
    rw [hm1, hm2]
    have hfl := HFL.out
    clear hmk hm1 hm2
    generalize (fixedM l).1.length = nf at *
    subst hfl
    go_wp2
    go_ret
    exact ⟨rfl, HBb.out⟩
  have HF := Lib.hid (topF HHH.out hmk)
  rw [hmk]
  clear hmk
  go_cut [92] from 65 to 92 (fun s92 wx => s92 = .bool false ∧ wx = wb)
  case first =>
    have hfl := HFL.out
    generalize (fixedM l).1.length = nf at *
    generalize (fixedM l).2.1 = fx at *
    subst hfl
    cases fx
    all_goals
      go_wp2
      go_meet
      case rel => exact ⟨rfl, rfl⟩
  case rest =>
  obtain ⟨rfl, hwc⟩ := hcut
  obtain rfl := hwc.symm
  generalize (fixedM l).2.1 = fx at *
  have hlx := HF.out.ln
  have h2 := H200.out
  have e2 : ((2 * H : Nat) : Int) = 2 * (H : Int) := by push_cast; rfl
  have HSH : Hid (∀ (nv : Value) (ns : List Int) (W : World), Bel wb W → IntsAt W W.heap.size nv ns → (∀ c ∈ ns, i64 c) → ns.length ≤ 300 → Calls Try.prog 34 #[.slice A l.length c, .agg #[.slice Aa (makeT l 1).1.length ca], nv, .int .i64 (2 * (H : Int))] W (ShPost l (makeT l 1).1 (ns.length = 0) (2 * H) W)) := Lib.hid (fun nv ns W hW hn hni hnl => by
    have := shift_any _ _ nv l (makeT l 1).1 ns (2 * H) W (HTb.out.keep hW.keeps hW.le) (HXb.out.keep hW.keeps hW.le) hn hni HF.out.ck (by omega) hnl (by omega) HZ.out
    rw [e2] at this
    exact this)
  clear hlx h2 e2
  have x0 := HRb.out.cell (i := 0) rfl
  have x1 := HRb.out.lt
  have h2 := H200.out
  go_wp2_with fail
  refine (HSH.out _ [] _ Bel.refl ⟨none, 0, rfl, Nat.le_refl _, fun h => absurd h (by simp)⟩ (by simp) (by simp)).mono ?_
  rintro e wc ⟨bf, full, rfl, hfr, hfb, hfl, hfw, _, hB⟩
  have HFW := Lib.hid (hfw rfl)
  have HFL2 := Lib.hid hfl
  have HFR := Lib.hid hfr
  have HBc := Lib.hid hB
  clear hfr hfl hfw hB hfb x0 x1
  have x0 := (HRb.out.bel HBc.out).cell (i := 0) rfl
  have x1 := (HRb.out.bel HBc.out).lt
  go_wp2_with fail
  refine (HSH.out _ ns _ HBc.out (HNb.out.keep HBc.out.keeps HBc.out.le) HNI.out HLN.out).mono ?_
  rintro e wd ⟨bl, less, rfl, hlr, hlb, hll, _, hlw, hB⟩
  have HEN := Lib.hid (HF.out.en full less HFW.out hlw)
  have HLR := Lib.hid hlr
  have HLL := Lib.hid hll
  have HFRd := Lib.hid (HFR.out.bel hB)
  have HBd := Lib.hid (HBc.out.trans hB)
  clear hlr hlb hll hlw hB HFR HBc HSH HFW x0 x1 HXb HNb HRb
  have HTd := Lib.hid (HTb.out.keep HBd.out.keeps HBd.out.le)
  have HFd := Lib.hid (HFb.out.keep HBd.out.keeps HBd.out.le)
  have HVJd := Lib.hid (HVJb.out.keep HBd.out.keeps HBd.out.le)
  have HLd := Lib.hid (HLb.out.bel HBd.out)
  have HBBd := Lib.hid (HBb.out.trans HBd.out)
  clear HTb HFb HVJb HLb HBd HBb
  obtain ⟨iL, hiL, hy0, hy1, hy2⟩ := info_parts Try.shInfo
  have hmk : ∀ W : World, (Instr.makeSlice 36 (.int .i64 (l.length : Int)) (.int .i64 (l.length : Int))).run Try.prog W = .ok (.slice (some ⟨W.heap.size, 0, none⟩) l.length l.length) (W.alloc (.cells (Array.replicate l.length (Value.int .i64 0)) 2)) := fun W => by
    have := make_ints Try.underlying36 hiL hy0 hy1 hy2 l.length (by have := HZ.out.len; omega) W
    rw [sh_made] at this
    exact this
  clear h2
  go_upto_region 18 with (fail)
  clear hmk hiL hy0 hy1 hy2 iL
  generalize hW : World.alloc wd _ = we at *
  have ro : RowAt we wd.heap.size 2 (List.replicate l.length (.int .i64 0)) := by rw [← hW]; exact RowAt.newRep _ _ _ _
  rw [sh_rep] at ro
  have HRO := Lib.hid ro
  have hbe : Bel wd we := by rw [← hW]; exact Bel.refl.alloc _
  clear hW ro
  obtain ⟨z0, rfl⟩ := ext_of hbe
  clear hbe
  have HBO : Hid (wd.heap.size ≤ wd.heap.size) := Lib.hid (Nat.le_refl _)
  obtain ⟨bo, hbo⟩ : ∃ bo, bo = wd.heap.size := ⟨_, rfl⟩
  have HBO : Hid (wd.heap.size ≤ bo) := Lib.hid (by omega)
  rw [← hbo] at HRO ⊢
  clear hbo
  have HJS := Lib.hid HF.out.js
  have HLZ := Lib.hid HZ.out.len
  have HJL := Lib.hid (sched_len l 1 H).2
  generalize (scheduleM l 1 H).2.1 = js at *
  generalize (scheduleM l 1 H).1.length = ls at *
  generalize hwo : worstL (List.replicate l.length 0) js = wo at *
  have HWO := Lib.hid hwo
  clear hwo
  go_wp2
  go_loopw [18] (fun s18 wq => ∃ (i : Nat) (z : Ext wd) (wr : List Int), i ≤ js.length ∧ s18 = .int .i64 i ∧ wq = z.w ∧ RowAt z.w bo 2 (intsC wr) ∧ wr.length = l.length ∧ worstL wr (js.drop i) = wo) (fun s18 _ => js.length - (intOf s18).toNat)
  case atStart => exact ⟨0, z0, _, Nat.zero_le _, rfl, rfl, HRO.out, by simp, HWO.out⟩
  case round =>
    clear HRO HWO z0
    obtain ⟨i, z, wr, hi, rfl, rfl, hro, hwl, hwo⟩ := hrel
    have HRO := Lib.hid hro
    have HWL := Lib.hid hwl
    have HWO := Lib.hid hwo
    clear hro hwl hwo
    have p0 := (HLd.out.bel z.bel).cell (i := 1) rfl
    have p1 := (HLd.out.bel z.bel).lt
    have hjl := HJL.out
    by_cases hlt : i < js.length
    · skip
      as_aux_lemma =>
        have hdl : decide ((i : Int) < (js.length : Int)) = true := by simp; omega
        have hil : (i : Int) < (js.length : Int) := by omega
        obtain ⟨bj, oj, rfl, hbj, hA⟩ := HVJd.out.at_ (by omega)
        obtain ⟨d0, d1, d2, d3, d4⟩ := rd_don hlt hA
        have hbj2 := Nat.lt_of_lt_of_le hbj z.bel.le
        obtain ⟨k1, k2, k3⟩ := HJS.out i hlt
        rw [k3] at d4
        have HWO2 : Hid (worstL (wr.set (dnAt js i).tk (max (wr.getD (dnAt js i).tk 0) (dnAt js i).resp)) (js.drop (i + 1)) = wo) := Lib.hid (by
          have := HWO.out
          rw [List.drop_eq_getElem_cons hlt] at this
          have e : js[i] = dnAt js i := by simp [dnAt, List.getD, hlt]
          rw [e] at this
          exact this)
        clear hA k3 HWO
        generalize dnAt js i = d at *
        go_upto_region 22 with (fail)
        generalize hW : World.alloc z.w _ = w12 at *
        have hB : Bel z.w w12 := by rw [← hW]; exact Bel.refl.alloc _
        have rb : RowAt w12 z.w.heap.size 60 [.int .i64 d.tk, .int .i64 d.job, .int .i64 d.rel, .int .i64 d.resp, .bool false] := by rw [← hW]; exact RowAt.new _ _ _
        clear hW d0 d1 d2 d3 d4 p0 p1
        have e0 := rb.cell (i := 0) rfl
        have e3 := rb.cell (i := 3) rfl
        have e4 := rb.cell (i := 4) rfl
        have ez := rb.lt
        have HB := Lib.hid hB
        have HRO2 := Lib.hid (HRO.out.bel hB)
        have hbn : bo ≠ z.w.heap.size := fun e => by have := HRO.out.lt; omega
        have HBN := Lib.hid hbn
        clear rb hB HRO hbn
        generalize z.w.heap.size = nb at *
        have k1' : (d.tk : Int) < (l.length : Int) := by omega
        have q1 : decide ((d.tk : Int) < 0) = false := decide_eq_false (by omega)
        have q2 : decide ((l.length : Int) ≤ (d.tk : Int)) = false := decide_eq_false (by omega)
        have q3 : decide (d.resp < 1) = false := decide_eq_false (by omega)
        have q6 : decide (l.length ≤ d.tk) = false := decide_eq_false (by omega)
        have hll := HLZ.out
        have a0 := HRO2.out.cell (intsC_at (by rw [HWL.out]; exact k1))
        have a1 := HRO2.out.lt
        have hx : max (wr.getD d.tk 0) d.resp = if wr.getD d.tk 0 < d.resp then d.resp else wr.getD d.tk 0 := by split <;> omega
        rw [hx] at HWO2
        clear hx
        generalize wr.getD d.tk 0 = wv at *
        go_upto_region 24 with (fail)
        (refine wp_region_qtail 12 (wb := w12) (by (repeat (first | exact Ext.bel _ | exact Bel.refl | refine Bel.alloc ?_ _ | refine Bel.drew ?_ | refine Bel.drewN ?_ _))) (by kernel_rfl) (by kernel_rfl) ?_; simp only [List.take_succ_cons, List.take_zero, List.drop_succ_cons, List.drop_zero]; (repeat (any_goals (first | go_big_quiet_step (fail) | quiet_step (fail) | (refine wpQuiet_step (fun K hK => ?_); go_simp; split <;> (refine hK _ ?_; clear hK K))))); all_goals (refine wpQuiet_nil ?_; intro _ hw'; obtain ⟨y, hw''⟩ := hw'; subst hw''))
        have a2 := (HRO2.out.bel y.bel).frozen d.tk
        have a3 := (HRO2.out.bel y.bel).lt
        have HRP := Lib.hid ((HRO2.out.bel y.bel).set d.tk (.int .i64 (if wv < d.resp then d.resp else wv)))
        rw [intsC_set] at HRP
        have HBQ := Lib.hid (((z.bel.trans HB.out).trans y.bel).set (p := ⟨bo, d.tk, none⟩) HBO.out (.int .i64 (if wv < d.resp then d.resp else wv)))
        clear q1 q2 q3 q6 e0 e3 e4 ez
        go_wp2
        generalize hW : World.setCell y.w _ _ = w13 at *
        clear hW
        obtain ⟨z13, rfl⟩ := ext_of HBQ.out
        go_roundw
        case rel => exact ⟨i + 1, z13, _, by omega, by go_num, rfl, HRP.out, by rw [List.length_set]; exact HWL.out, HWO2.out⟩
        case measure => simp [intOf]; omega
    · skip
      as_aux_lemma =>
        obtain rfl : i = js.length := by omega
        have hdl : decide ((js.length : Int) < (js.length : Int)) = false := by simp
        have hwo := HWO.out
        rw [List.drop_length] at hwo
        obtain rfl : wr = wo := hwo
        clear HWO
        have HB1 := Lib.hid (HBBd.out.trans z.bel)
        have HFz := Lib.hid (HFd.out.keep z.bel.keeps z.bel.le)
        have HRF := Lib.hid (HFRd.out.bel z.bel)
        have HRL := Lib.hid (HLR.out.bel z.bel)
        generalize z.w = wz at *
        go_wp2
        go_loopw [20] (fun s20 wq => ∃ (i : Nat) (y : Ext wz), i ≤ l.length ∧ s20 = .int .i64 i ∧ wq = y.w) (fun s20 _ => l.length - (intOf s20).toNat)
        case atStart => exact ⟨0, ⟨_, Bel.refl⟩, Nat.zero_le _, rfl, rfl⟩
        case round =>
          obtain ⟨i, x, hi, rfl, rfl⟩ := hrel
          by_cases hil : i < l.length
          · have hdi : decide ((i : Int) < (l.length : Int)) = true := by simp; omega
            have hll := HLZ.out
            have hfl := HFL.out
            obtain ⟨hen1, hen2, hen3⟩ := HEN.out i hil
            obtain ⟨bt, ot, rfl, hbt, hAT⟩ := HFz.out.at_ (by omega)
            have t0 := hAT i (by omega)
            have f0 := HRF.out.cell (intsC_at (by rw [HFL2.out]; exact hil))
            have f1 := HRF.out.lt
            have l0 := HRL.out.cell (intsC_at (by rw [HLL.out]; exact hil))
            have l1 := HRL.out.lt
            have o0 := HRO.out.cell (intsC_at (by rw [HWL.out]; exact hil))
            have o1 := HRO.out.lt
            rw [← hen1] at o0
            have HEN2 := Lib.hid hen2
            have HEN3 := Lib.hid hen3
            clear hAT hen1 hen2 hen3
            have hil' : (i : Int) < (l.length : Int) := by omega
            generalize (fixedM l).1.getD i 0 = tv at *
            generalize full.getD i 0 = fv at *
            generalize less.getD i 0 = lv at *
            have g1 : (fv != fv) = false := by simp
            have g2 : decide (fv < lv) = false := decide_eq_false (by have := HEN2.out; omega)
            by_cases ht : 0 ≤ tv
            · have g3 : decide (0 ≤ tv) = true := decide_eq_true ht
              have g4 : decide (tv < fv) = false := decide_eq_false (by have := HEN3.out ht; omega)
              clear ht
              go_upto_region 28 with (fail)
              (refine wp_region_ext (wb := x.w) (by (repeat (first | exact Ext.bel _ | exact Bel.refl | refine Bel.alloc ?_ _ | refine Bel.drew ?_ | refine Bel.drewN ?_ _))) (by kernel_rfl) (by kernel_rfl) ?_; (repeat (any_goals (first | go_big_quiet_step (fail) | quiet_step (fail) | (refine wpQuiet_step (fun K hK => ?_); go_simp; split <;> (refine hK _ ?_; clear hK K))))); all_goals (refine wpQuiet_nil ?_; intro _ hw'; obtain ⟨y, hw''⟩ := hw'; subst hw''))
              clear g1 g2 g3 g4 f0 f1 l0 l1 o0 o1 t0
              obtain ⟨x2, hx2⟩ := ext_of (x.bel.trans y.bel)
              rw [hx2]
              clear hx2 y
              go_wp2
              go_roundw
              case rel => exact ⟨i + 1, x2, by omega, by go_num, rfl⟩
              case measure => simp [intOf]; omega
            · have g3 : decide (0 ≤ tv) = false := decide_eq_false ht
              clear ht
              go_upto_region 28 with (fail)
              (refine wp_region_ext (wb := x.w) (by (repeat (first | exact Ext.bel _ | exact Bel.refl | refine Bel.alloc ?_ _ | refine Bel.drew ?_ | refine Bel.drewN ?_ _))) (by kernel_rfl) (by kernel_rfl) ?_; (repeat (any_goals (first | go_big_quiet_step (fail) | quiet_step (fail) | (refine wpQuiet_step (fun K hK => ?_); go_simp; split <;> (refine hK _ ?_; clear hK K))))); all_goals (refine wpQuiet_nil ?_; intro _ hw'; obtain ⟨y, hw''⟩ := hw'; subst hw''))
              clear g1 g2 g3 f0 f1 l0 l1 o0 o1 t0
              obtain ⟨x2, hx2⟩ := ext_of (x.bel.trans y.bel)
              rw [hx2]
              clear hx2 y
              go_wp2
              go_roundw
              case rel => exact ⟨i + 1, x2, by omega, by go_num, rfl⟩
              case measure => simp [intOf]; omega
          · have hdi : decide ((i : Int) < (l.length : Int)) = false := by simp; omega
            go_wp2
            go_ret
            exact ⟨rfl, HB1.out.trans x.bel⟩
end Go.Proofs.Ytbilfpoghohddaa
