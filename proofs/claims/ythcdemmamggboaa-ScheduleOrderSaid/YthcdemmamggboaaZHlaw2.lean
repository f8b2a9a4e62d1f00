import Derived.Test.YthcdemmamggboaaZHrun
import Derived.Test.YthcdemmamggboaaZHshow
import Derived.Test.YthcdemmamggboaaG6
import Derived.Test.YthcdemmamggboaaG1
import Derived.Test.YthcdemmamggboaaZTaket
import Derived.Test.YthcdemmamggboaaZHfind
import Derived.Test.YthcdemmamggboaaG5
namespace Go.Proofs.Ythcdemmamggboaa
open Go.RowKit
set_option maxRecDepth 100000 in
set_option maxHeartbeats 16000000 in
theorem order_any (v : Value) (l : List Tsk) (pol ticks : Int) (w : World) (h : TsksAt w w.heap.size v l) (hl : l.length ≤ 9223372036854775807)
    (hs : ∀ i, i < l.length → (tskAt l i).secs.length ≤ 9223372036854775807 ∧ (tskAt l i).name.size ≤ 9223372036854775807) (hwf : ∀ i, i < l.length → (tskAt l i).wf) :
    Calls Try.prog 4 #[v, .int .i64 pol, .int .i64 ticks] w fun e w' => e = .returned (.bool true) ∧ Bel w w' := by
  have HT := Lib.hid h
  have HS := Lib.hid hs
  have HW := Lib.hid hwf
  obtain ⟨A, c, rfl, _⟩ := h.form
  clear h hs hwf
  go_enter Try.func4, Try.ntmps4
  go_wp2_with fail
  refine (shown33_any _).mono ?_
  rintro e w1 ⟨rfl, hB⟩
  have HB1 := Lib.hid hB
  have HT1 := Lib.hid (HT.out.keep hB.keeps hB.le)
  clear hB HT
  go_wp2_with fail
  refine (beyond_any _ l w1 HT1.out HS.out hl).mono ?_
  rintro e w2 ⟨rfl, hw⟩
  obtain rfl : w1 = w2 := hw.symm
  cases hbe : beyond l
  case true =>
    go_wp2
    go_ret
    exact ⟨rfl, HB1.out⟩
  have HZ := Lib.hid (sized_of hbe HW.out)
  clear hbe
  go_wp2_with fail
  refine (rcheck_any _ l w1 HT1.out HZ.out.len HZ.out.parts).mono ?_
  rintro e w3 ⟨rfl, hB⟩
  have HB3 := Lib.hid (HB1.out.trans hB)
  have HT3 := Lib.hid (HT1.out.keep hB.keeps hB.le)
  clear hB HB1 HT1
  by_cases h0 : rchk l = 0
  case neg =>
    have hne : (rchk l == 0) = false := by simpa using h0
    generalize rchk l = ck at *
    go_wp2
    go_ret
    exact ⟨rfl, HB3.out⟩
  rw [h0]
  have H0 := Lib.hid h0
  clear h0
  by_cases ht0 : ticks < 0
  · have q1 : decide (ticks < 0) = true := decide_eq_true ht0
    go_wp2
    go_ret
    exact ⟨rfl, HB3.out⟩
  have q1 : decide (ticks < 0) = false := decide_eq_false ht0
  by_cases ht3 : 300 < ticks
  · have q2 : decide (300 < ticks) = true := decide_eq_true ht3
    go_wp2
    go_ret
    exact ⟨rfl, HB3.out⟩
  have q2 : decide (300 < ticks) = false := decide_eq_false ht3
  obtain ⟨n, rfl⟩ : ∃ n : Nat, ticks = n := ⟨ticks.toNat, by omega⟩
  have hn3 : n ≤ 300 := by omega
  clear ht0 ht3
  go_wp2_with fail
  refine (run_any _ l pol n w3 HT3.out HZ.out).mono ?_
  rintro e w5 ⟨vs, vj, rfl, hvs, hvj, hB⟩
  have HB5 := Lib.hid (HB3.out.trans hB)
  have HT5 := Lib.hid (HT3.out.keep hB.keeps hB.le)
  clear hB HB3 HT3 q1 q2
  by_cases hp : pol ≠ 1 ∧ (pol ≠ 2 ∨ secsB l = true)
  · have hM : scheduleM l pol n = ([], [], 2) := by unfold scheduleM; rw [if_pos H0.out, if_pos (.inl hp)]
    rw [hM] at hvs hvj ⊢
    obtain ⟨A1, c1, rfl, _⟩ := hvs.form
    obtain ⟨A2, c2, rfl, _⟩ := hvj.form
    clear hvs hvj hp hM
    go_upto_region 6 with (fail)
    generalize hW : World.alloc w5 _ = w6 at *
    have r7 : RowAt w6 w5.heap.size 29 [.slice A1 0 c1, .slice A2 0 c2] := by rw [← hW]; exact RowAt.new _ _ _
    have hB : Bel w5 w6 := by rw [← hW]; exact Bel.refl.alloc _
    have x0 := r7.cell (i := 0) rfl
    have x1 := r7.cell (i := 1) rfl
    have xz := r7.lt
    clear hW r7
    go_wp2
    go_ret
    exact ⟨rfl, HB5.out.trans hB⟩
  have hM := sched_ok H0.out hp (show n ≤ 20000 by omega)
  rw [hM] at hvs hvj ⊢
  dsimp only at hvs hvj ⊢
  have HO := Lib.hid ((upTo_TI H0.out pol n).order H0.out)
  obtain ⟨hls, hlj⟩ := upTo_len H0.out pol (show n ≤ 20000 by omega)
  have HLJ : Hid (((upTo l pol n).jobs.map (missM l n)).length = (upTo l pol n).jobs.length) := Lib.hid (by simp)
  have hlj2 : ((upTo l pol n).jobs.map (missM l n)).length ≤ 160000 := by rw [HLJ.out]; exact hlj
  have HP := Lib.hid hp
  clear hp hM hlj
  obtain ⟨ss, hss⟩ : ∃ ss, ss = (upTo l pol n).stints := ⟨_, rfl⟩
  obtain ⟨js, hjs⟩ : ∃ js, js = (upTo l pol n).jobs.map (missM l n) := ⟨_, rfl⟩
  rw [← hss] at hvs hls HO
  rw [← hjs] at hvj hlj2 HO HLJ
  have HSS := Lib.hid hss
  have HJS := Lib.hid hjs
  obtain ⟨A1, c1, rfl, _⟩ := hvs.form
  obtain ⟨A2, c2, rfl, _⟩ := hvj.form
  have HVS := Lib.hid hvs
  have HVJ := Lib.hid hvj
  clear hss hjs hvs hvj
  go_upto_region 6 with (fail)
  generalize hW : World.alloc w5 _ = w6 at *
  have r7 : RowAt w6 w5.heap.size 29 [.slice A1 ss.length c1, .slice A2 js.length c2] := by rw [← hW]; exact RowAt.new _ _ _
  have hB6 : Bel w5 w6 := by rw [← hW]; exact Bel.refl.alloc _
  clear hW
  generalize hp7 : w5.heap.size = p7 at r7 ⊢
  have x0 := r7.cell (i := 0) rfl
  have x1 := r7.cell (i := 1) rfl
  have x7 := r7.lt
  have hi3 : (Try.prog.info? 2).map (fun i => (i.zero, i.size, i.bytes)) = some (some (.int .i64 0), 1, 8) := by kernel_rfl
  obtain ⟨iI, hi, hz⟩ : ∃ i, Try.prog.info? 2 = some i ∧ (i.zero, i.size, i.bytes) = (some (.int .i64 0), 1, 8) := by
    cases hx : Try.prog.info? 2 with
    | none => rw [hx] at hi3; cases hi3
    | some i => rw [hx] at hi3; exact ⟨i, rfl, by simpa using hi3⟩
  simp only [Prod.mk.injEq] at hz
  obtain ⟨hz0, hz1, hz2⟩ := hz
  have hmk : ∀ W : World, (Instr.makeSlice 37 (.int .i64 (js.length : Int)) (.int .i64 (js.length : Int))).run Try.prog W = .ok (.slice (some ⟨W.heap.size, 0, none⟩) js.length js.length) (W.alloc (.cells (madeCells (Value.int .i64 0).cells (js.length * 1)) 2)) := make_ints Try.underlying37 hi hz0 hz1 hz2 js.length (by omega)
  have HR7 := Lib.hid r7
  have HB6 := Lib.hid hB6
  clear hi3 hi hz0 hz1 hz2 r7 hB6
  go_upto_region 10 with (fail)
  clear hmk
  generalize hW8 : World.alloc w6 _ = W8 at *
  generalize hW9 : World.alloc W8 _ = W9 at *
  have a1 : ArrAt W8 w6.heap.size 2 js.length (fun _ => 0) := by rw [← hW8]; have := ArrAt.made w6 2 js.length; rw [Nat.mul_one] at this; exact this
  have a2 : ArrAt W9 W8.heap.size 2 js.length (fun _ => 0) := by rw [← hW9]; have := ArrAt.made W8 2 js.length; rw [Nat.mul_one] at this; exact this
  have hz8 : W8.heap.size = w6.heap.size + 1 := by rw [← hW8]; simp [go_sem]
  have b1 : Bel w6 W8 := by rw [← hW8]; exact Bel.refl.alloc _
  have b2 : Bel W8 W9 := by rw [← hW9]; exact Bel.refl.alloc _
  clear hW8 hW9 x0 x1 x7
  have a1' := a1.bel b2
  have r7' := (HR7.out.bel b1).bel b2
  have g9 : w5.heap.size ≤ w6.heap.size := HB6.out.le
  have g10 : w5.heap.size ≤ W8.heap.size := (HB6.out.trans b1).le
  have n79 : p7 ≠ w6.heap.size := by have := HR7.out.lt; omega
  have n710 : p7 ≠ W8.heap.size := by have := (HR7.out.bel b1).lt; omega
  have n910 : w6.heap.size ≠ W8.heap.size := by have := a1.lt; omega
  rw [hz8] at a2 g10 n710 n910
  have g7 : w5.heap.size ≤ p7 := by omega
  have HP7 := Lib.hid hp7
  obtain ⟨y0, rfl⟩ := ext_of ((HB6.out.trans b1).trans b2)
  clear a1 b1 b2 HR7 HB6 hz8
  generalize w6.heap.size = p9 at *
  have HR0 := Lib.hid r7'
  have HA0 : Hid (ArrAt y0.w p9 2 js.length (fun r => sumD (ss.take 0) (dnAt js r))) := Lib.hid a1'
  have HE0 : Hid (ArrAt y0.w (p9 + 1) 2 js.length (fun r => endD (ss.take 0) (dnAt js r))) := Lib.hid a2
  have HL0 : Hid (lastTo (ss.take 0) = 0) := Lib.hid rfl
  clear r7' a1' a2
  have hlp := rchk_pos H0.out
  obtain ⟨bt, ot, rfl, hbt, hAT⟩ := HT5.out.at_ hlp
  have HAT := Lib.hid hAT
  clear hAT hp7
  go_wp2
  go_loopg [11, 12] ss.length (fun gk s11 s12 wr => ∃ (i : Nat) (y : Ext w5), i + gk = ss.length ∧ s11 = .int .i64 (lastTo (ss.take i)) ∧ s12 = .int .i64 i ∧ wr = y.w ∧ RowAt y.w p7 29 [.slice A1 ss.length c1, .slice A2 js.length c2] ∧
    ArrAt y.w p9 2 js.length (fun r => sumD (ss.take i) (dnAt js r)) ∧ ArrAt y.w (p9 + 1) 2 js.length (fun r => endD (ss.take i) (dnAt js r)))
  case atStart => exact ⟨0, y0, by omega, by rw [HL0.out], rfl, rfl, HR0.out, HA0.out, HE0.out⟩
  case round =>
    clear HR0 HA0 HE0 HL0 y0
    obtain ⟨i, y, hi, rfl, rfl, rfl, hr7, ha9, ha10⟩ := hrel
    have x0 := hr7.cell (i := 0) rfl
    have x1 := hr7.cell (i := 1) rfl
    have x7 := hr7.lt
    have HR := Lib.hid hr7
    have HA := Lib.hid ha9
    have HE := Lib.hid ha10
    clear hr7 ha9 ha10
    by_cases hlt : i < ss.length
    · have hdl : decide ((i : Int) < (ss.length : Int)) = true := by simp; omega
      have hil : (i : Int) < (ss.length : Int) := by omega
      obtain ⟨bs, os, rfl, hbs, ks⟩ := HVS.out.at_ (by omega)
      obtain ⟨c0, c1', c2', c3⟩ := rd_stn hlt ks
      clear ks
      have hst := HO.out.st i hlt
      obtain ⟨o1, o2, o3, o4, o5, o6⟩ := HO.out.bd (by omega) i (dnAt js 0)
      obtain ⟨s1, s2, s3, ⟨k0, hk0, hkm, hkr⟩, s5⟩ := hst
      have HNX := Lib.hid (HO.out.next hlt hk0 hkm)
      have HGP := Lib.hid s5
      have HKM := Lib.hid hkm
      have HLT : Hid (lastTo (ss.take (i + 1)) = (stAt ss i).to) := Lib.hid (by rw [stn_take_succ hlt, lastTo_snoc])
      clear s5 hkm o1 o2 o5 o6
      generalize hsi : stAt ss i = s at *
      have HSI := Lib.hid hsi
      clear hsi
      generalize hat : lastTo (ss.take i) = at_ at *
      have HATT := Lib.hid hat
      clear hat
      have t1 : decide (s.frm < at_) = false := by simp; omega
      have t2 : decide (s.to ≤ s.frm) = false := by simp; omega
      have t3 : decide ((n : Int) < s.to) = false := by simp; omega
      go_upto_region 15 with (fail)
      generalize hW : World.alloc y.w _ = W at *
      have r13 : RowAt W y.w.heap.size 39 (stnC s) := by rw [← hW]; exact RowAt.new _ _ _
      have hbW : Bel y.w W := by rw [← hW]; exact Bel.refl.alloc _
      clear hW c0 c1' c2' c3 x0 x1 x7
      have g13 : w5.heap.size ≤ y.w.heap.size := y.bel.le
      have HR1 := Lib.hid (HR.out.bel hbW)
      have HA1 := Lib.hid (HA.out.bel hbW)
      have HE1 := Lib.hid (HE.out.bel hbW)
      have n137 : p7 ≠ y.w.heap.size := by have := HR.out.lt; omega
      have n139 : p9 ≠ y.w.heap.size := by have := HA.out.lt; omega
      have n1310 : (p9 + 1) ≠ y.w.heap.size := by have := HE.out.lt; omega
      obtain ⟨z, rfl⟩ := ext_of (y.bel.trans hbW)
      generalize y.w.heap.size = p13 at *
      clear hbW HR HA HE y
      have HRS := Lib.hid r13
      have x0 := HR1.out.cell (i := 0) rfl
      have x1 := HR1.out.cell (i := 1) rfl
      have x7 := HR1.out.lt
      have q0 := r13.cell (i := 0) rfl
      have q1 := r13.cell (i := 1) rfl
      have q2 := r13.cell (i := 2) rfl
      have q3 := r13.cell (i := 3) rfl
      have x13 := r13.lt
      clear r13
      have HFD := Lib.hid (find_any _ js s.tk s.job k0 z.w (HVJ.out.keep z.bel.keeps z.bel.le) hk0 (by omega) ⟨HKM.out.1.symm, HKM.out.2.symm⟩ (fun r hr e1 e2 => HO.out.un r k0 hr hk0 (by have := HKM.out.1; omega) (by rw [e2, HKM.out.2])))
      go_wp2_with fail
      refine HFD.out.mono ?_
      rintro e w' ⟨rfl, rfl⟩
      clear HFD t1 t2 t3
      obtain ⟨bj, oj, rfl, hbj, kj⟩ := HVJ.out.at_ (by omega)
      have HKJ := Lib.hid kj
      have hkl : (k0 : Int) < (js.length : Int) := by omega
      obtain ⟨j0, j1, j2, j3, _⟩ := rd_don hk0 kj
      have t1 : decide ((k0 : Int) < 0) = false := by simp
      have t2 : decide (s.frm < (dnAt js k0).rel) = false := by simp; omega
      clear kj
      go_upto_region 18 with (fail)
      (refine wp_region_ext (wb := z.w) (by (repeat (first | exact Ext.bel _ | exact Bel.refl | refine Bel.alloc ?_ _ | refine Bel.drew ?_ | refine Bel.drewN ?_ _))) (by kernel_rfl) (by kernel_rfl) ?_; (repeat (any_goals (first | go_big_quiet_step (fail) | quiet_step (fail) | (refine wpQuiet_step (fun K hK => ?_); go_simp; split <;> (refine hK _ ?_; clear hK K))))); all_goals (refine wpQuiet_nil ?_; intro _ hw'; obtain ⟨y, hw''⟩ := hw'; subst hw''))
      have HR2 := Lib.hid (HR1.out.bel y.bel)
      have HA2 := Lib.hid (HA1.out.bel y.bel)
      have HE2 := Lib.hid (HE1.out.bel y.bel)
      have HRS2 := Lib.hid (HRS.out.bel y.bel)
      obtain ⟨z2, hz2⟩ := ext_of (z.bel.trans y.bel)
      generalize y.w = wy at *
      subst hz2
      clear HR1 HA1 HE1 HRS x0 x1 x7 q0 q1 q2 q3 x13 t1 t2 j0 j1 j2 j3 y z
      have x0 := HR2.out.cell (i := 0) rfl
      have x1 := HR2.out.cell (i := 1) rfl
      have x7 := HR2.out.lt
      have q0 := HRS2.out.cell (i := 0) rfl
      have q1 := HRS2.out.cell (i := 1) rfl
      have q2 := HRS2.out.cell (i := 2) rfl
      have q3 := HRS2.out.cell (i := 3) rfl
      have x13 := HRS2.out.lt
      have a9 := HA2.out.lt
      have a10 := HE2.out.lt
      go_wp2
      obtain ⟨G, hG⟩ : ∃ G, G = gk := ⟨_, rfl⟩
      rw [← hG] at hi
      go_loopg [15] js.length (fun gk s15 wr => ∃ (k : Nat) (u : Ext z2.w), k + gk = js.length ∧ s15 = .int .i64 k ∧ wr = u.w)
      case atStart => exact ⟨0, ⟨z2.w, Bel.refl⟩, by omega, rfl, rfl⟩
      case round =>
        obtain ⟨k, u, hk, rfl, rfl⟩ := hrel
        by_cases hltk : k < js.length
        · have hdlk : decide ((k : Int) < (js.length : Int)) = true := by simp; omega
          have hkl2 : (k : Int) < (js.length : Int) := by omega
          have hE := HO.out.jb k hltk
          obtain ⟨j0, _, j2, _, _⟩ := rd_don hltk HKJ.out
          obtain ⟨sv, ⟨_, _, _, _, t4, _, _⟩, _⟩ := HAT.out (dnAt js k).tk hE.tk
          rw [← ext_cells z2 _ _ hbj] at j0 j2
          rw [← ext_cells z2 _ _ hbt] at t4
          have hbj2 := ext_lt z2 hbj
          have hbt2 := ext_lt z2 hbt
          have ca := HA2.out.cell hltk
          have htl : ((dnAt js k).tk : Int) < (l.length : Int) := by have := hE.tk; omega
          have hgp := HGP.out
          by_cases h1 : at_ < s.frm
          · have t1 : decide (at_ < s.frm) = true := by simpa using h1
            by_cases h2 : (dnAt js k).rel < s.frm
            · have t2 : decide ((dnAt js k).rel < s.frm) = true := by simpa using h2
              have h3 := hgp h1 k hltk h2
              have t3 : decide (sumD (ss.take i) (dnAt js k) < (tskAt l (dnAt js k).tk).cost) = false := by simp; exact h3
              clear hgp h3 hE
              go_upto_region 23 with (fail)
              (refine wp_region_ext (wb := u.w) (by (repeat (first | exact Ext.bel _ | exact Bel.refl | refine Bel.alloc ?_ _ | refine Bel.drew ?_ | refine Bel.drewN ?_ _))) (by kernel_rfl) (by kernel_rfl) ?_; (repeat (any_goals (first | go_big_quiet_step (fail) | quiet_step (fail) | (refine wpQuiet_step (fun K hK => ?_); go_simp; split <;> (refine hK _ ?_; clear hK K))))); all_goals (refine wpQuiet_nil ?_; intro _ hw'; obtain ⟨y, hw''⟩ := hw'; subst hw''))
              go_wp2
              go_roundg (gk - 1)
              case measure => omega
              case rel => exact ⟨k + 1, ⟨_, u.bel.trans y.bel⟩, by omega, by go_num, rfl⟩
            · have t2 : decide ((dnAt js k).rel < s.frm) = false := by simpa using h2
              clear hgp hE
              go_upto_region 23 with (fail)
              (refine wp_region_ext (wb := u.w) (by (repeat (first | exact Ext.bel _ | exact Bel.refl | refine Bel.alloc ?_ _ | refine Bel.drew ?_ | refine Bel.drewN ?_ _))) (by kernel_rfl) (by kernel_rfl) ?_; (repeat (any_goals (first | go_big_quiet_step (fail) | quiet_step (fail) | (refine wpQuiet_step (fun K hK => ?_); go_simp; split <;> (refine hK _ ?_; clear hK K))))); all_goals (refine wpQuiet_nil ?_; intro _ hw'; obtain ⟨y, hw''⟩ := hw'; subst hw''))
              go_wp2
              go_roundg (gk - 1)
              case measure => omega
              case rel => exact ⟨k + 1, ⟨_, u.bel.trans y.bel⟩, by omega, by go_num, rfl⟩
          · have t1 : decide (at_ < s.frm) = false := by simpa using h1
            clear hgp hE
            go_upto_region 23 with (fail)
            (refine wp_region_ext (wb := u.w) (by (repeat (first | exact Ext.bel _ | exact Bel.refl | refine Bel.alloc ?_ _ | refine Bel.drew ?_ | refine Bel.drewN ?_ _))) (by kernel_rfl) (by kernel_rfl) ?_; (repeat (any_goals (first | go_big_quiet_step (fail) | quiet_step (fail) | (refine wpQuiet_step (fun K hK => ?_); go_simp; split <;> (refine hK _ ?_; clear hK K))))); all_goals (refine wpQuiet_nil ?_; intro _ hw'; obtain ⟨y, hw''⟩ := hw'; subst hw''))
            go_wp2
            go_roundg (gk - 1)
            case measure => omega
            case rel => exact ⟨k + 1, ⟨_, u.bel.trans y.bel⟩, by omega, by go_num, rfl⟩
        · obtain rfl : k = js.length := by omega
          have hdlk : decide ((js.length : Int) < (js.length : Int)) = false := by simp
          have HR3 := Lib.hid (HR2.out.bel u.bel)
          have HA3 := Lib.hid (HA2.out.bel u.bel)
          have HE3 := Lib.hid (HE2.out.bel u.bel)
          have HRS3 := Lib.hid (HRS2.out.bel u.bel)
          obtain ⟨z3, hz3⟩ := ext_of (z2.bel.trans u.bel)
          generalize u.w = wu at *
          subst hz3
          clear HR2 HA2 HE2 HRS2 x0 x1 x7 q0 q1 q2 q3 x13 a9 a10 HGP
          have x0 := HR3.out.cell (i := 0) rfl
          have x1 := HR3.out.cell (i := 1) rfl
          have x7 := HR3.out.lt
          have q2 := HRS3.out.cell (i := 2) rfl
          have q3 := HRS3.out.cell (i := 3) rfl
          have x13 := HRS3.out.lt
          have a9 := HA3.out.lt
          have a10 := HE3.out.lt
          obtain ⟨d1, d2, d3, d4, _, _⟩ := HO.out.bd (by omega) i (dnAt js k0)
          rw [HATT.out] at d2 d3 d4
          have ca := HA3.out.cell hk0
          have hw1 : IntKind.i64.wrap (sumD (ss.take i) (dnAt js k0) + s.to) = sumD (ss.take i) (dnAt js k0) + s.to := IntWalk.i64_in _ (by omega)
          have hw2 : IntKind.i64.wrap (sumD (ss.take i) (dnAt js k0) + s.to - s.frm) = sumD (ss.take i) (dnAt js k0) + s.to - s.frm := IntWalk.i64_in _ (by omega)
          clear d1 d2 d3 d4
          go_upto_region 25 with (fail)
          have hp13 : p13 ∉ [p9, p9 + 1] := by simp; omega
          (refine wp_region_T (TT z3.w [p9, p9 + 1] [0, 1, 4, 5, 6, 7, 8, 9, 10, 11, 12, 13, 18] 22) (by kernel_rfl) ?_; refine anyT_takes (fun w' => ∃ y : Grs z3.w [p9, p9 + 1], w' = y.w) 22 [2, 3, 14, 15, 16, 17] tt_2 (tt_i2 (by rfl)) (fun _ _ _ _ _ h => h) ⟨⟨_, grs_drew _ _⟩, rfl⟩ (by kernel_rfl) (by rfl) ?_; simp only [opsOf, List.filterMap_cons, List.filterMap_nil, List.getElem?_toArray, List.getElem?_cons_succ, List.getElem?_cons_zero, List.foldl_cons, List.foldl_nil]; (repeat (any_goals (first | go_big_quiet_step (fail) | quiet_step (fail)))); refine wpQuiet_nil ?_; refine anyT_takes (fun w' => ∃ y : Grs z3.w [], w' = y.w) 19 [0, 1, 4, 5, 6, 7, 8, 9, 10, 11, 12, 13, 18] (tt_1 (by kernel_rfl)) tt_i1 (fun _ _ _ _ _ h => h) ⟨⟨_, grs_drew _ _⟩, rfl⟩ (by kernel_rfl) (by rfl) ?_; simp only [opsOf, List.filterMap_cons, List.filterMap_nil, List.getElem?_toArray, List.getElem?_cons_succ, List.getElem?_cons_zero, List.foldl_cons, List.foldl_nil]; (repeat (any_goals (first | go_big_quiet_step (fail) | quiet_step (fail)))); refine wpQuiet_nil ?_)
          have ca := HA3.out.cell hk0
          have ce := HE3.out.cell hk0
          have fa := HA3.out.frozen k0
          have fe := HE3.out.frozen k0
          have hs1 : GrsOk z3.w [p9, p9 + 1] (z3.w.drew.setCell ⟨p9, k0, none⟩ (.int .i64 (sumD (ss.take i) (dnAt js k0) + s.to - s.frm))) := grs_set (grs_drew _ _) p9 (by simp) _ _
          have hs2 : GrsOk z3.w [p9, p9 + 1] ((z3.w.drew.setCell ⟨p9, k0, none⟩ (.int .i64 (sumD (ss.take i) (dnAt js k0) + s.to - s.frm))).setCell ⟨p9 + 1, k0, none⟩ (.int .i64 s.to)) := grs_set hs1 (p9 + 1) (by simp) _ _
          have HRN := Lib.hid (((HR3.out.drew).far (a := ⟨p9, k0, none⟩) n79 (.int .i64 (sumD (ss.take i) (dnAt js k0) + s.to - s.frm))).far (a := ⟨p9 + 1, k0, none⟩) n710 (.int .i64 s.to))
          have HAN := Lib.hid (((HA3.out.drew.set k0 (sumD (ss.take i) (dnAt js k0) + s.to - s.frm)).far (a := ⟨p9 + 1, k0, none⟩) n910 (.int .i64 s.to)).congr (fun r hr => (HNX.out r hr).1))
          have HEN := Lib.hid (((HE3.out.drew.far (a := ⟨p9, k0, none⟩) (Ne.symm n910) (.int .i64 (sumD (ss.take i) (dnAt js k0) + s.to - s.frm))).set k0 s.to).congr (fun r hr => (HNX.out r hr).2))
          have HBN := Lib.hid (((z3.bel.drew).set (p := ⟨p9, k0, none⟩) g9 (.int .i64 (sumD (ss.take i) (dnAt js k0) + s.to - s.frm))).set (p := ⟨p9 + 1, k0, none⟩) g10 (.int .i64 s.to))
          have HS1 := Lib.hid hs1
          have HS2 := Lib.hid hs2
          clear hs1 hs2
          (refine anyT_one 19 _ (by kernel_rfl) (by rfl) (fun K hK => ?_))
          go_simp
          refine hK _ _ ⟨fun h => absurd h (by decide), fun _ => ⟨⟨_, HS1.out⟩, rfl⟩⟩ ?_
          clear hK K
          (refine anyT_one 20 _ (by kernel_rfl) (by rfl) (fun K hK => ?_))
          go_simp
          refine hK _ _ ⟨fun h => absurd h (by decide), fun _ => ⟨⟨_, HS1.out⟩, rfl⟩⟩ ?_
          clear hK K
          (refine anyT_one 21 _ (by kernel_rfl) (by rfl) (fun K hK => ?_))
          go_simp
          refine hK _ _ ⟨fun h => absurd h (by decide), fun _ => ⟨⟨_, HS2.out⟩, rfl⟩⟩ ?_
          clear hK K
          (refine anyT_one 22 _ (by kernel_rfl) (by rfl) (fun K hK => ?_))
          go_simp
          refine hK _ _ ⟨fun h => absurd h (by decide), fun h => absurd h (by decide)⟩ ?_
          clear hK K
          refine anyT_done (by kernel_rfl) ?_ _
          refine NoPanic.normal ?_
          go_wp2
          go_roundg (G - 1)
          case measure => omega
          case rel =>
            obtain ⟨yn, hyn⟩ := ext_of HBN.out
            exact ⟨i + 1, yn, by omega, by rw [HLT.out], by go_num, hyn, by rw [← hyn]; exact HRN.out, by rw [← hyn]; exact HAN.out, by rw [← hyn]; exact HEN.out⟩
    · obtain rfl : i = ss.length := by omega
      have hdl : decide ((ss.length : Int) < (ss.length : Int)) = false := by simp
      have eT : ss.take ss.length = ss := List.take_length
      have HA1 : Hid (ArrAt y.w p9 2 js.length (fun r => sumD ss (dnAt js r))) := Lib.hid (by have := HA.out; rwa [eT] at this)
      have HE1 : Hid (ArrAt y.w (p9 + 1) 2 js.length (fun r => endD ss (dnAt js r))) := Lib.hid (by have := HE.out; rwa [eT] at this)
      rw [eT]
      generalize hat : lastTo ss = at_ at *
      have HATT := Lib.hid hat
      clear hat eT HA HE
      have a9 := HA1.out.lt
      have a10 := HE1.out.lt
      go_wp2
      go_loopg [16] js.length (fun gk s16 wr => ∃ (k : Nat) (u : Ext y.w), k + gk = js.length ∧ s16 = .int .i64 k ∧ wr = u.w)
      case atStart => exact ⟨0, ⟨y.w, Bel.refl⟩, by omega, rfl, rfl⟩
      case round =>
        obtain ⟨k, u, hk, rfl, rfl⟩ := hrel
        by_cases hltk : k < js.length
        · have hdlk : decide ((k : Int) < (js.length : Int)) = true := by simp; omega
          have hkl2 : (k : Int) < (js.length : Int) := by omega
          obtain ⟨bj, oj, rfl, hbj, kj⟩ := HVJ.out.at_ (by omega)
          obtain ⟨e1, e2, e3, e4⟩ := HO.out.jb k hltk
          obtain ⟨d1, d2, d3, d4, d5, d6⟩ := HO.out.bd (by omega) ss.length (dnAt js k)
          rw [List.take_length] at d1 d2 d3 d4 d5 d6
          obtain ⟨j0, j1, j2, j3, j4⟩ := rd_don hltk kj
          obtain ⟨sv, ⟨_, _, _, _, t4, _, _⟩, _⟩ := HAT.out (dnAt js k).tk e1
          rw [← ext_cells y _ _ hbj] at j0 j1 j2 j3 j4
          rw [← ext_cells y _ _ hbt] at t4
          have hbj2 := ext_lt y hbj
          have hbt2 := ext_lt y hbt
          have ca := HA1.out.cell hltk
          have ce := HE1.out.cell hltk
          have htl : ((dnAt js k).tk : Int) < (l.length : Int) := by omega
          have hw1 : IntKind.i64.wrap (endD ss (dnAt js k) - (dnAt js k).rel) = endD ss (dnAt js k) - (dnAt js k).rel := IntWalk.i64_in _ (by omega)
          unfold costD at e4
          have hE4 := Lib.hid e4
          clear kj e4 d1 d2 d3 d4 d5 d6 e1
          generalize sumD ss (dnAt js k) = sm at *
          generalize endD ss (dnAt js k) = en at *
          generalize (tskAt l (dnAt js k).tk).cost = co at *
          generalize dnAt js k = d at *
          go_upto_region 30 with (fail)
          generalize hW : World.alloc u.w _ = W at *
          have r17 : RowAt W u.w.heap.size 42 (donC d) := by rw [← hW]; exact RowAt.new _ _ _
          have hbW : Bel u.w W := by rw [← hW]; exact Bel.refl.alloc _
          clear hW j0 j1 j2 j3 j4
          obtain ⟨u2, hu2⟩ := ext_of (u.bel.trans hbW)
          clear hbW
          subst hu2
          have q0 := r17.cell (i := 0) rfl
          have q2 := r17.cell (i := 2) rfl
          have q3 := r17.cell (i := 3) rfl
          have x17 := r17.lt
          clear r17
          generalize u.w.heap.size = p17 at *
          go_upto_region 31 with (fail)
          rcases hE4.out with ⟨f1, f2, f3⟩ | ⟨f1, f2, f3⟩
          · have t1 : decide (co < sm) = false := by simp; omega
            have t2 : (sm == co) = false := by simp; omega
            have t3 : decide (0 ≤ d.resp) = false := by simp; omega
            have t5 : decide (sm < co) = true := by simpa using f1
            have t6 : decide (at_ < (n : Int)) = false := by simp; rw [← HATT.out, f3]; exact Int.le_refl _
            clear f1 f2 f3
            (refine wp_region_ext (wb := u2.w) (by (repeat (first | exact Ext.bel _ | exact Bel.refl | refine Bel.alloc ?_ _ | refine Bel.drew ?_ | refine Bel.drewN ?_ _))) (by kernel_rfl) (by kernel_rfl) ?_; (repeat (any_goals (first | go_big_quiet_step (fail) | quiet_step (fail) | (refine wpQuiet_step (fun K hK => ?_); go_simp; split <;> (refine hK _ ?_; clear hK K))))); all_goals (refine wpQuiet_nil ?_; intro _ hw'; obtain ⟨y, hw''⟩ := hw'; subst hw''))
            go_wp2
            go_roundg (gk - 1)
            case measure => omega
            case rel => exact ⟨k + 1, ⟨_, u2.bel.trans y.bel⟩, by omega, by go_num, rfl⟩
          · subst f1
            have t8 : decide (0 ≤ en - d.rel) = true := by simp; omega
            have t9 : decide (en < d.rel) = false := by simp; omega
            have t10 : decide (d.rel ≤ en) = true := by simp; omega
            generalize d.resp = rs at *
            subst f3
            clear f2
            (refine wp_region_ext (wb := u2.w) (by (repeat (first | exact Ext.bel _ | exact Bel.refl | refine Bel.alloc ?_ _ | refine Bel.drew ?_ | refine Bel.drewN ?_ _))) (by kernel_rfl) (by kernel_rfl) ?_; (repeat (any_goals (first | go_big_quiet_step (fail) | quiet_step (fail) | (refine wpQuiet_step (fun K hK => ?_); go_simp; split <;> (refine hK _ ?_; clear hK K))))); all_goals (refine wpQuiet_nil ?_; intro _ hw'; obtain ⟨y, hw''⟩ := hw'; subst hw''))
            go_wp2
            go_roundg (gk - 1)
            case measure => omega
            case rel => exact ⟨k + 1, ⟨_, u2.bel.trans y.bel⟩, by omega, by go_num, rfl⟩
        · obtain rfl : k = js.length := by omega
          have hdlk : decide ((js.length : Int) < (js.length : Int)) = false := by simp
          have HR1 := Lib.hid (HR.out.bel u.bel)
          obtain ⟨z1, hz1⟩ := ext_of (y.bel.trans u.bel)
          generalize u.w = wu at *
          subst hz1
          clear x0 x1 x7 a9 a10 HA1 HE1 HR
          have x0 := HR1.out.cell (i := 0) rfl
          have x1 := HR1.out.cell (i := 1) rfl
          have x7 := HR1.out.lt
          by_cases hn0 : n = 0
          · subst hn0
            have hj0 : js.length = 0 := by rw [HLJ.out]; rfl
            have hj1 : (js.length : Int) = 0 := by omega
            go_wp2
            go_ret
            exact ⟨by simp [hj1], HB5.out.trans z1.bel⟩
          obtain ⟨m, rfl⟩ : ∃ m, n = m + 1 := ⟨n - 1, by omega⟩
          have hn1 : (((m + 1 : Nat) : Int) == 0) = false := by simp; omega
          have hwn : IntKind.i64.wrap (((m + 1 : Nat) : Int) - 1) = (m : Int) := by rw [IntWalk.i64_in _ (by omega)]; omega
          have HT6 := Lib.hid (HT5.out.keep z1.bel.keeps z1.bel.le)
          have HRUN := Lib.hid (run_any _ l pol m z1.w HT6.out HZ.out)
          rw [sched_ok H0.out HP.out (show m ≤ 20000 by omega)] at HRUN
          have HRUN2 := HRUN.out
          obtain ⟨l1, l2, l3⟩ := order_less H0.out pol m
          rw [← HSS.out] at l1 l3
          have hl2 : ((upTo l pol m).jobs.map (missM l m)).length ≤ js.length := by rw [HLJ.out]; simpa using l2
          have HL3 := Lib.hid l3
          clear l2 l3
          generalize (upTo l pol m).jobs.map (missM l m) = js2 at *
          generalize (upTo l pol m).stints = ss2 at *
          replace HRUN := Lib.hid HRUN2
          clear HRUN2
          go_wp2_with fail
          refine HRUN.out.mono ?_
          rintro e w8 ⟨us, uj, rfl, hus, huj, hB⟩
          dsimp only at hus huj ⊢
          obtain ⟨A3, c3, rfl, _⟩ := hus.form
          obtain ⟨A4, c4, rfl, _⟩ := huj.form
          have HR8 := Lib.hid (HR1.out.bel hB)
          obtain ⟨z8, hz8⟩ := ext_of (z1.bel.trans hB)
          have HUS := Lib.hid hus
          clear hB huj hus x0 x1 x7
          subst hz8
          go_upto_region 36 with (fail)
          generalize hW : World.alloc z8.w _ = W at *
          have r19 : RowAt W z8.w.heap.size 29 [.slice A3 ss2.length c3, .slice A4 js2.length c4] := by rw [← hW]; exact RowAt.new _ _ _
          have hbW : Bel z8.w W := by rw [← hW]; exact Bel.refl.alloc _
          clear hW
          have HR9 := Lib.hid (HR8.out.bel hbW)
          have HUS9 := Lib.hid (HUS.out.keep hbW.keeps hbW.le)
          obtain ⟨z9, hz9⟩ := ext_of (z8.bel.trans hbW)
          clear hbW HR8 HUS
          subst hz9
          generalize z8.w.heap.size = p19 at *
          have x0 := HR9.out.cell (i := 0) rfl
          have x1 := HR9.out.cell (i := 1) rfl
          have x7 := HR9.out.lt
          have v0 := r19.cell (i := 0) rfl
          have v1 := r19.cell (i := 1) rfl
          have x19 := r19.lt
          have t1 : decide ((ss.length : Int) < (ss2.length : Int)) = false := by simp; omega
          have t2 : decide ((js.length : Int) < (js2.length : Int)) = false := by simp; omega
          clear r19
          go_wp2
          go_loopg [21] ss2.length (fun gk s21 wr => ∃ (i : Nat) (u : Ext z9.w), i + gk = ss2.length ∧ s21 = .int .i64 i ∧ wr = u.w)
          case atStart => exact ⟨0, ⟨z9.w, Bel.refl⟩, by omega, rfl, rfl⟩
          case round =>
            obtain ⟨i, u, hi, rfl, rfl⟩ := hrel
            by_cases hlt : i < ss2.length
            · have hdl2 : decide ((i : Int) < (ss2.length : Int)) = true := by simp; omega
              have hil2 : (i : Int) < (ss2.length : Int) := by omega
              have hlt1 : i < ss.length := by omega
              have hil1 : (i : Int) < (ss.length : Int) := by omega
              obtain ⟨bs, os, rfl, hbs, ks⟩ := HVS.out.at_ (by omega)
              obtain ⟨c0, c1', c2', c3'⟩ := rd_stn hlt1 ks
              obtain ⟨bu, ou, rfl, hbu, ku⟩ := HUS9.out.at_ (by omega)
              obtain ⟨d0, d1, d2, d3⟩ := rd_stn hlt ku
              clear ks ku
              rw [← ext_cells z9 _ _ hbs] at c0 c1' c2' c3'
              have hbs2 := ext_lt z9 hbs
              have hst := HO.out.st i hlt1
              have s1 := hst.ft
              have s2 := hst.tt
              have s4 := hst.fr
              obtain ⟨_, _, s3, _, _, _⟩ := HO.out.bd (by omega) i (dnAt js 0)
              rw [HL3.out i hlt] at d0 d1 d2 d3
              dsimp only at d0 d1 d2 d3
              clear hst
              generalize stAt ss i = s at *
              go_upto_region 42 with (fail)
              generalize hW : World.alloc u.w _ = W at *
              have r22 : RowAt W u.w.heap.size 39 (stnC s) := by rw [← hW]; exact RowAt.new _ _ _
              have hbW : Bel u.w W := by rw [← hW]; exact Bel.refl.alloc _
              clear hW c0 c1' c2' c3'
              have g22 : z9.w.heap.size ≤ u.w.heap.size := u.bel.le
              obtain ⟨u2, hu2⟩ := ext_of (u.bel.trans hbW)
              clear hbW
              subst hu2
              generalize u.w.heap.size = p22 at *
              have q3 := r22.cell (i := 3) rfl
              have f3 := r22.frozen 3
              have x22 := r22.lt
              have HR22 := Lib.hid r22
              clear r22
              have hwm : IntKind.i64.wrap (((m + 1 : Nat) : Int) - 1) = (m : Int) := by rw [IntWalk.i64_in _ (by omega)]; omega
              have hse := fun (x : Int) (W : World) => stint_neq s.tk s.job s.frm x W
              have hsg := stint_guard2
              have HSE := Lib.hid hse
              clear hse
              by_cases h1 : (m : Int) < s.to
              case neg =>
                have t3 : decide ((m : Int) < s.to) = false := by simpa using h1
                have e3 : (if s.to < (m : Int) then s.to else (m : Int)) = s.to := by split <;> omega
                rw [e3] at d3
                clear e3
                have HRN := Lib.hid (HR22.out.set 3 (.int .i64 s.to))
                have HBN := Lib.hid (u2.bel.set (p := ⟨p22, 3, none⟩) g22 (.int .i64 s.to))
                go_upto_region 43 with (fail)
                clear q3 f3 x22 HR22 t3 h1 hwm
                generalize hW : World.setCell u2.w _ _ = W at *
                clear hW
                obtain ⟨u3, hu3⟩ := ext_of HBN.out
                subst hu3
                have q0 := HRN.out.cell (i := 0) rfl
                have q1 := HRN.out.cell (i := 1) rfl
                have q2 := HRN.out.cell (i := 2) rfl
                have q3 := HRN.out.cell (i := 3) rfl
                have x22 := HRN.out.lt
                have hse := HSE.out s.to
                (refine wp_region_ext (wb := u3.w) (by (repeat (first | exact Ext.bel _ | exact Bel.refl | refine Bel.alloc ?_ _ | refine Bel.drew ?_ | refine Bel.drewN ?_ _))) (by kernel_rfl) (by kernel_rfl) ?_; (repeat (any_goals (first | go_big_quiet_step (fail) | quiet_step (fail) | (refine wpQuiet_step (fun K hK => ?_); go_simp; split <;> (refine hK _ ?_; clear hK K))))); all_goals (refine wpQuiet_nil ?_; intro _ hw'; obtain ⟨y, hw''⟩ := hw'; subst hw''))
                clear hse hsg
                go_wp2
                go_roundg (gk - 1)
                case measure => omega
                case rel => exact ⟨i + 1, ⟨_, u3.bel.trans y.bel⟩, by omega, by go_num, rfl⟩
              case pos =>
                have t3 : decide ((m : Int) < s.to) = true := by simpa using h1
                rw [if_neg (by omega)] at d3
                have HRN := Lib.hid (HR22.out.set 3 (.int .i64 (m : Int)))
                have HBN := Lib.hid (u2.bel.set (p := ⟨p22, 3, none⟩) g22 (.int .i64 (m : Int)))
                go_upto_region 43 with (fail)
                clear q3 f3 x22 HR22 t3 h1 hwm
                generalize hW : World.setCell u2.w _ _ = W at *
                clear hW
                obtain ⟨u3, hu3⟩ := ext_of HBN.out
                subst hu3
                have q0 := HRN.out.cell (i := 0) rfl
                have q1 := HRN.out.cell (i := 1) rfl
                have q2 := HRN.out.cell (i := 2) rfl
                have q3 := HRN.out.cell (i := 3) rfl
                have x22 := HRN.out.lt
                have hse := HSE.out (m : Int)
                (refine wp_region_ext (wb := u3.w) (by (repeat (first | exact Ext.bel _ | exact Bel.refl | refine Bel.alloc ?_ _ | refine Bel.drew ?_ | refine Bel.drewN ?_ _))) (by kernel_rfl) (by kernel_rfl) ?_; (repeat (any_goals (first | go_big_quiet_step (fail) | quiet_step (fail) | (refine wpQuiet_step (fun K hK => ?_); go_simp; split <;> (refine hK _ ?_; clear hK K))))); all_goals (refine wpQuiet_nil ?_; intro _ hw'; obtain ⟨y, hw''⟩ := hw'; subst hw''))
                clear hse hsg
                go_wp2
                go_roundg (gk - 1)
                case measure => omega
                case rel => exact ⟨i + 1, ⟨_, u3.bel.trans y.bel⟩, by omega, by go_num, rfl⟩
            · obtain rfl : i = ss2.length := by omega
              have hdl2 : decide ((ss2.length : Int) < (ss2.length : Int)) = false := by simp
              go_wp2
              go_ret
              exact ⟨rfl, HB5.out.trans (z9.bel.trans u.bel)⟩
end Go.Proofs.Ythcdemmamggboaa
