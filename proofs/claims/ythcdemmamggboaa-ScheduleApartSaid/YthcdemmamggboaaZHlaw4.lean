import Derived.Test.YthcdemmamggboaaZHrun
import Derived.Test.YthcdemmamggboaaZHshow
import Derived.Test.YthcdemmamggboaaG6
import Derived.Test.YthcdemmamggboaaG1
import Derived.Test.YthcdemmamggboaaZHfind
import Derived.Test.YthcdemmamggboaaG5
import Derived.Test.YthcdemmamggboaaZHmany
import Derived.Test.YthcdemmamggboaaZHap
namespace Go.Proofs.Ythcdemmamggboaa
open Go.RowKit
set_option maxRecDepth 100000 in
set_option maxHeartbeats 16000000 in
theorem apart_any (v : Value) (l : List Tsk) (ticks : Int) (w : World) (h : TsksAt w w.heap.size v l) (hl : l.length ≤ 9223372036854775807)
    (hs : ∀ i, i < l.length → (tskAt l i).secs.length ≤ 9223372036854775807 ∧ (tskAt l i).name.size ≤ 9223372036854775807) (hwf : ∀ i, i < l.length → (tskAt l i).wf) :
    Calls Try.prog 6 #[v, .int .i64 ticks] w fun e w' => e = .returned (.bool true) ∧ Bel w w' := by
  have HT := Lib.hid h
  have HS := Lib.hid hs
  have HW := Lib.hid hwf
  obtain ⟨A, c, rfl, _⟩ := h.form
  clear h hs hwf
  go_enter Try.func6, Try.ntmps6
  go_wp2_with fail
  refine (shown33_any _).mono ?_
  rintro e w1 ⟨rfl, hB⟩
  have HB1 := Lib.hid hB
  have HT1 := Lib.hid (HT.out.keep hB.keeps hB.le)
  clear hB HT
  go_wp2_with fail
  refine (beyond_any _ l w1 HT1.out HS.out hl).mono ?_
  rintro e w2 ⟨rfl, hw⟩
  obtain rfl : w1 = w2 := hw.symm
  cases hbe : beyond l
  case true =>
    go_wp2
    go_ret
    exact ⟨rfl, HB1.out⟩
  have HZ := Lib.hid (sized_of hbe HW.out)
  clear hbe
  go_wp2_with fail
  refine (rcheck_any _ l w1 HT1.out HZ.out.len HZ.out.parts).mono ?_
  rintro e w3 ⟨rfl, hB⟩
  have HB3 := Lib.hid (HB1.out.trans hB)
  have HT3 := Lib.hid (HT1.out.keep hB.keeps hB.le)
  clear hB HB1 HT1
  by_cases h0 : rchk l = 0
  case neg =>
    have hne : (rchk l == 0) = false := by simpa using h0
    generalize rchk l = ck at *
    go_wp2
    go_ret
    exact ⟨rfl, HB3.out⟩
  rw [h0]
  have H0 := Lib.hid h0
  clear h0
  by_cases ht0 : ticks < 0
  · have q1 : decide (ticks < 0) = true := decide_eq_true ht0
    go_wp2
    go_ret
    exact ⟨rfl, HB3.out⟩
  have q1 : decide (ticks < 0) = false := decide_eq_false ht0
  by_cases ht3 : 300 < ticks
  · have q2 : decide (300 < ticks) = true := decide_eq_true ht3
    go_wp2
    go_ret
    exact ⟨rfl, HB3.out⟩
  have q2 : decide (300 < ticks) = false := decide_eq_false ht3
  obtain ⟨n, rfl⟩ : ∃ n : Nat, ticks = n := ⟨ticks.toNat, by omega⟩
  have hn3 : n ≤ 300 := by omega
  clear ht0 ht3
  go_wp2_with fail
  refine (run_any _ l 1 n w3 HT3.out HZ.out).mono ?_
  rintro e w5 ⟨vs, vj, rfl, hvs, hvj, hB⟩
  have HB5 := Lib.hid (HB3.out.trans hB)
  have HT5 := Lib.hid (HT3.out.keep hB.keeps hB.le)
  clear hB HB3 HT3 q1 q2
  have hp : ¬ ((1 : Int) ≠ 1 ∧ ((1 : Int) ≠ 2 ∨ secsB l = true)) := by simp
  have hM := sched_ok H0.out hp (show n ≤ 20000 by omega)
  rw [hM] at hvs hvj ⊢
  dsimp only at hvs hvj ⊢
  have HO := Lib.hid ((upTo_TI H0.out 1 n).order H0.out)
  obtain ⟨hls, hlj⟩ := upTo_len H0.out 1 (show n ≤ 20000 by omega)
  have HLJ : Hid (((upTo l 1 n).jobs.map (missM l n)).length = (upTo l 1 n).jobs.length) := Lib.hid (by simp)
  have hlj2 : ((upTo l 1 n).jobs.map (missM l n)).length ≤ 160000 := by rw [HLJ.out]; exact hlj
  have HP := Lib.hid hp
  clear hp hM hlj
  obtain ⟨ss, hss⟩ : ∃ ss, ss = (upTo l 1 n).stints := ⟨_, rfl⟩
  obtain ⟨js, hjs⟩ : ∃ js, js = (upTo l 1 n).jobs.map (missM l n) := ⟨_, rfl⟩
  rw [← hss] at hvs hls HO
  rw [← hjs] at hvj hlj2 HO HLJ
  have HSS := Lib.hid hss
  have HJS := Lib.hid hjs
  obtain ⟨A1, c1, rfl, _⟩ := hvs.form
  obtain ⟨A2, c2, rfl, _⟩ := hvj.form
  have HVS := Lib.hid hvs
  have HVJ := Lib.hid hvj
  clear hss hjs hvs hvj
  go_upto_region 6 with (fail)
  generalize hW : World.alloc w5 _ = w6 at *
  have r7 : RowAt w6 w5.heap.size 29 [.slice A1 ss.length c1, .slice A2 js.length c2] := by rw [← hW]; exact RowAt.new _ _ _
  have hB6 : Bel w5 w6 := by rw [← hW]; exact Bel.refl.alloc _
  clear hW
  generalize hp7 : w5.heap.size = p7 at r7 ⊢
  have x0 := r7.cell (i := 0) rfl
  have x1 := r7.cell (i := 1) rfl
  have x7 := r7.lt
  have hi3 : (Try.prog.info? 2).map (fun i => (i.zero, i.size, i.bytes)) = some (some (.int .i64 0), 1, 8) := by kernel_rfl
  obtain ⟨iI, hi, hz⟩ : ∃ i, Try.prog.info? 2 = some i ∧ (i.zero, i.size, i.bytes) = (some (.int .i64 0), 1, 8) := by
    cases hx : Try.prog.info? 2 with
    | none => rw [hx] at hi3; cases hi3
    | some i => rw [hx] at hi3; exact ⟨i, rfl, by simpa using hi3⟩
  simp only [Prod.mk.injEq] at hz
  obtain ⟨hz0, hz1, hz2⟩ := hz
  have hmk : ∀ W : World, (Instr.makeSlice 37 (.int .i64 (js.length : Int)) (.int .i64 (js.length : Int))).run Try.prog W = .ok (.slice (some ⟨W.heap.size, 0, none⟩) js.length js.length) (W.alloc (.cells (madeCells (Value.int .i64 0).cells (js.length * 1)) 2)) := make_ints Try.underlying37 hi hz0 hz1 hz2 js.length (by omega)
  have HR7 := Lib.hid r7
  have HB6 := Lib.hid hB6
  clear hi3 hi hz0 hz1 hz2 r7 hB6
  go_upto_region 9 with (fail)
  clear hmk
  generalize hW8 : World.alloc w6 _ = W8 at *
  have a1 : ArrAt W8 w6.heap.size 2 js.length (fun _ => 0) := by rw [← hW8]; have := ArrAt.made w6 2 js.length; rw [Nat.mul_one] at this; exact this
  have b1 : Bel w6 W8 := by rw [← hW8]; exact Bel.refl.alloc _
  clear hW8 x0 x1 x7
  have r7' := HR7.out.bel b1
  have g9 : w5.heap.size ≤ w6.heap.size := HB6.out.le
  have n79 : p7 ≠ w6.heap.size := by have := HR7.out.lt; omega
  have g7 : w5.heap.size ≤ p7 := by omega
  obtain ⟨y0, rfl⟩ := ext_of (HB6.out.trans b1)
  clear b1 HR7 HB6
  generalize w6.heap.size = p9 at *
  have HR0 := Lib.hid r7'
  have HA0 : Hid (ArrAt y0.w p9 2 js.length (fun r => sumD (ss.take 0) (dnAt js r))) := Lib.hid a1
  have HSL := Lib.hid (fun k (hk : k < l.length) => (show (tskAt l k).secs.length ≤ 4 from sec_four H0.out hk))
  clear r7' a1
  have hlp := rchk_pos H0.out
  clear hp7
  go_wp2
  go_loopg [8] ss.length (fun gk s8 wr => ∃ (i : Nat) (y : Ext w5), i + gk = ss.length ∧ s8 = .int .i64 i ∧ wr = y.w ∧ RowAt y.w p7 29 [.slice A1 ss.length c1, .slice A2 js.length c2] ∧
    ArrAt y.w p9 2 js.length (fun r => sumD (ss.take i) (dnAt js r)))
  case atStart => exact ⟨0, y0, by omega, rfl, rfl, HR0.out, HA0.out⟩
  case round =>
    clear HR0 HA0 y0
    obtain ⟨i, y, hi, rfl, rfl, hr7, ha9⟩ := hrel
    have x0 := hr7.cell (i := 0) rfl
    have x1 := hr7.cell (i := 1) rfl
    have x7 := hr7.lt
    have HR := Lib.hid hr7
    have HA := Lib.hid ha9
    clear hr7 ha9
    by_cases hlt : i < ss.length
    · have hdl : decide ((i : Int) < (ss.length : Int)) = true := by simp; omega
      have hil : (i : Int) < (ss.length : Int) := by omega
      obtain ⟨bs, os, rfl, hbs, ks⟩ := HVS.out.at_ (by omega)
      obtain ⟨c0, c1', c2', c3⟩ := rd_stn hlt ks
      clear ks
      have hst := HO.out.st i hlt
      obtain ⟨_, _, o3, _, _, _⟩ := HO.out.bd (by omega) i (dnAt js 0)
      obtain ⟨s1, s2, s3, ⟨k0, hk0, hkm, hkr⟩, _⟩ := hst
      have HNX := Lib.hid (fun r hr => (HO.out.next hlt hk0 hkm r hr).1)
      have HAP := Lib.hid (fun a ha r => apart_at H0.out HSS.out HJS.out hlt hk0 hkm (a := a) ha r)
      have HBD := Lib.hid (HO.out.bd (by omega) i (dnAt js k0))
      have HKM := Lib.hid hkm
      clear hkm
      generalize hsi : stAt ss i = s at *
      clear hsi
      have t1 : decide (s.frm < 0) = false := by simp; omega
      have t3 : decide ((n : Int) < s.to) = false := by simp; omega
      have t4 : decide ((k0 : Int) < 0) = false := by simp
      go_upto_region 13 with (fail)
      generalize hW : World.alloc y.w _ = W at *
      have r13 : RowAt W y.w.heap.size 39 (stnC s) := by rw [← hW]; exact RowAt.new _ _ _
      have hbW : Bel y.w W := by rw [← hW]; exact Bel.refl.alloc _
      clear hW c0 c1' c2' c3 x0 x1 x7
      have HR1 := Lib.hid (HR.out.bel hbW)
      have HA1 := Lib.hid (HA.out.bel hbW)
      have n137 : p7 ≠ y.w.heap.size := by have := HR.out.lt; omega
      have n139 : p9 ≠ y.w.heap.size := by have := HA.out.lt; omega
      obtain ⟨z, rfl⟩ := ext_of (y.bel.trans hbW)
      generalize y.w.heap.size = p13 at *
      clear hbW HR HA y
      have HRS := Lib.hid r13
      have x0 := HR1.out.cell (i := 0) rfl
      have x1 := HR1.out.cell (i := 1) rfl
      have x7 := HR1.out.lt
      have q0 := r13.cell (i := 0) rfl
      have q1 := r13.cell (i := 1) rfl
      have q2 := r13.cell (i := 2) rfl
      have q3 := r13.cell (i := 3) rfl
      have x13 := r13.lt
      clear r13
      have HFD := Lib.hid (find_any _ js s.tk s.job k0 z.w (HVJ.out.keep z.bel.keeps z.bel.le) hk0 (by omega) ⟨HKM.out.1.symm, HKM.out.2.symm⟩ (fun r hr e1 e2 => HO.out.un r k0 hr hk0 (by have := HKM.out.1; omega) (by rw [e2, HKM.out.2])))
      go_wp2_with fail
      refine HFD.out.mono ?_
      rintro e w' ⟨rfl, rfl⟩
      obtain ⟨G, hG⟩ : ∃ G, G = gk := ⟨_, rfl⟩
      rw [← hG] at hi
      obtain ⟨L, hL⟩ : ∃ L : Nat, (L : Int) = s.to - s.frm := ⟨(s.to - s.frm).toNat, by omega⟩
      have HF0 : Hid (ArrAt z.w p9 2 js.length (fun r => sumD (ss.take i) (dnAt js r) + (if r = k0 then ((0 : Nat) : Int) else 0))) := Lib.hid (HA1.out.congr (fun r _ => by split <;> simp))
      have HF1 : Hid (s.frm + ((0 : Nat) : Int) = s.frm) := Lib.hid (by simp)
      clear HFD
      have hkl : (k0 : Int) < (js.length : Int) := by omega
      go_wp2
      go_loopg [11] L (fun gk s11 wr => ∃ (a : Nat) (u : Ext w5), a + gk = L ∧ s11 = .int .i64 (s.frm + a) ∧ wr = u.w ∧ RowAt u.w p7 29 [.slice (some ⟨bs, os, none⟩) ss.length c1, .slice A2 js.length c2] ∧ RowAt u.w p13 39 (stnC s) ∧
        ArrAt u.w p9 2 js.length (fun r => sumD (ss.take i) (dnAt js r) + (if r = k0 then (a : Int) else 0)))
      case atStart => exact ⟨0, z, by omega, by rw [HF1.out], rfl, HR1.out, HRS.out, HF0.out⟩
      case round =>
        clear HF0 HF1 HR1 HRS HA1 x0 x1 x7 q0 q1 q2 q3 x13 z
        obtain ⟨a, u, ha, rfl, rfl, hr7, hrs, ha9⟩ := hrel
        have x0 := hr7.cell (i := 0) rfl
        have x1 := hr7.cell (i := 1) rfl
        have x7 := hr7.lt
        have q3 := hrs.cell (i := 3) rfl
        have x13 := hrs.lt
        have a9 := ha9.lt
        have HR := Lib.hid hr7
        have HRS := Lib.hid hrs
        have HA := Lib.hid ha9
        clear hr7 hrs ha9
        by_cases hla : a < L
        · have hda : decide (s.frm + (a : Int) < s.to) = true := by simp; omega
          have ca := HA.out.cell hk0
          rw [if_pos rfl] at ca
          have fa := HA.out.frozen k0
          obtain ⟨d1, d2, d3, d4, _, _⟩ := HBD.out
          have hwa : IntKind.i64.wrap (sumD (ss.take i) (dnAt js k0) + (a : Int) + 1) = sumD (ss.take i) (dnAt js k0) + (a : Int) + 1 := IntWalk.i64_in _ (by omega)
          have HAN : Hid (ArrAt (u.w.setCell ⟨p9, k0, none⟩ (.int .i64 (sumD (ss.take i) (dnAt js k0) + (a : Int) + 1))) p9 2 js.length (fun r => sumD (ss.take i) (dnAt js r) + (if r = k0 then (a : Int) + 1 else 0))) :=
            Lib.hid ((HA.out.set k0 (sumD (ss.take i) (dnAt js k0) + (a : Int) + 1)).congr (fun r _ => by
              by_cases e : r = k0
              · subst e; simp; omega
              · simp [e]))
          have HRN := Lib.hid (HR.out.far (a := ⟨p9, k0, none⟩) n79 (.int .i64 (sumD (ss.take i) (dnAt js k0) + (a : Int) + 1)))
          have HSN := Lib.hid (HRS.out.far (a := ⟨p9, k0, none⟩) (Ne.symm n139) (.int .i64 (sumD (ss.take i) (dnAt js k0) + (a : Int) + 1)))
          have HBN := Lib.hid (u.bel.set (p := ⟨p9, k0, none⟩) g9 (.int .i64 (sumD (ss.take i) (dnAt js k0) + (a : Int) + 1)))
          have HMC := Lib.hid (HAP.out a (by omega))
          clear d1 d2 d3 d4
          go_upto_region 20 with (fail)
          generalize hW : World.setCell u.w _ _ = W at *
          clear hW ca fa hwa x0 x1 x7 q3 x13 a9 HR HRS HA
          obtain ⟨u2, hu2⟩ := ext_of HBN.out
          clear HBN u
          subst hu2
          have x0 := HRN.out.cell (i := 0) rfl
          have x1 := HRN.out.cell (i := 1) rfl
          have x7 := HRN.out.lt
          have q3 := HSN.out.cell (i := 3) rfl
          have x13 := HSN.out.lt
          have a9 := HAN.out.lt
          obtain ⟨G2, hG2⟩ : ∃ G2, G2 = gk := ⟨_, rfl⟩
          rw [← hG2] at ha
          go_wp2
          go_loopg [12] 8 (fun gk s12 wr => ∃ (r : Nat) (x : Ext u2.w), r + gk = 8 ∧ s12 = .int .i64 r ∧ wr = x.w)
          case atStart => exact ⟨0, ⟨u2.w, Bel.refl⟩, by omega, rfl, rfl⟩
          case round =>
            obtain ⟨r, x, hr, rfl, rfl⟩ := hrel
            by_cases hlr : r < 8
            · have hdr : decide ((r : Int) < 8) = true := by simp; omega
              have HMA := Lib.hid (many_any _ _ l js p9 _ (r : Int) x.w (HT5.out.keep (u2.bel.trans x.bel).keeps (u2.bel.trans x.bel).le) (HVJ.out.keep (u2.bel.trans x.bel).keeps (u2.bel.trans x.bel).le) (HAN.out.bel x.bel) H0.out (by omega) (fun k hk => (HO.out.jb k hk).tk) HSL.out)
              have hmc := HMC.out (r : Int)
              generalize manyJ l (r : Int) _ 0 js = q at *
              have hdq : decide (1 < (q : Int)) = false := by simp; omega
              clear hmc
              go_wp2_with fail
              refine HMA.out.mono ?_
              rintro e w' ⟨rfl, hbx⟩
              obtain ⟨x', hx'⟩ := ext_of (x.bel.trans hbx)
              clear hbx HMA
              subst hx'
              go_wp2
              go_roundg (gk - 1)
              case measure => omega
              case rel => exact ⟨r + 1, x', by omega, by go_num, rfl⟩
            · obtain rfl : r = 8 := by omega
              go_wp2
              go_roundg (G2 - 1)
              case measure => omega
              case rel => exact ⟨a + 1, ⟨_, u2.bel.trans x.bel⟩, by omega, by go_num, rfl, HRN.out.bel x.bel, HSN.out.bel x.bel, by have := HAN.out.bel x.bel; push_cast; exact this⟩
        · obtain rfl : a = L := by omega
          have hda : decide (s.frm + (a : Int) < s.to) = false := by simp; omega
          have HN : Hid (ArrAt u.w p9 2 js.length (fun r => sumD (ss.take (i + 1)) (dnAt js r))) := Lib.hid (HA.out.congr (fun r hr => by
            rw [← HNX.out r hr]
            by_cases e : r = k0
            · subst e; simp; omega
            · simp [e]))
          clear HA
          go_wp2
          go_roundg (G - 1)
          case measure => omega
          case rel => exact ⟨i + 1, u, by omega, by go_num, rfl, HR.out, HN.out⟩
    · obtain rfl : i = ss.length := by omega
      have hdl : decide ((ss.length : Int) < (ss.length : Int)) = false := by simp
      go_wp2
      go_ret
      exact ⟨rfl, HB5.out.trans y.bel⟩
end Go.Proofs.Ythcdemmamggboaa
