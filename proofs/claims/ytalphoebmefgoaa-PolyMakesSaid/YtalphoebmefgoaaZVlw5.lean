/- poly: PolyMakes: the walk. -/
import Derived.Test.YtalphoebmefgoaaG46
import Derived.Test.YtalphoebmefgoaaG47
import Derived.Test.YtalphoebmefgoaaZVmin
import Derived.Test.YtalphoebmefgoaaZVrmi
import Derived.Test.YtalphoebmefgoaaZVrlea
namespace Go.Proofs.Ytalphoebmefgoaa
open Go.RowKit
theorem sameA_own (l : List AL) : sameA l l = true := (sameA_iff l l).2 rfl
theorem lens_of5 {l : List AL} (h : ∀ x, x ∈ l → x.a.length ≤ 1000000) : AlLens l := fun _ hi => h _ (alAt_mem hi)
theorem beyond_f5 {most : Int} {c : C7} (h : beyond7 most c = false) : farM most c.l = false ∧ farM most c.m = false ∧ c.x.a.length ≤ 20 ∧ c.p.length ≤ 20 ∧ c.a.length ≤ 20 := by
  unfold beyond7 at h
  simp only [Bool.or_eq_false_iff, decide_eq_false_iff_not] at h
  obtain ⟨h1, h2, h3, h4, h5⟩ := h
  exact ⟨h1, h2, by omega, by omega, by omega⟩
set_option maxRecDepth 100000 in
set_option maxHeartbeats 8000000 in
theorem pmakes_any (c : C7) (lv mv xv pv av : Value) (w : World) (h : C7At w lv mv xv pv av c) (hwf : c.wf) :
    Calls Try.prog 6 #[.agg #[.int .i64 c.n, lv, mv, xv, .int .i64 c.x.b, .bool c.x.s, .int .i64 c.i, pv, av]] w fun e w' => e = .returned (.bool true) ∧ Bel w w' := by
  have H := Lib.hid h
  have HWF := Lib.hid hwf
  obtain ⟨A1, k1, rfl, _⟩ := h.l.form
  obtain ⟨A2, k2, rfl, _⟩ := h.m.form
  obtain ⟨A3, k3, rfl, _⟩ := h.x.form
  obtain ⟨A4, k4, rfl, _⟩ := h.p.form
  obtain ⟨A5, k5, rfl, _⟩ := h.a.form
  clear h hwf
  go_enter Try.func6, Try.ntmps6
  go_upto_region 1 with (fail)
  generalize hW : World.alloc w _ = w1 at *
  have hb : Bel w w1 := by rw [← hW]; exact Bel.refl.alloc _
  have r1 : RowAt w1 w.heap.size 28 [.int .i64 c.n, .slice A1 c.l.length k1, .slice A2 c.m.length k2, .slice A3 c.x.a.length k3, .int .i64 c.x.b, .bool c.x.s, .int .i64 c.i, .slice A4 c.p.length k4, .slice A5 c.a.length k5] := by rw [← hW]; exact RowAt.new _ _ _
  clear hW
  have HB := Lib.hid hb
  have HR := Lib.hid r1
  have HC := Lib.hid (H.out.bel hb)
  clear hb H
  generalize w.heap.size = bq at *
  have HBY := Lib.hid (beyond7_any _ _ _ _ _ c 8 w1 HC.out)
  have x0 := r1.cell (i := 0) rfl
  have x1 := r1.cell (i := 1) rfl
  have x2 := r1.cell (i := 2) rfl
  have x3 := r1.cell (i := 3) rfl
  have x4 := r1.cell (i := 4) rfl
  have x5 := r1.cell (i := 5) rfl
  have x6 := r1.cell (i := 6) rfl
  have x7 := r1.cell (i := 7) rfl
  have x8 := r1.cell (i := 8) rfl
  have lz := r1.lt
  clear r1
  go_wp2_with fail
  refine HBY.out.mono ?_
  rintro e w2 ⟨rfl, hB⟩
  have HB2 := Lib.hid (HB.out.trans hB)
  have HC2 := Lib.hid (HC.out.bel hB)
  have HR2 := Lib.hid (HR.out.bel hB)
  clear hB HBY HB HC HR x0 x1 x2 x3 x4 x5 x6 x7 x8 lz
  cases hby : beyond7 8 c
  · obtain ⟨hf1, hf2, hxb, hpb, hab⟩ := beyond_f5 hby
    obtain ⟨hl1, hl2, _⟩ := far_f hf1
    obtain ⟨hm1, hm2, _⟩ := far_f hf2
    have HAL := Lib.hid (lens_of5 (fun x hx => by have := hl2 x hx; omega))
    have HLS : Hid (∀ x, x ∈ c.l → x.a.length ≤ 1000000) := Lib.hid (fun x hx => by have := hl2 x hx; omega)
    have HAM := Lib.hid (lens_of5 (fun x hx => by have := hm2 x hx; omega))
    have HLL : Hid (c.l.length ≤ 1000000) := Lib.hid (by omega)
    have HLL1 : Hid (c.l.length ≤ 100000) := Lib.hid (by omega)
    have HLM : Hid (c.m.length ≤ 1000000) := Lib.hid (by omega)
    have HPP : Hid (c.p.length ≤ 1000000) := Lib.hid (by omega)
    have HXX : Hid (c.x.a.length ≤ 1000000) := Lib.hid (by omega)
    have HAA : Hid (c.a.length ≤ 1000000) := Lib.hid (by omega)
    have HAA1 : Hid (c.a.length ≤ 100000) := Lib.hid (by omega)
    clear hby hf1 hf2 hl1 hl2 hm1 hm2 hpb hab hxb
    have HLE := Lib.hid (lent_any _ c.l w2 HC2.out.l HLL1.out HLS.out)
    have x1 := HR2.out.cell (i := 1) rfl
    have lz := HR2.out.lt
    go_wp2_with fail
    refine HLE.out.mono ?_
    rintro e w3 ⟨v3, L3, rfl, hao, hm, hB⟩
    have HB3 := Lib.hid (HB2.out.trans hB)
    have HC3 := Lib.hid (HC2.out.bel hB)
    have HR3 := Lib.hid (HR2.out.bel hB)
    have hln := hao.ar.lines hB.le
    rw [hm] at hln
    have HO3 := Lib.hid hln
    obtain ⟨A6, k6, rfl, _⟩ := hln.form
    clear hao hm hB hln HLE x1 lz HB2 HC2 HR2
    have HQ1 := Lib.hid (minus_any c.n _ _ c.l c.m w3 HO3.out HC3.out.m HAL.out HAM.out HLL.out HLM.out)
    have HQ2 := Lib.hid (fun W (h2 : C7At W (.slice A1 c.l.length k1) (.slice A2 c.m.length k2) (.slice A3 c.x.a.length k3) (.slice A4 c.p.length k4) (.slice A5 c.a.length k5) c) => rminus_any c.n _ _ c.l c.m W h2.l h2.m HAL.out HAM.out HLL.out HLM.out)
    have HML := Lib.hid (minusM_len (n := c.n) (a := c.l) (b := c.m))
    have HMC := Lib.hid (minusM_cnt (n := c.n) (a := c.l) (b := c.m))
    generalize minusM c.n c.l c.m = M at *
    obtain ⟨LL, er⟩ := M
    unfold MsPost at HQ1
    unfold M0Post at HQ2
    dsimp only at HQ1 HQ2 HML HMC
    have x0 := HR3.out.cell (i := 0) rfl
    have x2 := HR3.out.cell (i := 2) rfl
    have lz := HR3.out.lt
    go_wp2_with fail
    refine HQ1.out.mono ?_
    rintro e w4 ⟨v4, P4, rfl, hms, hlm, hB⟩
    have HMS4 := Lib.hid hms
    have HLM4 := Lib.hid hlm
    have HLN4 : Hid (P4.length = LL.length) := Lib.hid (by rw [← hlm, List.length_map])
    obtain ⟨A7, k7, rfl, _⟩ := hms.form
    have HS3 := Lib.hid hB.le
    clear x0 x2 lz hms hlm
    have HB4 := Lib.hid (HB3.out.trans hB)
    have HC4 := Lib.hid (HC3.out.bel hB)
    have HR4 := Lib.hid (HR3.out.bel hB)
    have HO4 := Lib.hid (HO3.out.bel hB)
    clear HQ1
    clear hB HB3 HC3 HR3 HO3
    have x0 := HR4.out.cell (i := 0) rfl
    have x1 := HR4.out.cell (i := 1) rfl
    have x2 := HR4.out.cell (i := 2) rfl
    have lz := HR4.out.lt
    go_wp2_with fail
    refine (HQ2.out _ HC4.out).mono ?_
    rintro e w5 ⟨v5, P5, rfl, hm0, hlm, hB⟩
    have HMS5 := Lib.hid (HMS4.out.bel hB)
    have HM05 := Lib.hid hm0
    have HLM5 := Lib.hid hlm
    have HLN5 : Hid (P5.length = LL.length) := Lib.hid (by rw [← hlm, List.length_map])
    obtain ⟨A8, k8, rfl, _⟩ := hm0.form
    have HS4 := Lib.hid hB.le
    clear x0 x1 x2 lz hm0 hlm HMS4
    have HB5 := Lib.hid (HB4.out.trans hB)
    have HC5 := Lib.hid (HC4.out.bel hB)
    have HR5 := Lib.hid (HR4.out.bel hB)
    have HO5 := Lib.hid (HO4.out.bel hB)
    clear HQ2
    clear hB HB4 HC4 HR4 HO4
    have te : (er != er) = false := by simp
    have tl : ((P4.length : Int) != (P5.length : Int)) = false := by have := HLN4.out; have := HLN5.out; simp; omega
    have hP4 : P4.length ≤ 1000 := by have := HLN4.out; have := HMC.out; omega
    go_wp2
    go_loopw [8] (fun s8 wq => ∃ (k : Nat) (y : Ext w5), k ≤ P4.length ∧ s8 = .int .i64 k ∧ wq = y.w) (fun s8 _ => P4.length + 1 - (intOf s8).toNat)
    case atStart => exact ⟨0, ⟨_, Bel.refl⟩, Nat.zero_le _, rfl, rfl⟩
    case round =>
      obtain ⟨k, y, hk, rfl, rfl⟩ := hrel
      have HB7 := Lib.hid (HB5.out.trans y.bel)
      have HC7 := Lib.hid (HC5.out.bel y.bel)
      have HR7 := Lib.hid (HR5.out.bel y.bel)
      have HO7 := Lib.hid (HO5.out.bel y.bel)
      by_cases hlt : k < P4.length
      · have hd : decide ((k : Int) < (P4.length : Int)) = true := by simp; omega
        have hL : (k : Int) < (P4.length : Int) := by omega
        have hlt5 : k < P5.length := by have := HLN4.out; have := HLN5.out; omega
        have hL5 : (k : Int) < (P5.length : Int) := by omega
        have hltL : k < LL.length := by have := HLN4.out; omega
        have wk : IntKind.i64.wrap ((k : Int) + 1) = ((k + 1 : Nat) : Int) := IntWalk.i64_in _ (by omega)
        have hsz : w3.heap.size ≤ w5.heap.size := Nat.le_trans HS3.out HS4.out
        have hmy := HMS5.out.bel y.bel
        have hm0 := HM05.out.bel y.bel HS4.out
        obtain ⟨g9, c9, e9, hb9, hl9, hc9⟩ := hmy.get hlt
        injection e9 with e9 _ e9c
        subst e9 e9c
        obtain ⟨g0, c0, e0, hb0, hl0, hc0⟩ := hm0.get hlt5
        injection e0 with e0 _ e0c
        subst e0 e0c
        have hlin := (hmy.at_ _ (List.getElem_mem hlt)).lines (by have := y.bel.le; omega)
        have hlin0 := (hm0.at_ _ (List.getElem_mem hlt5)).lines (by have := y.bel.le; have := HS4.out; omega)
        have hq : P4[k].2.map Prod.snd = LL[k] := by
          have := HLM4.out
          subst this
          rw [List.getElem_map]
        have hq0 : P5[k].2.map Prod.snd = LL[k] := by
          have := HLM5.out
          subst this
          rw [List.getElem_map]
        rw [hq] at hlin
        rw [hq0] at hlin0
        obtain ⟨hq1, hq2⟩ := HML.out _ (List.getElem_mem hltL)
        obtain ⟨Aq, kq, eq, _⟩ := hlin.form
        obtain ⟨Ar, kr, er0, _⟩ := hlin0.form
        rw [eq] at hc9 hlin
        rw [er0] at hc0 hlin0
        have HSA := Lib.hid (fun W (hW : Bel y.w W) => same7_any _ _ LL[k] LL[k] W (hlin.bel hW) (hlin0.bel hW) (by omega) (by omega) (lens_of5 (fun x hx => by have := hq2 x hx; omega)) (lens_of5 (fun x hx => by have := hq2 x hx; omega)))
        rw [sameA_own] at HSA
        clear hlin hlin0 hmy hm0 hq hq0 hq1 hq2 eq er0
        generalize LL[k] = Q at *
        have HWR := Lib.hid y.bel
        generalize hyw : y.w = wr at *
        go_upto_region 11 with (fail)
        (refine wp_region_ext (wb := wr) (by (repeat (first | exact Ext.bel _ | exact Bel.refl | refine Bel.alloc ?_ _ | refine Bel.drew ?_ | refine Bel.drewN ?_ _))) (by kernel_rfl) (by kernel_rfl) ?_; (repeat (any_goals (first | go_big_quiet_step ((go_at_call 14; with_reducible exact ext_call (HSA.out _ (Ext.bel _)))) | quiet_step ((go_at_call 14; with_reducible exact ext_call (HSA.out _ (Ext.bel _)))) | (refine wpQuiet_step (fun K hK => ?_); go_simp; split <;> (refine hK _ ?_; clear hK K))))); all_goals (refine wpQuiet_nil ?_; intro _ hw'; obtain ⟨y, hw''⟩ := hw'; subst hw''))
        have HW9 := Lib.hid (HWR.out.trans y.bel)
        go_wp2
        go_roundw
        case rel => exact ⟨k + 1, ⟨_, HW9.out⟩, hlt, by go_num, rfl⟩
        case measure => simp [intOf]; omega
      · obtain rfl : k = P4.length := by omega
        have hd : decide ((P4.length : Int) < (P4.length : Int)) = false := by simp
        clear te tl HML HMC HMS5 HM05 HLM4 HLM5 HB5 HC5 HR5 HO5
        have HQ1 := Lib.hid (fun W (h1 : LinesAt W W.heap.size (.slice A6 c.l.length k6) c.l) (h2 : C7At W (.slice A1 c.l.length k1) (.slice A2 c.m.length k2) (.slice A3 c.x.a.length k3) (.slice A4 c.p.length k4) (.slice A5 c.a.length k5) c) => least_any c.n _ _ c.l c.a W h1 HAL.out HLL.out h2.a HAA.out)
        have HQ2 := Lib.hid (fun W (h2 : C7At W (.slice A1 c.l.length k1) (.slice A2 c.m.length k2) (.slice A3 c.x.a.length k3) (.slice A4 c.p.length k4) (.slice A5 c.a.length k5) c) => rleast_any c.n _ _ c.l c.a W h2.l HAL.out HLL.out h2.a HAA1.out)
        generalize leastM c.n c.l c.a = M at HQ1 HQ2
        obtain ⟨⟨ln, ld⟩, at0, er⟩ := M
        unfold LeaPost Rt.V at HQ1 HQ2
        dsimp only at HQ1 HQ2
        generalize y.w = w7 at *
        have x0 := HR7.out.cell (i := 0) rfl
        have x8 := HR7.out.cell (i := 8) rfl
        have lz := HR7.out.lt
        go_wp2_with fail
        refine (HQ1.out _ HO7.out HC7.out).mono ?_
        rintro e w8 ⟨rfl, hB⟩
        clear x0 x8 lz
        have HB8 := Lib.hid (HB7.out.trans hB)
        have HC8 := Lib.hid (HC7.out.bel hB)
        have HR8 := Lib.hid (HR7.out.bel hB)
        have HO8 := Lib.hid (HO7.out.bel hB)
        clear HQ1
        clear hB HB7 HC7 HR7 HO7
        go_upto_region 14 with (fail)
        generalize hW : World.alloc w8 _ = w9 at *
        have hB : Bel w8 w9 := by rw [← hW]; exact Bel.refl.alloc _
        have rl : RowAt w9 w8.heap.size 41 [.int .i64 ln, .int .i64 ld] := by rw [← hW]; exact RowAt.new _ _ _
        clear hW
        obtain ⟨p9, hp9⟩ : ∃ q, q = w8.heap.size := ⟨_, rfl⟩
        rw [← hp9] at rl ⊢
        have HL9 := Lib.hid rl
        clear hp9 rl
        have HB9 := Lib.hid (HB8.out.trans hB)
        have HC9 := Lib.hid (HC8.out.bel hB)
        have HR9 := Lib.hid (HR8.out.bel hB)
        have HO9 := Lib.hid (HO8.out.bel hB)
        clear hB HB8 HC8 HR8 HO8
        have x0 := HR9.out.cell (i := 0) rfl
        have x1 := HR9.out.cell (i := 1) rfl
        have x8 := HR9.out.cell (i := 8) rfl
        have lz := HR9.out.lt
        go_wp2_with fail
        refine (HQ2.out _ HC9.out).mono ?_
        rintro e w10 ⟨rfl, hB⟩
        have HL10 := Lib.hid (HL9.out.bel hB)
        clear x0 x1 x8 lz HL9
        have HB10 := Lib.hid (HB9.out.trans hB)
        have HC10 := Lib.hid (HC9.out.bel hB)
        have HR10 := Lib.hid (HR9.out.bel hB)
        have HO10 := Lib.hid (HO9.out.bel hB)
        clear HQ2
        clear hB HB9 HC9 HR9 HO9
        go_upto_region 15 with (fail)
        generalize hW : World.alloc w10 _ = w11 at *
        have hB : Bel w10 w11 := by rw [← hW]; exact Bel.refl.alloc _
        have rl : RowAt w11 w10.heap.size 41 [.int .i64 ln, .int .i64 ld] := by rw [← hW]; exact RowAt.new _ _ _
        clear hW
        obtain ⟨p11, hp11⟩ : ∃ q, q = w10.heap.size := ⟨_, rfl⟩
        rw [← hp11] at rl ⊢
        have HL11 := Lib.hid (HL10.out.bel hB)
        have HM11 := Lib.hid rl
        clear hp11 rl HL10
        have HB11 := Lib.hid (HB10.out.trans hB)
        have HC11 := Lib.hid (HC10.out.bel hB)
        have HR11 := Lib.hid (HR10.out.bel hB)
        have HO11 := Lib.hid (HO10.out.bel hB)
        clear hB HB10 HC10 HR10 HO10
        have HSM := Lib.hid (fun W (h1 : LinesAt W W.heap.size (.slice A6 c.l.length k6) c.l) (h2 : LinesAt W W.heap.size (.slice A1 c.l.length k1) c.l) => same7_any _ _ c.l c.l W h1 h2 HLL.out HLL.out HAL.out HAL.out)
        rw [sameA_own] at HSM

        have te : (er == er) = true := by simp
        have heq := fun w => rt_eql ln ld ln ld w
        simp only [and_self, decide_true] at heq
        have x1 := HR11.out.cell (i := 1) rfl
        have lz := HR11.out.lt
        have u0 := HL11.out.cell (i := 0) rfl
        have u1 := HL11.out.cell (i := 1) rfl
        have lu := HL11.out.lt
        have z0 := HM11.out.cell (i := 0) rfl
        have z1 := HM11.out.cell (i := 1) rfl
        have lm := HM11.out.lt
        have ta : (at0 == at0) = true := by simp
        cases at0
        all_goals
          go_wp2_with fail
          refine (HSM.out _ HO11.out HC11.out.l).mono ?_
          rintro e w12 ⟨rfl, hB⟩
          have HB12 := Lib.hid (HB11.out.trans hB)
          clear hB
          have HS := Lib.hid (shown7_any w12)
          go_wp2_with fail
          refine HS.out.mono ?_
          rintro e wf ⟨rfl, hB⟩
          have HBF := Lib.hid (HB12.out.trans hB)
          clear hB HS
          go_wp2
          go_ret
          exact ⟨rfl, HBF.out⟩
  · skip
    clear hby
    have HS := Lib.hid (shown7_any w2)
    go_wp2_with fail
    refine HS.out.mono ?_
    rintro e wf ⟨rfl, hB⟩
    have HBF := Lib.hid (HB2.out.trans hB)
    clear hB HS
    go_wp2
    go_ret
    exact ⟨rfl, HBF.out⟩
end Go.Proofs.Ytalphoebmefgoaa
