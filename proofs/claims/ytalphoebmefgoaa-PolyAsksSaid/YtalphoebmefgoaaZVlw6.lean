/- poly: PolyAsks: the walk. -/
import Derived.Test.YtalphoebmefgoaaZVlw3
import Derived.Test.YtalphoebmefgoaaZVlw1
import Derived.Test.YtalphoebmefgoaaZVrpt
import Derived.Test.YtalphoebmefgoaaG46
namespace Go.Proofs.Ytalphoebmefgoaa
open Go.RowKit
theorem point_len (n : Int) (l : List AL) : (pointM n l).1.length ≤ 1000000 := by
  by_cases h : (pointM n l).2 = 0
  · obtain ⟨h1, _, h3, _⟩ := point_ok (n := n) (l := l) (p := (pointM n l).1) (by rw [← h])
    have := (check_fits h1).1
    omega
  · rw [point_nil h]; simp
set_option maxRecDepth 100000 in
set_option maxHeartbeats 8000000 in
theorem asks_any (c : C7) (lv mv xv pv av : Value) (w : World) (h : C7At w lv mv xv pv av c) (hwf : c.wf) :
    Calls Try.prog 8 #[.agg #[.int .i64 c.n, lv, mv, xv, .int .i64 c.x.b, .bool c.x.s, .int .i64 c.i, pv, av]] w fun e w' => e = .returned (.bool true) ∧ Bel w w' := by
  have H := Lib.hid h
  have HWF := Lib.hid hwf
  obtain ⟨A1, k1, rfl, _⟩ := h.l.form
  obtain ⟨A2, k2, rfl, _⟩ := h.m.form
  obtain ⟨A3, k3, rfl, _⟩ := h.x.form
  obtain ⟨A4, k4, rfl, _⟩ := h.p.form
  obtain ⟨A5, k5, rfl, _⟩ := h.a.form
  clear h hwf
  go_enter Try.func8, Try.ntmps8
  go_upto_region 1 with (fail)
  generalize hW : World.alloc w _ = w1 at *
  have hb : Bel w w1 := by rw [← hW]; exact Bel.refl.alloc _
  have r1 : RowAt w1 w.heap.size 28 [.int .i64 c.n, .slice A1 c.l.length k1, .slice A2 c.m.length k2, .slice A3 c.x.a.length k3, .int .i64 c.x.b, .bool c.x.s, .int .i64 c.i, .slice A4 c.p.length k4, .slice A5 c.a.length k5] := by rw [← hW]; exact RowAt.new _ _ _
  clear hW
  have HB := Lib.hid hb
  have HR := Lib.hid r1
  have HC := Lib.hid (H.out.bel hb)
  clear hb H
  generalize w.heap.size = bq at *
  have HBY := Lib.hid (beyond7_any _ _ _ _ _ c 8 w1 HC.out)
  have x0 := r1.cell (i := 0) rfl
  have x1 := r1.cell (i := 1) rfl
  have x2 := r1.cell (i := 2) rfl
  have x3 := r1.cell (i := 3) rfl
  have x4 := r1.cell (i := 4) rfl
  have x5 := r1.cell (i := 5) rfl
  have x6 := r1.cell (i := 6) rfl
  have x7 := r1.cell (i := 7) rfl
  have x8 := r1.cell (i := 8) rfl
  have lz := r1.lt
  clear r1
  go_wp2_with fail
  refine HBY.out.mono ?_
  rintro e w2 ⟨rfl, hB⟩
  have HB2 := Lib.hid (HB.out.trans hB)
  have HC2 := Lib.hid (HC.out.bel hB)
  have HR2 := Lib.hid (HR.out.bel hB)
  clear hB HBY HB HC HR x0 x1 x2 x3 x4 x5 x6 x7 x8 lz
  cases hby : beyond7 8 c
  · obtain ⟨hf1, hf2, hxb, hpb, hab⟩ := beyond_f3 hby
    obtain ⟨hl1, hl2, _⟩ := far_f hf1
    obtain ⟨hm1, hm2, _⟩ := far_f hf2
    have HAL := Lib.hid (lens_of3 (fun x hx => by have := hl2 x hx; omega))
    have HLS : Hid (∀ x, x ∈ c.l → x.a.length ≤ 1000000) := Lib.hid (fun x hx => by have := hl2 x hx; omega)
    have HAM := Lib.hid (lens_of3 (fun x hx => by have := hm2 x hx; omega))
    have HLL : Hid (c.l.length ≤ 1000000) := Lib.hid (by omega)
    have HLL1 : Hid (c.l.length ≤ 100000) := Lib.hid (by omega)
    have HLM : Hid (c.m.length ≤ 1000000) := Lib.hid (by omega)
    have HPP : Hid (c.p.length ≤ 1000000) := Lib.hid (by omega)
    have HXX : Hid (c.x.a.length ≤ 1000000) := Lib.hid (by omega)
    have HAA : Hid (c.a.length ≤ 1000000) := Lib.hid (by omega)
    clear hby hf1 hf2 hl1 hl2 hm1 hm2 hpb hab hxb
    have HLE := Lib.hid (lent_any _ c.l w2 HC2.out.l HLL1.out HLS.out)
    have x1 := HR2.out.cell (i := 1) rfl
    have lz := HR2.out.lt
    go_wp2_with fail
    refine HLE.out.mono ?_
    rintro e w3 ⟨v3, L3, rfl, hao, hm, hB⟩
    have HB3 := Lib.hid (HB2.out.trans hB)
    have HC3 := Lib.hid (HC2.out.bel hB)
    have HR3 := Lib.hid (HR2.out.bel hB)
    have hln := hao.ar.lines hB.le
    rw [hm] at hln
    have HO3 := Lib.hid hln
    obtain ⟨A6, k6, rfl, _⟩ := hln.form
    clear hao hm hB hln HLE x1 lz HB2 HC2 HR2
    have HQ1 := Lib.hid (fun W (h1 : LinesAt W W.heap.size (.slice A6 c.l.length k6) c.l) (h2 : C7At W (.slice A1 c.l.length k1) (.slice A2 c.m.length k2) (.slice A3 c.x.a.length k3) (.slice A4 c.p.length k4) (.slice A5 c.a.length k5) c) => Empty_any c.n _ c.l W h1 HAL.out HLL.out)
    have HQ2 := Lib.hid (fun W (h2 : C7At W (.slice A1 c.l.length k1) (.slice A2 c.m.length k2) (.slice A3 c.x.a.length k3) (.slice A4 c.p.length k4) (.slice A5 c.a.length k5) c) => rEmpty_any c.n _ c.l W h2.l HAL.out HLL.out)
    generalize EmptyM c.n c.l = M at HQ1 HQ2
    obtain ⟨eb, er⟩ := M
    unfold BoPost at HQ1 HQ2
    dsimp only at HQ1 HQ2
    have x0 := HR3.out.cell (i := 0) rfl
    have lz := HR3.out.lt
    go_wp2_with fail
    refine (HQ1.out _ HO3.out HC3.out).mono ?_
    rintro e w4 ⟨rfl, hB⟩
    clear x0 lz
    have HB4 := Lib.hid (HB3.out.trans hB)
    have HC4 := Lib.hid (HC3.out.bel hB)
    have HR4 := Lib.hid (HR3.out.bel hB)
    have HO4 := Lib.hid (HO3.out.bel hB)
    clear HQ1
    clear hB HB3 HC3 HR3 HO3
    have x0 := HR4.out.cell (i := 0) rfl
    have x1 := HR4.out.cell (i := 1) rfl
    have lz := HR4.out.lt
    go_wp2_with fail
    refine (HQ2.out _ HC4.out).mono ?_
    rintro e w5 ⟨rfl, hB⟩
    clear x0 x1 lz
    have HB5 := Lib.hid (HB4.out.trans hB)
    have HC5 := Lib.hid (HC4.out.bel hB)
    have HR5 := Lib.hid (HR4.out.bel hB)
    have HO5 := Lib.hid (HO4.out.bel hB)
    clear HQ2
    clear hB HB4 HC4 HR4 HO4
    have te : (er != er) = false := by simp
    go_upto_region 6 with (fail)
    go_cut [38] from 31 to 38 (fun s38 wx => s38 = .bool false ∧ w5 = wx)
    case first => cases eb <;> (go_wp2; go_meet; case rel => exact ⟨rfl, rfl⟩)
    case rest =>
      obtain ⟨rfl, rfl⟩ := hcut
      clear te
      have HQ1 := Lib.hid (fun W (h1 : LinesAt W W.heap.size (.slice A6 c.l.length k6) c.l) (h2 : C7At W (.slice A1 c.l.length k1) (.slice A2 c.m.length k2) (.slice A3 c.x.a.length k3) (.slice A4 c.p.length k4) (.slice A5 c.a.length k5) c) => implies_any c.n _ _ c.l c.x W h1 HAL.out HLL.out h2.x HXX.out)
      have HQ2 := Lib.hid (fun W (h2 : C7At W (.slice A1 c.l.length k1) (.slice A2 c.m.length k2) (.slice A3 c.x.a.length k3) (.slice A4 c.p.length k4) (.slice A5 c.a.length k5) c) => rimplies_any c.n _ _ c.l c.x W h2.l HAL.out HLL.out h2.x HXX.out)
      generalize impliesM c.n c.l c.x = M at HQ1 HQ2
      obtain ⟨eb, er⟩ := M
      unfold BoPost at HQ1 HQ2
      dsimp only at HQ1 HQ2
      have x0 := HR5.out.cell (i := 0) rfl
      have x3 := HR5.out.cell (i := 3) rfl
      have x4 := HR5.out.cell (i := 4) rfl
      have x5 := HR5.out.cell (i := 5) rfl
      have lz := HR5.out.lt
      go_wp2_with fail
      refine (HQ1.out _ HO5.out HC5.out).mono ?_
      rintro e w6 ⟨rfl, hB⟩
      clear x0 x3 x4 x5 lz
      have HB6 := Lib.hid (HB5.out.trans hB)
      have HC6 := Lib.hid (HC5.out.bel hB)
      have HR6 := Lib.hid (HR5.out.bel hB)
      have HO6 := Lib.hid (HO5.out.bel hB)
      clear HQ1
      clear hB HB5 HC5 HR5 HO5
      have x0 := HR6.out.cell (i := 0) rfl
      have x1 := HR6.out.cell (i := 1) rfl
      have x3 := HR6.out.cell (i := 3) rfl
      have x4 := HR6.out.cell (i := 4) rfl
      have x5 := HR6.out.cell (i := 5) rfl
      have lz := HR6.out.lt
      go_wp2_with fail
      refine (HQ2.out _ HC6.out).mono ?_
      rintro e w7 ⟨rfl, hB⟩
      clear x0 x1 x3 x4 x5 lz
      have HB7 := Lib.hid (HB6.out.trans hB)
      have HC7 := Lib.hid (HC6.out.bel hB)
      have HR7 := Lib.hid (HR6.out.bel hB)
      have HO7 := Lib.hid (HO6.out.bel hB)
      clear HQ2
      clear hB HB6 HC6 HR6 HO6
      have te : (er != er) = false := by simp
      go_upto_region 10 with (fail)
      go_cut [65] from 58 to 65 (fun s65 wx => s65 = .bool false ∧ w7 = wx)
      case first => cases eb <;> (go_wp2; go_meet; case rel => exact ⟨rfl, rfl⟩)
      case rest =>
        obtain ⟨rfl, rfl⟩ := hcut
        clear te
        have HQ1 := Lib.hid (fun W (h1 : LinesAt W W.heap.size (.slice A6 c.l.length k6) c.l) (h2 : C7At W (.slice A1 c.l.length k1) (.slice A2 c.m.length k2) (.slice A3 c.x.a.length k3) (.slice A4 c.p.length k4) (.slice A5 c.a.length k5) c) => includes_any c.n _ _ c.l c.m W h1 h2.m HAL.out HAM.out HLL.out HLM.out)
        have HQ2 := Lib.hid (fun W (h2 : C7At W (.slice A1 c.l.length k1) (.slice A2 c.m.length k2) (.slice A3 c.x.a.length k3) (.slice A4 c.p.length k4) (.slice A5 c.a.length k5) c) => rincludes_any c.n _ _ c.l c.m W h2.l h2.m HAL.out HAM.out HLL.out HLM.out)
        generalize includesM c.n c.l c.m = M at HQ1 HQ2
        obtain ⟨eb, er⟩ := M
        unfold BoPost at HQ1 HQ2
        dsimp only at HQ1 HQ2
        have x0 := HR7.out.cell (i := 0) rfl
        have x2 := HR7.out.cell (i := 2) rfl
        have lz := HR7.out.lt
        go_wp2_with fail
        refine (HQ1.out _ HO7.out HC7.out).mono ?_
        rintro e w8 ⟨rfl, hB⟩
        clear x0 x2 lz
        have HB8 := Lib.hid (HB7.out.trans hB)
        have HC8 := Lib.hid (HC7.out.bel hB)
        have HR8 := Lib.hid (HR7.out.bel hB)
        have HO8 := Lib.hid (HO7.out.bel hB)
        clear HQ1
        clear hB HB7 HC7 HR7 HO7
        have x0 := HR8.out.cell (i := 0) rfl
        have x1 := HR8.out.cell (i := 1) rfl
        have x2 := HR8.out.cell (i := 2) rfl
        have lz := HR8.out.lt
        go_wp2_with fail
        refine (HQ2.out _ HC8.out).mono ?_
        rintro e w9 ⟨rfl, hB⟩
        clear x0 x1 x2 lz
        have HB9 := Lib.hid (HB8.out.trans hB)
        have HC9 := Lib.hid (HC8.out.bel hB)
        have HR9 := Lib.hid (HR8.out.bel hB)
        have HO9 := Lib.hid (HO8.out.bel hB)
        clear HQ2
        clear hB HB8 HC8 HR8 HO8
        have te : (er != er) = false := by simp
        go_upto_region 14 with (fail)
        go_cut [92] from 85 to 92 (fun s92 wx => s92 = .bool false ∧ w9 = wx)
        case first => cases eb <;> (go_wp2; go_meet; case rel => exact ⟨rfl, rfl⟩)
        case rest =>
          obtain ⟨rfl, rfl⟩ := hcut
          clear te
          have HQ1 := Lib.hid (fun W (h1 : LinesAt W W.heap.size (.slice A6 c.l.length k6) c.l) (h2 : C7At W (.slice A1 c.l.length k1) (.slice A2 c.m.length k2) (.slice A3 c.x.a.length k3) (.slice A4 c.p.length k4) (.slice A5 c.a.length k5) c) => has_any c.n _ _ c.l c.p W h1 HAL.out HLL.out h2.p HPP.out HWF.out.p)
          have HQ2 := Lib.hid (fun W (h2 : C7At W (.slice A1 c.l.length k1) (.slice A2 c.m.length k2) (.slice A3 c.x.a.length k3) (.slice A4 c.p.length k4) (.slice A5 c.a.length k5) c) => rhas_any c.n _ _ c.l c.p W h2.l HAL.out HLL.out h2.p HPP.out HWF.out.p)
          generalize hasM c.n c.l c.p = M at HQ1 HQ2
          obtain ⟨eb, er⟩ := M
          unfold BoPost at HQ1 HQ2
          dsimp only at HQ1 HQ2
          have x0 := HR9.out.cell (i := 0) rfl
          have x7 := HR9.out.cell (i := 7) rfl
          have lz := HR9.out.lt
          go_wp2_with fail
          refine (HQ1.out _ HO9.out HC9.out).mono ?_
          rintro e w10 ⟨rfl, hB⟩
          clear x0 x7 lz
          have HB10 := Lib.hid (HB9.out.trans hB)
          have HC10 := Lib.hid (HC9.out.bel hB)
          have HR10 := Lib.hid (HR9.out.bel hB)
          have HO10 := Lib.hid (HO9.out.bel hB)
          clear HQ1
          clear hB HB9 HC9 HR9 HO9
          have x0 := HR10.out.cell (i := 0) rfl
          have x1 := HR10.out.cell (i := 1) rfl
          have x7 := HR10.out.cell (i := 7) rfl
          have lz := HR10.out.lt
          go_wp2_with fail
          refine (HQ2.out _ HC10.out).mono ?_
          rintro e w11 ⟨rfl, hB⟩
          clear x0 x1 x7 lz
          have HB11 := Lib.hid (HB10.out.trans hB)
          have HC11 := Lib.hid (HC10.out.bel hB)
          have HR11 := Lib.hid (HR10.out.bel hB)
          have HO11 := Lib.hid (HO10.out.bel hB)
          clear HQ2
          clear hB HB10 HC10 HR10 HO10
          have te : (er != er) = false := by simp
          go_upto_region 18 with (fail)
          go_cut [119] from 112 to 119 (fun s119 wx => s119 = .bool false ∧ w11 = wx)
          case first => cases eb <;> (go_wp2; go_meet; case rel => exact ⟨rfl, rfl⟩)
          case rest =>
            obtain ⟨rfl, rfl⟩ := hcut
            clear te
            have HQ1 := Lib.hid (point_any c.n _ c.l w11 HO11.out HAL.out HLL.out)
            have HQ2 := Lib.hid (fun W (h2 : C7At W (.slice A1 c.l.length k1) (.slice A2 c.m.length k2) (.slice A3 c.x.a.length k3) (.slice A4 c.p.length k4) (.slice A5 c.a.length k5) c) => rpoint_any c.n _ c.l W h2.l HAL.out HLL.out)
            have HPL := Lib.hid (point_len c.n c.l)
            generalize pointM c.n c.l = M at *
            obtain ⟨pp, er⟩ := M
            unfold PtPost at HQ1 HQ2
            dsimp only at HQ1 HQ2 HPL
            have x0 := HR11.out.cell (i := 0) rfl
            have lz := HR11.out.lt
            go_wp2_with fail
            refine HQ1.out.mono ?_
            rintro e w12 ⟨v8, rfl, hp8, hB⟩
            have HP8 := Lib.hid hp8
            obtain ⟨A8, k8, rfl, _⟩ := hp8.form
            clear x0 lz hp8
            have HB12 := Lib.hid (HB11.out.trans hB)
            have HC12 := Lib.hid (HC11.out.bel hB)
            have HR12 := Lib.hid (HR11.out.bel hB)
            have HO12 := Lib.hid (HO11.out.bel hB)
            clear HQ1
            clear hB HB11 HC11 HR11 HO11
            have x0 := HR12.out.cell (i := 0) rfl
            have x1 := HR12.out.cell (i := 1) rfl
            have lz := HR12.out.lt
            go_wp2_with fail
            refine (HQ2.out _ HC12.out).mono ?_
            rintro e w13 ⟨v9, rfl, hp9, hB⟩
            have HP9 := Lib.hid hp9
            have HP88 := Lib.hid (RatsAt.bel HP8.out hB)
            obtain ⟨A9, k9, rfl, _⟩ := hp9.form
            clear x0 x1 lz hp9 HP8
            have HB13 := Lib.hid (HB12.out.trans hB)
            have HC13 := Lib.hid (HC12.out.bel hB)
            have HR13 := Lib.hid (HR12.out.bel hB)
            have HO13 := Lib.hid (HO12.out.bel hB)
            clear HQ2
            clear hB HB12 HC12 HR12 HO12
            have HSR := Lib.hid (sameRatios_any _ _ pp pp w13 HP88.out HP9.out HPL.out HPL.out)
            rw [sameR_self] at HSR
            have HSM := Lib.hid (fun W (h1 : LinesAt W W.heap.size (.slice A6 c.l.length k6) c.l) (h2 : LinesAt W W.heap.size (.slice A1 c.l.length k1) c.l) => same7_any _ _ c.l c.l W h1 h2 HLL.out HLL.out HAL.out HAL.out)
            rw [sameA_self] at HSM

            have te : (er == er) = true := by simp
            go_wp2_with fail
            refine HSR.out.mono ?_
            rintro e w14 ⟨rfl, hB⟩
            have HB14 := Lib.hid (HB13.out.trans hB)
            have HC14 := Lib.hid (HC13.out.bel hB)
            have HR14 := Lib.hid (HR13.out.bel hB)
            have HO14 := Lib.hid (HO13.out.bel hB)
            clear HSR HP88 HP9
            clear hB HB13 HC13 HR13 HO13
            have x1 := HR14.out.cell (i := 1) rfl
            have lz := HR14.out.lt
            go_wp2_with fail
            refine (HSM.out _ HO14.out HC14.out.l).mono ?_
            rintro e w15 ⟨rfl, hB⟩
            clear x1 lz
            have HB15 := Lib.hid (HB14.out.trans hB)
            have HC15 := Lib.hid (HC14.out.bel hB)
            have HR15 := Lib.hid (HR14.out.bel hB)
            have HO15 := Lib.hid (HO14.out.bel hB)
            clear HSM
            clear hB HB14 HC14 HR14 HO14
            have HS := Lib.hid (shown7_any w15)
            go_wp2_with fail
            refine HS.out.mono ?_
            rintro e wf ⟨rfl, hB⟩
            have HBF := Lib.hid (HB15.out.trans hB)
            clear hB HS
            go_wp2
            go_ret
            exact ⟨rfl, HBF.out⟩
  · skip
    clear hby
    have HS := Lib.hid (shown7_any w2)
    go_wp2_with fail
    refine HS.out.mono ?_
    rintro e wf ⟨rfl, hB⟩
    have HBF := Lib.hid (HB2.out.trans hB)
    clear hB HS
    go_wp2
    go_ret
    exact ⟨rfl, HBF.out⟩
end Go.Proofs.Ytalphoebmefgoaa
