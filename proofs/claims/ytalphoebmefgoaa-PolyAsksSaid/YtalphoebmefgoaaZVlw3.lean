/- poly: PolyBelow: the walk. -/
import Derived.Test.YtalphoebmefgoaaG46
import Derived.Test.YtalphoebmefgoaaZVbel
import Derived.Test.YtalphoebmefgoaaZVrhas
import Derived.Test.YtalphoebmefgoaaG47
namespace Go.Proofs.Ytalphoebmefgoaa
open Go.RowKit
set_option maxRecDepth 100000 in
set_option maxHeartbeats 8000000 in
theorem meets_any (n : Int) (v pv : Value) (l : List AL) (p : List Rt) (w : World) (h : LinesAt w w.heap.size v l) (hl : AlLens l) (hn : l.length ≤ 1000000) (hp : RatsAt w w.heap.size pv p) (hpl : p.length ≤ 1000000) (hw : ∀ r, r ∈ p → r.wf) :
    Calls Try.prog 17 #[.int .i64 n, v, pv] w fun e w' => e = .returned (.tuple #[.bool (hasM n l p).1, .bool ((hasM n l p).2 == 0)]) ∧ Bel w w' := by
  have HH := Lib.hid (rhas_any n v pv l p w h hl hn hp hpl hw)
  obtain ⟨A1, k1, rfl, _⟩ := h.form
  obtain ⟨A2, k2, rfl, _⟩ := hp.form
  clear h hp
  generalize hasM n l p = M at *
  obtain ⟨b, e0⟩ := M
  go_enter Try.func17, Try.ntmps17
  go_wp2_with fail
  refine HH.out.mono ?_
  rintro e w2 ⟨rfl, hB⟩
  have HB := Lib.hid hB
  clear hB HH
  go_wp2
  go_ret2
  exact ⟨rfl, HB.out⟩
theorem lens_of3 {l : List AL} (h : ∀ x, x ∈ l → x.a.length ≤ 1000000) : AlLens l := fun _ hi => h _ (alAt_mem hi)
theorem beyond_f3 {most : Int} {c : C7} (h : beyond7 most c = false) : farM most c.l = false ∧ farM most c.m = false ∧ c.x.a.length ≤ 20 ∧ c.p.length ≤ 20 ∧ c.a.length ≤ 20 := by
  unfold beyond7 at h
  simp only [Bool.or_eq_false_iff, decide_eq_false_iff_not] at h
  obtain ⟨h1, h2, h3, h4, h5⟩ := h
  exact ⟨h1, h2, by omega, by omega, by omega⟩
theorem add_at {l : List Int} {p : List Rt} {k : Nat} (h : k < l.length) (hp : k < p.length) : (l.zip p).drop k = (l.getD k 0, rtAt p k) :: (l.zip p).drop (k + 1) := by
  have h1 : k < (l.zip p).length := by simp; omega
  rw [List.drop_eq_getElem_cons h1]
  rw [rtAt_get hp]
  simp [List.getD, h]
set_option maxRecDepth 100000 in
set_option maxHeartbeats 8000000 in
theorem below_any (c : C7) (lv mv xv pv av : Value) (w : World) (h : C7At w lv mv xv pv av c) (hwf : c.wf) :
    Calls Try.prog 5 #[.agg #[.int .i64 c.n, lv, mv, xv, .int .i64 c.x.b, .bool c.x.s, .int .i64 c.i, pv, av]] w fun e w' => e = .returned (.bool true) ∧ Bel w w' := by
  have H := Lib.hid h
  have HWF := Lib.hid hwf
  obtain ⟨A1, k1, rfl, _⟩ := h.l.form
  obtain ⟨A2, k2, rfl, _⟩ := h.m.form
  obtain ⟨A3, k3, rfl, _⟩ := h.x.form
  obtain ⟨A4, k4, rfl, _⟩ := h.p.form
  obtain ⟨A5, k5, rfl, _⟩ := h.a.form
  clear h hwf
  go_enter Try.func5, Try.ntmps5
  go_upto_region 1 with (fail)
  generalize hW : World.alloc w _ = w1 at *
  have hb : Bel w w1 := by rw [← hW]; exact Bel.refl.alloc _
  have r1 : RowAt w1 w.heap.size 28 [.int .i64 c.n, .slice A1 c.l.length k1, .slice A2 c.m.length k2, .slice A3 c.x.a.length k3, .int .i64 c.x.b, .bool c.x.s, .int .i64 c.i, .slice A4 c.p.length k4, .slice A5 c.a.length k5] := by rw [← hW]; exact RowAt.new _ _ _
  clear hW
  have HB := Lib.hid hb
  have HR := Lib.hid r1
  have HC := Lib.hid (H.out.bel hb)
  clear hb H
  generalize w.heap.size = b1 at *
  have HBY := Lib.hid (beyond7_any _ _ _ _ _ c 6 w1 HC.out)
  have x0 := r1.cell (i := 0) rfl
  have x1 := r1.cell (i := 1) rfl
  have x2 := r1.cell (i := 2) rfl
  have x3 := r1.cell (i := 3) rfl
  have x4 := r1.cell (i := 4) rfl
  have x5 := r1.cell (i := 5) rfl
  have x6 := r1.cell (i := 6) rfl
  have x7 := r1.cell (i := 7) rfl
  have x8 := r1.cell (i := 8) rfl
  have lz := r1.lt
  clear r1
  go_wp2_with fail
  refine HBY.out.mono ?_
  rintro e w2 ⟨rfl, hB⟩
  have HB2 := Lib.hid (HB.out.trans hB)
  have HC2 := Lib.hid (HC.out.bel hB)
  have HR2 := Lib.hid (HR.out.bel hB)
  clear hB HBY HB HC HR x0 x1 x2 x3 x4 x5 x6 x7 x8 lz
  cases hby : beyond7 6 c
  · obtain ⟨hf1, _, _, hpb, hab⟩ := beyond_f3 hby
    obtain ⟨hl1, hl2, _⟩ := far_f hf1
    have HAL := Lib.hid (lens_of3 (fun x hx => by have := hl2 x hx; omega))
    have HPB := Lib.hid hpb
    have HAB := Lib.hid hab
    have HLL : Hid (c.l.length ≤ 2000) := Lib.hid hl1
    clear hby hf1 hl1 hl2 hpb hab
    have HLE := Lib.hid (least_any c.n _ _ c.l c.a w2 HC2.out.l HAL.out (by have := HLL.out; omega) HC2.out.a (by have := HAB.out; omega))
    have HER : Hid ((leastM c.n c.l c.a).2.2 ≠ 0 → leastM c.n c.l c.a = (⟨0, 0⟩, false, (leastM c.n c.l c.a).2.2)) := Lib.hid leastM_err
    have HMM := Lib.hid (Eq.refl (leastM c.n c.l c.a))
    generalize hM : leastM c.n c.l c.a = M at HLE HER
    clear HMM
    have HM := Lib.hid hM
    clear hM
    obtain ⟨⟨ln, ld⟩, at0, er⟩ := M
    unfold LeaPost Rt.V at HLE
    dsimp only at HLE HER
    have x0 := HR2.out.cell (i := 0) rfl
    have x1 := HR2.out.cell (i := 1) rfl
    have x8 := HR2.out.cell (i := 8) rfl
    have lz := HR2.out.lt
    go_wp2_with fail
    refine HLE.out.mono ?_
    rintro e w3 ⟨rfl, hB⟩
    have HB3 := Lib.hid (HB2.out.trans hB)
    have HC3 := Lib.hid (HC2.out.bel hB)
    have HR3 := Lib.hid (HR2.out.bel hB)
    clear hB HLE HB2 HC2 HR2 x0 x1 x8 lz
    go_upto_region 4 with (fail)
    generalize hW : World.alloc w3 _ = w4 at *
    have r3 : RowAt w4 w3.heap.size 41 [.int .i64 ln, .int .i64 ld] := by rw [← hW]; exact RowAt.new _ _ _
    have hb : Bel w3 w4 := by rw [← hW]; exact Bel.refl.alloc _
    clear hW
    have HB4 := Lib.hid (HB3.out.trans hb)
    have HC4 := Lib.hid (HC3.out.bel hb)
    have HR4 := Lib.hid (HR3.out.bel hb)
    have HL4 := Lib.hid r3
    clear hb r3 HB3 HC3 HR3
    generalize w3.heap.size = b3 at *
    by_cases he : er = 0
    · subst he
      have h0 : ((0 : Int) != 0) = false := rfl
      clear HER
      have HME := Lib.hid (meets_any c.n _ _ c.l c.p w4 HC4.out.l HAL.out (by have := HLL.out; omega) HC4.out.p (by have := HPB.out; omega) HWF.out.p)
      generalize hH : hasM c.n c.l c.p = M at HME
      have HH := Lib.hid hH
      clear hH
      obtain ⟨bi, ee⟩ := M
      dsimp only at HME
      have x0 := HR4.out.cell (i := 0) rfl
      have x1 := HR4.out.cell (i := 1) rfl
      have x7 := HR4.out.cell (i := 7) rfl
      have lz := HR4.out.lt
      go_wp2_with fail
      refine HME.out.mono ?_
      rintro e w5 ⟨rfl, hB⟩
      have HB5 := Lib.hid (HB4.out.trans hB)
      have HC5 := Lib.hid (HC4.out.bel hB)
      have HR5 := Lib.hid (HR4.out.bel hB)
      have HL5 := Lib.hid (HL4.out.bel hB)
      clear hB HME HB4 HC4 HR4 HL4 x0 x1 x7 lz
      have HS := Lib.hid (shown7_any w5)
      have x0 := HR5.out.cell (i := 0) rfl
      have x8 := HR5.out.cell (i := 8) rfl
      have lz := HR5.out.lt
      by_cases hee : ee = 0
      · subst hee
        have h1 : ((0 : Int) == 0) = true := rfl
        cases bi
        · go_wp2_with fail
          refine HS.out.mono ?_
          rintro e wf ⟨rfl, hB⟩
          have HBF := Lib.hid (HB5.out.trans hB)
          clear hB HS
          go_wp2
          go_ret
          exact ⟨rfl, HBF.out⟩
        · by_cases hcn : (c.a.length : Int) = c.n
          · have h2 : ((c.a.length : Int) != c.n) = false := by simp [hcn]
            obtain ⟨hq1, hq2, hq3, _⟩ := has_q (n := c.n) (l := c.l) (p := c.p) (by rw [HH.out])
            have HPN : Hid (c.p.length = c.a.length) := Lib.hid (by omega)
            have HAI : Hid (∀ x, x ∈ c.a → x.natAbs ≤ 2147483647) := Lib.hid (fun x hx => fits_inrA (leastM_ok HM.out).2.1 x (by simp [hx]))
            have HFIN : Hid (∀ s, totL c.a c.p = (s, 0) → (rcmp s ⟨ln, ld⟩).2 = 0 ∧ (0 < (rcmp s ⟨ln, ld⟩).1 ∨ (rcmp s ⟨ln, ld⟩).1 = 0 ∧ at0 = true)) := Lib.hid (fun s hs => below_plain HM.out HH.out hs)
            have HLW : Hid ((⟨ln, ld⟩ : Rt).wf) := Lib.hid (by
              obtain ⟨_, _, _, q4, q5, q6, _⟩ := leastM_ok HM.out
              rw [q6]
              exact (ends_wf [] _ zeroE zeroE zeroE_wf zeroE_wf).1)
            clear hq1 hq2 hq3 hcn HM HH HS
            go_upto_region 10 with (fail)
            generalize hW : World.alloc w5 _ = w6 at *
            have r8 : RowAt w6 w5.heap.size 41 (Rt.cells ⟨0, 1⟩) := by rw [← hW]; exact RowAt.new w5 41 (Rt.cells ⟨0, 1⟩)
            have hb : Bel w5 w6 := by rw [← hW]; exact Bel.refl.alloc _
            clear hW x0 x8 lz
            obtain ⟨p8, hp8⟩ : ∃ b, b = w5.heap.size := ⟨_, rfl⟩
            rw [← hp8] at r8 ⊢
            have HN : Hid (w5.heap.size ≤ p8) := Lib.hid (by omega)
            clear hp8
            have HB6 := Lib.hid hb
            have HL8 := Lib.hid r8
            clear hb r8
            go_wp2
            go_loopw [9] (fun s9 wq => ∃ (k : Nat) (y : Ext w5) (t : Rt), k ≤ c.a.length ∧ s9 = .int .i64 k ∧ wq = y.w ∧ RowAt y.w p8 41 (Rt.cells t) ∧ t.wf ∧ totF ((c.a.zip c.p).drop k) t = totL c.a c.p) (fun s9 _ => ((c.a.length : Int) - intOf s9).toNat)
            case atStart => exact ⟨0, ⟨_, HB6.out⟩, ⟨0, 1⟩, Nat.zero_le _, rfl, rfl, HL8.out, ⟨i64_lit' (n := 0) (by decide) (by decide), i64_lit' (n := 1) (by decide) (by decide)⟩, rfl⟩
            case round =>
              clear HL8 HB6
              obtain ⟨k, y, t, hk, rfl, rfl, hr8, htw, hto⟩ := hrel
              have HL8 := Lib.hid hr8
              have HTW := Lib.hid htw
              have HTO := Lib.hid hto
              have HB := Lib.hid y.bel
              have hr := HR5.out.bel y.bel
              have x5 := hr.cell (i := 7) rfl
              have x6 := hr.cell (i := 8) rfl
              have lz := hr.lt
              clear htw hto hr8 hr
              by_cases hlt : k < c.a.length
              · have hd : decide ((k : Int) < (c.a.length : Int)) = true := by simp; omega
                have hL : (k : Int) < (c.a.length : Int) := by omega
                have hkp : k < c.p.length := by have := HPN.out; omega
                have hL2 : (k : Int) < (c.p.length : Int) := by omega
                have wk : IntKind.i64.wrap ((k : Int) + 1) = ((k + 1 : Nat) : Int) := IntWalk.i64_in _ (by have := HAB.out; omega)
                have hcy := HC5.out.bel y.bel
                obtain ⟨g, off, rfl, hg, hcl⟩ := hcy.p.at_ (by omega)
                obtain ⟨y0, y1⟩ := rd_rat hcl hkp
                obtain ⟨gx, ox, rfl, hgx, hcx2⟩ := hcy.a.at_ (by omega)
                have z0 := hcx2 k hlt
                clear hcl hcx2 hcy
                have HRW := Lib.hid (HWF.out.p _ (rtAt_mem hkp))
                have HZ : Hid (totF ((c.a.getD k 0, rtAt c.p k) :: (c.a.zip c.p).drop (k + 1)) t = totL c.a c.p) := Lib.hid (by rw [← add_at hlt hkp]; exact HTO.out)
                have HCW : Hid ((⟨c.a.getD k 0, 1⟩ : Rt).wf) := Lib.hid (one_wf (HAI.out _ (by rw [List.getD_eq_getElem?_getD, List.getElem?_eq_getElem hlt]; exact List.getElem_mem hlt)))
                clear HTO
                generalize rtAt c.p k = R at *
                generalize c.a.getD k 0 = C at *
                have hunf : totF ((C, R) :: (c.a.zip c.p).drop (k + 1)) t = if (rmul ⟨C, 1⟩ R).2 ≠ 0 then (⟨0, 0⟩, (rmul ⟨C, 1⟩ R).2) else if (radd t (rmul ⟨C, 1⟩ R).1).2 ≠ 0 then (⟨0, 0⟩, (radd t (rmul ⟨C, 1⟩ R).1).2) else totF ((c.a.zip c.p).drop (k + 1)) (radd t (rmul ⟨C, 1⟩ R).1).1 := by rfl
                rw [hunf] at HZ
                clear hunf
                have HMU := Lib.hid (fun W => rrmul_any ⟨C, 1⟩ R W HCW.out HRW.out)
                have HYW := Lib.hid (rmul_wf ⟨C, 1⟩ R)
                generalize rmul ⟨C, 1⟩ R = M at *
                obtain ⟨⟨yn, yd⟩, e1⟩ := M
                unfold rresV Rt.V at HMU
                simp only at HMU
                generalize y.w = w2 at *
                go_upto_region 13 with (fail)
                go_cut [10, 11] from 68 to 103 (fun s10 s11 wx => ∃ (q : Nat) (z : Ext w2), s10 = .pointer (some ⟨q, 0, none⟩) ∧ s11 = .int .i64 e1 ∧ wx = z.w ∧ RowAt z.w q 41 [.int .i64 yn, .int .i64 yd] ∧ w2.heap.size ≤ q)
                case first =>
                  (refine wp_region_E 17 none (by kernel_rfl) ?_; refine anyE_takes [0, 1, 2, 3, 4, 5, 6, 7, 8, 9, 10] (fun _ _ _ _ _ h => h) ⟨⟨_, gro_drew (gro_refl _)⟩, rfl⟩ (by kernel_rfl) (by rfl) ?_; simp only [opsOf, List.filterMap_cons, List.filterMap_nil, List.getElem?_toArray, List.getElem?_cons_succ, List.getElem?_cons_zero, List.foldl_cons, List.foldl_nil]; (repeat (any_goals (first | go_big_quiet_step (fail) | quiet_step (fail)))); refine wpQuiet_nil ?_)
                  have G0 : Hid (w2.grownBy w2.drew none) := Lib.hid (gro_drew (gro_refl _))
                  clear x5 x6 lz y0 y1 z0 hg hgx
                  generalize w2.drew = wc at *
                  refine anyE_two 11 15 _ _ (by kernel_rfl) (by rfl) (by rfl) ?_ ?_
                  · intro K hK
                    rw [if_pos (by rfl)]
                    go_simp
                    refine (HMU.out wc).mono ?_
                    rintro _ w4 ⟨rfl, hB⟩
                    have G1 : Hid (w2.grownBy w4 none) := Lib.hid (gro_then G0.out hB)
                    refine hK _ _ (fun _ => ⟨⟨_, G1.out⟩, rfl⟩) ?_
                    clear hK K hB
                    (refine anyE_takes [12, 13, 14] (fun _ _ _ _ _ h => h) ⟨⟨_, G1.out⟩, rfl⟩ (by kernel_rfl) (by rfl) ?_; simp only [opsOf, List.filterMap_cons, List.filterMap_nil, List.getElem?_toArray, List.getElem?_cons_succ, List.getElem?_cons_zero, List.foldl_cons, List.foldl_nil]; (repeat (any_goals (first | go_big_quiet_step (fail) | quiet_step (fail)))); refine wpQuiet_nil ?_)
                    (refine anyE_one 15 _ (by kernel_rfl) (by rfl) (fun K hK => ?_))
                    go_simp
                    refine hK _ _ (fun _ => ⟨⟨_, gro_alloc G1.out _⟩, rfl⟩) ?_
                    clear hK K
                    have HR := Lib.hid (RowAt.new w4 41 [.int .i64 0, .int .i64 0])
                    have HXB := Lib.hid (gro_bel (gro_alloc G1.out (.cells #[.int .i64 0, .int .i64 0] 41)))
                    have hq0 : w2.heap.size ≤ w4.heap.size := G1.out.size
                    generalize World.alloc w4 _ = w5' at *
                    generalize w4.heap.size = q at *
                    have c0 := HR.out.cell (i := 0) rfl
                    have c1 := HR.out.cell (i := 1) rfl
                    have f0 := HR.out.frozen 0
                    have f1 := HR.out.frozen 1
                    have kz := HR.out.lt
                    (refine anyE_one 16 _ (by kernel_rfl) (by rfl) (fun K hK => ?_))
                    rw [if_pos (by rfl)]
                    go_simp
                    refine hK _ _ (fun _ => ⟨⟨_, gro_of_bel2 ((HXB.out.set (p := ⟨q, 0, none⟩) hq0 _).set (p := ⟨q, 1, none⟩) hq0 _)⟩, rfl⟩) ?_
                    clear hK K c0 c1 f0 f1 kz
                    (refine anyE_tail 17 (by decide) (by rfl) (by kernel_rfl) ?_; simp only [List.drop_succ_cons, List.drop_zero])
                    go_wp2
                    refine NoPanic.normal ?_
                    go_wp2
                    go_meet
                    case rel => exact ⟨q, ⟨_, (HXB.out.set (p := ⟨q, 0, none⟩) hq0 _).set (p := ⟨q, 1, none⟩) hq0 _⟩, rfl, rfl, rfl, (HR.out.set 0 _).set 1 _, hq0⟩
                  · intro K hK
                    go_simp
                    refine hK _ _ (fun _ => ⟨⟨_, gro_alloc G0.out _⟩, rfl⟩) ?_
                    clear hK K
                    have HR := Lib.hid (RowAt.new wc 41 [.int .i64 0, .int .i64 0])
                    have HXB := Lib.hid (gro_bel (gro_alloc G0.out (.cells #[.int .i64 0, .int .i64 0] 41)))
                    have G2 := Lib.hid (gro_alloc G0.out (.cells #[.int .i64 0, .int .i64 0] 41))
                    have hq0 : w2.heap.size ≤ wc.heap.size := G0.out.size
                    generalize World.alloc wc _ = w5' at *
                    generalize wc.heap.size = q at *
                    (refine anyE_one 11 _ (by kernel_rfl) (by rfl) (fun K hK => ?_))
                    rw [if_pos (by rfl)]
                    go_simp
                    refine (HMU.out w5').mono ?_
                    rintro _ w6 ⟨rfl, hB⟩
                    have G3 : Hid (w2.grownBy w6 none) := Lib.hid (gro_then G2.out hB)
                    have HR6' := Lib.hid (HR.out.bel hB)
                    have HX6 := Lib.hid (HXB.out.trans hB)
                    refine hK _ _ (fun _ => ⟨⟨_, G3.out⟩, rfl⟩) ?_
                    clear hK K hB
                    (refine anyE_takes [12, 13, 14] (fun _ _ _ _ _ h => h) ⟨⟨_, G3.out⟩, rfl⟩ (by kernel_rfl) (by rfl) ?_; simp only [opsOf, List.filterMap_cons, List.filterMap_nil, List.getElem?_toArray, List.getElem?_cons_succ, List.getElem?_cons_zero, List.foldl_cons, List.foldl_nil]; (repeat (any_goals (first | go_big_quiet_step (fail) | quiet_step (fail)))); refine wpQuiet_nil ?_)
                    have c0 := HR6'.out.cell (i := 0) rfl
                    have c1 := HR6'.out.cell (i := 1) rfl
                    have f0 := HR6'.out.frozen 0
                    have f1 := HR6'.out.frozen 1
                    have kz := HR6'.out.lt
                    (refine anyE_one 16 _ (by kernel_rfl) (by rfl) (fun K hK => ?_))
                    rw [if_pos (by rfl)]
                    go_simp
                    refine hK _ _ (fun _ => ⟨⟨_, gro_of_bel2 ((HX6.out.set (p := ⟨q, 0, none⟩) hq0 _).set (p := ⟨q, 1, none⟩) hq0 _)⟩, rfl⟩) ?_
                    clear hK K c0 c1 f0 f1 kz
                    (refine anyE_tail 17 (by decide) (by rfl) (by kernel_rfl) ?_; simp only [List.drop_succ_cons, List.drop_zero])
                    go_wp2
                    refine NoPanic.normal ?_
                    go_wp2
                    go_meet
                    case rel => exact ⟨q, ⟨_, (HX6.out.set (p := ⟨q, 0, none⟩) hq0 _).set (p := ⟨q, 1, none⟩) hq0 _⟩, rfl, rfl, rfl, (HR6'.out.set 0 _).set 1 _, hq0⟩
                case rest =>
                  obtain ⟨q, z, rfl, rfl, rfl, hq, hqw⟩ := hcut
                  have HL9 := Lib.hid (HL8.out.bel z.bel)
                  have HB9 := Lib.hid (HB.out.trans z.bel)
                  have HAD := Lib.hid (rradd_any t ⟨yn, yd⟩ z.w HTW.out HYW.out)
                  have HAW := Lib.hid (radd_wf t ⟨yn, yd⟩)
                  have e0 := HL9.out.cell (i := 0) rfl
                  have e1' := HL9.out.cell (i := 1) rfl
                  have k8 := HL9.out.lt
                  have c0 := hq.cell (i := 0) rfl
                  have c1 := hq.cell (i := 1) rfl
                  have kq := hq.lt
                  clear x5 x6 lz y0 y1 z0 hqw hq hg hgx HL8 HB
                  generalize z.w = wz at *
                  dsimp only at HZ
                  generalize radd t ⟨yn, yd⟩ = M2 at *
                  obtain ⟨⟨sn, sd⟩, e2⟩ := M2
                  unfold rresV Rt.V at HAD
                  simp only at HAD HZ HAW
                  go_wp2_with fail
                  refine HAD.out.mono ?_
                  rintro e w6 ⟨rfl, hB⟩
                  have HL10 := Lib.hid (HL9.out.bel hB)
                  have HB10 := Lib.hid (HB9.out.trans hB)
                  clear hB HAD e0 e1' k8 c0 c1 kq HL9 HB9
                  go_upto_region 15 with (fail)
                  generalize hW : World.alloc w6 _ = w7 at *
                  have r9 : RowAt w7 w6.heap.size 41 [.int .i64 sn, .int .i64 sd] := by rw [← hW]; exact RowAt.new _ _ _
                  have hb : Bel w6 w7 := by rw [← hW]; exact Bel.refl.alloc _
                  clear hW
                  have HL11 := Lib.hid (HL10.out.bel hb)
                  have HB11 := Lib.hid (HB10.out.trans hb)
                  clear hb HL10 HB10
                  generalize w6.heap.size = b6 at *
                  by_cases he1 : e1 = 0
                  · subst he1
                    have h3 : ((0 : Int) != 0) = false := rfl
                    by_cases he2 : e2 = 0
                    · subst he2
                      simp only [ne_eq, not_true, if_false] at HZ
                      have d0 := r9.cell (i := 0) rfl
                      have d1 := r9.cell (i := 1) rfl
                      have k9 := r9.lt
                      have e0 := HL11.out.cell (i := 0) rfl
                      have e1' := HL11.out.cell (i := 1) rfl
                      have f8 := fun j => HL11.out.frozen j
                      have k8 := HL11.out.lt
                      have HN8 := Lib.hid ((HL11.out.set 0 (.int .i64 sn)).set 1 (.int .i64 sd))
                      have HBN := Lib.hid ((HB11.out.set (p := ⟨p8, 0, none⟩) HN.out (.int .i64 sn)).set (p := ⟨p8, 1, none⟩) HN.out (.int .i64 sd))
                      clear r9
                      go_wp2
                      go_roundw
                      case rel => exact ⟨k + 1, ⟨_, HBN.out⟩, ⟨sn, sd⟩, hlt, by go_num, rfl, HN8.out, HAW.out, HZ.out⟩
                      case measure => simp [intOf]; omega
                    · have h2' : (e2 != 0) = true := by simp [he2]
                      clear HZ he2 r9
                      have HS := Lib.hid (shown7_any w7)
                      go_wp2_with fail
                      refine HS.out.mono ?_
                      rintro e wf ⟨rfl, hB⟩
                      have HBF := Lib.hid ((HB5.out.trans HB11.out).trans hB)
                      clear hB HS
                      go_wp2
                      go_ret
                      exact ⟨rfl, HBF.out⟩
                  · have h3 : (e1 != 0) = true := by simp [he1]
                    clear HZ he1 r9
                    have HS := Lib.hid (shown7_any w7)
                    go_wp2_with fail
                    refine HS.out.mono ?_
                    rintro e wf ⟨rfl, hB⟩
                    have HBF := Lib.hid ((HB5.out.trans HB11.out).trans hB)
                    clear hB HS
                    go_wp2
                    go_ret
                    exact ⟨rfl, HBF.out⟩
              · obtain rfl : k = c.a.length := by omega
                have hd : decide ((c.a.length : Int) < (c.a.length : Int)) = false := by simp
                have HT : Hid (totL c.a c.p = (t, 0)) := Lib.hid (by
                  rw [← HTO.out, List.drop_eq_nil_of_le (by simp; omega)]; rfl)
                have HRES := Lib.hid (HFIN.out t HT.out)
                obtain ⟨tn, td⟩ := t
                have HL3 := Lib.hid (HL5.out.bel y.bel)
                have HCM := Lib.hid (rrcmp_any ⟨tn, td⟩ ⟨ln, ld⟩ y.w HTW.out HLW.out)
                have d0 := HL8.out.cell (i := 0) rfl
                have d1 := HL8.out.cell (i := 1) rfl
                have k8 := HL8.out.lt
                have e0 := HL3.out.cell (i := 0) rfl
                have e1 := HL3.out.cell (i := 1) rfl
                have k3 := HL3.out.lt
                dsimp only at d0 d1
                clear HT HTO HFIN
                generalize rcmp ⟨tn, td⟩ ⟨ln, ld⟩ = M at *
                obtain ⟨kk, ke⟩ := M
                unfold intV Rt.V at HCM
                dsimp only at HCM HRES
                obtain ⟨rfl, hor⟩ := HRES.out
                clear HRES
                generalize y.w = w2 at *
                go_wp2_with fail
                refine HCM.out.mono ?_
                rintro e w6 ⟨rfl, hB⟩
                have HB6 := Lib.hid (HB.out.trans hB)
                clear hB HCM d0 d1 k8 e0 e1 k3 x5 x6 lz
                have h1' : ((0 : Int) == 0) = true := rfl
                have HS := Lib.hid (shown7_any w6)
                by_cases hp : 0 < kk
                · have h2' : decide (kk > 0) = true := by simp [hp]
                  have h3' : decide (0 < kk) = true := by simp [hp]
                  clear hor
                  go_wp2_with fail
                  refine HS.out.mono ?_
                  rintro e wf ⟨rfl, hB⟩
                  have HBF := Lib.hid ((HB5.out.trans HB6.out).trans hB)
                  clear hB HS
                  go_wp2
                  go_ret
                  exact ⟨rfl, HBF.out⟩
                · have h2' : decide (kk > 0) = false := by simp; omega
                  have h3' : decide (0 < kk) = false := by simp; omega
                  obtain ⟨rfl, rfl⟩ : kk = 0 ∧ at0 = true := by rcases hor with q | q; exact absurd q hp; exact q
                  clear hor
                  go_wp2_with fail
                  refine HS.out.mono ?_
                  rintro e wf ⟨rfl, hB⟩
                  have HBF := Lib.hid ((HB5.out.trans HB6.out).trans hB)
                  clear hB HS
                  go_wp2
                  go_ret
                  exact ⟨rfl, HBF.out⟩
          · have h2 : ((c.a.length : Int) != c.n) = true := by simp [hcn]
            go_wp2_with fail
            refine HS.out.mono ?_
            rintro e wf ⟨rfl, hB⟩
            have HBF := Lib.hid (HB5.out.trans hB)
            clear hB HS
            go_wp2
            go_ret
            exact ⟨rfl, HBF.out⟩
      · have h1 : (ee == 0) = false := by simp [hee]
        go_wp2_with fail
        refine HS.out.mono ?_
        rintro e wf ⟨rfl, hB⟩
        have HBF := Lib.hid (HB5.out.trans hB)
        clear hB HS
        go_wp2
        go_ret
        exact ⟨rfl, HBF.out⟩
    · have h0 : (er != 0) = true := by simp [he]
      have hz := HER.out he
      simp only [Prod.mk.injEq] at hz
      obtain ⟨hz1, rfl, _⟩ := hz
      injection hz1 with hz1 hz2
      subst hz1 hz2
      have hE : ∀ W, (binOp .eql 41 (.agg #[.int .i64 0, .int .i64 0]) (.agg #[.int .i64 0, .int .i64 0])).run Try.prog W = .ok (.bool true) W := fun W => by rw [rt_eql]; simp
      have d0 := HL4.out.cell (i := 0) rfl
      have d1 := HL4.out.cell (i := 1) rfl
      have k3 := HL4.out.lt
      have HS := Lib.hid (shown7_any w4)
      clear HER HM
      go_wp2_with fail
      refine HS.out.mono ?_
      rintro e w5 ⟨rfl, hB⟩
      have HB5 := Lib.hid (HB4.out.trans hB)
      clear hB HS
      go_wp2
      go_ret
      exact ⟨rfl, HB5.out⟩
  · have HS := Lib.hid (shown7_any w2)
    clear hby
    go_wp2_with fail
    refine HS.out.mono ?_
    rintro e w3 ⟨rfl, hB⟩
    have HB3 := Lib.hid (HB2.out.trans hB)
    clear hB HS
    go_wp2
    go_ret
    exact ⟨rfl, HB3.out⟩
end Go.Proofs.Ytalphoebmefgoaa
