/- poly: PolyPieces: the walk. -/
import Derived.Test.YtalphoebmefgoaaZVlw3
import Derived.Test.YtalphoebmefgoaaZVmin
namespace Go.Proofs.Ytalphoebmefgoaa
open Go.RowKit
def isP (n : Int) (p : List Rt) (l : List AL) : Bool := (hasM n l p).1
/-- how many of the first k lists the point meets -/
def cntP (n : Int) (p : List Rt) (L : List (List AL)) (k : Nat) : Nat := ((L.take k).filter (isP n p)).length
theorem cntP_succ {n : Int} {p : List Rt} {L : List (List AL)} {k : Nat} (h : k < L.length) : cntP n p L (k + 1) = cntP n p L k + (if (hasM n L[k] p).1 then 1 else 0) := by
  unfold cntP
  rw [List.take_succ_eq_append_getElem h, List.filter_append, List.length_append]
  congr 1
  cases hb : (hasM n L[k] p).1
  · rw [List.filter_cons_of_neg (by unfold isP; simp [hb])]; rfl
  · rw [List.filter_cons_of_pos (by unfold isP; simp [hb])]; rfl
set_option maxRecDepth 100000 in
set_option maxHeartbeats 8000000 in
theorem pieces_any (c : C7) (lv mv xv pv av : Value) (w : World) (h : C7At w lv mv xv pv av c) (hwf : c.wf) :
    Calls Try.prog 7 #[.agg #[.int .i64 c.n, lv, mv, xv, .int .i64 c.x.b, .bool c.x.s, .int .i64 c.i, pv, av]] w fun e w' => e = .returned (.bool true) ∧ Bel w w' := by
  have H := Lib.hid h
  have HWF := Lib.hid hwf
  obtain ⟨A1, k1, rfl, _⟩ := h.l.form
  obtain ⟨A2, k2, rfl, _⟩ := h.m.form
  obtain ⟨A3, k3, rfl, _⟩ := h.x.form
  obtain ⟨A4, k4, rfl, _⟩ := h.p.form
  obtain ⟨A5, k5, rfl, _⟩ := h.a.form
  clear h hwf
  go_enter Try.func7, Try.ntmps7
  go_upto_region 1 with (fail)
  generalize hW : World.alloc w _ = w1 at *
  have hb : Bel w w1 := by rw [← hW]; exact Bel.refl.alloc _
  have r1 : RowAt w1 w.heap.size 28 [.int .i64 c.n, .slice A1 c.l.length k1, .slice A2 c.m.length k2, .slice A3 c.x.a.length k3, .int .i64 c.x.b, .bool c.x.s, .int .i64 c.i, .slice A4 c.p.length k4, .slice A5 c.a.length k5] := by rw [← hW]; exact RowAt.new _ _ _
  clear hW
  have HB := Lib.hid hb
  have HR := Lib.hid r1
  have HC := Lib.hid (H.out.bel hb)
  clear hb H
  generalize w.heap.size = bq at *
  have HBY := Lib.hid (beyond7_any _ _ _ _ _ c 6 w1 HC.out)
  have x0 := r1.cell (i := 0) rfl
  have x1 := r1.cell (i := 1) rfl
  have x2 := r1.cell (i := 2) rfl
  have x3 := r1.cell (i := 3) rfl
  have x4 := r1.cell (i := 4) rfl
  have x5 := r1.cell (i := 5) rfl
  have x6 := r1.cell (i := 6) rfl
  have x7 := r1.cell (i := 7) rfl
  have x8 := r1.cell (i := 8) rfl
  have lz := r1.lt
  clear r1
  go_wp2_with fail
  refine HBY.out.mono ?_
  rintro e w2 ⟨rfl, hB⟩
  have HB2 := Lib.hid (HB.out.trans hB)
  have HC2 := Lib.hid (HC.out.bel hB)
  have HR2 := Lib.hid (HR.out.bel hB)
  clear hB HBY HB HC HR x0 x1 x2 x3 x4 x5 x6 x7 x8 lz
  cases hby : beyond7 6 c
  · obtain ⟨hf1, hf2, _, hpb, hab⟩ := beyond_f3 hby
    obtain ⟨hl1, hl2, _⟩ := far_f hf1
    obtain ⟨hm1, hm2, _⟩ := far_f hf2
    have HAL := Lib.hid (lens_of3 (fun x hx => by have := hl2 x hx; omega))
    have HAM := Lib.hid (lens_of3 (fun x hx => by have := hm2 x hx; omega))
    have HPB := Lib.hid hpb
    have HLL : Hid (c.l.length ≤ 1000000) := Lib.hid (by omega)
    have HLM : Hid (c.m.length ≤ 1000000) := Lib.hid (by omega)
    have HPP : Hid (c.p.length ≤ 1000000) := Lib.hid (by omega)
    clear hby hf1 hf2 hl1 hl2 hm1 hm2 hpb hab
    have HPT := Lib.hid (point_any c.n _ c.l w2 HC2.out.l HAL.out HLL.out)
    have HPE : Hid ((pointM c.n c.l).2 ≠ 0 → (pointM c.n c.l).1 = []) := Lib.hid point_nil
    have HPH : Hid ((pointM c.n c.l).2 = 0 → ∀ is, hasM c.n c.l (pointM c.n c.l).1 = (is, 0) → is = true) := Lib.hid (fun q is hi => point_has (p := (pointM c.n c.l).1) (by rw [← q]) hi)
    have HPW : Hid ((pointM c.n c.l).2 = 0 → (pointM c.n c.l).1.length ≤ 1000000 ∧ ∀ r, r ∈ (pointM c.n c.l).1 → r.wf) := Lib.hid (fun q => by
      obtain ⟨q1, _, q2, q3⟩ := point_ok (n := c.n) (l := c.l) (p := (pointM c.n c.l).1) (by rw [← q])
      exact ⟨by have := (check_fits q1).1; omega, fun r hr => rval_wf (q3 r hr)⟩)
    have HPN : Hid (∀ nn, EmptyM c.n c.l = (nn, 0) → ((pointM c.n c.l).2 = 4 ↔ nn = true)) := Lib.hid (fun nn q => point_none q)
    unfold PtPost at HPT
    generalize pointM c.n c.l = M at *
    obtain ⟨pp, pe⟩ := M
    dsimp only at HPT HPE HPH HPW HPN
    have x0 := HR2.out.cell (i := 0) rfl
    have x1 := HR2.out.cell (i := 1) rfl
    have lz := HR2.out.lt
    go_wp2_with fail
    refine HPT.out.mono ?_
    rintro e w3 ⟨v3, rfl, hp3, hB⟩
    have HB3 := Lib.hid (HB2.out.trans hB)
    have HC3 := Lib.hid (HC2.out.bel hB)
    have HR3 := Lib.hid (HR2.out.bel hB)
    have HP3 := Lib.hid hp3
    obtain ⟨A6, k6, rfl, _⟩ := hp3.form
    clear hB HPT HB2 HC2 HR2 x0 x1 lz hp3
    go_upto_region 4 with (fail)
    go_upto_if 31 with (fail)
    go_cut [5, 6] from 31 to 45 (fun s5 s6 wx => ∃ y : Ext w3, wx = y.w)
    case first =>
      by_cases hpe : pe = 0
      · subst hpe
        have t0 : ((0 : Int) == 0) = true := rfl
        obtain ⟨hpl, hpw⟩ := HPW.out rfl
        have HME := Lib.hid (meets_any c.n _ _ c.l pp w3 HC3.out.l HAL.out HLL.out HP3.out hpl hpw)
        have HPH2 := Lib.hid (HPH.out rfl)
        generalize hasM c.n c.l pp = M at *
        obtain ⟨b1, e1⟩ := M
        dsimp only at HME HPH2
        have x0 := HR3.out.cell (i := 0) rfl
        have x1 := HR3.out.cell (i := 1) rfl
        have lz := HR3.out.lt
        go_wp2_with fail
        refine HME.out.mono ?_
        rintro e w4 ⟨rfl, hB⟩
        have HB4 := Lib.hid hB
        clear hB HME x0 x1 lz
        by_cases he1 : e1 = 0
        · subst he1
          obtain rfl : b1 = true := HPH2.out _ rfl
          go_wp2
          go_meet
          case rel => exact ⟨⟨_, HB4.out⟩, rfl⟩
        · have t1 : (e1 == 0) = false := by simp [he1]
          cases b1 <;> (go_wp2; go_meet; case rel => exact ⟨⟨_, HB4.out⟩, rfl⟩)
      · have t0 : (pe == 0) = false := by simp [hpe]
        go_wp2
        go_meet
        case rel => exact ⟨⟨_, Bel.refl⟩, rfl⟩
    case rest =>
      obtain ⟨y4, rfl⟩ := hcut
      have HB4 := Lib.hid (HB3.out.trans y4.bel)
      have HC4 := Lib.hid (HC3.out.bel y4.bel)
      have HR4 := Lib.hid (HR3.out.bel y4.bel)
      clear HC3 HR3 HP3 HPH HPW
      generalize y4.w = w4 at *
      have HEM := Lib.hid (Empty_any c.n _ c.l w4 HC4.out.l HAL.out HLL.out)
      generalize EmptyM c.n c.l = M at *
      obtain ⟨nn, en⟩ := M
      unfold BoPost at HEM
      dsimp only at HEM HPN
      have x0 := HR4.out.cell (i := 0) rfl
      have x1 := HR4.out.cell (i := 1) rfl
      have lz := HR4.out.lt
      go_wp2_with fail
      refine HEM.out.mono ?_
      rintro e w5 ⟨rfl, hB⟩
      have HB5 := Lib.hid (HB4.out.trans hB)
      have HC5 := Lib.hid (HC4.out.bel hB)
      have HR5 := Lib.hid (HR4.out.bel hB)
      clear hB HEM HC4 HR4 x0 x1 lz
      go_upto_region 9 with (fail)
      go_cut [70] from 54 to 70 (fun s70 wx => s70 = .bool false ∧ w5 = wx)
      case first =>
        by_cases hpe : pe = 0
        · subst hpe
          have t0 : ((0 : Int) != 0) = false := rfl
          have t4 : ((0 : Int) == 4) = false := rfl
          by_cases hen : en = 0
          · subst hen
            have t1 : ((0 : Int) == 0) = true := rfl
            obtain rfl : nn = false := by
              have := HPN.out nn rfl
              cases nn
              · rfl
              · simp at this
            go_wp2
            go_meet
            case rel => exact ⟨rfl, rfl⟩
          · have t1 : (en == 0) = false := by simp [hen]
            go_wp2
            go_meet
            case rel => exact ⟨rfl, rfl⟩
        · obtain rfl : pp = [] := HPE.out hpe
          have t0 : (pe != 0) = true := by simp [hpe]
          have tl : (((([] : List Rt).length : Nat) : Int) != 0) = false := rfl
          by_cases hen : en = 0
          · subst hen
            have t1 : ((0 : Int) == 0) = true := rfl
            have hiff := HPN.out nn rfl
            by_cases h4 : pe = 4
            · have t4 : (pe == 4) = true := by simp [h4]
              obtain rfl : nn = true := hiff.1 h4
              clear h4 hiff
              go_wp2
              go_meet
              case rel => exact ⟨rfl, rfl⟩
            · have t4 : (pe == 4) = false := by simp [h4]
              obtain rfl : nn = false := by
                cases nn
                · rfl
                · exact absurd (hiff.2 rfl) h4
              go_wp2
              go_meet
              case rel => exact ⟨rfl, rfl⟩
          · have t1 : (en == 0) = false := by simp [hen]
            go_wp2
            go_meet
            case rel => exact ⟨rfl, rfl⟩
      case rest =>
        obtain ⟨rfl, rfl⟩ := hcut
        clear HPN HPE
        have HMI := Lib.hid (minus_any c.n _ _ c.l c.m w5 HC5.out.l HC5.out.m HAL.out HAM.out HLL.out HLM.out)
        have HML := Lib.hid (minusM_len (n := c.n) (a := c.l) (b := c.m))
        have HMC := Lib.hid (minusM_cnt (n := c.n) (a := c.l) (b := c.m))
        have HPC := Lib.hid (fun L h in_ also a b => pieces_plain (n := c.n) (a := c.l) (b := c.m) (p := c.p) (L := L) (in_ := in_) (also := also) h a b)
        generalize minusM c.n c.l c.m = M at *
        obtain ⟨LL, g⟩ := M
        unfold MsPost at HMI
        dsimp only at HMI HML HMC HPC
        have x0 := HR5.out.cell (i := 0) rfl
        have x1 := HR5.out.cell (i := 1) rfl
        have x2 := HR5.out.cell (i := 2) rfl
        have lz := HR5.out.lt
        go_wp2_with fail
        refine HMI.out.mono ?_
        rintro e w6 ⟨v6, L6, rfl, hms, hlm, hB⟩
        have HB6 := Lib.hid (HB5.out.trans hB)
        have HC6 := Lib.hid (HC5.out.bel hB)
        have HR6 := Lib.hid (HR5.out.bel hB)
        have HMS6 := Lib.hid hms
        have HLM6 := Lib.hid hlm
        have HLN : Hid (L6.length = LL.length) := Lib.hid (by rw [← hlm, List.length_map])
        have hL6 : L6.length ≤ 1000 := by have := HMC.out; have := HLN.out; omega
        obtain ⟨A9, k9, rfl, _⟩ := hms.form
        clear hB HMI HC5 HR5 x0 x1 x2 lz hms hlm
        have HME := Lib.hid (meets_any c.n _ _ c.l c.p w6 HC6.out.l HAL.out HLL.out HC6.out.p HPP.out HWF.out.p)
        generalize hH : hasM c.n c.l c.p = M at HME HPC
        clear hH
        obtain ⟨b1, e1⟩ := M
        dsimp only at HME HPC
        have x0 := HR6.out.cell (i := 0) rfl
        have x1 := HR6.out.cell (i := 1) rfl
        have x7 := HR6.out.cell (i := 7) rfl
        have lz := HR6.out.lt
        go_wp2_with fail
        refine HME.out.mono ?_
        rintro e w7 ⟨rfl, hB⟩
        have HB7 := Lib.hid (HB6.out.trans hB)
        have HC7 := Lib.hid (HC6.out.bel hB)
        have HR7 := Lib.hid (HR6.out.bel hB)
        have HMS7 := Lib.hid (HMS6.out.bel hB)
        clear hB HME HC6 HR6 HMS6 x0 x1 x7 lz
        have HME := Lib.hid (meets_any c.n _ _ c.m c.p w7 HC7.out.m HAM.out HLM.out HC7.out.p HPP.out HWF.out.p)
        generalize hH : hasM c.n c.m c.p = M at HME HPC
        clear hH
        obtain ⟨b2, e2⟩ := M
        dsimp only at HME HPC
        have x0 := HR7.out.cell (i := 0) rfl
        have x2 := HR7.out.cell (i := 2) rfl
        have x7 := HR7.out.cell (i := 7) rfl
        have lz := HR7.out.lt
        go_wp2_with fail
        refine HME.out.mono ?_
        rintro e w8 ⟨rfl, hB⟩
        have HB8 := Lib.hid (HB7.out.trans hB)
        have HC8 := Lib.hid (HC7.out.bel hB)
        have HR8 := Lib.hid (HR7.out.bel hB)
        have HMS8 := Lib.hid (HMS7.out.bel hB)
        clear hB HME HC7 HR7 HMS7 x0 x2 x7 lz
        by_cases hg : g = 0
        · subst hg
          have t0 : ((0 : Int) != 0) = false := rfl
          by_cases he1 : e1 = 0
          · subst he1
            have t1 : ((0 : Int) == 0) = true := rfl
            by_cases he2 : e2 = 0
            · subst he2
              go_wp2
              go_loopw [15, 16] (fun s15 s16 wq => ∃ (k : Nat) (y : Ext w8) (mn : Nat), k ≤ L6.length ∧ s16 = .int .i64 k ∧ s15 = .int .i64 mn ∧ wq = y.w ∧ mn ≤ k ∧ mn = cntP c.n c.p LL k ∧ ∀ i (h : i < LL.length), i < k → (hasM c.n LL[i] c.p).2 = 0) (fun _ s16 _ => L6.length + 1 - (intOf s16).toNat)
              case atStart => exact ⟨0, ⟨_, Bel.refl⟩, 0, Nat.zero_le _, rfl, rfl, rfl, Nat.le_refl _, rfl, fun i _ h => absurd h (by omega)⟩
              case round =>
                obtain ⟨k, y, mn, hk, rfl, rfl, rfl, hmk, hmn, hok⟩ := hrel
                have HMN := Lib.hid hmn
                have HOK := Lib.hid hok
                have HBY := Lib.hid (HB8.out.trans y.bel)
                clear hmn hok
                by_cases hlt : k < L6.length
                · have hd : decide ((k : Int) < (L6.length : Int)) = true := by simp; omega
                  have hL : (k : Int) < (L6.length : Int) := by omega
                  have wk : IntKind.i64.wrap ((k : Int) + 1) = ((k + 1 : Nat) : Int) := IntWalk.i64_in _ (by omega)
                  have wm : IntKind.i64.wrap ((mn : Int) + 1) = ((mn + 1 : Nat) : Int) := IntWalk.i64_in _ (by omega)
                  have hlt2 : k < LL.length := by have := HLN.out; omega
                  have hmy := HMS8.out.bel y.bel
                  obtain ⟨g9, c9, e9, hb9, hl9, hc9⟩ := hmy.get hlt
                  injection e9 with e9 _ e9c
                  subst e9 e9c
                  have hao := hmy.at_ _ (List.getElem_mem hlt)
                  have hlin := hao.lines (by have := HB6.out.le; have := HB8.out.le; have := y.bel.le; omega)
                  have hq : L6[k].2.map Prod.snd = LL[k] := by
                    have := HLM6.out
                    subst this
                    rw [List.getElem_map]
                  rw [hq] at hlin
                  obtain ⟨hq1, hq2⟩ := HML.out _ (List.getElem_mem hlt2)
                  obtain ⟨Aq, kq, eq, _⟩ := hlin.form
                  rw [eq] at hc9 hlin
                  have HCN := Lib.hid (cntP_succ (n := c.n) (p := c.p) hlt2)
                  have HOK2 : Hid ((hasM c.n LL[k] c.p).2 = 0 → ∀ i (h : i < LL.length), i < k + 1 → (hasM c.n LL[i] c.p).2 = 0) := Lib.hid (fun q i h h2 => by
                    by_cases hik : i = k
                    · subst hik; exact q
                    · exact HOK.out i h (by omega))
                  have hcy := HC8.out.bel y.bel
                  have HME := Lib.hid (fun W (hW : Bel y.w W) => meets_any c.n _ _ LL[k] c.p W (hlin.bel hW) (lens_of3 (fun x hx => by have := hq2 x hx; omega)) (by omega) (hcy.p.bel hW) HPP.out HWF.out.p)
                  have hr := HR8.out.bel y.bel
                  have x0 := hr.cell (i := 0) rfl
                  have x7 := hr.cell (i := 7) rfl
                  have lz := hr.lt
                  clear hao hlin hmy hcy hr hq hq1 hq2 eq
                  generalize LL[k] = Q at *
                  generalize hasM c.n Q c.p = M at *
                  obtain ⟨bk, ek⟩ := M
                  dsimp only at HME HCN HOK2
                  have HWR := Lib.hid y.bel
                  generalize hyw : y.w = wr at *
                  go_upto_region 20 with (fail)
                  (refine wp_region_ext (wb := wr) (by (repeat (first | exact Ext.bel _ | exact Bel.refl | refine Bel.alloc ?_ _ | refine Bel.drew ?_ | refine Bel.drewN ?_ _))) (by kernel_rfl) (by kernel_rfl) ?_; (repeat (any_goals (first | go_big_quiet_step ((go_at_call 17; with_reducible exact ext_call (HME.out _ (Ext.bel _)))) | quiet_step ((go_at_call 17; with_reducible exact ext_call (HME.out _ (Ext.bel _)))) | (refine wpQuiet_step (fun K hK => ?_); go_simp; split <;> (refine hK _ ?_; clear hK K))))); all_goals (refine wpQuiet_nil ?_; intro _ hw'; obtain ⟨y, hw''⟩ := hw'; subst hw''))
                  have HB9 := Lib.hid (HBY.out.trans y.bel)
                  have HW9 := Lib.hid (HWR.out.trans y.bel)
                  by_cases hek : ek = 0
                  · subst hek
                    have HOK3 := Lib.hid (HOK2.out rfl)
                    cases bk
                    · have HC2 : Hid (mn = cntP c.n c.p LL (k + 1)) := Lib.hid (by rw [HCN.out, ← HMN.out]; rfl)
                      clear HCN HMN HOK HOK2
                      go_wp2
                      go_roundw
                      case rel => exact ⟨k + 1, ⟨_, HW9.out⟩, mn, hlt, by go_num, rfl, rfl, by omega, HC2.out, HOK3.out⟩
                      case measure => simp [intOf]; omega
                    · have HC2 : Hid (mn + 1 = cntP c.n c.p LL (k + 1)) := Lib.hid (by rw [HCN.out, ← HMN.out]; rfl)
                      clear HCN HMN HOK HOK2
                      go_wp2
                      go_roundw
                      case rel => exact ⟨k + 1, ⟨_, HW9.out⟩, mn + 1, hlt, by go_num, by go_num, rfl, by omega, HC2.out, HOK3.out⟩
                      case measure => simp [intOf]; omega
                  · have t3 : (ek == 0) = false := by simp [hek]
                    have HS := Lib.hid (shown7_any y.w)
                    go_wp2_with fail
                    refine HS.out.mono ?_
                    rintro e wf ⟨rfl, hB⟩
                    have HBF := Lib.hid (HB9.out.trans hB)
                    clear hB HS
                    go_wp2
                    go_ret
                    exact ⟨rfl, HBF.out⟩
                · obtain rfl : k = L6.length := by omega
                  have hd : decide ((L6.length : Int) < (L6.length : Int)) = false := by simp
                  have HV : Hid (mn = if b1 && !b2 then 1 else 0) := Lib.hid (by
                    rw [← HPC.out LL rfl b1 b2 rfl rfl (fun l hl => by
                      obtain ⟨i, hi, rfl⟩ := List.mem_iff_getElem.1 hl
                      exact HOK.out i hi (by have := HLN.out; omega)), HMN.out, HLN.out]
                    unfold cntP
                    rw [List.take_length]
                    rfl)
                  clear HMN HOK HPC
                  cases b1
                  · have t5 : ((mn : Int) == 0) = true := by have := HV.out; simp at this; simp [this]
                    have HS := Lib.hid (shown7_any y.w)
                    go_wp2_with fail
                    refine HS.out.mono ?_
                    rintro e wf ⟨rfl, hB⟩
                    have HBF := Lib.hid (HBY.out.trans hB)
                    clear hB HS
                    go_wp2
                    go_ret
                    exact ⟨rfl, HBF.out⟩
                  · cases b2
                    · have t5 : ((mn : Int) == 1) = true := by have := HV.out; simp at this; simp [this]
                      have HS := Lib.hid (shown7_any y.w)
                      go_wp2_with fail
                      refine HS.out.mono ?_
                      rintro e wf ⟨rfl, hB⟩
                      have HBF := Lib.hid (HBY.out.trans hB)
                      clear hB HS
                      go_wp2
                      go_ret
                      exact ⟨rfl, HBF.out⟩
                    · have t5 : ((mn : Int) == 0) = true := by have := HV.out; simp at this; simp [this]
                      have HS := Lib.hid (shown7_any y.w)
                      go_wp2_with fail
                      refine HS.out.mono ?_
                      rintro e wf ⟨rfl, hB⟩
                      have HBF := Lib.hid (HBY.out.trans hB)
                      clear hB HS
                      go_wp2
                      go_ret
                      exact ⟨rfl, HBF.out⟩
            · have t2 : (e2 == 0) = false := by simp [he2]
              have HS := Lib.hid (shown7_any w8)
              go_wp2_with fail
              refine HS.out.mono ?_
              rintro e wf ⟨rfl, hB⟩
              have HBF := Lib.hid (HB8.out.trans hB)
              clear hB HS
              go_wp2
              go_ret
              exact ⟨rfl, HBF.out⟩
          · have t1 : (e1 == 0) = false := by simp [he1]
            have HS := Lib.hid (shown7_any w8)
            go_wp2_with fail
            refine HS.out.mono ?_
            rintro e wf ⟨rfl, hB⟩
            have HBF := Lib.hid (HB8.out.trans hB)
            clear hB HS
            go_wp2
            go_ret
            exact ⟨rfl, HBF.out⟩
        · have t0 : (g != 0) = true := by simp [hg]
          have HS := Lib.hid (shown7_any w8)
          go_wp2_with fail
          refine HS.out.mono ?_
          rintro e wf ⟨rfl, hB⟩
          have HBF := Lib.hid (HB8.out.trans hB)
          clear hB HS
          go_wp2
          go_ret
          exact ⟨rfl, HBF.out⟩
  · skip
    clear hby
    have HS := Lib.hid (shown7_any w2)
    go_wp2_with fail
    refine HS.out.mono ?_
    rintro e wf ⟨rfl, hB⟩
    have HBF := Lib.hid (HB2.out.trans hB)
    clear hB HS
    go_wp2
    go_ret
    exact ⟨rfl, HBF.out⟩
end Go.Proofs.Ytalphoebmefgoaa
