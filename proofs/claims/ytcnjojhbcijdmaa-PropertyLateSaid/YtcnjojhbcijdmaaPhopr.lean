import Derived.Test.YtcnjojhbcijdmaaPhrm
import Derived.Test.YtcnjojhbcijdmaaPhop
import Derived.Deep.CutRange
import Derived.Deep.LoopGhost
import Derived.Deep.RegionHeld3
import Derived.Maps.AppendAt
namespace Go.Proofs.Ytcnjojhbcijdmaa
open Go.RowKit
theorem Try.infoPtr : (Try.prog.info? 56).map (fun i => (i.zero, i.size, i.bytes)) = some (some (.agg #[.int .i64 0, .int .i64 0, .int .i64 0, .int .i64 0]), 4, 32) := by kernel_rfl
set_option maxRecDepth 100000 in
set_option maxHeartbeats 4000000 in
theorem rhope_ok (p : PP) (A1 A2 A : Option Addr) (k1 k2 n c : Nat) (idx loc u0 u1 u2 : Int) (w : World) (hpw : PtWf ⟨loc, [u0, u1, u2]⟩)
    (HP : Hid (PropAt w w.heap.size (.slice A1 p.good.length k1) (.slice A2 p.edges.length k2) p)) (HS : Hid (PSized p)) (HV : Hid (PValid p p.clks.toNat)) (HGL : Hid (p.good.length ≤ 12)) (HEV : Hid (0 ≤ p.evs ∧ p.evs ≤ 8)) (x0 : Pt) (HX0 : Hid (x0 = ⟨loc, [u0, u1, u2]⟩)) (HPX : Hid (PtOk p x0))
    (HWD : Hid (∀ W, Bel w W → Calls Try.prog 14 #[.agg #[.int .i64 p.evs, .int .i64 p.clks, .int .i64 p.ini, .slice A1 p.good.length k1, .slice A2 p.edges.length k2], .slice A n c] W fun e w' => e = .returned (.int .i64 0) ∧ Bel W w'))
    (HRN : Hid (∀ W, Bel w W → Calls Try.prog 21 #[.agg #[.int .i64 p.evs, .int .i64 p.clks, .int .i64 p.ini, .slice A1 p.good.length k1, .slice A2 p.edges.length k2], .slice A n c] W fun e w' => e = .returned (.tuple #[.agg #[.int .i64 loc, .int .i64 u0, .int .i64 u1, .int .i64 u2], .int .i64 idx]) ∧ Bel W w')) :
    Calls Try.prog 17 #[.agg #[.int .i64 p.evs, .int .i64 p.clks, .int .i64 p.ini, .slice A1 p.good.length k1, .slice A2 p.edges.length k2], .slice A n c] w fun e w' => e = .returned (.tuple #[.bool (hopeB p x0), .int .i64 0]) ∧ Bel w w' := by
  go_enter Try.func17, Try.ntmps17
  go_upto_region 1 with (fail)
  have BX := (RowAt.new w 25 [.int .i64 p.evs, .int .i64 p.clks, .int .i64 p.ini, .slice A1 p.good.length k1, .slice A2 p.edges.length k2])
  generalize hWb : World.alloc w _ = wb at *
  have HBW : Hid (Bel w wb) := Lib.hid (by rw [← hWb]; exact Bel.refl.alloc _)
  have BXW := Lib.hid BX
  have bx0 := BX.cell (i := 0) rfl
  have bx1 := BX.cell (i := 1) rfl
  have bx2 := BX.cell (i := 2) rfl
  have bx3 := BX.cell (i := 3) rfl
  have bx4 := BX.cell (i := 4) rfl
  have bxz := BX.lt
  clear hWb BX
  go_upto_region 5 with (first | (go_at_call 14; (with_reducible refine (HWD.out _ (HBW.out.trans (by (repeat (first | exact Ext.bel _ | exact Bel.refl | refine Bel.alloc ?_ _ | refine Bel.drew ?_ | refine Bel.drewN ?_ _))))).mono ?_); rintro e w2 ⟨rfl, hb2⟩; obtain ⟨x, rfl⟩ : ∃ x : Ext wb, w2 = x.w := ext_of (hb2.after (by (repeat (first | exact Ext.bel _ | exact Bel.refl | refine Bel.alloc ?_ _ | refine Bel.drew ?_ | refine Bel.drewN ?_ _)))); clear hb2) | (go_at_call 21; (with_reducible refine (HRN.out _ (HBW.out.trans (by (repeat (first | exact Ext.bel _ | exact Bel.refl | refine Bel.alloc ?_ _ | refine Bel.drew ?_ | refine Bel.drewN ?_ _))))).mono ?_); rintro e w2 ⟨rfl, hb2⟩; obtain ⟨x, rfl⟩ : ∃ x : Ext wb, w2 = x.w := ext_of (hb2.after (by (repeat (first | exact Ext.bel _ | exact Bel.refl | refine Bel.alloc ?_ _ | refine Bel.drew ?_ | refine Bel.drewN ?_ _)))); clear hb2))
  have hr5 := RowAt.new x.w 56 [.int .i64 loc, .int .i64 u0, .int .i64 u1, .int .i64 u2]
  have hb5 : Bel w (x.w.alloc (.cells [.int .i64 loc, .int .i64 u0, .int .i64 u1, .int .i64 u2].toArray 56)) := (HBW.out.trans x.bel).alloc _
  have hx5 := ((BXW.out.bel x.bel).alloc (.cells [.int .i64 loc, .int .i64 u0, .int .i64 u1, .int .i64 u2].toArray 56))
  generalize hW5 : World.alloc x.w _ = w5 at *
  generalize x.w.heap.size = b7 at *
  have hbm : w.heap.size ≤ w5.heap.size := hb5.le
  have hmb : b7 ≠ w5.heap.size := Nat.ne_of_lt hr5.lt
  have hpm := PSet.made w5 56 4
  obtain ⟨w6, hput, hM, hg⟩ := hpm.put pkey_r (t := 72) (by kernel_rfl) (by kernel_rfl) (by unfold maxLen; omega) (y := ⟨loc, [u0, u1, u2]⟩) hpw
  replace hput : (Instr.mapUpdate 72 (.map (some w5.heap.size)) (.agg #[.int .i64 loc, .int .i64 u0, .int .i64 u1, .int .i64 u2]) (.bool true)).run Try.prog (World.alloc w5 (.map #[] 0)) = .ok () w6 := hput
  have hr5a := hr5.alloc (.map #[] 0)
  have p0 := hr5a.cell (i := 0) rfl
  have p1 := hr5a.cell (i := 1) rfl
  have p2 := hr5a.cell (i := 2) rfl
  have p3 := hr5a.cell (i := 3) rfl
  have pz := hr5a.lt
  have hmk : (Instr.makeMap 72 none).run Try.prog w5 = .ok (.map (some w5.heap.size)) (w5.alloc (.map #[] 0)) := rfl
  have hb6 := (hb5.alloc (.map #[] 0)).grown hg hbm
  have hx6 := (hx5.alloc (.map #[] 0)).grown hg (fun h => Nat.ne_of_lt hx5.lt (Option.some.inj h))
  have hr6 := (hr5.alloc (.map #[] 0)).grown hg (fun h => hmb (Option.some.inj h))
  have t0 := hr6.cell (i := 0) rfl
  have t1 := hr6.cell (i := 1) rfl
  have t2 := hr6.cell (i := 2) rfl
  have t3 := hr6.cell (i := 3) rfl
  have tz := hr6.lt
  have hbmz := hM.lt
  have HB6 := Lib.hid hb6
  have HX6 := Lib.hid hx6
  have HM6 := Lib.hid hM
  clear hr5 hr5a hb5 hx5 hW5 hg hb6 hx6 hr6 hM hpm bx0 bx1 bx2 bx3 bx4 bxz HBW BXW HWD HRN
  generalize World.alloc w5 (.map #[] 0) = w5a at *
  generalize w5.heap.size = bm at *
  go_upto_region 7 with (fail)
  have HG7 := Lib.hid (RowAt.new w6 56 [.int .i64 loc, .int .i64 u0, .int .i64 u1, .int .i64 u2])
  have HW0 : Hid (RW w (w6.alloc (.cells [.int .i64 loc, .int .i64 u0, .int .i64 u1, .int .i64 u2].toArray 56)) p (.slice A1 p.good.length k1) (.slice A2 p.edges.length k2) bm (.slice (some ⟨w6.heap.size, 0, none⟩) 1 1) [x0]) := Lib.hid (by
    rw [HX0.out]
    exact ⟨HB6.out.alloc _, HX6.out.alloc _, HM6.out.alloc _, ⟨rfl, .inr ⟨_, 1, _, rfl, HB6.out.le, HG7.out, Nat.le_refl _, by unfold maxLen; omega, rfl, rfl⟩⟩, hbm⟩)
  clear HG7 HB6 HX6 HM6 p0 p1 p2 p3 pz t0 t1 t2 t3 tz hbmz hput hmk
  generalize World.alloc w6 _ = w7 at *
  generalize w6.heap.size = bg at *
  have hE8 : p.evs ≤ 8 := HEV.out.2
  obtain ⟨E, hE⟩ : ∃ E : Nat, p.evs = E := ⟨p.evs.toNat, by have := HEV.out; omega⟩
  rw [hE] at hE8
  have HE := Lib.hid hE
  clear hE
  go_wp2
  go_loopg [10, 11] 425985 (fun gk v s11 wx => ∃ L, ∃ i : Nat, s11 = .int .i64 i ∧ gk + i = 425985 ∧ RW w wx p (.slice A1 p.good.length k1) (.slice A2 p.edges.length k2) bm v L ∧ RInv p x0 L i)
  case atStart => exact ⟨_, 0, rfl, rfl, HW0.out, RInv.init HPX.out⟩
  case round =>
    clear HW0
    obtain ⟨L, i, rfl, hgk, hw, hi⟩ := hrel
    have hll := pts_le HGL.out hi.nd (fun z hz => (hi.rc z hz).2)
    have HI := Lib.hid hi
    have HWX := Lib.hid hw
    obtain ⟨G, hG⟩ : ∃ G, G = gk := ⟨gk, rfl⟩
    rw [← hG] at hgk
    have HG := Lib.hid hG
    have HGK := Lib.hid hgk
    clear hG
    by_cases hlt : i < L.length
    · have hd : decide ((i : Int) < (L.length : Int)) = true := by simp; omega
      obtain ⟨g, c2, rfl, hc2, hgl, hcell⟩ := hw.at_ hlt
      have hyo := (hi.rc _ (ptAt_mem hlt)).2
      obtain ⟨l, y0, y1, y2, hpe, _⟩ := hyo.wf HGL.out
      rw [hpe] at hcell hyo
      have HPE := Lib.hid hpe
      have HYO := Lib.hid hyo
      have q0 : wr.cell? ⟨g, i * 4, none⟩ = some (.int .i64 l) := hcell 0 (by omega)
      have q1 : wr.cell? ⟨g, i * 4 + 1, none⟩ = some (.int .i64 y0) := hcell 1 (by omega)
      have q2 : wr.cell? ⟨g, i * 4 + 2, none⟩ = some (.int .i64 y1) := hcell 2 (by omega)
      have q3 : wr.cell? ⟨g, i * 4 + 3, none⟩ = some (.int .i64 y2) := hcell 3 (by omega)
      have e0 := hw.pb.cell (i := 0) rfl
      have e1 := hw.pb.cell (i := 1) rfl
      have e2 := hw.pb.cell (i := 2) rfl
      have e3 := hw.pb.cell (i := 3) rfl
      have e4 := hw.pb.cell (i := 4) rfl
      have ez := hw.pb.lt
      have hgd : ∀ W, Bel wr W → Calls Try.prog 22 #[.agg #[.int .i64 p.evs, .int .i64 p.clks, .int .i64 p.ini, .slice A1 p.good.length k1, .slice A2 p.edges.length k2], .agg #[.int .i64 l, .int .i64 y0, .int .i64 y1, .int .i64 y2]] W fun e w' => e = .returned (.bool (goodM p ⟨l, [y0, y1, y2]⟩)) ∧ Bel W w' :=
        fun W hW => rgood_any p _ _ ⟨l, [y0, y1, y2]⟩ W (HP.out.bel (HWX.out.bel.trans hW)) HYO.out.1 rfl (by have := HGL.out; omega)
      have HGD := Lib.hid hgd
      clear hw hi hcell hyo hpe hgd
      by_cases hgx : goodM p ⟨l, [y0, y1, y2]⟩ = true
      · have HR := Lib.hid (HI.out.good hlt (by rw [HPE.out]; exact hgx))
        rw [hgx] at HGD
        go_upto_region 10 with (fail)
        (refine wp_region_ext (wb := wr) (by (repeat (first | exact Ext.bel _ | exact Bel.refl | refine Bel.alloc ?_ _ | refine Bel.drew ?_ | refine Bel.drewN ?_ _))) (by kernel_rfl) (by kernel_rfl) ?_; (repeat (any_goals (first | go_big_quiet_step ((go_at_call 22; with_reducible exact ext_call (HGD.out _ (Ext.bel _)))) | quiet_step ((go_at_call 22; with_reducible exact ext_call (HGD.out _ (Ext.bel _)))) | (refine wpQuiet_step (fun K hK => ?_); go_simp; split <;> (refine hK _ ?_; clear hK K))))); all_goals (refine wpQuiet_nil ?_; intro _ hw'; obtain ⟨y, hw''⟩ := hw'; subst hw''))
        go_wp2
        go_ret2
        exact ⟨by rw [HR.out]; rfl, HWX.out.bel.trans (Ext.bel _)⟩
      · have hgf : goodM p ⟨l, [y0, y1, y2]⟩ = false := by simpa using hgx
        rw [hgf] at HGD
        go_upto_region 10 with (fail)
        (refine wp_region_ext (wb := wr) (by (repeat (first | exact Ext.bel _ | exact Bel.refl | refine Bel.alloc ?_ _ | refine Bel.drew ?_ | refine Bel.drewN ?_ _))) (by kernel_rfl) (by kernel_rfl) ?_; (repeat (any_goals (first | go_big_quiet_step ((go_at_call 22; with_reducible exact ext_call (HGD.out _ (Ext.bel _)))) | quiet_step ((go_at_call 22; with_reducible exact ext_call (HGD.out _ (Ext.bel _)))) | (refine wpQuiet_step (fun K hK => ?_); go_simp; split <;> (refine hK _ ?_; clear hK K))))); all_goals (refine wpQuiet_nil ?_; intro _ hw'; obtain ⟨y, hw''⟩ := hw'; subst hw''))
        have HW2 := Lib.hid (HWX.out.trans (Ext.bel y))
        by_cases hl0 : l < 0
        · have hd0 : decide (l < 0) = true := by simp; omega
          have HI2 := Lib.hid (HI.out.pit hlt (by rw [HPE.out]; exact hgf) (by rw [HPE.out]; exact hl0))
          go_wp2
          go_roundg (G - 1)
          case measure => rw [← HG.out]; omega
          case rel => exact ⟨_, i + 1, by go_num, by omega, HW2.out, HI2.out⟩
        · have hd0 : decide (l < 0) = false := by simp; omega
          have HM0 := Lib.hid (HI.out.mid hlt (by rw [HPE.out]; exact hgf) (by rw [HPE.out]; show 0 ≤ l; omega))
          clear HGD HI
          go_wp2
          go_loopg [10, 12] 32 (fun g2 v s12 wx => ∃ L, ∃ b : Nat, s12 = .int .i64 b ∧ g2 + b = 32 ∧ RW w wx p (.slice A1 p.good.length k1) (.slice A2 p.edges.length k2) bm v L ∧ RMid p x0 L i b 0 ∧ ptAt L i = ⟨l, [y0, y1, y2]⟩)
          case atStart => exact ⟨_, 0, rfl, by omega, HW2.out, HM0.out, HPE.out⟩
          case round =>
            clear HM0 HW2 HPE HWX HGK hd hd0 hlt hll
            obtain ⟨L, b, rfl, hg2, hw, hm, hpe⟩ := hrel
            have HWa := Lib.hid hw
            have HMa := Lib.hid hm
            have HPE := Lib.hid hpe
            obtain ⟨g2, hG2⟩ : ∃ g2, g2 = gk := ⟨gk, rfl⟩
            rw [← hG2] at hg2
            by_cases hb32 : b < 32
            · have hd2 : decide ((b : Int) ≤ 31) = true := by simp; omega
              clear hw hm hpe
              go_wp2
              go_loopg [10, 13] E (fun g3 v s13 wx => ∃ L, ∃ e : Nat, s13 = .int .i64 e ∧ g3 + e = E ∧ RW w wx p (.slice A1 p.good.length k1) (.slice A2 p.edges.length k2) bm v L ∧ RMid p x0 L i b e ∧ ptAt L i = ⟨l, [y0, y1, y2]⟩)
              case atStart => exact ⟨_, 0, rfl, by omega, HWa.out, HMa.out, HPE.out⟩
              case round =>
                clear HWa HMa HPE
                obtain ⟨L, e, rfl, hg3, hw, hm, hpe⟩ := hrel
                obtain ⟨g3, hG3⟩ : ∃ g3, g3 = gk := ⟨gk, rfl⟩
                rw [← hG3] at hg3
                have HWa := Lib.hid hw
                have HMa := Lib.hid hm
                have HPE := Lib.hid hpe
                have e0 := hw.pb.cell (i := 0) rfl
                have e1 := hw.pb.cell (i := 1) rfl
                have e2 := hw.pb.cell (i := 2) rfl
                have e3 := hw.pb.cell (i := 3) rfl
                have e4 := hw.pb.cell (i := 4) rfl
                have ez := hw.pb.lt
                rw [HE.out] at e0
                by_cases he : e < E
                · have hd3 : decide ((e : Int) < (E : Int)) = true := by simp; omega
                  obtain ⟨g, c3, rfl, hc3, hgl3, hcell⟩ := hw.at_ hm.lt
                  rw [hpe] at hcell
                  have q0 : wr.cell? ⟨g, i * 4, none⟩ = some (.int .i64 l) := hcell 0 (by omega)
                  have q1 : wr.cell? ⟨g, i * 4 + 1, none⟩ = some (.int .i64 y0) := hcell 1 (by omega)
                  have q2 : wr.cell? ⟨g, i * 4 + 2, none⟩ = some (.int .i64 y1) := hcell 2 (by omega)
                  have q3 : wr.cell? ⟨g, i * 4 + 3, none⟩ = some (.int .i64 y2) := hcell 3 (by omega)
                  have hlt := hm.lt
                  have hll := pts_le HGL.out hm.nd (fun z hz => (hm.rc z hz).2)
                  have hez : (e : Int) < p.evs := by rw [HE.out]; omega
                  have hst := fun (W : World) (hW : Bel wr W) => rstep_any p p.clks.toNat _ _ ⟨l, [y0, y1, y2]⟩ b e W HV.out.cn HV.out.n3 (HP.out.bel (hw.bel.trans hW)) HS.out HV.out.ed HYO.out.2 (by omega) (by omega)
                  rw [HE.out] at hst
                  change ∀ W, Bel wr W → Calls _ _ #[_, .agg #[.int .i64 l, .int .i64 y0, .int .i64 y1, .int .i64 y2], _, _] _ _ at hst
                  have hzo := step_pt HV.out HYO.out b e
                  obtain ⟨z, z0, z1, z2, hze, hz1⟩ := hzo.wf HGL.out
                  have HZ := Lib.hid hze
                  have HZW : Hid (PtWf ⟨z, [z0, z1, z2]⟩) := Lib.hid ⟨z, z0, z1, z2, rfl, hz1⟩
                  rw [hze] at hst
                  change ∀ W, Bel wr W → Calls _ _ _ _ (fun en w' => en = .returned (.agg #[.int .i64 z, .int .i64 z0, .int .i64 z1, .int .i64 z2]) ∧ Bel _ w') at hst
                  have HST := Lib.hid hst
                  clear hw hm hcell hst hzo hze hz1 hez hpe
                  go_upto_region 19 with (fail)
                  go_cut [14] from 54 to 77 (fun s14 wx => ∃ bz, s14 = .pointer (some ⟨bz, 0, none⟩) ∧ Bel wr wx ∧ RowAt wx bz 56 [.int .i64 z, .int .i64 z0, .int .i64 z1, .int .i64 z2])
                  case first =>
                    have hE0 := Lib.hid (show Bel wr wr.drew from Bel.refl.drew)
                    refine wp_region_noPanic ?_
                    refine wp_region_held_drew (S := fun V => Bel wr V) (by kernel_rfl) hE0.out (fun hH => ?_)
                    refine wpAnyH_take (i := 0) (v := .agg #[.int .i64 (E : Int), .int .i64 p.clks, .int .i64 p.ini, .slice A1 p.good.length k1, .slice A2 p.edges.length k2]) rfl (by kernel_rfl) (by kernel_rfl) (by kernel_rfl) (fun _ _ _ h => h) (Or.inl ⟨by rfl, ?_⟩) hH ?_
                    · intro V hSV
                      have v0 := (hSV.cells _ _ ez).trans e0
                      have v1 := (hSV.cells _ _ ez).trans e1
                      have v2 := (hSV.cells _ _ ez).trans e2
                      have v3 := (hSV.cells _ _ ez).trans e3
                      have v4 := (hSV.cells _ _ ez).trans e4
                      clear hSV
                      go_simp
                    try simp only [Act.put, List.getElem_toArray, List.getElem_cons_succ, List.getElem_cons_zero, List.setIfInBounds_toArray, List.set_cons_zero, List.set_cons_succ]
                    refine wpAnyH_take (i := 1) (v := .slice (some ⟨g, 0, none⟩) L.length c3) rfl (by kernel_rfl) (by kernel_rfl) (by kernel_rfl) (fun _ _ _ h => h) (Or.inl ⟨by rfl, ?_⟩) hH ?_
                    · intro V hSV
                      clear hSV
                      go_simp
                    try simp only [Act.put, List.getElem_toArray, List.getElem_cons_succ, List.getElem_cons_zero, List.setIfInBounds_toArray, List.set_cons_zero, List.set_cons_succ]
                    refine wpAnyH_take (i := 2) (v := .int .i64 (i : Int)) rfl (by kernel_rfl) (by kernel_rfl) (by kernel_rfl) (fun _ _ _ h => h) (Or.inl ⟨by rfl, ?_⟩) hH ?_
                    · intro V hSV
                      clear hSV
                      go_simp
                    try simp only [Act.put, List.getElem_toArray, List.getElem_cons_succ, List.getElem_cons_zero, List.setIfInBounds_toArray, List.set_cons_zero, List.set_cons_succ]
                    refine wpAnyH_take (i := 3) (v := .pointer (some ⟨g, i * 4, none⟩)) rfl (by kernel_rfl) (by kernel_rfl) (by kernel_rfl) (fun _ _ _ h => h) (Or.inl ⟨by rfl, ?_⟩) hH ?_
                    · intro V hSV
                      clear hSV
                      go_simp
                    try simp only [Act.put, List.getElem_toArray, List.getElem_cons_succ, List.getElem_cons_zero, List.setIfInBounds_toArray, List.set_cons_zero, List.set_cons_succ]
                    refine wpAnyH_take (i := 4) (v := .agg #[.int .i64 l, .int .i64 y0, .int .i64 y1, .int .i64 y2]) rfl (by kernel_rfl) (by kernel_rfl) (by kernel_rfl) (fun _ _ _ h => h) (Or.inl ⟨by rfl, ?_⟩) hH ?_
                    · intro V hSV
                      have v0 := (hSV.cells _ _ hgl3).trans q0
                      have v1 := (hSV.cells _ _ hgl3).trans q1
                      have v2 := (hSV.cells _ _ hgl3).trans q2
                      have v3 := (hSV.cells _ _ hgl3).trans q3
                      clear hSV
                      go_simp
                    try simp only [Act.put, List.getElem_toArray, List.getElem_cons_succ, List.getElem_cons_zero, List.setIfInBounds_toArray, List.set_cons_zero, List.set_cons_succ]
                    refine wpAnyH_take (i := 5) (v := .int .i64 (b : Int)) rfl (by kernel_rfl) (by kernel_rfl) (by kernel_rfl) (fun _ _ _ h => h) (Or.inl ⟨by rfl, ?_⟩) hH ?_
                    · intro V hSV
                      clear hSV
                      go_simp
                    try simp only [Act.put, List.getElem_toArray, List.getElem_cons_succ, List.getElem_cons_zero, List.setIfInBounds_toArray, List.set_cons_zero, List.set_cons_succ]
                    refine wpAnyH_take (i := 6) (v := .int .i64 (e : Int)) rfl (by kernel_rfl) (by kernel_rfl) (by kernel_rfl) (fun _ _ _ h => h) (Or.inl ⟨by rfl, ?_⟩) hH ?_
                    · intro V hSV
                      clear hSV
                      go_simp
                    try simp only [Act.put, List.getElem_toArray, List.getElem_cons_succ, List.getElem_cons_zero, List.setIfInBounds_toArray, List.set_cons_zero, List.set_cons_succ]
                    clear e0 e1 e2 e3 e4 q0 q1 q2 q3 hH
                    generalize wr.drew = V0 at *
                    refine wpAnyH_ready (rs := [7, 8]) (by kernel_rfl) (by simp) ?_
                    refine (AllReadyH.cons rfl (fun K hK => ?_) (AllReadyH.cons rfl (fun K hK => ?_) AllReadyH.nil))
                    · skip
                      go_simp
                      go_at_call 32
                      with_reducible refine (HST.out _ hE0.out).mono ?_
                      rintro en w2 ⟨rfl, hb1⟩
                      have hb2 : Bel wr w2 := hE0.out.trans hb1
                      have HB2 := Lib.hid hb2
                      clear hb1 hb2
                      try dsimp only
                      refine hK.out _ _ HB2.out (fun hH => ?_)
                      clear hK K hH
                      try simp only [Act.put, List.getElem_toArray, List.getElem_cons_succ, List.getElem_cons_zero, List.setIfInBounds_toArray, List.set_cons_zero, List.set_cons_succ]
                      refine wpAnyH_ready (rs := [8]) (by kernel_rfl) (by simp) ?_
                      refine (AllReadyH.cons rfl (fun K hK => ?_) AllReadyH.nil)
                      go_simp
                      refine hK.out _ _ (HB2.out.alloc _) (fun hH => ?_)
                      clear hK K hH
                      try simp only [Act.put, List.getElem_toArray, List.getElem_cons_succ, List.getElem_cons_zero, List.setIfInBounds_toArray, List.set_cons_zero, List.set_cons_succ]
                      refine wpAnyH_ready (rs := [9]) (by kernel_rfl) (by simp) ?_
                      refine (AllReadyH.cons rfl (fun K hK => ?_) AllReadyH.nil)
                      go_simp
                      refine hK.out _ _ (HB2.out.alloc _) (fun hH => ?_)
                      clear hK K hH
                      try simp only [Act.put, List.getElem_toArray, List.getElem_cons_succ, List.getElem_cons_zero, List.setIfInBounds_toArray, List.set_cons_zero, List.set_cons_succ]
                      refine wpAnyH_done (by kernel_rfl) ?_ _
                      refine NoPanic.normal ?_
                      go_wp2
                      go_meet
                      exact ⟨w2.heap.size, rfl, HB2.out.alloc _, RowAt.new w2 56 [.int .i64 z, .int .i64 z0, .int .i64 z1, .int .i64 z2]⟩
                    · skip
                      go_simp
                      have hq0 := RowAt.new V0 56 zero4
                      refine hK.out _ _ (hE0.out.alloc _) (fun hH => ?_)
                      clear hK K hH
                      try simp only [Act.put, List.getElem_toArray, List.getElem_cons_succ, List.getElem_cons_zero, List.setIfInBounds_toArray, List.set_cons_zero, List.set_cons_succ]
                      generalize hV1 : World.alloc V0 _ = V1
                      have HB1 : Hid (Bel wr V1) := Lib.hid (by rw [← hV1]; exact hE0.out.alloc _)
                      have HQ1 : Hid (RowAt V1 V0.heap.size 56 zero4) := Lib.hid (by rw [← hV1]; exact hq0)
                      clear hV1 hq0
                      refine wpAnyH_ready (rs := [7]) (by kernel_rfl) (by simp) ?_
                      refine (AllReadyH.cons rfl (fun K hK => ?_) AllReadyH.nil)
                      go_simp
                      go_at_call 32
                      with_reducible refine (HST.out _ HB1.out).mono ?_
                      rintro en w2 ⟨rfl, hb1⟩
                      have HB2 := Lib.hid (HB1.out.trans hb1)
                      have HQ2 := Lib.hid (HQ1.out.bel hb1)
                      have hb0 : V0.heap.size < w2.heap.size := HQ2.out.lt
                      clear hb1 HB1 HQ1
                      try dsimp only
                      refine hK.out _ _ HB2.out (fun hH => ?_)
                      clear hK K hH
                      try simp only [Act.put, List.getElem_toArray, List.getElem_cons_succ, List.getElem_cons_zero, List.setIfInBounds_toArray, List.set_cons_zero, List.set_cons_succ]
                      have u0' := HQ2.out.cell (i := 0) rfl
                      have u1' := HQ2.out.cell (i := 1) rfl
                      have u2' := HQ2.out.cell (i := 2) rfl
                      have u3' := HQ2.out.cell (i := 3) rfl
                      have f0' := HQ2.out.frozen 0
                      have f1' := HQ2.out.frozen 1
                      have f2' := HQ2.out.frozen 2
                      have f3' := HQ2.out.frozen 3
                      refine wpAnyH_ready (rs := [9]) (by kernel_rfl) (by simp) ?_
                      refine (AllReadyH.cons rfl (fun K hK => ?_) AllReadyH.nil)
                      go_simp
                      refine hK.out _ _ ((((HB2.out.set (p := ⟨V0.heap.size, 0, none⟩) hE0.out.le _).set (p := ⟨V0.heap.size, 1, none⟩) hE0.out.le _).set (p := ⟨V0.heap.size, 2, none⟩) hE0.out.le _).set (p := ⟨V0.heap.size, 3, none⟩) hE0.out.le _) (fun hH => ?_)
                      clear hK K hH
                      try simp only [Act.put, List.getElem_toArray, List.getElem_cons_succ, List.getElem_cons_zero, List.setIfInBounds_toArray, List.set_cons_zero, List.set_cons_succ]
                      refine wpAnyH_done (by kernel_rfl) ?_ _
                      refine NoPanic.normal ?_
                      clear u0' u1' u2' u3' f0' f1' f2' f3'
                      go_wp2
                      go_meet
                      exact ⟨V0.heap.size, rfl, ((((HB2.out.set (p := ⟨V0.heap.size, 0, none⟩) hE0.out.le _).set (p := ⟨V0.heap.size, 1, none⟩) hE0.out.le _).set (p := ⟨V0.heap.size, 2, none⟩) hE0.out.le _).set (p := ⟨V0.heap.size, 3, none⟩) hE0.out.le _), row_congr ((((HQ2.out.set 0 _).set 1 _).set 2 _).set 3 _) rfl⟩
                  case rest =>
                    obtain ⟨bz, rfl, hb5, hr5⟩ := hcut
                    have HW5 := Lib.hid (HWa.out.trans hb5)
                    have HR5 := Lib.hid hr5
                    have p0 := hr5.cell (i := 0) rfl
                    have p1 := hr5.cell (i := 1) rfl
                    have p2 := hr5.cell (i := 2) rfl
                    have p3 := hr5.cell (i := 3) rfl
                    have pz := hr5.lt
                    obtain ⟨cb, hlk, hcb⟩ := HW5.out.look (zero_bool _) HZW.out
                    replace hlk : (Instr.lookup 72 (.map (some bm)) (.agg #[.int .i64 z, .int .i64 z0, .int .i64 z1, .int .i64 z2]) false).run Try.prog wc = .ok (.bool cb) wc := hlk
                    have HCB := Lib.hid hcb
                    clear hcb hr5 hb5 e0 e1 e2 e3 e4 ez q0 q1 q2 q3 hgl3 HWa HST
                    cases cb
                    · have hnf : (⟨z, [z0, z1, z2]⟩ : Pt) ∉ L := fun h => by have := HCB.out.mpr h; simp at this
                      have hez : (e : Int) < p.evs := by rw [HE.out]; omega
                      have hpush := HMa.out.push HV.out hb32 hez (by rw [HPE.out, HZ.out]; exact hnf)
                      rw [HPE.out, HZ.out] at hpush
                      have HPU := Lib.hid hpush
                      have HPE2 : Hid (ptAt (L ++ [⟨z, [z0, z1, z2]⟩]) i = ⟨l, [y0, y1, y2]⟩) := Lib.hid (by rw [ptAt_snoc hlt]; exact HPE.out)
                      obtain ⟨w6, hput, hb6, hp6, hs6, hl6, hg6⟩ := HW5.out.put (by omega) HZW.out
                      replace hput : (Instr.mapUpdate 72 (.map (some bm)) (.agg #[.int .i64 z, .int .i64 z0, .int .i64 z1, .int .i64 z2]) (.bool true)).run Try.prog wc = .ok () w6 := hput
                      have hr6 := HR5.out.grown hg6 (fun h => row_ne_set HR5.out HW5.out.st (Option.some.inj h))
                      have t0 := hr6.cell (i := 0) rfl
                      have t1 := hr6.cell (i := 1) rfl
                      have t2 := hr6.cell (i := 2) rfl
                      have t3 := hr6.cell (i := 3) rfl
                      have tz := hr6.lt
                      have HB6 := Lib.hid hb6
                      have HP6 := Lib.hid hp6
                      have HS6 := Lib.hid hs6
                      have HL6 := Lib.hid hl6
                      have hle := hb6.le
                      clear hg6 hnf hpush hez HS hb6 hp6 hs6 hl6 hr6
                      obtain ⟨j0, hj0, hy0, hy1, hy2⟩ := info_parts' Try.infoPtr
                      go_wp2_with (at_builtin; go_must (refine wpList_append_own _ rfl _ _ 73 rfl w.heap.size 56 j0 _ 4 32 Try.underlying73 hj0 hy0 hy1 hy2 rfl (by decide) _ _ _ rfl (HL6.out.alloc _) ⟨w6.heap.size, 0, none⟩ 1 1 [.int .i64 z, .int .i64 z0, .int .i64 z1, .int .i64 z2] rfl rfl ?d1 ?d2 ?d3 ?d4 ?d5 ?_))
                      case d1 => exact cells_new _ [.int .i64 z, .int .i64 z0, .int .i64 z1, .int .i64 z2] _
                      case d2 => intro u hu; simp at hu; rcases hu with h | h | h | h <;> subst h <;> rfl
                      case d3 => unfold maxLen; omega
                      case d4 => omega
                      case d5 => first | omega | (simp; omega)
                      intro v' w7 hown3 hg7 _
                      have HW7 := Lib.hid (RW.push (y := ⟨z, [z0, z1, z2]⟩) (HB6.out.alloc _) (HP6.out.alloc _) (HS6.out.alloc _) (HL6.out.alloc _) HW5.out.bm hown3 hg7)
                      clear hown3 hg7
                      go_wp2
                      go_roundg (g3 - 1)
                      case measure => omega
                      case rel => exact ⟨_, e + 1, by go_num, by omega, HW7.out, HPU.out, HPE2.out⟩
                    · have HS2 := Lib.hid (HMa.out.skip (by rw [HPE.out, HZ.out]; exact HCB.out.mp rfl))
                      go_wp2
                      go_roundg (g3 - 1)
                      case measure => omega
                      case rel => exact ⟨_, e + 1, by go_num, by omega, HW5.out, HS2.out, HPE.out⟩
                · have hd3 : decide ((e : Int) < (E : Int)) = false := by simp; omega
                  have HRW := Lib.hid (hm.row (by rw [HE.out]; omega))
                  clear hw hm hpe
                  go_wp2
                  go_roundg (g2 - 1)
                  case measure => omega
                  case rel => exact ⟨_, b + 1, by go_num, by omega, HWa.out, HRW.out, HPE.out⟩
            · have hd2 : decide ((b : Int) ≤ 31) = false := by simp; omega
              obtain rfl : b = 32 := by omega
              have HIN := Lib.hid hm.done
              have hlt := hm.lt
              have hll := pts_le HGL.out hm.nd (fun z hz => (hm.rc z hz).2)
              clear hw hm hpe
              go_wp2
              go_roundg (G - 1)
              case measure => rw [← HG.out]; omega
              case rel => exact ⟨_, i + 1, by go_num, by omega, HWa.out, HIN.out⟩
    · have hd : decide ((i : Int) < (L.length : Int)) = false := by simp; omega
      obtain rfl : i = L.length := by have := hi.il; omega
      obtain ⟨A, c2, rfl, hc2⟩ := ownsRow_form hw.ls
      have HR := Lib.hid hi.empty
      have HB := Lib.hid hw.bel
      clear hw hi HI HWX
      go_wp2
      go_ret2
      exact ⟨by rw [HR.out]; rfl, HB.out⟩
end Go.Proofs.Ytcnjojhbcijdmaa
