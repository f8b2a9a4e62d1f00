import Derived.Test.YtcnjojhbcijdmaaPhw
import Derived.Test.YtcnjojhbcijdmaaQtail
import Derived.Deep.RegionHeld3
import Derived.Deep.CutRange
import Derived.Deep.LoopGhost
import Derived.Maps.AppendAt
import Derived.Outline
namespace Go.Proofs.Ytcnjojhbcijdmaa
open Go.RowKit
theorem nil_or_snoc {α : Type} (L : List α) : L = [] ∨ ∃ M y, L = M ++ [y] := by
  by_cases h : L = []
  · exact .inl h
  · exact .inr ⟨L.dropLast, L.getLast h, (List.dropLast_concat_getLast h).symm⟩
theorem Try.infoPt : (Try.prog.info? 52).map (fun i => (i.zero, i.size, i.bytes)) = some (some (.agg #[.int .i64 0, .int .i64 0, .int .i64 0, .int .i64 0]), 4, 32) := by kernel_rfl
theorem Try.infoBool : (Try.prog.info? 4).map (fun i => (i.zero, i.size, i.bytes)) = some (some (.bool false), 1, 1) := by kernel_rfl
theorem zero_bool (W : World) : (zeroValue 4).run Try.prog W = .ok (.bool false) W := by
  obtain ⟨j, hj, h0, _, _⟩ := info_parts' Try.infoBool
  simp [zeroValue, typeInfo, hj, h0]
set_option maxRecDepth 100000 in
set_option maxHeartbeats 4000000 in
theorem phope_ok (p : PP) (A1 A2 A : Option Addr) (k1 k2 n c : Nat) (idx loc u0 u1 u2 : Int) (w : World) (hpw : PtWf ⟨loc, [u0, u1, u2]⟩)
    (HP : Hid (PropAt w w.heap.size (.slice A1 p.good.length k1) (.slice A2 p.edges.length k2) p)) (HS : Hid (PSized p)) (HV : Hid (PValid p p.clks.toNat)) (HGL : Hid (p.good.length ≤ 12)) (HEV : Hid (0 ≤ p.evs ∧ p.evs ≤ 8)) (x0 : Pt) (HX0 : Hid (x0 = ⟨loc, [u0, u1, u2]⟩)) (HPX : Hid (PtOk p x0))
    (HRN : Hid (∀ W, Bel w W → Calls Try.prog 19 #[.agg #[.int .i64 p.evs, .int .i64 p.clks, .int .i64 p.ini, .slice A1 p.good.length k1, .slice A2 p.edges.length k2], .slice A n c] W fun e w' => ∃ br a, e = .returned (.tuple #[.pointer (some ⟨br, 0, none⟩), .int .i64 idx, .int .i64 0]) ∧ Bel W w' ∧ W.heap.size ≤ br ∧ RowAt w' br 54 (runnerL p (.slice A1 p.good.length k1) (.slice A2 p.edges.length k2) ⟨loc, [u0, u1, u2]⟩ a))) :
    Calls Try.prog 16 #[.agg #[.int .i64 p.evs, .int .i64 p.clks, .int .i64 p.ini, .slice A1 p.good.length k1, .slice A2 p.edges.length k2], .slice A n c] w fun e w' => e = .returned (.tuple #[.bool (hopeB p x0), .int .i64 0]) ∧ Bel w w' := by
  go_enter Try.func16, Try.ntmps16
  go_upto_region 1 with (fail)
  have BX := (RowAt.new w 25 [.int .i64 p.evs, .int .i64 p.clks, .int .i64 p.ini, .slice A1 p.good.length k1, .slice A2 p.edges.length k2])
  generalize hWb : World.alloc w _ = wb at *
  have HBW : Hid (Bel w wb) := Lib.hid (by rw [← hWb]; exact Bel.refl.alloc _)
  have BXW := Lib.hid BX
  have bx0 := BX.cell (i := 0) rfl
  have bx1 := BX.cell (i := 1) rfl
  have bx2 := BX.cell (i := 2) rfl
  have bx3 := BX.cell (i := 3) rfl
  have bx4 := BX.cell (i := 4) rfl
  have bxz := BX.lt
  clear hWb BX
  go_upto_region 4 with (first | (go_at_call 19; (with_reducible refine (HRN.out _ HBW.out).mono ?_); rintro en wr0 ⟨br, a, rfl, hb1, hb2, hr1⟩; have HR1 := Lib.hid hr1; have HB1 := Lib.hid hb1; clear hb1 hr1))
  have HRD : Hid (RowAt wr0.drew br 54 (runnerL p (.slice A1 p.good.length k1) (.slice A2 p.edges.length k2) ⟨loc, [u0, u1, u2]⟩ a)) := Lib.hid HR1.out.drew
  have HBD := Lib.hid (HBW.out.trans (HB1.out.drew))
  have BXD := Lib.hid ((BXW.out.bel HB1.out).drew)
  go_cut [9, 10] from 25 to 35 (fun s9 s10 wx => ∃ bm g, s9 = .map (some bm) ∧ s10 = .slice (some ⟨g, 0, none⟩) 1 1 ∧ w.heap.size ≤ bm ∧ w.heap.size ≤ g ∧ g ≠ br ∧ g ≠ w.heap.size ∧ g ≠ bm ∧ bm ≠ br ∧ bm ≠ w.heap.size ∧ Bel w wx ∧ RowAt wx w.heap.size 25 [.int .i64 p.evs, .int .i64 p.clks, .int .i64 p.ini, .slice A1 p.good.length k1, .slice A2 p.edges.length k2] ∧ RowAt wx br 54 (runnerL p (.slice A1 p.good.length k1) (.slice A2 p.edges.length k2) ⟨loc, [u0, u1, u2]⟩ a) ∧ PSet wx 52 4 bm 1 [⟨loc, [u0, u1, u2]⟩] ∧ RowAt wx g 52 [.int .i64 loc, .int .i64 u0, .int .i64 u1, .int .i64 u2])
  case first =>
    refine wp_region_noPanic ?_
    refine wp_region_held_drew (S := fun V => RowAt V br 54 (runnerL p (.slice A1 p.good.length k1) (.slice A2 p.edges.length k2) ⟨loc, [u0, u1, u2]⟩ a)) (by kernel_rfl) HRD.out (fun hH => ?_)
    clear HR1
    refine wpAnyH_take (i := 1) (v := .pointer (some ⟨br, 0, none⟩)) rfl (by kernel_rfl) (by kernel_rfl) (by kernel_rfl) (fun _ _ _ h => h) (Or.inl ⟨by rfl, ?_⟩) hH ?_
    · intro V hSV
      have v5 : V.cell? ⟨br, 5, none⟩ = some (.int .i64 loc) := hSV.cell (i := 5) rfl
      have v6 : V.cell? ⟨br, 6, none⟩ = some (.int .i64 u0) := hSV.cell (i := 6) rfl
      have v7 : V.cell? ⟨br, 7, none⟩ = some (.int .i64 u1) := hSV.cell (i := 7) rfl
      have v8 : V.cell? ⟨br, 8, none⟩ = some (.int .i64 u2) := hSV.cell (i := 8) rfl
      clear hSV
      go_simp
    try simp only [Act.put, List.getElem_toArray, List.getElem_cons_succ, List.getElem_cons_zero, List.setIfInBounds_toArray, List.set_cons_zero, List.set_cons_succ]
    refine wpAnyH_take (i := 2) (v := .pointer (some ⟨br, 0, none⟩)) rfl (by kernel_rfl) (by kernel_rfl) (by kernel_rfl) (fun _ _ _ h => h) (Or.inl ⟨by rfl, ?_⟩) hH ?_
    · intro V hSV
      have v5 : V.cell? ⟨br, 5, none⟩ = some (.int .i64 loc) := hSV.cell (i := 5) rfl
      have v6 : V.cell? ⟨br, 6, none⟩ = some (.int .i64 u0) := hSV.cell (i := 6) rfl
      have v7 : V.cell? ⟨br, 7, none⟩ = some (.int .i64 u1) := hSV.cell (i := 7) rfl
      have v8 : V.cell? ⟨br, 8, none⟩ = some (.int .i64 u2) := hSV.cell (i := 8) rfl
      clear hSV
      go_simp
    try simp only [Act.put, List.getElem_toArray, List.getElem_cons_succ, List.getElem_cons_zero, List.setIfInBounds_toArray, List.set_cons_zero, List.set_cons_succ]
    refine wpAnyH_take (i := 3) (v := .pointer (some ⟨br, 5, none⟩)) rfl (by kernel_rfl) (by kernel_rfl) (by kernel_rfl) (fun _ _ _ h => h) (Or.inl ⟨by rfl, ?_⟩) hH ?_
    · intro V hSV
      have v5 : V.cell? ⟨br, 5, none⟩ = some (.int .i64 loc) := hSV.cell (i := 5) rfl
      have v6 : V.cell? ⟨br, 6, none⟩ = some (.int .i64 u0) := hSV.cell (i := 6) rfl
      have v7 : V.cell? ⟨br, 7, none⟩ = some (.int .i64 u1) := hSV.cell (i := 7) rfl
      have v8 : V.cell? ⟨br, 8, none⟩ = some (.int .i64 u2) := hSV.cell (i := 8) rfl
      clear hSV
      go_simp
    try simp only [Act.put, List.getElem_toArray, List.getElem_cons_succ, List.getElem_cons_zero, List.setIfInBounds_toArray, List.set_cons_zero, List.set_cons_succ]
    refine wpAnyH_take (i := 4) (v := .agg #[.int .i64 loc, .int .i64 u0, .int .i64 u1, .int .i64 u2]) rfl (by kernel_rfl) (by kernel_rfl) (by kernel_rfl) (fun _ _ _ h => h) (Or.inl ⟨by rfl, ?_⟩) hH ?_
    · intro V hSV
      have v5 : V.cell? ⟨br, 5, none⟩ = some (.int .i64 loc) := hSV.cell (i := 5) rfl
      have v6 : V.cell? ⟨br, 6, none⟩ = some (.int .i64 u0) := hSV.cell (i := 6) rfl
      have v7 : V.cell? ⟨br, 7, none⟩ = some (.int .i64 u1) := hSV.cell (i := 7) rfl
      have v8 : V.cell? ⟨br, 8, none⟩ = some (.int .i64 u2) := hSV.cell (i := 8) rfl
      clear hSV
      go_simp
    try simp only [Act.put, List.getElem_toArray, List.getElem_cons_succ, List.getElem_cons_zero, List.setIfInBounds_toArray, List.set_cons_zero, List.set_cons_succ]
    refine wpAnyH_take (i := 7) (v := .pointer (some ⟨br, 0, none⟩)) rfl (by kernel_rfl) (by kernel_rfl) (by kernel_rfl) (fun _ _ _ h => h) (Or.inl ⟨by rfl, ?_⟩) hH ?_
    · intro V hSV
      have v5 : V.cell? ⟨br, 5, none⟩ = some (.int .i64 loc) := hSV.cell (i := 5) rfl
      have v6 : V.cell? ⟨br, 6, none⟩ = some (.int .i64 u0) := hSV.cell (i := 6) rfl
      have v7 : V.cell? ⟨br, 7, none⟩ = some (.int .i64 u1) := hSV.cell (i := 7) rfl
      have v8 : V.cell? ⟨br, 8, none⟩ = some (.int .i64 u2) := hSV.cell (i := 8) rfl
      clear hSV
      go_simp
    try simp only [Act.put, List.getElem_toArray, List.getElem_cons_succ, List.getElem_cons_zero, List.setIfInBounds_toArray, List.set_cons_zero, List.set_cons_succ]
    refine wpAnyH_take (i := 8) (v := .pointer (some ⟨br, 0, none⟩)) rfl (by kernel_rfl) (by kernel_rfl) (by kernel_rfl) (fun _ _ _ h => h) (Or.inl ⟨by rfl, ?_⟩) hH ?_
    · intro V hSV
      have v5 : V.cell? ⟨br, 5, none⟩ = some (.int .i64 loc) := hSV.cell (i := 5) rfl
      have v6 : V.cell? ⟨br, 6, none⟩ = some (.int .i64 u0) := hSV.cell (i := 6) rfl
      have v7 : V.cell? ⟨br, 7, none⟩ = some (.int .i64 u1) := hSV.cell (i := 7) rfl
      have v8 : V.cell? ⟨br, 8, none⟩ = some (.int .i64 u2) := hSV.cell (i := 8) rfl
      clear hSV
      go_simp
    try simp only [Act.put, List.getElem_toArray, List.getElem_cons_succ, List.getElem_cons_zero, List.setIfInBounds_toArray, List.set_cons_zero, List.set_cons_succ]
    refine wpAnyH_take (i := 9) (v := .pointer (some ⟨br, 5, none⟩)) rfl (by kernel_rfl) (by kernel_rfl) (by kernel_rfl) (fun _ _ _ h => h) (Or.inl ⟨by rfl, ?_⟩) hH ?_
    · intro V hSV
      have v5 : V.cell? ⟨br, 5, none⟩ = some (.int .i64 loc) := hSV.cell (i := 5) rfl
      have v6 : V.cell? ⟨br, 6, none⟩ = some (.int .i64 u0) := hSV.cell (i := 6) rfl
      have v7 : V.cell? ⟨br, 7, none⟩ = some (.int .i64 u1) := hSV.cell (i := 7) rfl
      have v8 : V.cell? ⟨br, 8, none⟩ = some (.int .i64 u2) := hSV.cell (i := 8) rfl
      clear hSV
      go_simp
    try simp only [Act.put, List.getElem_toArray, List.getElem_cons_succ, List.getElem_cons_zero, List.setIfInBounds_toArray, List.set_cons_zero, List.set_cons_succ]
    refine wpAnyH_take (i := 10) (v := .agg #[.int .i64 loc, .int .i64 u0, .int .i64 u1, .int .i64 u2]) rfl (by kernel_rfl) (by kernel_rfl) (by kernel_rfl) (fun _ _ _ h => h) (Or.inl ⟨by rfl, ?_⟩) hH ?_
    · intro V hSV
      have v5 : V.cell? ⟨br, 5, none⟩ = some (.int .i64 loc) := hSV.cell (i := 5) rfl
      have v6 : V.cell? ⟨br, 6, none⟩ = some (.int .i64 u0) := hSV.cell (i := 6) rfl
      have v7 : V.cell? ⟨br, 7, none⟩ = some (.int .i64 u1) := hSV.cell (i := 7) rfl
      have v8 : V.cell? ⟨br, 8, none⟩ = some (.int .i64 u2) := hSV.cell (i := 8) rfl
      clear hSV
      go_simp
    try simp only [Act.put, List.getElem_toArray, List.getElem_cons_succ, List.getElem_cons_zero, List.setIfInBounds_toArray, List.set_cons_zero, List.set_cons_succ]
    have HB0 := HBD
    have HR0 := HRD
    have HX0 := BXD
    generalize wr0.drew = V0 at *
    refine wpAnyH_ready (rs := [0, 11]) (by kernel_rfl) (by simp) ?_
    refine (AllReadyH.cons rfl (fun K hK => ?_) (AllReadyH.cons rfl (fun K hK => ?_) AllReadyH.nil))
    · skip
      go_simp
      refine hK.out _ _ (HR0.out.alloc _) (fun hH => ?_)
      clear hK K hH
      try simp only [Act.put, List.getElem_toArray, List.getElem_cons_succ, List.getElem_cons_zero, List.setIfInBounds_toArray, List.set_cons_zero, List.set_cons_succ]
      change wpAnyH _ _ _ _ _ _ _ _ (World.alloc V0 (.map #[] 0))
      generalize hW1 : World.alloc V0 (.map #[] 0) = V1
      have HM1 : Hid (PSet V1 52 4 V0.heap.size 0 []) := Lib.hid (by rw [← hW1]; exact PSet.made V0 52 4)
      have HB1 : Hid (Bel w V1) := Lib.hid (by rw [← hW1]; exact HB0.out.alloc _)
      have HR1 : Hid (RowAt V1 br 54 _) := Lib.hid (by rw [← hW1]; exact HR0.out.alloc _)
      have HX1 : Hid (RowAt V1 w.heap.size 25 _) := Lib.hid (by rw [← hW1]; exact HX0.out.alloc _)
      have hbm : w.heap.size ≤ V0.heap.size := HB0.out.le
      have hmr : V0.heap.size ≠ br := Nat.ne_of_gt HR0.out.lt
      have hmx : V0.heap.size ≠ w.heap.size := Nat.ne_of_gt HX0.out.lt
      
      clear hW1
      generalize V0.heap.size = bm at *
      clear HB0 HR0 HX0 
      refine wpAnyH_ready (rs := [5, 11]) (by kernel_rfl) (by simp) ?_
      refine (AllReadyH.cons rfl (fun K hK => ?_) (AllReadyH.cons rfl (fun K hK => ?_) AllReadyH.nil))
      · skip
        obtain ⟨V2, hput, HM, hg⟩ := HM1.out.put pkey_p (t := 69) (by kernel_rfl) (by kernel_rfl) (by unfold maxLen; omega) (y := ⟨loc, [u0, u1, u2]⟩) hpw
        replace hput : (Instr.mapUpdate 69 (.map (some bm)) (.agg #[.int .i64 loc, .int .i64 u0, .int .i64 u1, .int .i64 u2]) (.bool true)).run Try.prog V1 = .ok () V2 := hput
        have HM2 := Lib.hid HM
        have HB2 := Lib.hid (Bel.grown HB1.out hg hbm)
        have HR2 := Lib.hid (HR1.out.grown hg (fun h => hmr (Option.some.inj h).symm))
        have HX2 := Lib.hid (HX1.out.grown hg (fun h => hmx (Option.some.inj h).symm))
        
        clear HM hg HB1 HR1 HX1 HM1 
        go_simp
        refine hK.out _ _ HR2.out (fun hH => ?_)
        clear hK K hput hH
        try simp only [Act.put, List.getElem_toArray, List.getElem_cons_succ, List.getElem_cons_zero, List.setIfInBounds_toArray, List.set_cons_zero, List.set_cons_succ]
        refine wpAnyH_ready (rs := [6, 11]) (by kernel_rfl) (by simp) ?_
        refine (AllReadyH.cons rfl (fun K hK => ?_) (AllReadyH.cons rfl (fun K hK => ?_) AllReadyH.nil))
        · skip
          go_simp
          refine hK.out _ _ HR2.out (fun hH => ?_)
          clear hK K hH
          try simp only [Act.put, List.getElem_toArray, List.getElem_cons_succ, List.getElem_cons_zero, List.setIfInBounds_toArray, List.set_cons_zero, List.set_cons_succ]
          refine wpAnyH_ready (rs := [11, 12]) (by kernel_rfl) (by simp) ?_
          refine (AllReadyH.cons rfl (fun K hK => ?_) (AllReadyH.cons rfl (fun K hK => ?_) AllReadyH.nil))
          · skip
            go_simp
            refine hK.out _ _ (HR2.out.alloc _) (fun hH => ?_)
            clear hK K hH
            try simp only [Act.put, List.getElem_toArray, List.getElem_cons_succ, List.getElem_cons_zero, List.setIfInBounds_toArray, List.set_cons_zero, List.set_cons_succ]
            generalize hW3 : World.alloc V2 _ = V3
            have HG3 : Hid (RowAt V3 V2.heap.size 52 [.int .i64 loc, .int .i64 u0, .int .i64 u1, .int .i64 u2]) := Lib.hid (by rw [← hW3]; exact RowAt.new V2 52 [.int .i64 loc, .int .i64 u0, .int .i64 u1, .int .i64 u2])
            have HB3 : Hid (Bel w V3) := Lib.hid (by rw [← hW3]; exact HB2.out.alloc _)
            have HR3 : Hid (RowAt V3 br 54 _) := Lib.hid (by rw [← hW3]; exact HR2.out.alloc _)
            have HX3 : Hid (RowAt V3 w.heap.size 25 _) := Lib.hid (by rw [← hW3]; exact HX2.out.alloc _)
            have hgm : w.heap.size ≤ V2.heap.size := HB2.out.le
            have hgr : V2.heap.size ≠ br := Nat.ne_of_gt HR2.out.lt
            have hgx : V2.heap.size ≠ w.heap.size := Nat.ne_of_gt HX2.out.lt
            have HM3 : Hid (PSet V3 52 4 bm _ _) := Lib.hid (by rw [← hW3]; exact HM2.out.alloc _)
            have hgb : V2.heap.size ≠ bm := Nat.ne_of_gt HM2.out.lt
            
            clear hW3
            generalize V2.heap.size = g at *
            clear HB2 HR2 HX2 HM2
            refine wpAnyH_ready (rs := [12]) (by kernel_rfl) (by simp) ?_
            refine (AllReadyH.cons rfl (fun K hK => ?_) AllReadyH.nil)
            go_simp
            refine hK.out _ _ HR3.out (fun hH => ?_)
            clear hK K hH
            try simp only [Act.put, List.getElem_toArray, List.getElem_cons_succ, List.getElem_cons_zero, List.setIfInBounds_toArray, List.set_cons_zero, List.set_cons_succ]
            refine wpAnyH_ready (rs := [13]) (by kernel_rfl) (by simp) ?_
            refine (AllReadyH.cons rfl (fun K hK => ?_) AllReadyH.nil)
            go_simp
            refine hK.out _ _ HR3.out (fun hH => ?_)
            clear hK K hH
            try simp only [Act.put, List.getElem_toArray, List.getElem_cons_succ, List.getElem_cons_zero, List.setIfInBounds_toArray, List.set_cons_zero, List.set_cons_succ]
            refine wpAnyH_done (by kernel_rfl) ?_ _
            refine NoPanic.normal ?_
            go_wp2
            go_meet
            exact ⟨bm, g, rfl, rfl, hbm, hgm, hgr, hgx, hgb, hmr, hmx, HB3.out, HX3.out, HR3.out, HM3.out, HG3.out⟩
          · skip
            go_simp
            refine hK.out _ _ HR2.out (fun hH => ?_)
            clear hK K hH
            try simp only [Act.put, List.getElem_toArray, List.getElem_cons_succ, List.getElem_cons_zero, List.setIfInBounds_toArray, List.set_cons_zero, List.set_cons_succ]
            refine wpAnyH_ready (rs := [11]) (by kernel_rfl) (by simp) ?_
            refine (AllReadyH.cons rfl (fun K hK => ?_) AllReadyH.nil)
            go_simp
            refine hK.out _ _ (HR2.out.alloc _) (fun hH => ?_)
            clear hK K hH
            try simp only [Act.put, List.getElem_toArray, List.getElem_cons_succ, List.getElem_cons_zero, List.setIfInBounds_toArray, List.set_cons_zero, List.set_cons_succ]
            generalize hW3 : World.alloc V2 _ = V3
            have HG3 : Hid (RowAt V3 V2.heap.size 52 [.int .i64 loc, .int .i64 u0, .int .i64 u1, .int .i64 u2]) := Lib.hid (by rw [← hW3]; exact RowAt.new V2 52 [.int .i64 loc, .int .i64 u0, .int .i64 u1, .int .i64 u2])
            have HB3 : Hid (Bel w V3) := Lib.hid (by rw [← hW3]; exact HB2.out.alloc _)
            have HR3 : Hid (RowAt V3 br 54 _) := Lib.hid (by rw [← hW3]; exact HR2.out.alloc _)
            have HX3 : Hid (RowAt V3 w.heap.size 25 _) := Lib.hid (by rw [← hW3]; exact HX2.out.alloc _)
            have hgm : w.heap.size ≤ V2.heap.size := HB2.out.le
            have hgr : V2.heap.size ≠ br := Nat.ne_of_gt HR2.out.lt
            have hgx : V2.heap.size ≠ w.heap.size := Nat.ne_of_gt HX2.out.lt
            have HM3 : Hid (PSet V3 52 4 bm _ _) := Lib.hid (by rw [← hW3]; exact HM2.out.alloc _)
            have hgb : V2.heap.size ≠ bm := Nat.ne_of_gt HM2.out.lt
            
            clear hW3
            generalize V2.heap.size = g at *
            clear HB2 HR2 HX2 HM2
            refine wpAnyH_ready (rs := [13]) (by kernel_rfl) (by simp) ?_
            refine (AllReadyH.cons rfl (fun K hK => ?_) AllReadyH.nil)
            go_simp
            refine hK.out _ _ HR3.out (fun hH => ?_)
            clear hK K hH
            try simp only [Act.put, List.getElem_toArray, List.getElem_cons_succ, List.getElem_cons_zero, List.setIfInBounds_toArray, List.set_cons_zero, List.set_cons_succ]
            refine wpAnyH_done (by kernel_rfl) ?_ _
            refine NoPanic.normal ?_
            go_wp2
            go_meet
            exact ⟨bm, g, rfl, rfl, hbm, hgm, hgr, hgx, hgb, hmr, hmx, HB3.out, HX3.out, HR3.out, HM3.out, HG3.out⟩
        · skip
          go_simp
          refine hK.out _ _ (HR2.out.alloc _) (fun hH => ?_)
          clear hK K hH
          try simp only [Act.put, List.getElem_toArray, List.getElem_cons_succ, List.getElem_cons_zero, List.setIfInBounds_toArray, List.set_cons_zero, List.set_cons_succ]
          generalize hW3 : World.alloc V2 _ = V3
          have HG3 : Hid (RowAt V3 V2.heap.size 52 [.int .i64 loc, .int .i64 u0, .int .i64 u1, .int .i64 u2]) := Lib.hid (by rw [← hW3]; exact RowAt.new V2 52 [.int .i64 loc, .int .i64 u0, .int .i64 u1, .int .i64 u2])
          have HB3 : Hid (Bel w V3) := Lib.hid (by rw [← hW3]; exact HB2.out.alloc _)
          have HR3 : Hid (RowAt V3 br 54 _) := Lib.hid (by rw [← hW3]; exact HR2.out.alloc _)
          have HX3 : Hid (RowAt V3 w.heap.size 25 _) := Lib.hid (by rw [← hW3]; exact HX2.out.alloc _)
          have hgm : w.heap.size ≤ V2.heap.size := HB2.out.le
          have hgr : V2.heap.size ≠ br := Nat.ne_of_gt HR2.out.lt
          have hgx : V2.heap.size ≠ w.heap.size := Nat.ne_of_gt HX2.out.lt
          have HM3 : Hid (PSet V3 52 4 bm _ _) := Lib.hid (by rw [← hW3]; exact HM2.out.alloc _)
          have hgb : V2.heap.size ≠ bm := Nat.ne_of_gt HM2.out.lt
          
          clear hW3
          generalize V2.heap.size = g at *
          clear HB2 HR2 HX2 HM2
          refine wpAnyH_ready (rs := [6]) (by kernel_rfl) (by simp) ?_
          refine (AllReadyH.cons rfl (fun K hK => ?_) AllReadyH.nil)
          go_simp
          refine hK.out _ _ HR3.out (fun hH => ?_)
          clear hK K hH
          try simp only [Act.put, List.getElem_toArray, List.getElem_cons_succ, List.getElem_cons_zero, List.setIfInBounds_toArray, List.set_cons_zero, List.set_cons_succ]
          refine wpAnyH_ready (rs := [12]) (by kernel_rfl) (by simp) ?_
          refine (AllReadyH.cons rfl (fun K hK => ?_) AllReadyH.nil)
          go_simp
          refine hK.out _ _ HR3.out (fun hH => ?_)
          clear hK K hH
          try simp only [Act.put, List.getElem_toArray, List.getElem_cons_succ, List.getElem_cons_zero, List.setIfInBounds_toArray, List.set_cons_zero, List.set_cons_succ]
          refine wpAnyH_ready (rs := [13]) (by kernel_rfl) (by simp) ?_
          refine (AllReadyH.cons rfl (fun K hK => ?_) AllReadyH.nil)
          go_simp
          refine hK.out _ _ HR3.out (fun hH => ?_)
          clear hK K hH
          try simp only [Act.put, List.getElem_toArray, List.getElem_cons_succ, List.getElem_cons_zero, List.setIfInBounds_toArray, List.set_cons_zero, List.set_cons_succ]
          refine wpAnyH_done (by kernel_rfl) ?_ _
          refine NoPanic.normal ?_
          go_wp2
          go_meet
          exact ⟨bm, g, rfl, rfl, hbm, hgm, hgr, hgx, hgb, hmr, hmx, HB3.out, HX3.out, HR3.out, HM3.out, HG3.out⟩
      · skip
        go_simp
        refine hK.out _ _ (HR1.out.alloc _) (fun hH => ?_)
        clear hK K hH
        try simp only [Act.put, List.getElem_toArray, List.getElem_cons_succ, List.getElem_cons_zero, List.setIfInBounds_toArray, List.set_cons_zero, List.set_cons_succ]
        generalize hW2 : World.alloc V1 _ = V2
        have HG2 : Hid (RowAt V2 V1.heap.size 52 [.int .i64 loc, .int .i64 u0, .int .i64 u1, .int .i64 u2]) := Lib.hid (by rw [← hW2]; exact RowAt.new V1 52 [.int .i64 loc, .int .i64 u0, .int .i64 u1, .int .i64 u2])
        have HB2 : Hid (Bel w V2) := Lib.hid (by rw [← hW2]; exact HB1.out.alloc _)
        have HR2 : Hid (RowAt V2 br 54 _) := Lib.hid (by rw [← hW2]; exact HR1.out.alloc _)
        have HX2 : Hid (RowAt V2 w.heap.size 25 _) := Lib.hid (by rw [← hW2]; exact HX1.out.alloc _)
        have hgm : w.heap.size ≤ V1.heap.size := HB1.out.le
        have hgr : V1.heap.size ≠ br := Nat.ne_of_gt HR1.out.lt
        have hgx : V1.heap.size ≠ w.heap.size := Nat.ne_of_gt HX1.out.lt
        have HM2 : Hid (PSet V2 52 4 bm _ _) := Lib.hid (by rw [← hW2]; exact HM1.out.alloc _)
        have hgb : V1.heap.size ≠ bm := Nat.ne_of_gt HM1.out.lt
        
        clear hW2
        generalize V1.heap.size = g at *
        clear HB1 HR1 HX1 HM1
        refine wpAnyH_ready (rs := [5]) (by kernel_rfl) (by simp) ?_
        refine (AllReadyH.cons rfl (fun K hK => ?_) AllReadyH.nil)
        obtain ⟨V3, hput, HM, hg⟩ := HM2.out.put pkey_p (t := 69) (by kernel_rfl) (by kernel_rfl) (by unfold maxLen; omega) (y := ⟨loc, [u0, u1, u2]⟩) hpw
        replace hput : (Instr.mapUpdate 69 (.map (some bm)) (.agg #[.int .i64 loc, .int .i64 u0, .int .i64 u1, .int .i64 u2]) (.bool true)).run Try.prog V2 = .ok () V3 := hput
        have HM3 := Lib.hid HM
        have HB3 := Lib.hid (Bel.grown HB2.out hg hbm)
        have HR3 := Lib.hid (HR2.out.grown hg (fun h => hmr (Option.some.inj h).symm))
        have HX3 := Lib.hid (HX2.out.grown hg (fun h => hmx (Option.some.inj h).symm))
        have HG3 := Lib.hid (HG2.out.grown hg (fun h => hgb (Option.some.inj h)))
        
        clear HM hg HB2 HR2 HX2 HM2 HG2
        go_simp
        refine hK.out _ _ HR3.out (fun hH => ?_)
        clear hK K hput hH
        try simp only [Act.put, List.getElem_toArray, List.getElem_cons_succ, List.getElem_cons_zero, List.setIfInBounds_toArray, List.set_cons_zero, List.set_cons_succ]
        refine wpAnyH_ready (rs := [6]) (by kernel_rfl) (by simp) ?_
        refine (AllReadyH.cons rfl (fun K hK => ?_) AllReadyH.nil)
        go_simp
        refine hK.out _ _ HR3.out (fun hH => ?_)
        clear hK K hH
        try simp only [Act.put, List.getElem_toArray, List.getElem_cons_succ, List.getElem_cons_zero, List.setIfInBounds_toArray, List.set_cons_zero, List.set_cons_succ]
        refine wpAnyH_ready (rs := [12]) (by kernel_rfl) (by simp) ?_
        refine (AllReadyH.cons rfl (fun K hK => ?_) AllReadyH.nil)
        go_simp
        refine hK.out _ _ HR3.out (fun hH => ?_)
        clear hK K hH
        try simp only [Act.put, List.getElem_toArray, List.getElem_cons_succ, List.getElem_cons_zero, List.setIfInBounds_toArray, List.set_cons_zero, List.set_cons_succ]
        refine wpAnyH_ready (rs := [13]) (by kernel_rfl) (by simp) ?_
        refine (AllReadyH.cons rfl (fun K hK => ?_) AllReadyH.nil)
        go_simp
        refine hK.out _ _ HR3.out (fun hH => ?_)
        clear hK K hH
        try simp only [Act.put, List.getElem_toArray, List.getElem_cons_succ, List.getElem_cons_zero, List.setIfInBounds_toArray, List.set_cons_zero, List.set_cons_succ]
        refine wpAnyH_done (by kernel_rfl) ?_ _
        refine NoPanic.normal ?_
        go_wp2
        go_meet
        exact ⟨bm, g, rfl, rfl, hbm, hgm, hgr, hgx, hgb, hmr, hmx, HB3.out, HX3.out, HR3.out, HM3.out, HG3.out⟩
    · skip
      go_simp
      refine hK.out _ _ (HR0.out.alloc _) (fun hH => ?_)
      clear hK K hH
      try simp only [Act.put, List.getElem_toArray, List.getElem_cons_succ, List.getElem_cons_zero, List.setIfInBounds_toArray, List.set_cons_zero, List.set_cons_succ]
      generalize hW1 : World.alloc V0 _ = V1
      have HG1 : Hid (RowAt V1 V0.heap.size 52 [.int .i64 loc, .int .i64 u0, .int .i64 u1, .int .i64 u2]) := Lib.hid (by rw [← hW1]; exact RowAt.new V0 52 [.int .i64 loc, .int .i64 u0, .int .i64 u1, .int .i64 u2])
      have HB1 : Hid (Bel w V1) := Lib.hid (by rw [← hW1]; exact HB0.out.alloc _)
      have HR1 : Hid (RowAt V1 br 54 _) := Lib.hid (by rw [← hW1]; exact HR0.out.alloc _)
      have HX1 : Hid (RowAt V1 w.heap.size 25 _) := Lib.hid (by rw [← hW1]; exact HX0.out.alloc _)
      have hgm : w.heap.size ≤ V0.heap.size := HB0.out.le
      have hgr : V0.heap.size ≠ br := Nat.ne_of_gt HR0.out.lt
      have hgx : V0.heap.size ≠ w.heap.size := Nat.ne_of_gt HX0.out.lt
      
      clear hW1
      generalize V0.heap.size = g at *
      clear HB0 HR0 HX0 
      refine wpAnyH_ready (rs := [0]) (by kernel_rfl) (by simp) ?_
      refine (AllReadyH.cons rfl (fun K hK => ?_) AllReadyH.nil)
      go_simp
      refine hK.out _ _ (HR1.out.alloc _) (fun hH => ?_)
      clear hK K hH
      try simp only [Act.put, List.getElem_toArray, List.getElem_cons_succ, List.getElem_cons_zero, List.setIfInBounds_toArray, List.set_cons_zero, List.set_cons_succ]
      change wpAnyH _ _ _ _ _ _ _ _ (World.alloc V1 (.map #[] 0))
      generalize hW2 : World.alloc V1 (.map #[] 0) = V2
      have HM2 : Hid (PSet V2 52 4 V1.heap.size 0 []) := Lib.hid (by rw [← hW2]; exact PSet.made V1 52 4)
      have HB2 : Hid (Bel w V2) := Lib.hid (by rw [← hW2]; exact HB1.out.alloc _)
      have HR2 : Hid (RowAt V2 br 54 _) := Lib.hid (by rw [← hW2]; exact HR1.out.alloc _)
      have HX2 : Hid (RowAt V2 w.heap.size 25 _) := Lib.hid (by rw [← hW2]; exact HX1.out.alloc _)
      have hbm : w.heap.size ≤ V1.heap.size := HB1.out.le
      have hmr : V1.heap.size ≠ br := Nat.ne_of_gt HR1.out.lt
      have hmx : V1.heap.size ≠ w.heap.size := Nat.ne_of_gt HX1.out.lt
      have HG2 : Hid (RowAt V2 g 52 _) := Lib.hid (by rw [← hW2]; exact HG1.out.alloc _)
      have hgb : V1.heap.size ≠ g := Nat.ne_of_gt HG1.out.lt
      
      clear hW2
      generalize V1.heap.size = bm at *
      clear HB1 HR1 HX1 HG1
      refine wpAnyH_ready (rs := [5]) (by kernel_rfl) (by simp) ?_
      refine (AllReadyH.cons rfl (fun K hK => ?_) AllReadyH.nil)
      obtain ⟨V3, hput, HM, hg⟩ := HM2.out.put pkey_p (t := 69) (by kernel_rfl) (by kernel_rfl) (by unfold maxLen; omega) (y := ⟨loc, [u0, u1, u2]⟩) hpw
      replace hput : (Instr.mapUpdate 69 (.map (some bm)) (.agg #[.int .i64 loc, .int .i64 u0, .int .i64 u1, .int .i64 u2]) (.bool true)).run Try.prog V2 = .ok () V3 := hput
      have HM3 := Lib.hid HM
      have HB3 := Lib.hid (Bel.grown HB2.out hg hbm)
      have HR3 := Lib.hid (HR2.out.grown hg (fun h => hmr (Option.some.inj h).symm))
      have HX3 := Lib.hid (HX2.out.grown hg (fun h => hmx (Option.some.inj h).symm))
      have HG3 := Lib.hid (HG2.out.grown hg (fun h => hgb (Option.some.inj h).symm))
      
      clear HM hg HB2 HR2 HX2 HM2 HG2
      go_simp
      refine hK.out _ _ HR3.out (fun hH => ?_)
      clear hK K hput hH
      try simp only [Act.put, List.getElem_toArray, List.getElem_cons_succ, List.getElem_cons_zero, List.setIfInBounds_toArray, List.set_cons_zero, List.set_cons_succ]
      refine wpAnyH_ready (rs := [6]) (by kernel_rfl) (by simp) ?_
      refine (AllReadyH.cons rfl (fun K hK => ?_) AllReadyH.nil)
      go_simp
      refine hK.out _ _ HR3.out (fun hH => ?_)
      clear hK K hH
      try simp only [Act.put, List.getElem_toArray, List.getElem_cons_succ, List.getElem_cons_zero, List.setIfInBounds_toArray, List.set_cons_zero, List.set_cons_succ]
      refine wpAnyH_ready (rs := [12]) (by kernel_rfl) (by simp) ?_
      refine (AllReadyH.cons rfl (fun K hK => ?_) AllReadyH.nil)
      go_simp
      refine hK.out _ _ HR3.out (fun hH => ?_)
      clear hK K hH
      try simp only [Act.put, List.getElem_toArray, List.getElem_cons_succ, List.getElem_cons_zero, List.setIfInBounds_toArray, List.set_cons_zero, List.set_cons_succ]
      refine wpAnyH_ready (rs := [13]) (by kernel_rfl) (by simp) ?_
      refine (AllReadyH.cons rfl (fun K hK => ?_) AllReadyH.nil)
      go_simp
      refine hK.out _ _ HR3.out (fun hH => ?_)
      clear hK K hH
      try simp only [Act.put, List.getElem_toArray, List.getElem_cons_succ, List.getElem_cons_zero, List.setIfInBounds_toArray, List.set_cons_zero, List.set_cons_succ]
      refine wpAnyH_done (by kernel_rfl) ?_ _
      refine NoPanic.normal ?_
      go_wp2
      go_meet
      exact ⟨bm, g, rfl, rfl, hbm, hgm, hgr, hgx, fun h => hgb h.symm, hmr, hmx, HB3.out, HX3.out, HR3.out, HM3.out, HG3.out⟩
  case rest =>
    obtain ⟨bm, g, rfl, rfl, hbm, hgm, hgr, hgx, hgb, hmr, hmx, hB, hX, hR, hM, hG⟩ := hcut
    have HW0 : Hid (HW w wc p (.slice A1 p.good.length k1) (.slice A2 p.edges.length k2) br bm x0 a (.slice (some ⟨g, 0, none⟩) 1 1) [x0] [x0]) := Lib.hid (by
      rw [HX0.out]
      exact ⟨hB, hX, hR, hM, ⟨rfl, .inr ⟨g, 1, _, rfl, hgm, hG, Nat.le_refl _, by unfold maxLen; omega, rfl, rfl⟩⟩, hbm⟩)
    clear hgm hgr hgx hgb hmr hmx hB hX hR hM hG HRD HBD BXD HBW BXW HB1 HRN
    have HI0 := Lib.hid (HInv.init HPX.out)
    obtain ⟨E, hE⟩ : ∃ E : Nat, p.evs = E := ⟨p.evs.toNat, by have := HEV.out; omega⟩
    rw [hE]
    have HE := Lib.hid hE
    have hE8 : E ≤ 8 := by have := HEV.out; omega
    clear hE
    go_wp2
    go_loopg [10] 851967 (fun gk v wx => ∃ F L, HW w wx p (.slice A1 p.good.length k1) (.slice A2 p.edges.length k2) br bm x0 a v F L ∧ HInv p x0 F L ∧ gk ≤ 851967 ∧ 851968 + L.length ≤ gk + 2 * F.length)
    case atStart => exact ⟨_, _, HW0.out, HI0.out, by omega, by simp⟩
    case round =>
      clear HW0 HI0
      obtain ⟨F, L, hw, hi, hgb, hgk⟩ := hrel
      obtain ⟨G, hG⟩ : ∃ G, G = gk := ⟨gk, rfl⟩
      rw [← hG] at hgb hgk
      have HG := Lib.hid hG
      have HGB := Lib.hid hgb
      clear hG
      have HGK := Lib.hid hgk
      have HI := Lib.hid hi
      have HWX := Lib.hid hw
      rcases nil_or_snoc L with rfl | ⟨L, y, rfl⟩
      · obtain ⟨A, c, rfl, hc⟩ := ownsRow_form hw.ls
        have HR := Lib.hid hi.empty
        have HB := Lib.hid hw.bel
        clear hw hi hgk HWX HGK HI
        go_wp2
        go_ret2
        exact ⟨by rw [HR.out]; rfl, HB.out⟩
      · have hyo := (hi.rc y (hi.lf y (by simp))).2
        have HYO := Lib.hid hyo
        obtain ⟨l, y0, y1, y2, rfl, _⟩ := hyo.wf HGL.out
        obtain ⟨g, c, rfl, hc, hgl, hcell, hw1⟩ := hw.pop
        have q0 : wr.cell? ⟨g, L.length * 4, none⟩ = some (.int .i64 l) := hcell 0 (by omega)
        have q1 : wr.cell? ⟨g, L.length * 4 + 1, none⟩ = some (.int .i64 y0) := hcell 1 (by omega)
        have q2 : wr.cell? ⟨g, L.length * 4 + 2, none⟩ = some (.int .i64 y1) := hcell 2 (by omega)
        have q3 : wr.cell? ⟨g, L.length * 4 + 3, none⟩ = some (.int .i64 y2) := hcell 3 (by omega)
        have HW1 := Lib.hid hw1
        have hLn : L.length ≤ 1000000 := by
          have := pts_le HGL.out hi.nd (fun z hz => (hi.rc z hz).2)
          simp at hgk; omega
        have hi0 := Lib.hid hw.bel.le
        clear hw hi hgk hcell hw1 HWX hyo
        go_upto_region 8 with (fail)
        have hb2 := RowAt.new wr 52 [.int .i64 l, .int .i64 y0, .int .i64 y1, .int .i64 y2]
        have hbb : Bel wr (wr.alloc (.cells [.int .i64 l, .int .i64 y0, .int .i64 y1, .int .i64 y2].toArray 52)) := Bel.refl.alloc _
        generalize hW2 : World.alloc wr _ = w2 at *
        have HW2 := Lib.hid (HW1.out.trans hbb)
        have HX2 := Lib.hid hb2
        have b0 := hb2.cell (i := 0) rfl
        have b1 := hb2.cell (i := 1) rfl
        have b2 := hb2.cell (i := 2) rfl
        have b3 := hb2.cell (i := 3) rfl
        have bz := hb2.lt
        clear hW2 hb2 hbb HW1 q0 q1 q2 q3
        have hwb : w.heap.size ≤ wr.heap.size := hi0.out
        generalize wr.heap.size = bx at *
        have hgd := pgood_any p _ _ br x0 ⟨l, [y0, y1, y2]⟩ a w w2 HP.out HW2.out.bel HW2.out.rn HYO.out.1 rfl (by have := HGL.out; omega)
        change Calls _ _ #[_, .agg #[.int .i64 l, .int .i64 y0, .int .i64 y1, .int .i64 y2]] _ _ at hgd
        have HGD := Lib.hid hgd
        clear hgd
        by_cases hgx : goodM p ⟨l, [y0, y1, y2]⟩ = true
        · have HR := Lib.hid (HI.out.good (by simp) hgx)
          rw [hgx] at HGD
          go_wp2_with (go_at_call 20; (with_reducible refine (HGD.out).mono ?_); rintro en w3 ⟨rfl, hb3⟩; have HW3 := Lib.hid (HW2.out.trans hb3); clear hb3)
          go_ret2
          exact ⟨by rw [HR.out]; rfl, HW3.out.bel⟩
        · have hgf : goodM p ⟨l, [y0, y1, y2]⟩ = false := by simpa using hgx
          rw [hgf] at HGD
          have HM0 := Lib.hid (HI.out.pop (x := ⟨l, [y0, y1, y2]⟩) (L' := L) (by simp) hgf)
          have HK := Lib.hid HGK.out
          rw [List.length_append, List.length_singleton] at HK
          clear HI HGK hgx hgf bx0 bx1 bx2 bx3 bx4 bxz
          go_upto_region 10 with (go_at_call 20; (with_reducible refine (HGD.out).mono ?_); rintro en w3 ⟨rfl, hb3⟩; have HW3 := Lib.hid (HW2.out.trans hb3); have HX3 := Lib.hid (HX2.out.bel hb3); clear hb3)
          clear HGD HW2 HX2 b0 b1 b2 b3 bz
          go_wp2
          go_loopg [10, 53] 32 (fun g2 v s53 wx => ∃ F L, ∃ b : Nat, s53 = .int .i64 b ∧ g2 + b = 32 ∧ HW w wx p (.slice A1 p.good.length k1) (.slice A2 p.edges.length k2) br bm x0 a v F L ∧ HMid p x0 ⟨l, [y0, y1, y2]⟩ F L b 0 ∧ RowAt wx bx 52 [.int .i64 l, .int .i64 y0, .int .i64 y1, .int .i64 y2] ∧ 851969 + L.length ≤ G + 2 * F.length ∧ v.ownBlock ≠ some bx)
          case atStart => exact ⟨_, _, 0, rfl, by omega, HW3.out, HM0.out, HX3.out, by have := HK.out; omega, by simp only [Value.ownBlock, ne_eq, Option.some.injEq]; omega⟩
          case round =>
            clear HM0 HW3 HX3 HK
            obtain ⟨F, L, b, rfl, hg2, hw, hm, hx, hk, hob⟩ := hrel
            obtain ⟨g2, hG2⟩ : ∃ g2, g2 = gk := ⟨gk, rfl⟩
            rw [← hG2] at hg2
            have HWa := Lib.hid hw
            have HMa := Lib.hid hm
            have HXa := Lib.hid hx
            have HKa := Lib.hid hk
            by_cases hb32 : b < 32
            · have hd : decide ((b : Int) < 32) = true := by simp; omega
              have e0 := hw.pb.cell (i := 0) rfl
              have ez := hw.pb.lt
              rw [HE.out] at e0
              clear hw hm hx hk
              go_wp2
              go_loopg [10, 58] E (fun g3 v s58 wx => ∃ F L, ∃ e : Nat, s58 = .int .i64 e ∧ g3 + e = E ∧ HW w wx p (.slice A1 p.good.length k1) (.slice A2 p.edges.length k2) br bm x0 a v F L ∧ HMid p x0 ⟨l, [y0, y1, y2]⟩ F L b e ∧ RowAt wx bx 52 [.int .i64 l, .int .i64 y0, .int .i64 y1, .int .i64 y2] ∧ 851969 + L.length ≤ G + 2 * F.length ∧ v.ownBlock ≠ some bx)
              case atStart => exact ⟨_, _, 0, rfl, by omega, HWa.out, HMa.out, HXa.out, HKa.out, hob⟩
              case round =>
                clear HWa HMa HXa HKa
                obtain ⟨F, L, e, rfl, hg3, hw, hm, hx, hk, hob⟩ := hrel
                obtain ⟨g3, hG3⟩ : ∃ g3, g3 = gk := ⟨gk, rfl⟩
                rw [← hG3] at hg3
                have HWa := Lib.hid hw
                have HMa := Lib.hid hm
                have HXa := Lib.hid hx
                have HKa := Lib.hid hk
                by_cases he : e < E
                · have hd3 : decide ((e : Int) < (E : Int)) = true := by simp; omega
                  have p0 := hx.cell (i := 0) rfl
                  have p1 := hx.cell (i := 1) rfl
                  have p2 := hx.cell (i := 2) rfl
                  have p3 := hx.cell (i := 3) rfl
                  have pz := hx.lt
                  have hez : (e : Int) < p.evs := by rw [HE.out]; omega
                  have hcn : p.clks = (p.clks.toNat : Int) := HV.out.cn
                  have hst := pstep_any p p.clks.toNat _ _ br ⟨l, [y0, y1, y2]⟩ b e wr hcn HV.out.n3 (HP.out.bel hw.bel) HS.out HV.out.ed hw.pc HYO.out.2 (by omega) (by omega)
                  change Calls _ _ #[_, .agg #[.int .i64 l, .int .i64 y0, .int .i64 y1, .int .i64 y2], _, _] _ _ at hst
                  have hzo := step_pt HV.out HYO.out b e
                  have HZO := Lib.hid hzo
                  obtain ⟨z, z0, z1, z2, hze, hz1⟩ := hzo.wf HGL.out
                  have HZ := Lib.hid hze
                  have HZW : Hid (PtWf ⟨z, [z0, z1, z2]⟩) := Lib.hid ⟨z, z0, z1, z2, rfl, hz1⟩
                  rw [hze] at hst
                  change Calls _ _ _ _ (fun en w' => en = .returned (.agg #[.int .i64 z, .int .i64 z0, .int .i64 z1, .int .i64 z2]) ∧ Bel _ w') at hst
                  have HST := Lib.hid hst
                  clear hw hm hx hk hst hzo hze hz1 hcn e0 ez
                  go_upto_region 17 with (go_at_call 31; (with_reducible refine (HST.out).mono ?_); rintro en w4 ⟨rfl, hb4⟩; have HW4 := Lib.hid (HWa.out.trans hb4); have HX4 := Lib.hid (HXa.out.bel hb4); clear hb4)
                  have hr5 := RowAt.new w4 52 [.int .i64 z, .int .i64 z0, .int .i64 z1, .int .i64 z2]
                  have hb5 : Bel w4 (w4.alloc (.cells [.int .i64 z, .int .i64 z0, .int .i64 z1, .int .i64 z2].toArray 52)) := Bel.refl.alloc _
                  generalize hW5 : World.alloc w4 _ = w5 at *
                  have HW5 := Lib.hid (HW4.out.trans hb5)
                  have HX5 := Lib.hid (HX4.out.bel hb5)
                  have HR5 := Lib.hid hr5
                  have p0 := hr5.cell (i := 0) rfl
                  have p1 := hr5.cell (i := 1) rfl
                  have p2 := hr5.cell (i := 2) rfl
                  have p3 := hr5.cell (i := 3) rfl
                  have pz := hr5.lt
                  clear hW5 hr5 hb5 HW4 HX4 HWa HXa HST
                  generalize w4.heap.size = by5 at *
                  by_cases hz : z < 0
                  · have hdz : decide (0 ≤ z) = false := by simp; omega
                    have HS2 := Lib.hid (HMa.out.skip (by rw [HZ.out]; intro h; exact absurd h (by simp; omega)))
                    go_wp2
                    go_roundg (g3 - 1)
                    case measure => omega
                    case rel => exact ⟨_, _, e + 1, by go_num, by omega, HW5.out, HS2.out, HX5.out, HKa.out, hob⟩
                  · have hdz : decide (0 ≤ z) = true := by simp; omega
                    obtain ⟨cb, hlk, hcb⟩ := HW5.out.look (zero_bool _) HZW.out
                    replace hlk : (Instr.lookup 69 (.map (some bm)) (.agg #[.int .i64 z, .int .i64 z0, .int .i64 z1, .int .i64 z2]) false).run Try.prog w5 = .ok (.bool cb) w5 := hlk
                    have HCB := Lib.hid hcb
                    clear hcb
                    cases cb
                    · have hnf : (⟨z, [z0, z1, z2]⟩ : Pt) ∉ F := fun h => by have := HCB.out.mpr h; simp at this
                      have hfl : F.length ≤ 425984 := pts_le HGL.out HMa.out.nd (fun z hz => (HMa.out.rc z hz).2)
                      have hxl : 0 ≤ l := by
                        by_cases h : l < 0
                        · have := step_pit (n := p.clks.toNat) (es := p.edges) (y := ⟨l, [y0, y1, y2]⟩) (a := b) (ev := e) h
                          rw [HZ.out] at this; exact absurd this hz
                        · omega
                      have hez : (e : Int) < p.evs := by rw [HE.out]; omega
                      have hpush := HMa.out.push HV.out hxl hb32 hez (by rw [HZ.out]; exact hnf)
                      rw [HZ.out] at hpush
                      have HPU := Lib.hid hpush
                      obtain ⟨w6, hput, hw6, hg6⟩ := HW5.out.put (by omega) HZW.out
                      replace hput : (Instr.mapUpdate 69 (.map (some bm)) (.agg #[.int .i64 z, .int .i64 z0, .int .i64 z1, .int .i64 z2]) (.bool true)).run Try.prog w5 = .ok () w6 := hput
                      have HX6 := Lib.hid (HX5.out.grown hg6 (fun h => row_ne_set HX5.out HW5.out.st (Option.some.inj h)))
                      have hr6 := HR5.out.grown hg6 (fun h => row_ne_set HR5.out HW5.out.st (Option.some.inj h))
                      have t0 := hr6.cell (i := 0) rfl
                      have t1 := hr6.cell (i := 1) rfl
                      have t2 := hr6.cell (i := 2) rfl
                      have t3 := hr6.cell (i := 3) rfl
                      have tz := hr6.lt
                      have HW6 := Lib.hid hw6
                      have hll : L.length ≤ 1000000 := by have := HKa.out; omega
                      clear hw6 hg6 hnf hpush hez HS
                      obtain ⟨j0, hj0, hy0, hy1, hy2⟩ := info_parts' Try.infoPt
                      have hown := HW6.out.ls
                      have hle := HW6.out.bel.le
                      go_wp2_with (at_builtin; go_must (refine wpList_append_own_at _ rfl _ _ 70 rfl w.heap.size 52 j0 _ 4 32 Try.underlying70 hj0 hy0 hy1 hy2 rfl (by decide) _ _ _ rfl (hown.alloc _) ⟨w6.heap.size, 0, none⟩ 1 1 [.int .i64 z, .int .i64 z0, .int .i64 z1, .int .i64 z2] rfl rfl ?d1 ?d2 ?d3 ?d4 ?d5 ?_))
                      case d2 => exact ⟨rfl, rfl, rfl, rfl⟩
                      case d3 => unfold maxLen; omega
                      case d4 => omega
                      case d5 => first | omega | (simp; omega)
                      intro v' w7 hown3 hg7 _ hob7
                      have hob8 : v'.ownBlock ≠ some bx := by
                        rcases hob7 with h | h
                        · rw [h]; exact hob
                        · rw [h]; intro he; have := HX6.out.lt; simp at he; omega
                      have HW7 := Lib.hid ((HW6.out.alloc _).push (y := ⟨z, [z0, z1, z2]⟩) hown3 hg7)
                      have HX7 := Lib.hid ((HX6.out.alloc _).grown hg7 hob.symm)
                      clear hown3 hg7 hown
                      go_wp2
                      go_roundg (g3 - 1)
                      case measure => omega
                      case rel => exact ⟨_, _, e + 1, by go_num, by omega, HW7.out, HPU.out, HX7.out, by have := HKa.out; simp; omega, hob8⟩
                    · have HS2 := Lib.hid (HMa.out.skip (by rw [HZ.out]; intro _; exact HCB.out.mp rfl))
                      go_wp2
                      go_roundg (g3 - 1)
                      case measure => omega
                      case rel => exact ⟨_, _, e + 1, by go_num, by omega, HW5.out, HS2.out, HX5.out, HKa.out, hob⟩
                · have hd3 : decide ((e : Int) < (E : Int)) = false := by simp; omega
                  have HRW := Lib.hid (HMa.out.row (by rw [HE.out]; omega))
                  clear hw hm hx hk
                  go_wp2
                  go_roundg (g2 - 1)
                  case measure => omega
                  case rel => exact ⟨_, _, b + 1, by go_num, by omega, HWa.out, HRW.out, HXa.out, HKa.out, hob⟩
            · have hd : decide ((b : Int) < 32) = false := by simp; omega
              obtain rfl : b = 32 := by omega
              have HIN := Lib.hid hm.done
              have hG1 : 1 ≤ G := by
                have := pts_le HGL.out hm.nd (fun z hz => (hm.rc z hz).2)
                omega
              clear hw hm hx hk
              go_wp2
              go_roundg (G - 1)
              case measure => rw [← HG.out]; omega
              case rel => exact ⟨_, _, HWa.out, HIN.out, by have := HGB.out; omega, by have := HKa.out; omega⟩
end Go.Proofs.Ytcnjojhbcijdmaa
