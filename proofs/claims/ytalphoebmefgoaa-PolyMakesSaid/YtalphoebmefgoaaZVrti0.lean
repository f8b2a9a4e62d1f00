/- poly, the reference: Tidy, and that its result is the call's own. -/
import Derived.Test.YtalphoebmefgoaaZVar0
import Derived.Test.YtalphoebmefgoaaG44
import Derived.Deep.CutBlock
namespace Go.Proofs.Ytalphoebmefgoaa
open Go.RowKit
set_option maxRecDepth 100000 in
set_option maxHeartbeats 8000000 in
theorem rtidz_any (n : Nat) (v : Value) (l : List AL) (w : World) (h : LinesAt w w.heap.size v l) (hn : n ≤ 6) (hl : l.length ≤ 100000) (hls : ∀ x, x ∈ l → x.a.length ≤ 1000000) (hwf : ∀ x, x ∈ l → x.wf) :
    Calls Try.prog 53 #[.int .i64 n, v] w (TiPost (tidyA n l) w) := by
  have H := Lib.hid h
  have HLS := Lib.hid hls
  have HWF := Lib.hid hwf
  obtain ⟨A, c, rfl, hc⟩ := h.form
  clear h hls hwf
  go_enter Try.func53, Try.ntmps53
  go_wp2
  go_loopw [5, 6] (fun s5 s6 wq => ∃ (i : Nat) (y : Ext w) (L : List (Value × AL)), i ≤ l.length ∧ s6 = .int .i64 i ∧ wq = y.w ∧ AR0 y.w w.heap.size s5 L ∧ L.length ≤ i ∧ (∀ p, p ∈ L → p.2.a.length ≤ 1000000) ∧ tidyF n (L.map Prod.snd) (l.drop i) = tidyA n l) (fun _ s6 _ => l.length - (intOf s6).toNat)
  case atStart => exact ⟨0, ⟨_, Bel.refl⟩, [], Nat.zero_le _, rfl, rfl, AR0.nil, Nat.le_refl _, by simp, rfl⟩
  case round =>
    obtain ⟨i, y, L, hi, rfl, rfl, har, hLi, hLl, hf⟩ := hrel
    have HAR := Lib.hid har
    have HLL := Lib.hid hLl
    have HF := Lib.hid hf
    clear har hLl hf
    by_cases hlt : i < l.length
    · have hd : decide ((i : Int) < (l.length : Int)) = true := by simp; omega
      have hil : (i : Int) < (l.length : Int) := by omega
      have hw : IntKind.i64.wrap ((i : Int) + 1) = (i : Int) + 1 := IntWalk.i64_in _ (by omega)
      obtain ⟨b, off, rfl, hbb, hA⟩ := (H.out.keep y.bel.keeps y.bel.le).at_ (by omega)
      obtain ⟨rv0, ⟨c0, c1, c2⟩, hrv⟩ := hA i hlt
      have hxl := HLS.out _ (alAt_mem hlt)
      have HLO := Lib.hid (rlowest_any (alAt l i) rv0 y.w hrv hxl (HWF.out _ (alAt_mem hlt)))
      have HXL : Hid ((lowA (alAt l i)).a.length ≤ 1000000) := Lib.hid (by unfold lowA; split <;> simpa using hxl)
      have HFX : Hid (tidyF n (L.map Prod.snd) (l.drop i) = if zeroB (lowA (alAt l i)).a = true then (if noneA (lowA (alAt l i)) then [falseA n] else tidyF n (L.map Prod.snd) (l.drop (i + 1))) else tidyF n (insA (L.map Prod.snd) (lowA (alAt l i))) (l.drop (i + 1))) := Lib.hid (by rw [al_drop hlt]; rfl)
      rw [HF.out] at HFX
      obtain ⟨A0, k0, rfl, _⟩ := hrv.form
      unfold AlPost at HLO
      clear hrv hA hxl HF
      generalize lowA (alAt l i) = X at *
      go_wp2_with fail
      refine HLO.out.mono ?_
      rintro e w3 ⟨rvx, rfl, hox, hB3⟩
      obtain ⟨Ax, kx, rfl, _⟩ := own_slice hox
      have HAR3 := Lib.hid (HAR.out.bel hB3 y.bel.le)
      have HB3 := Lib.hid (y.bel.trans hB3)
      have HOX := Lib.hid (own_base hox y.bel.le)
      have HVL : Hid (∀ g, u5.ownBlock = some g → g < w3.heap.size) := Lib.hid (fun g hg => Nat.lt_of_lt_of_le (HAR.out.lt g hg).2 hB3.le)
      clear hox hB3 HLO c0 c1 c2 HAR
      obtain ⟨Xa, Xb, Xs⟩ := X
      dsimp only at *
      go_upto_region 6 with (fail)
      generalize hW : World.alloc w3 _ = w4 at *
      have r7 : RowAt w4 w3.heap.size 25 [.slice Ax Xa.length kx, .int .i64 Xb, .bool Xs] := by rw [← hW]; exact RowAt.new w3 25 [.slice Ax Xa.length kx, .int .i64 Xb, .bool Xs]
      have hb34 : Bel w3 w4 := by rw [← hW]; exact Bel.refl.alloc _
      clear hW
      obtain ⟨p7, hp7⟩ : ∃ p, p = w3.heap.size := ⟨_, rfl⟩
      rw [← hp7] at r7 HVL ⊢
      have HP7 : Hid (w.heap.size ≤ p7) := Lib.hid (by have := HB3.out.le; omega)
      clear hp7
      have HR7 := Lib.hid r7
      have HAR4 := Lib.hid (HAR3.out.bel hb34 HB3.out.le)
      have HOX4 := Lib.hid (ownsRow_bel HOX.out hb34)
      have HB4 := Lib.hid (HB3.out.trans hb34)
      have HZE := Lib.hid (rzero_any _ Xa w4 (IntsAt.of_own HOX4.out) HXL.out)
      have x0 := r7.cell (i := 0) rfl
      have l7 := r7.lt
      clear hb34 HAR3 HOX HB3 r7
      go_wp2_with fail
      refine HZE.out.mono ?_
      rintro e w5 ⟨rfl, hB⟩
      have HR := Lib.hid (HR7.out.bel hB)
      have HAR := Lib.hid (HAR4.out.bel hB HB4.out.le)
      have HOX := Lib.hid (ownsRow_bel HOX4.out hB)
      have HB := Lib.hid (HB4.out.trans hB)
      clear hB HZE x0 l7 HR7 HAR4 HOX4 HB4
      have x0 := HR.out.cell (i := 0) rfl
      have x1 := HR.out.cell (i := 1) rfl
      have x2 := HR.out.cell (i := 2) rfl
      have l7 := HR.out.lt
      cases hz : zeroB Xa
      · rw [hz] at HFX
        have HFY : Hid (tidyA n l = tidyF n (insA (L.map Prod.snd) ⟨Xa, Xb, Xs⟩) (l.drop (i + 1))) := Lib.hid HFX.out
        have HPX : Hid (IntsK0 w5 w.heap.size (.slice Ax Xa.length kx) Xa) := Lib.hid (IntsK0.mine HOX.out)
        clear hz HFX
        go_upto_block 2 with (fail)
        go_cut [8] from 40 to 56 (fun s8 wx => ∃ (k : Nat) (z : Ext w5), wx = z.w ∧ s8 = .int .i64 k ∧ k ≤ L.length ∧ (∀ j (h : j < L.length), j < k → lexL L[j].2.a Xa < 0) ∧ (∀ h : k < L.length, ¬ lexL L[k].2.a Xa < 0))
        case first =>
          go_wp2
          go_loopw [8] (fun s8 wq => ∃ (k : Nat) (z : Ext w5), k ≤ L.length ∧ s8 = .int .i64 k ∧ wq = z.w ∧ (∀ j (h : j < L.length), j < k → lexL L[j].2.a Xa < 0)) (fun s8 _ => L.length - (intOf s8).toNat)
          case atStart => exact ⟨0, ⟨_, Bel.refl⟩, Nat.zero_le _, rfl, rfl, fun j _ h => absurd h (by omega)⟩
          case round =>
            obtain ⟨k, z, hk, rfl, rfl, hlow⟩ := hrel
            have HLOW := Lib.hid hlow
            clear hlow
            by_cases hkl : k < L.length
            · have hkd : decide ((k : Int) < (L.length : Int)) = true := by simp; omega
              have hki : (k : Int) < (L.length : Int) := by omega
              have hwk : IntKind.i64.wrap ((k : Int) + 1) = (k : Int) + 1 := IntWalk.i64_in _ (by omega)
              obtain ⟨g, cg, rfl, hbg, hgl, c0, c1, c2, fz⟩ := HAR.out.get hkl
              have hik := (HAR.out.at_ _ (List.getElem_mem hkl)).ints HB.out.le
              have hkn := HLL.out _ (List.getElem_mem hkl)
              have HNX : Hid (lexL L[k].2.a Xa < 0 → ∀ j (h : j < L.length), j < k + 1 → lexL L[j].2.a Xa < 0) := Lib.hid (fun h0 j hj hjk => by
                rcases Nat.lt_or_ge j k with q | q
                · exact HLOW.out j hj q
                · obtain rfl : j = k := by omega
                  exact h0)
              have HNY : Hid (¬ lexL L[k].2.a Xa < 0 → ∀ h : k < L.length, ¬ lexL L[k].2.a Xa < 0) := Lib.hid (fun h0 _ => h0)
              have HPX0 : Hid (IntsAt w5 w5.heap.size (.slice Ax Xa.length kx) Xa) := Lib.hid (HPX.out.ints HB.out.le)
              generalize hpk : L[k] = pk at c0 c1 c2 hik hkn HNX
              obtain ⟨rvk, ⟨ya, yb, ys⟩⟩ := pk
              dsimp only at c0 c1 c2 hik hkn HNX
              obtain ⟨Ak, kk, rfl, _⟩ := hik.form
              have HPK := Lib.hid hpk
              have HOR := Lib.hid (fun W (hW : Bel w5 W) => rorder_any _ _ ya Xa W (hik.keep hW.keeps hW.le) (HPX0.out.keep hW.keeps hW.le) hkn HXL.out)
              clear hik hkn hpk HPX0
              by_cases hcmp : lexL ya Xa < 0
              · have d3 : decide (lexL ya Xa < 0) = true := decide_eq_true hcmp
                have HLOW2 := Lib.hid (HNX.out hcmp)
                clear hcmp HNX HNY HPK HLOW
                generalize lexL ya Xa = cm at *
                go_wp2
                (refine wp_region_ext (wb := w5) (by (repeat (first | exact Ext.bel _ | exact Bel.refl | refine Bel.alloc ?_ _ | refine Bel.drew ?_ | refine Bel.drewN ?_ _))) (by kernel_rfl) (by kernel_rfl) ?_; (repeat (any_goals (first | go_big_quiet_step ((go_at_call 91; with_reducible exact ext_call (HOR.out _ (by (repeat (first | exact Ext.bel _ | exact Bel.refl | refine Bel.alloc ?_ _ | refine Bel.drew ?_ | refine Bel.drewN ?_ _)))))) | quiet_step ((go_at_call 91; with_reducible exact ext_call (HOR.out _ (by (repeat (first | exact Ext.bel _ | exact Bel.refl | refine Bel.alloc ?_ _ | refine Bel.drew ?_ | refine Bel.drewN ?_ _)))))) | (refine wpQuiet_step (fun K hK => ?_); go_simp; split <;> (refine hK _ ?_; clear hK K))))); all_goals (refine wpQuiet_nil ?_; intro _ hw'; obtain ⟨y, hw''⟩ := hw'; subst hw''))
                go_wp2
                go_roundw
                case rel => exact ⟨k + 1, y, by omega, by go_num, rfl, HLOW2.out⟩
                case measure => simp [intOf]; omega
              · have d3 : decide (lexL ya Xa < 0) = false := decide_eq_false hcmp
                have HEN : Hid (∀ h : k < L.length, ¬ lexL L[k].2.a Xa < 0) := Lib.hid (HNY.out (by rw [HPK.out]; exact hcmp))
                clear hcmp HNX HNY HPK
                generalize lexL ya Xa = cm at *
                go_wp2
                (refine wp_region_ext (wb := w5) (by (repeat (first | exact Ext.bel _ | exact Bel.refl | refine Bel.alloc ?_ _ | refine Bel.drew ?_ | refine Bel.drewN ?_ _))) (by kernel_rfl) (by kernel_rfl) ?_; (repeat (any_goals (first | go_big_quiet_step ((go_at_call 91; with_reducible exact ext_call (HOR.out _ (by (repeat (first | exact Ext.bel _ | exact Bel.refl | refine Bel.alloc ?_ _ | refine Bel.drew ?_ | refine Bel.drewN ?_ _)))))) | quiet_step ((go_at_call 91; with_reducible exact ext_call (HOR.out _ (by (repeat (first | exact Ext.bel _ | exact Bel.refl | refine Bel.alloc ?_ _ | refine Bel.drew ?_ | refine Bel.drewN ?_ _)))))) | (refine wpQuiet_step (fun K hK => ?_); go_simp; split <;> (refine hK _ ?_; clear hK K))))); all_goals (refine wpQuiet_nil ?_; intro _ hw'; obtain ⟨y, hw''⟩ := hw'; subst hw''))
                go_wp2
                go_meet
                case rel => exact ⟨k, y, rfl, rfl, hk, HLOW.out, HEN.out⟩
            · have hkd : decide ((k : Int) < (L.length : Int)) = false := by simp; omega
              obtain ⟨A5, c5, rfl, _⟩ := HAR.out.form
              go_wp2
              (refine wp_region_ext (wb := w5) (by (repeat (first | exact Ext.bel _ | exact Bel.refl | refine Bel.alloc ?_ _ | refine Bel.drew ?_ | refine Bel.drewN ?_ _))) (by kernel_rfl) (by kernel_rfl) ?_; (repeat (any_goals (first | go_big_quiet_step (fail) | quiet_step (fail) | (refine wpQuiet_step (fun K hK => ?_); go_simp; split <;> (refine hK _ ?_; clear hK K))))); all_goals (refine wpQuiet_nil ?_; intro _ hw'; obtain ⟨y, hw''⟩ := hw'; subst hw''))
              go_wp2
              go_meet
              case rel => exact ⟨k, y, rfl, rfl, hk, HLOW.out, fun h => absurd h hkl⟩
        case rest =>
          obtain ⟨k, z, rfl, rfl, hk, hlow, hen⟩ := hcut
          have HRZ := Lib.hid (HR.out.bel z.bel)
          have HAZ := Lib.hid (HAR.out.bel z.bel HB.out.le)
          have HPZ := Lib.hid (HPX.out.bel z.bel HB.out.le)
          have HBZ := Lib.hid (HB.out.trans z.bel)
          have HLOW : Hid (∀ j (h : j < (L.map Prod.snd).length), j < k → lexL (L.map Prod.snd)[j].a (⟨Xa, Xb, Xs⟩ : AL).a < 0) := Lib.hid (fun j h hj => by rw [List.getElem_map]; exact hlow j (by simpa using h) hj)
          have HEN := Lib.hid hen
          clear hlow hen HR HAR HPX HB HOX x0 x1 x2 l7
          generalize z.w = wz at *
          have x0 := HRZ.out.cell (i := 0) rfl
          have x1 := HRZ.out.cell (i := 1) rfl
          have x2 := HRZ.out.cell (i := 2) rfl
          have l7 := HRZ.out.lt
          obtain ⟨bt, hbt⟩ : ∃ bt : Bool, bt = true ↔ ∃ h : k < L.length, lexL L[k].2.a Xa = 0 := by
            by_cases q : ∃ h : k < L.length, lexL L[k].2.a Xa = 0
            · exact ⟨true, by simpa using q⟩
            · exact ⟨false, by simpa using q⟩
          have HBT := Lib.hid hbt
          clear hbt
          go_upto_region 12 with (fail)
          go_cut [71] from 57 to 71 (fun s71 wx => ∃ (y : Ext wz), wx = y.w ∧ s71 = .bool bt)
          case first =>
            by_cases hkl : k < L.length
            · have hkd : decide ((k : Int) < (L.length : Int)) = true := by simp; omega
              have hki : (k : Int) < (L.length : Int) := by omega
              obtain ⟨g, cg, rfl, hbg, hgl, c0, c1, c2, fz⟩ := HAZ.out.get hkl
              have hik := (HAZ.out.at_ _ (List.getElem_mem hkl)).ints HBZ.out.le
              have hkn := HLL.out _ (List.getElem_mem hkl)
              have hbq : bt = decide (lexL L[k].2.a Xa = 0) := by
                cases bt
                · symm; rw [decide_eq_false_iff_not]
                  intro q; have := HBT.out.2 ⟨hkl, q⟩; cases this
                · symm; rw [decide_eq_true_iff]
                  exact (HBT.out.1 rfl).2
              have HPX0 : Hid (IntsAt wz wz.heap.size (.slice Ax Xa.length kx) Xa) := Lib.hid (HPZ.out.ints HBZ.out.le)
              clear HBT
              generalize L[k] = pk at c0 c1 c2 hik hkn hbq
              obtain ⟨rvk, ⟨ya, yb, ys⟩⟩ := pk
              dsimp only at c0 c1 c2 hik hkn hbq
              obtain ⟨Ak, kk, rfl, _⟩ := hik.form
              have HOR := Lib.hid (fun W (hW : Bel wz W) => rorder_any _ _ ya Xa W (hik.keep hW.keeps hW.le) (HPX0.out.keep hW.keeps hW.le) hkn HXL.out)
              clear hik hkn HPX0
              generalize lexL ya Xa = cm at *
              have d3 : (cm == 0) = bt := by rw [hbq]; rfl
              clear hbq
              (refine wp_region_ext (wb := wz) (by (repeat (first | exact Ext.bel _ | exact Bel.refl | refine Bel.alloc ?_ _ | refine Bel.drew ?_ | refine Bel.drewN ?_ _))) (by kernel_rfl) (by kernel_rfl) ?_; (repeat (any_goals (first | go_big_quiet_step ((go_at_call 91; with_reducible exact ext_call (HOR.out _ (by (repeat (first | exact Ext.bel _ | exact Bel.refl | refine Bel.alloc ?_ _ | refine Bel.drew ?_ | refine Bel.drewN ?_ _)))))) | quiet_step ((go_at_call 91; with_reducible exact ext_call (HOR.out _ (by (repeat (first | exact Ext.bel _ | exact Bel.refl | refine Bel.alloc ?_ _ | refine Bel.drew ?_ | refine Bel.drewN ?_ _)))))) | (refine wpQuiet_step (fun K hK => ?_); go_simp; split <;> (refine hK _ ?_; clear hK K))))); all_goals (refine wpQuiet_nil ?_; intro _ hw'; obtain ⟨y, hw''⟩ := hw'; subst hw''))
              go_wp2
              go_meet
              case rel => exact ⟨y, rfl, rfl⟩
            · have hkd : decide ((k : Int) < (L.length : Int)) = false := by simp; omega
              obtain rfl : bt = false := by
                cases bt
                · rfl
                · obtain ⟨h, _⟩ := HBT.out.1 rfl; exact absurd h hkl
              obtain ⟨A5, c5, rfl, _⟩ := HAZ.out.form
              (refine wp_region_ext (wb := wz) (by (repeat (first | exact Ext.bel _ | exact Bel.refl | refine Bel.alloc ?_ _ | refine Bel.drew ?_ | refine Bel.drewN ?_ _))) (by kernel_rfl) (by kernel_rfl) ?_; (repeat (any_goals (first | go_big_quiet_step (fail) | quiet_step (fail) | (refine wpQuiet_step (fun K hK => ?_); go_simp; split <;> (refine hK _ ?_; clear hK K))))); all_goals (refine wpQuiet_nil ?_; intro _ hw'; obtain ⟨y, hw''⟩ := hw'; subst hw''))
              go_wp2
              go_meet
              case rel => exact ⟨y, rfl, rfl⟩
          case rest =>
          obtain ⟨y2, rfl, rfl⟩ := hcut
          have HRY := Lib.hid (HRZ.out.bel y2.bel)
          have HAY := Lib.hid (HAZ.out.bel y2.bel HBZ.out.le)
          have HPY := Lib.hid (HPZ.out.bel y2.bel HBZ.out.le)
          have HBY := Lib.hid (HBZ.out.trans y2.bel)
          clear HRZ HAZ HPZ HBZ x0 x1 x2 l7
          generalize y2.w = wy at *
          have x0 := HRY.out.cell (i := 0) rfl
          have x1 := HRY.out.cell (i := 1) rfl
          have x2 := HRY.out.cell (i := 2) rfl
          have l7 := HRY.out.lt
          cases bt
          · have HINS : Hid (insA (L.map Prod.snd) ⟨Xa, Xb, Xs⟩ = (L.map Prod.snd).take k ++ ⟨Xa, Xb, Xs⟩ :: (L.map Prod.snd).drop k) := Lib.hid (insA_lt HLOW.out (by simpa using hk) (fun h => by
              have hL : k < L.length := by simpa using h
              have h1 := HEN.out hL
              have h2 : lexL L[k].2.a Xa ≠ 0 := fun q => by have := HBT.out.2 ⟨hL, q⟩; cases this
              rw [List.getElem_map]
              show 0 < lexL L[k].2.a Xa
              omega))
            clear HBT HLOW HEN
            obtain ⟨g, cg, W1, hap, har1, hb1, hg1, hlie⟩ := ar0_lies (w0 := w) (W := wy.alloc (.cells (arC (.slice none 0 0, ⟨[], 0, false⟩)).toArray 25)) (HBY.out.alloc _) (HAY.out.bel (Bel.refl.alloc _) HBY.out.le) (by omega) (RowAt.new wy 25 (arC (.slice none 0 0, ⟨[], 0, false⟩))) IntsK0.nil rfl
            have HR1 : Hid (RowAt W1 p7 25 [.slice Ax Xa.length kx, .int .i64 Xb, .bool Xs]) := Lib.hid ((HRY.out.alloc _).gro hg1 (fun e => by have := HVL.out p7 e.symm; omega))
            have HN1 : Hid (p7 ≠ g) := Lib.hid (by
              rcases hlie with h | h
              · have := HVL.out g h; omega
              · have := HRY.out.lt; rw [h, size_alV]; omega)
            have HP1 : Hid (IntsK0 W1 w.heap.size (.slice Ax Xa.length kx) Xa) := Lib.hid ((HPY.out.bel (Bel.refl.alloc _) HBY.out.le).gro (HAY.out.bel (Bel.refl.alloc _) HBY.out.le).own (Nat.le_refl _) (HBY.out.alloc (.cells (arC (.slice none 0 0, ⟨[], 0, false⟩)).toArray 25)).le hg1)
            have HA1 := Lib.hid har1
            have HB1 := Lib.hid hb1
            unfold arC at hap
            obtain ⟨A5, c5, rfl, _⟩ := HAY.out.form
            clear har1 hb1 hg1 hlie HVL
            go_upto_region 16 with (at_builtin; go_must (refine wpList_append_run rfl _ _ 22 rfl _ _ _ rfl rfl (hap _) ?_))
            clear hap x0 x1 x2 l7 HRY HAY HPY HBY
            have hwj : IntKind.i64.wrap ((L.length : Int) + 1 - 1) = (L.length : Int) := by rw [show (L.length : Int) + 1 - 1 = L.length by omega]; exact IntWalk.i64_in _ (by omega)
            go_upto_block 4 with (fail)
            have hkL := hk
            have HS0 : Hid (AR0 W1 w.heap.size (.slice (some ⟨g, 0, none⟩) (L.length + 1) cg) (L.take L.length ++ ((.slice none 0 0, ⟨[], 0, false⟩) : Value × AL) :: L.drop L.length)) := Lib.hid (by rw [List.take_length, List.drop_length]; exact HA1.out)
            clear HA1
            go_cut [9] from 105 to 117 (fun s9 wx => ∃ (U : World) (e : Value × AL), wx = U ∧ AR0 U w.heap.size (.slice (some ⟨g, 0, none⟩) (L.length + 1) cg) (L.take k ++ e :: L.drop k) ∧ RowAt U p7 25 [.slice Ax Xa.length kx, .int .i64 Xb, .bool Xs] ∧ Bel w U ∧ IntsK0 U w.heap.size (.slice Ax Xa.length kx) Xa)
            case first =>
              go_wp2
              go_loopw [9] (fun s9 wq => ∃ (j : Nat) (U : World) (e : Value × AL), k ≤ j ∧ j ≤ L.length ∧ s9 = .int .i64 j ∧ U = wq ∧ AR0 U w.heap.size (.slice (some ⟨g, 0, none⟩) (L.length + 1) cg) (L.take j ++ e :: L.drop j) ∧ RowAt U p7 25 [.slice Ax Xa.length kx, .int .i64 Xb, .bool Xs] ∧ Bel w U ∧ IntsK0 U w.heap.size (.slice Ax Xa.length kx) Xa) (fun s9 _ => (intOf s9).toNat)
              case atStart => exact ⟨L.length, _, _, hkL, Nat.le_refl _, rfl, rfl, HS0.out, HR1.out, HB1.out, HP1.out⟩
              case round =>
                clear HS0 HR1 HB1 HP1
                obtain ⟨j, U, e, hkj, hjl, rfl, rfl, hau, hru, hbu, hpu⟩ := hrel
                have HAU := Lib.hid hau
                have HRU := Lib.hid hru
                have HBU := Lib.hid hbu
                have HPU := Lib.hid hpu
                clear hau hru hbu hpu
                by_cases hjk : k < j
                · obtain ⟨j, rfl⟩ : ∃ j', j = j' + 1 := ⟨j - 1, by omega⟩
                  have hjd : decide ((k : Int) < ((j + 1 : Nat) : Int)) = true := by simp; omega
                  have hjd2 : decide ((k : Int) < (j : Int) + 1) = true := by simp; omega
                  have hjd3 : decide (k < j + 1) = true := by simp; omega
                  have wj : IntKind.i64.wrap ((j : Int) + 1 - 1) = (j : Int) := by rw [show (j : Int) + 1 - 1 = j by omega]; exact IntWalk.i64_in _ (by omega)
                  have i1 : (j : Int) < (L.length : Int) + 1 := by omega
                  have i2 : (j : Int) + 1 < (L.length : Int) + 1 := by omega
                  have i3 : ¬ (j : Int) + 1 < 0 := by omega
                  have i4 : ((j : Int) + 1).toNat = j + 1 := by omega
                  have hsl := shift_len (L := L) (j := j + 1) (e := e) hjl
                  have hau := HAU.out
                  rw [← hsl] at hau
                  obtain ⟨g1, q1, e1, _, hgl, c0, c1, c2, fz⟩ := hau.get (i := j) (by omega)
                  injection e1 with e1 _ _
                  injection e1 with e1
                  injection e1 with e1 _ _
                  subst e1
                  obtain ⟨g2, q2, e2, _, _, d0, d1, d2, _⟩ := hau.get (i := j + 1) (by omega)
                  injection e2 with e2 _ _
                  injection e2 with e2
                  injection e2 with e2 _ _
                  subst e2
                  rw [shift_get hjl] at c0 c1 c2
                  generalize (L.take (j + 1) ++ e :: L.drop (j + 1))[j + 1]'_ = pe at d0 d1 d2
                  have hjL : j < L.length := by omega
                  have hik := hau.at_ (L[j]) (by
                    refine List.mem_append_left _ ?_
                    exact List.mem_iff_getElem.2 ⟨j, by simp; omega, by simp⟩)
                  obtain ⟨p1, p2, p3⟩ := ar0_put (i := j + 1) (p := L[j]) HBU.out hau (by omega) hik
                  rw [shift_set hjl, hsl] at p1
                  have HA2 := Lib.hid p1
                  have HB2 := Lib.hid p2
                  have HR2 := Lib.hid (HRU.out.gro p3 (fun q => HN1.out (by injection q)))
                  have HP2 : Hid (IntsK0 (putA U g (j + 1) L[j]) w.heap.size (.slice Ax Xa.length kx) Xa) := Lib.hid (HPU.out.gro hau.own (Nat.le_refl _) HBU.out.le p3)
                  have hil2 := hik.ints HBU.out.le
                  clear p1 p2 p3 hau hik hsl HAU HRU HBU HPU
                  generalize L[j] = pj at *
                  obtain ⟨rvj, ⟨ja, jb, js⟩⟩ := pj
                  dsimp only at hil2
                  obtain ⟨Aj, kj, rfl, _⟩ := hil2.form
                  unfold putA at HA2 HB2 HR2 HP2
                  dsimp only at *
                  clear hil2
                  go_wp2
                  go_roundw
                  case rel => exact ⟨j, _, _, by omega, by omega, rfl, rfl, HA2.out, HR2.out, HB2.out, HP2.out⟩
                  case measure => simp [intOf]
                · obtain rfl : j = k := by omega
                  have hjd : decide ((j : Int) < (j : Int)) = false := by simp
                  go_wp2
                  go_meet
                  case rel => exact ⟨_, e, rfl, HAU.out, HRU.out, HBU.out, HPU.out⟩
            case rest =>
              obtain ⟨U, e, rfl, hau, hru, hbu, hpu⟩ := hcut
              have HRU := Lib.hid hru
              have HBU := Lib.hid hbu
              have HPU := Lib.hid hpu
              have i2 : (k : Int) < (L.length : Int) + 1 := by omega
              have hsl := shift_len (L := L) (j := k) (e := e) hk
              rw [← hsl] at hau
              obtain ⟨g2, q2, e2, _, hgl, d0, d1, d2, fz⟩ := hau.get (i := k) (by omega)
              injection e2 with e2 _ _
              injection e2 with e2
              injection e2 with e2 _ _
              subst e2
              generalize (L.take k ++ e :: L.drop k)[k]'_ = pe at d0 d1 d2
              obtain ⟨p1, p2, p3⟩ := ar0_put (i := k) (p := (.slice Ax Xa.length kx, ⟨Xa, Xb, Xs⟩)) HBU.out hau (by omega) HPU.out
              rw [shift_end hk, hsl] at p1
              have HA2 := Lib.hid p1
              have HB2 := Lib.hid p2
              have x0 := HRU.out.cell (i := 0) rfl
              have x1 := HRU.out.cell (i := 1) rfl
              have x2 := HRU.out.cell (i := 2) rfl
              have l7 := HRU.out.lt
              have HLN := Lib.hid (shift_len (L := L) (j := k) (e := ((.slice Ax Xa.length kx, ⟨Xa, Xb, Xs⟩) : Value × AL)) hk)
              have HMX : Hid ((L.take k ++ ((.slice Ax Xa.length kx, ⟨Xa, Xb, Xs⟩) : Value × AL) :: L.drop k).map Prod.snd = insA (L.map Prod.snd) ⟨Xa, Xb, Xs⟩) := Lib.hid (by rw [HINS.out]; simp)
              have HLE : Hid (∀ p, p ∈ L.take k ++ ((.slice Ax Xa.length kx, ⟨Xa, Xb, Xs⟩) : Value × AL) :: L.drop k → p.2.a.length ≤ 1000000) := Lib.hid (fun p hp => by
                rcases List.mem_append.1 hp with q | q
                · exact HLL.out p (List.mem_of_mem_take q)
                · rcases List.mem_cons.1 q with rfl | q
                  · exact HXL.out
                  · exact HLL.out p (List.mem_of_mem_drop q))
              clear p1 p2 p3 hau hsl HRU HBU HPU hru hbu hpu
              unfold putA at HA2 HB2
              go_wp2
              go_roundw
              case rel =>

                exact ⟨i + 1, ⟨_, HB2.out⟩, _, by omega, by go_num, rfl, HA2.out, by rw [HLN.out]; omega, HLE.out, by rw [HMX.out]; exact HFY.out.symm⟩
              case measure => simp [intOf]; omega
          · obtain ⟨hkl, heq⟩ := HBT.out.1 rfl
            have HINS : Hid (insA (L.map Prod.snd) ⟨Xa, Xb, Xs⟩ = (L.map Prod.snd).set k (if Xb < L[k].2.b ∨ Xb = L[k].2.b ∧ Xs = true then ⟨Xa, Xb, Xs⟩ else L[k].2)) := Lib.hid (by
              have := insA_eq (X := ⟨Xa, Xb, Xs⟩) HLOW.out (show k < (L.map Prod.snd).length by simpa using hkl) (by rw [List.getElem_map]; exact heq)
              rw [this]; simp only [List.getElem_map])
            clear HBT HLOW HEN heq
            obtain ⟨g, cg, rfl, hbg, hgl, c0, c1, c2, fz⟩ := HAY.out.get hkl
            have hki : (k : Int) < (L.length : Int) := by omega
            have HPUT := Lib.hid (fun (y : Ext wy) => ar0_put (i := k) (p := (.slice Ax Xa.length kx, ⟨Xa, Xb, Xs⟩)) (HBY.out.trans y.bel) (HAY.out.bel y.bel HBY.out.le) hkl (HPY.out.bel y.bel HBY.out.le))
            unfold putA at HPUT
            dsimp only at HPUT
            have HSAME : Hid ((L.map Prod.snd).set k L[k].2 = L.map Prod.snd) := Lib.hid (by
              have h1 : L[k].2 = (L.map Prod.snd)[k]'(by simpa using hkl) := by rw [List.getElem_map]
              rw [h1, List.set_getElem_self])
            have HLE : Hid (∀ p, p ∈ L.set k ((.slice Ax Xa.length kx, ⟨Xa, Xb, Xs⟩) : Value × AL) → p.2.a.length ≤ 1000000) := Lib.hid (fun p hp => by
              rcases List.mem_or_eq_of_mem_set hp with q | rfl
              · exact HLL.out p q
              · exact HXL.out)
            have HMP : Hid ((L.set k ((.slice Ax Xa.length kx, ⟨Xa, Xb, Xs⟩) : Value × AL)).map Prod.snd = (L.map Prod.snd).set k ⟨Xa, Xb, Xs⟩) := Lib.hid (by rw [List.map_set])
            have HLN : Hid ((L.set k ((.slice Ax Xa.length kx, ⟨Xa, Xb, Xs⟩) : Value × AL)).length = L.length) := Lib.hid (by simp)
            have hrk := (HAY.out.at_ _ (List.getElem_mem hkl)).ints HBY.out.le
            generalize L[k] = pk at *
            obtain ⟨rvk, ⟨ya, yb, ys⟩⟩ := pk
            dsimp only at *
            obtain ⟨Ak, kk, rfl, _⟩ := hrk.form
            clear hrk
            by_cases hbt : Xb < yb
            · have d1 : decide (Xb < yb) = true := decide_eq_true hbt
              have HF2 : Hid (tidyF n ((L.map Prod.snd).set k ⟨Xa, Xb, Xs⟩) (l.drop (i + 1)) = tidyA n l) := Lib.hid (by rw [HFY.out, HINS.out, if_pos (.inl hbt)])
              clear hbt HINS HFY
              go_wp2
              (refine wp_region_ext (wb := wy) (by (repeat (first | exact Ext.bel _ | exact Bel.refl | refine Bel.alloc ?_ _ | refine Bel.drew ?_ | refine Bel.drewN ?_ _))) (by kernel_rfl) (by kernel_rfl) ?_; (repeat (any_goals (first | go_big_quiet_step (fail) | quiet_step (fail) | (refine wpQuiet_step (fun K hK => ?_); go_simp; split <;> (refine hK _ ?_; clear hK K))))); all_goals (refine wpQuiet_nil ?_; intro _ hw'; obtain ⟨y, hw''⟩ := hw'; subst hw''))
              have HPT := Lib.hid (HPUT.out y)
              go_wp2
              go_roundw
              case rel => exact ⟨i + 1, ⟨_, HPT.out.2.1⟩, _, by omega, by go_num, rfl, HPT.out.1, by rw [HLN.out]; omega, HLE.out, by rw [HMP.out]; exact HF2.out⟩
              case measure => simp [intOf]; omega
            · have d1 : decide (Xb < yb) = false := decide_eq_false hbt
              by_cases hbe : Xb = yb
              · have d2 : (Xb == yb) = true := by simp [hbe]
                cases Xs
                · have HF2 : Hid (tidyF n (L.map Prod.snd) (l.drop (i + 1)) = tidyA n l) := Lib.hid (by rw [HFY.out, HINS.out, if_neg (by rintro (q | ⟨_, q⟩); exact hbt q; cases q), HSAME.out])
                  clear hbt hbe HINS HFY
                  go_wp2
                  (refine wp_region_ext (wb := wy) (by (repeat (first | exact Ext.bel _ | exact Bel.refl | refine Bel.alloc ?_ _ | refine Bel.drew ?_ | refine Bel.drewN ?_ _))) (by kernel_rfl) (by kernel_rfl) ?_; (repeat (any_goals (first | go_big_quiet_step (fail) | quiet_step (fail) | (refine wpQuiet_step (fun K hK => ?_); go_simp; split <;> (refine hK _ ?_; clear hK K))))); all_goals (refine wpQuiet_nil ?_; intro _ hw'; obtain ⟨y, hw''⟩ := hw'; subst hw''))
                  go_wp2
                  go_roundw
                  case rel => exact ⟨i + 1, ⟨_, HBY.out.trans y.bel⟩, L, by omega, by go_num, rfl, HAY.out.bel y.bel HBY.out.le, by omega, HLL.out, HF2.out⟩
                  case measure => simp [intOf]; omega
                · have HF2 : Hid (tidyF n ((L.map Prod.snd).set k ⟨Xa, Xb, true⟩) (l.drop (i + 1)) = tidyA n l) := Lib.hid (by rw [HFY.out, HINS.out, if_pos (.inr ⟨hbe, rfl⟩)])
                  clear hbt hbe HINS HFY
                  go_wp2
                  (refine wp_region_ext (wb := wy) (by (repeat (first | exact Ext.bel _ | exact Bel.refl | refine Bel.alloc ?_ _ | refine Bel.drew ?_ | refine Bel.drewN ?_ _))) (by kernel_rfl) (by kernel_rfl) ?_; (repeat (any_goals (first | go_big_quiet_step (fail) | quiet_step (fail) | (refine wpQuiet_step (fun K hK => ?_); go_simp; split <;> (refine hK _ ?_; clear hK K))))); all_goals (refine wpQuiet_nil ?_; intro _ hw'; obtain ⟨y, hw''⟩ := hw'; subst hw''))
                  have HPT := Lib.hid (HPUT.out y)
                  go_wp2
                  go_roundw
                  case rel => exact ⟨i + 1, ⟨_, HPT.out.2.1⟩, _, by omega, by go_num, rfl, HPT.out.1, by rw [HLN.out]; omega, HLE.out, by rw [HMP.out]; exact HF2.out⟩
                  case measure => simp [intOf]; omega
              · have d2 : (Xb == yb) = false := by simp [hbe]
                have HF2 : Hid (tidyF n (L.map Prod.snd) (l.drop (i + 1)) = tidyA n l) := Lib.hid (by rw [HFY.out, HINS.out, if_neg (by rintro (q | ⟨q, _⟩); exact hbt q; exact hbe q), HSAME.out])
                clear hbt hbe HINS HFY
                go_wp2
                (refine wp_region_ext (wb := wy) (by (repeat (first | exact Ext.bel _ | exact Bel.refl | refine Bel.alloc ?_ _ | refine Bel.drew ?_ | refine Bel.drewN ?_ _))) (by kernel_rfl) (by kernel_rfl) ?_; (repeat (any_goals (first | go_big_quiet_step (fail) | quiet_step (fail) | (refine wpQuiet_step (fun K hK => ?_); go_simp; split <;> (refine hK _ ?_; clear hK K))))); all_goals (refine wpQuiet_nil ?_; intro _ hw'; obtain ⟨y, hw''⟩ := hw'; subst hw''))
                go_wp2
                go_roundw
                case rel => exact ⟨i + 1, ⟨_, HBY.out.trans y.bel⟩, L, by omega, by go_num, rfl, HAY.out.bel y.bel HBY.out.le, by omega, HLL.out, HF2.out⟩
                case measure => simp [intOf]; omega
      · rw [hz] at HFX
        have HFY : Hid (tidyA n l = if noneA ⟨Xa, Xb, Xs⟩ then [falseA n] else tidyF n (L.map Prod.snd) (l.drop (i + 1))) := Lib.hid HFX.out
        clear hz HFX
        by_cases hno : noneA ⟨Xa, Xb, Xs⟩
        · have HM : Hid (tidyA n l = [falseA n]) := Lib.hid (by rw [HFY.out, if_pos hno])
          have hmk := fun W => made64 n (by omega) W
          clear HFY
          have hfin : ∀ W', W' = (w5.alloc (.cells (intsV (List.replicate n 0)).toArray 2)).alloc (.cells #[.slice (some ⟨w5.heap.size, 0, none⟩) n n, .int .i64 0, .bool true] 25) → Hid ((∃ L, AR0 W' w.heap.size (.slice (some ⟨w5.heap.size + 1, 0, none⟩) 1 1) L ∧ L.map Prod.snd = tidyA n l) ∧ Bel w W') := by
            rintro W' rfl
            have e : (w5.alloc (.cells (intsV (List.replicate n 0)).toArray 2)).heap.size = w5.heap.size + 1 := size_alV _ _
            rw [← e]
            refine Lib.hid ⟨⟨[((.slice (some ⟨w5.heap.size, 0, none⟩) n n, falseA n) : Value × AL)], ⟨?_, fun p hp => ?_⟩, by rw [HM.out]; rfl⟩, (HB.out.alloc _).alloc _⟩
            · exact own_row (size := 3) (RowAt.new (w5.alloc (.cells (intsV (List.replicate n 0)).toArray 2)) 25 [.slice (some ⟨w5.heap.size, 0, none⟩) n n, .int .i64 0, .bool true]) (Nat.le_trans HB.out.le (by rw [e]; omega)) rfl (by decide)
            · obtain rfl : p = (.slice (some ⟨w5.heap.size, 0, none⟩) n n, falseA n) := by simpa using hp
              exact IntsK0.mine (ownsRow_bel (by have := own_made64 (W := w5) (B := w.heap.size) (n := n) HB.out.le (by omega) (List.replicate n 0) (by simp); exact this) (Bel.refl.alloc _))
          by_cases hb0 : Xb < 0
          · have d1 : decide (Xb < 0) = true := decide_eq_true hb0
            clear hno hb0
            go_wp2
            go_ret
            obtain ⟨⟨L9, a1, a3⟩, a2⟩ := (hfin _ rfl).out
            exact ⟨_, L9, rfl, a1, a3, a2⟩
          · obtain ⟨rfl, rfl⟩ : Xb = 0 ∧ Xs = true := by
              rcases hno with h | h
              · exact absurd h hb0
              · exact h
            have d2 : ((0 : Int) == 0) = true := rfl
            clear hno hb0
            go_wp2
            go_ret
            obtain ⟨⟨L9, a1, a3⟩, a2⟩ := (hfin _ rfl).out
            exact ⟨_, L9, rfl, a1, a3, a2⟩
        · have HM : Hid (tidyF n (L.map Prod.snd) (l.drop (i + 1)) = tidyA n l) := Lib.hid (by rw [HFY.out, if_neg hno])
          clear HFY
          have h1 : ¬ Xb < 0 := fun h => hno (.inl h)
          have d1 : decide (Xb < 0) = false := decide_eq_false h1
          by_cases h2 : Xb = 0
          · obtain rfl : Xs = false := by
              cases Xs
              · rfl
              · exact absurd (.inr ⟨h2, rfl⟩) hno
            subst h2
            have d2 : ((0 : Int) == 0) = true := rfl
            clear hno h1
            go_wp2
            go_roundw
            case rel => exact ⟨i + 1, ⟨_, HB.out⟩, L, by omega, by go_num, rfl, HAR.out, by omega, HLL.out, HM.out⟩
            case measure => simp [intOf]; omega
          · have d2 : (Xb == 0) = false := by simp [h2]
            clear hno h1 h2
            go_wp2
            go_roundw
            case rel => exact ⟨i + 1, ⟨_, HB.out⟩, L, by omega, by go_num, rfl, HAR.out, by omega, HLL.out, HM.out⟩
            case measure => simp [intOf]; omega
    · obtain rfl : i = l.length := by omega
      have hd : decide ((l.length : Int) < (l.length : Int)) = false := by simp
      have HM : Hid (tidyA n l = L.map Prod.snd) := Lib.hid (by rw [← HF.out, List.drop_length]; rfl)
      have HLN := Lib.hid (HAR.out.lines y.bel.le)
      clear HF
      go_wp2
      go_ret
      exact ⟨_, L, rfl, HAR.out, HM.out.symm, y.bel⟩
end Go.Proofs.Ytalphoebmefgoaa
