import Derived.Test.YthcdemmamggboaaZTsec
import Derived.Deep.Cut
namespace Go.Proofs.Ythcdemmamggboaa
open Go.RowKit
set_option maxRecDepth 100000 in
set_option maxHeartbeats 4000000 in
theorem rcheck_any (v : Value) (l : List Tsk) (w : World) (h : TsksAt w w.heap.size v l) (hl : l.length ≤ 1000000) (hs : ∀ i, i < l.length → (tskAt l i).secs.length ≤ 1000000 ∧ (tskAt l i).name.size ≤ 1000000) :
    Calls Try.prog 14 #[v] w fun e w' => e = .returned (.int .i64 (rchk l)) ∧ Bel w w' := by
  obtain ⟨A, c, rfl, hlc⟩ := h.form
  by_cases h8 : 8 < l.length
  · have hr : Hid (rchk l = 3) := by apply Lib.hid; simp [rchk, h8]
    go_enter Try.func14, Try.ntmps14
    go_wp2
    go_ret
    exact ⟨ret_int (by rw [hr.out]), Bel.refl⟩
  have hr : Hid (rchk l = if manySecs l then 3 else if l.length = 0 then 2 else rchkT [] l) := by apply Lib.hid; simp [rchk, h8]
  go_enter Try.func14, Try.ntmps14
  go_wp2
  go_loop [3] (fun i => ∃ (k : Nat), k ≤ l.length ∧ i = .int .i64 k ∧ manySecs (l.drop k) = manySecs l) (fun i => l.length - (intOf i).toNat)
  case atStart => exact ⟨0, by omega, rfl, rfl⟩
  case round =>
    obtain ⟨k, hk, rfl, hd⟩ := hrel
    by_cases hlt : k < l.length
    · obtain ⟨b, off, rfl, hb, hA⟩ := h.at_ (by omega)
      obtain ⟨sv, hT, hS⟩ := hA k hlt
      obtain ⟨A2, c2, rfl, hc2⟩ := hS.form
      obtain ⟨hs1, hs2⟩ := hs k hlt
      obtain ⟨t0, t1, t2, t3, t4, t5, t6⟩ := hT
      have HD : Hid ((if 4 < (tskAt l k).secs.length then true else manySecs (l.drop (k + 1))) = manySecs l) := Lib.hid (by rw [← hd, tsks_drop hlt]; rfl)
      clear hd hA t0 t1 t2 t3 t4 t5
      go_wp2
      · go_ret
        exact ⟨ret_int (by rw [hr.out, if_pos (by rw [← HD.out, if_pos (by omega)])]), Bel.refl⟩
      · go_round
        case rel => exact ⟨k+1, by omega, by go_num, by rw [← HD.out]; symm; rw [if_neg (by omega)]⟩
        case measure => simp [intOf]; omega
    · have : k = l.length := by omega
      subst this
      replace hr : Hid (rchk l = if l.length = 0 then 2 else rchkT [] l) := by apply Lib.hid; rw [hr.out, ← hd]; simp [manySecs]
      clear hd
      by_cases h0 : l.length = 0
      · replace hr : Hid (rchk l = 2) := by apply Lib.hid; rw [hr.out, if_pos h0]
        have hz : ((l.length : Int) == 0) = true := by simp [h0]
        clear h0
        go_wp2
        go_ret
        exact ⟨ret_int (by rw [hr.out]), Bel.refl⟩
      replace hr : Hid (rchk l = rchkT [] l) := by apply Lib.hid; rw [hr.out, if_neg h0]
      have hz : ((l.length : Int) == 0) = false := beq_eq_false_iff_ne.2 (by omega)
      obtain ⟨b, off, rfl, hb, hA⟩ := h.at_ (by omega)
      go_wp2
      clear hlt hk hz
      go_loopw [4] (fun i wr => ∃ (k : Nat) (x : Ext w), k ≤ l.length ∧ i = .int .i64 k ∧ wr = x.w ∧ rchkT (l.take k) (l.drop k) = rchkT [] l) (fun i _ => l.length - (intOf i).toNat)
      case atStart => exact ⟨0, ⟨_, Bel.refl⟩, by omega, rfl, rfl, rfl⟩
      case round =>
        obtain ⟨k, x, hk, rfl, rfl, hd⟩ := hrel
        by_cases hlt : k < l.length
        · obtain ⟨sv, hT, hS⟩ := hA k hlt
          obtain ⟨A2, c2, rfl, hc2⟩ := hS.form
          obtain ⟨hs1, hs2⟩ := hs k hlt
          obtain ⟨t0, t1, t2, t3, t4, t5, t6⟩ := hT
          have HG : tskBad (tskAt l k) = false → rsecsOk (tskAt l k) = true → twinAny (tskAt l k) (l.take k) = false → Hid (rchkT (l.take (k + 1)) (l.drop (k + 1)) = rchkT [] l) := fun h0 h1 h2 => by
            apply Lib.hid; rw [← hd, tsks_drop hlt, tsks_snoc hlt]; simp [rchkT, h0, h1, h2]
          have HF : (tskBad (tskAt l k) = true ∨ rsecsOk (tskAt l k) = false) → Hid (rchkT [] l = 2) := fun h0 => by
            apply Lib.hid; rw [← hd, tsks_drop hlt]; rcases h0 with h0 | h0 <;> simp [rchkT, h0]
          have HF2 : twinAny (tskAt l k) (l.take k) = true → Hid (rchkT [] l = 2) := fun h0 => by
            apply Lib.hid; rw [← hd, tsks_drop hlt]; simp [rchkT, h0]
          clear hd
          go_upto_region 14 with (fail)
          (generalize hW : World.alloc _ _ = wb; have q0_0 := (congrArg (fun W : World => W.cell? ⟨x.w.heap.size, 0, none⟩) hW).symm; simp [go_sem] at q0_0; have q0_1 := (congrArg (fun W : World => W.cell? ⟨x.w.heap.size, 1, none⟩) hW).symm; simp [go_sem] at q0_1; have q0_2 := (congrArg (fun W : World => W.cell? ⟨x.w.heap.size, 2, none⟩) hW).symm; simp [go_sem] at q0_2; have q0_3 := (congrArg (fun W : World => W.cell? ⟨x.w.heap.size, 3, none⟩) hW).symm; simp [go_sem] at q0_3; have q0_4 := (congrArg (fun W : World => W.cell? ⟨x.w.heap.size, 4, none⟩) hW).symm; simp [go_sem] at q0_4; have q0_5 := (congrArg (fun W : World => W.cell? ⟨x.w.heap.size, 5, none⟩) hW).symm; simp [go_sem] at q0_5; have q0_6 := (congrArg (fun W : World => W.cell? ⟨x.w.heap.size, 6, none⟩) hW).symm; simp [go_sem] at q0_6; have qz0 : x.w.heap.size < wb.heap.size := (by rw [← hW]; simp [go_sem]; try omega); have HBW : Hid (Bel w wb) := Lib.hid (by rw [← hW]; (repeat (first | exact Ext.bel _ | exact Bel.refl | refine Bel.alloc ?_ _ | refine Bel.drew ?_ | refine Bel.drewN ?_ _))); clear hW; have hkw := HBW.out.cells; have : b < wb.heap.size := (Nat.lt_of_lt_of_le (by first | assumption | omega) HBW.out.le))
          clear t0 t1 t2 t3 t4 t5 t6
          have hS2 := hS.keep HBW.out.keeps HBW.out.le
          have hne := @bytes_empty (tskAt l k).name
          cases hbad : tskBad (tskAt l k)
          · obtain ⟨b0, b1, b2, b3, b4, b5, b6, b7, b8, b9, b10⟩ := tskBad_false.1 hbad
            replace hne : (tskAt l k).name.toList.isEmpty = false := by rw [hne]; simpa using b0
            have hne2 : ¬ (tskAt l k).name.toList = [] := by intro h; rw [h] at hne; cases hne
            have HC : ∀ W, SecsAt W W.heap.size (.slice A2 (tskAt l k).secs.length c2) (tskAt l k).secs → Calls Try.prog 29 #[tskV (tskAt l k) (.slice A2 (tskAt l k).secs.length c2)] W fun e w' => e = .returned (.bool (rsecsOk (tskAt l k))) ∧ Bel W w' := fun W hW => rsections_any _ _ _ hW (by omega)
            have HG := HG hbad
            cases hro : rsecsOk (tskAt l k)
            · rw [hro] at HC
              have HF := HF (.inr hro)
              have HC := Lib.hid HC
              clear hro hbad
              go_wp2_with (go_at_call 29; (refine (HC.out _ hS2).mono ?_); rintro e w2 ⟨rfl, hb2⟩; obtain ⟨x, rfl⟩ : ∃ x : Ext wb, w2 = x.w := ext_of (hb2.after (by (repeat (first | exact Ext.bel _ | exact Bel.refl | refine Bel.alloc ?_ _ | refine Bel.drew ?_ | refine Bel.drewN ?_ _)))); clear hb2)
              go_ret
              exact ⟨ret_int (by rw [hr.out, HF.out]), HBW.out.trans x.bel⟩
            · rw [hro] at HC
              have HG := HG hro
              have HC := Lib.hid HC
              clear hro hbad
              go_wp2_with (go_at_call 29; (refine (HC.out _ hS2).mono ?_); rintro e w2 ⟨rfl, hb2⟩; obtain ⟨x, rfl⟩ : ∃ x : Ext wb, w2 = x.w := ext_of (hb2.after (by (repeat (first | exact Ext.bel _ | exact Bel.refl | refine Bel.alloc ?_ _ | refine Bel.drew ?_ | refine Bel.drewN ?_ _)))); clear hb2)
              clear hne hne2 b0 b1 b2 b3 b4 b5 b6 b7 b8 b9 b10
              rename_i y0
              go_loopw [6] (fun i wr => ∃ (j : Nat) (z : Ext wb), j ≤ k ∧ i = .int .i64 j ∧ wr = z.w ∧ twinAny (tskAt l k) ((l.take k).drop j) = twinAny (tskAt l k) (l.take k)) (fun i _ => k - (intOf i).toNat)
              case atStart => exact ⟨0, x, by omega, rfl, rfl, rfl⟩
              case round =>
                obtain ⟨j, z, hj, rfl, rfl, hd⟩ := hrel
                by_cases hltj : j < k
                · obtain ⟨sv', hT', hS'⟩ := hA j (by omega)
                  obtain ⟨t0, t1, t2, t3, t4, t5, t6⟩ := hT'
                  have HGj : twin (tskAt l k) (tskAt l j) = false → Hid (twinAny (tskAt l k) ((l.take k).drop (j + 1)) = twinAny (tskAt l k) (l.take k)) := fun h0 => by
                    apply Lib.hid; rw [← hd, tsks_take hltj (by omega)]; simp [twinAny, h0]
                  have HFj : twin (tskAt l k) (tskAt l j) = true → Hid (rchkT [] l = 2) := fun h0 => by
                    apply HF2; rw [← hd, tsks_take hltj (by omega)]; simp [twinAny, h0]
                  have hltj2 : j < l.length := by omega
                  clear hd t1 t2 t3 t4 t6 hS'
                  go_wp2
                  (refine wp_region_ext (wb := wb) (by (repeat (first | exact Ext.bel _ | exact Bel.refl | refine Bel.alloc ?_ _ | refine Bel.drew ?_ | refine Bel.drewN ?_ _))) (by kernel_rfl) (by kernel_rfl) ?_; (repeat (any_goals (first | go_big_quiet_step (fail) | quiet_step (fail) | (refine wpQuiet_step (fun K hK => ?_); go_simp; split <;> (refine hK _ ?_; clear hK K))))); all_goals (refine wpQuiet_nil ?_; intro _ hw'; obtain ⟨y, hw''⟩ := hw'; subst hw''))
                  all_goals go_wp2
                  all_goals first
                    | (go_roundw
                       case rel => exact ⟨j + 1, y, by omega, by go_num, rfl, (HGj (by simp [twin, *] <;> simp_all)).out⟩
                       case measure => simp [intOf]; omega)
                    | (go_ret
                       exact ⟨ret_int (by rw [hr.out, (HFj (by simp [twin, *] <;> simp_all)).out]), HBW.out.trans y.bel⟩)
                · have : j = k := by omega
                  subst this
                  have HX := HG (by rw [← hd]; simp [twinAny])
                  clear hd HG HF HF2
                  go_wp2
                  go_roundw
                  case rel => exact ⟨j + 1, ⟨_, HBW.out.trans z.bel⟩, by omega, by go_num, rfl, HX.out⟩
                  case measure => simp [intOf]; omega
          · have hb2 := tskBad_true.1 hbad
            have HF := HF (.inl hbad)
            rw [show decide ((tskAt l k).name.size = 0) = decide ((tskAt l k).name.size = 0) from rfl] at hne
            have HN := Lib.hid hne
            clear hbad hne
            go_wp2_with (go_at_call 29; (refine (rsections_any (tskAt l k) _ _ hS2 (by omega)).mono ?_); rintro e w2 ⟨rfl, hb2⟩; obtain ⟨x, rfl⟩ : ∃ x : Ext wb, w2 = x.w := ext_of (hb2.after (by (repeat (first | exact Ext.bel _ | exact Bel.refl | refine Bel.alloc ?_ _ | refine Bel.drew ?_ | refine Bel.drewN ?_ _)))); clear hb2)
            all_goals first
              | (go_ret
                 exact ⟨ret_int (by rw [hr.out, HF.out]), by first | exact HBW.out | exact HBW.out.trans x.bel⟩)
              | (exfalso
                 have h1 : (tskAt l k).name.size ≠ 0 := by intro h0; have h2 := HN.out; simp [h0] at h2; exact absurd h2 ‹_›
                 omega)
        · have : k = l.length := by omega
          subst this
          have HX : Hid (rchkT [] l = 0) := by apply Lib.hid; rw [← hd]; simp [rchkT]
          clear hd
          go_wp2
          go_ret
          exact ⟨ret_int (by rw [hr.out, HX.out]), x.bel⟩
end Go.Proofs.Ythcdemmamggboaa
