import Derived.Test.YthcdemmamggboaaG2
namespace Go.Proofs.Ythcdemmamggboaa
open Go.RowKit
set_option maxRecDepth 100000 in
set_option maxHeartbeats 4000000 in
theorem sections_any (t : Tsk) (sv : Value) (w : World) (h : SecsAt w w.heap.size sv t.secs) (hl : t.secs.length ≤ 1000000) :
    Calls Try.prog 44 #[tskV t sv] w fun e w' => e = .returned (.bool (secsOkP t.cost [] t.secs)) ∧ Bel w w' := by
  unfold tskV
  obtain ⟨A, c, rfl, hlc⟩ := h.form
  go_enter Try.func44, Try.ntmps44
  go_wp2
  generalize hW : w.alloc _ = w1
  have hB : Bel w w1 := hW ▸ Bel.refl.alloc _
  have hbb : w.heap.size < w1.heap.size := by rw [← hW]; simp
  have g4 : w1.cell? ⟨w.heap.size, 4, none⟩ = some (.int .i64 t.cost) := by rw [← hW]; simp [go_sem]
  have g6 : w1.cell? ⟨w.heap.size, 6, none⟩ = some (.slice A t.secs.length c) := by rw [← hW]; simp [go_sem]
  have hS := h.keep hB.keeps hB.le
  generalize w.heap.size = p0 at *
  clear hW h
  go_wp2
  go_loopw [12] (fun i wr => ∃ (k : Nat) (x : Ext w1), k ≤ t.secs.length ∧ i = .int .i64 k ∧ wr = x.w ∧ secsOkP t.cost (t.secs.take k) (t.secs.drop k) = secsOkP t.cost [] t.secs) (fun i _ => t.secs.length - (intOf i).toNat)
  case atStart => exact ⟨0, ⟨_, Bel.refl⟩, by omega, rfl, rfl, rfl⟩
  case round =>
    obtain ⟨k, x, hk, rfl, rfl, hd⟩ := hrel
    have HD := Lib.hid hd
    clear hd
    have hkc : k ≤ c := by omega
    by_cases hlt : k < t.secs.length
    · obtain ⟨b, off, rfl, hb, hA⟩ := hS.at_ (by omega)
      obtain ⟨s0, s1, s2⟩ := (hA k hlt)
      go_wp2
      have hs := x.bel.le
      (generalize hW : World.alloc _ _ = wb; have q0_0 := (congrArg (fun W : World => W.cell? ⟨x.w.heap.size, 0, none⟩) hW).symm; simp [go_sem] at q0_0; have q0_1 := (congrArg (fun W : World => W.cell? ⟨x.w.heap.size, 1, none⟩) hW).symm; simp [go_sem] at q0_1; have q0_2 := (congrArg (fun W : World => W.cell? ⟨x.w.heap.size, 2, none⟩) hW).symm; simp [go_sem] at q0_2; have qz0 : x.w.heap.size < wb.heap.size := (by rw [← hW]; simp [go_sem]; try omega); have HBW : Hid (Bel w1 wb) := Lib.hid (by rw [← hW]; (repeat (first | exact Ext.bel _ | exact Bel.refl | refine Bel.alloc ?_ _ | refine Bel.drew ?_ | refine Bel.drewN ?_ _))); clear hW; have hkw := HBW.out.cells; have : p0 < wb.heap.size := (Nat.lt_of_lt_of_le (by first | assumption | omega) HBW.out.le); have : b < wb.heap.size := (Nat.lt_of_lt_of_le (by first | assumption | omega) HBW.out.le))
      have HB1 := HBW
      have HG : secBadP t.cost (secAt t.secs k) = false → clashAny (secAt t.secs k) (t.secs.take k) = false → Hid (secsOkP t.cost (t.secs.take (k + 1)) (t.secs.drop (k + 1)) = secsOkP t.cost [] t.secs) := fun h0 h1 => by
        apply Lib.hid; rw [← HD.out, secs_drop hlt, secs_snoc hlt]; simp [secsOkP, h0, h1]
      have HF : (secBadP t.cost (secAt t.secs k) = true ∨ clashAny (secAt t.secs k) (t.secs.take k) = true) → Hid (secsOkP t.cost [] t.secs = false) := fun h0 => by
        apply Lib.hid; rw [← HD.out, secs_drop hlt]; simp [secsOkP]; intro h1 h2; simp [h1, h2] at h0
      clear HD s0 s1 s2
      refine wp_region_ext (wb := wb) (by (repeat (first | exact Ext.bel _ | exact Bel.refl | refine Bel.alloc ?_ _ | refine Bel.drew ?_ | refine Bel.drewN ?_ _))) (by kernel_rfl) (by kernel_rfl) ?_
      iterate 4 (go_big_quiet_step ((go_at_call 47; exact ext_call (ends_any (secAt t.secs k) _))))
      repeat (any_goals (first | go_big_quiet_step ((go_at_call 47; exact ext_call (ends_any (secAt t.secs k) _))) | quiet_step ((go_at_call 47; exact ext_call (ends_any (secAt t.secs k) _))) | (refine wpQuiet_step (fun K hK => ?_); go_simp; split <;> (refine hK _ ?_; clear hK K))))
      all_goals refine wpQuiet_nil ?_
      all_goals (intro _ hw'; obtain ⟨y, hw''⟩ := hw'; subst hw'')
      all_goals go_wp2
      all_goals first
        | (go_ret
           exact ⟨ret_bool (by rw [(HF (Or.inl (by simp [secBadP, *] <;> omega))).out]), hB.trans (HB1.out.trans y.bel)⟩)
        | skip
      have HG := HG (by simp [secBadP, *] <;> omega)
      clear hs
      go_loopw [63] (fun i wr => ∃ (j : Nat) (z : Ext wb), j ≤ k ∧ i = .int .i64 j ∧ wr = z.w ∧ clashAny (secAt t.secs k) ((t.secs.take k).drop j) = clashAny (secAt t.secs k) (t.secs.take k)) (fun i _ => k - (intOf i).toNat)
      case atStart => exact ⟨0, y, by omega, rfl, rfl, rfl⟩
      case round =>
        obtain ⟨j, z, hj, rfl, rfl, hd⟩ := hrel
        have HD := Lib.hid hd
        clear hd
        by_cases hltj : j < k
        · obtain ⟨r0, r1, r2⟩ := (hA j (by omega))
          go_wp2
          (generalize hW : World.alloc _ _ = wc; have q0_0 := (congrArg (fun W : World => W.cell? ⟨z.w.heap.size, 0, none⟩) hW).symm; simp [go_sem] at q0_0; have q0_1 := (congrArg (fun W : World => W.cell? ⟨z.w.heap.size, 1, none⟩) hW).symm; simp [go_sem] at q0_1; have q0_2 := (congrArg (fun W : World => W.cell? ⟨z.w.heap.size, 2, none⟩) hW).symm; simp [go_sem] at q0_2; have qz0 : z.w.heap.size < wc.heap.size := (by rw [← hW]; simp [go_sem]; try omega); have q1_0 := (congrArg (fun W : World => W.cell? ⟨z.w.heap.size + 1, 0, none⟩) hW).symm; simp [go_sem] at q1_0; have q1_1 := (congrArg (fun W : World => W.cell? ⟨z.w.heap.size + 1, 1, none⟩) hW).symm; simp [go_sem] at q1_1; have qz1 : z.w.heap.size + 1 < wc.heap.size := (by rw [← hW]; simp [go_sem]; try omega); have HBW : Hid (Bel wb wc) := Lib.hid (by rw [← hW]; (repeat (first | exact Ext.bel _ | exact Bel.refl | refine Bel.alloc ?_ _ | refine Bel.drew ?_ | refine Bel.drewN ?_ _))); clear hW; have hkw := HBW.out.cells; have : x.w.heap.size < wc.heap.size := (Nat.lt_of_lt_of_le (by first | assumption | omega) HBW.out.le); have : p0 < wc.heap.size := (Nat.lt_of_lt_of_le (by first | assumption | omega) HBW.out.le); have : b < wc.heap.size := (Nat.lt_of_lt_of_le (by first | assumption | omega) HBW.out.le))
          have hz := z.bel.le
          have HGj : clash (secAt t.secs k) (secAt t.secs j) = false → Hid (clashAny (secAt t.secs k) ((t.secs.take k).drop (j + 1)) = clashAny (secAt t.secs k) (t.secs.take k)) := fun h0 => by
            apply Lib.hid; rw [← HD.out, secs_take hltj (by omega)]; simp [clashAny, h0]
          have HFj : clash (secAt t.secs k) (secAt t.secs j) = true → Hid (secsOkP t.cost [] t.secs = false) := fun h0 => by
            apply HF; right; rw [← HD.out, secs_take hltj (by omega)]; simp [clashAny, h0]
          clear HD r0 r1 r2 HG hA
          (refine wp_region_ext (wb := wc) (by (repeat (first | exact Ext.bel _ | exact Bel.refl | refine Bel.alloc ?_ _ | refine Bel.drew ?_ | refine Bel.drewN ?_ _))) (by kernel_rfl) (by kernel_rfl) ?_; (repeat (any_goals (first | go_big_quiet_step (first | (go_at_call 50; exact ext_call (overlaps_any (secAt t.secs k) (secAt t.secs j) _)) | (go_at_call 48; exact ext_call (contains_any (secAt t.secs k) (secAt t.secs j) _)) | (go_at_call 49; exact ext_call (sections1_any (secAt t.secs k) (secAt t.secs j) _))) | quiet_step (first | (go_at_call 50; exact ext_call (overlaps_any (secAt t.secs k) (secAt t.secs j) _)) | (go_at_call 48; exact ext_call (contains_any (secAt t.secs k) (secAt t.secs j) _)) | (go_at_call 49; exact ext_call (sections1_any (secAt t.secs k) (secAt t.secs j) _))) | (refine wpQuiet_step (fun K hK => ?_); go_simp; split <;> (refine hK _ ?_; clear hK K))))); all_goals (refine wpQuiet_nil ?_; intro _ hw'; obtain ⟨y, hw''⟩ := hw'; subst hw''))
          all_goals go_wp2
          all_goals first
            | (go_roundw
               case rel => exact ⟨j + 1, ⟨_, HBW.out.trans y.bel⟩, by omega, by go_num, rfl, (HGj (by simp [clash, *] <;> simp_all)).out⟩
               case measure => simp [intOf]; omega)
            | (go_ret
               exact ⟨ret_bool (by rw [(HFj (by simp [clash, *] <;> simp_all)).out]), hB.trans (HB1.out.trans (HBW.out.trans y.bel))⟩)
        · have : j = k := by omega
          subst this
          have HX := HG (by rw [← HD.out]; simp [clashAny])
          clear HG HF HD
          go_wp2
          go_roundw
          case rel => exact ⟨j + 1, ⟨_, HB1.out.trans z.bel⟩, by omega, by go_num, rfl, HX.out⟩
          case measure => simp [intOf]; omega
    · have : k = t.secs.length := by omega
      subst this
      have HX : Hid (secsOkP t.cost [] t.secs = true) := by apply Lib.hid; rw [← HD.out]; simp [secsOkP]
      clear HD
      go_wp2
      go_ret
      exact ⟨ret_bool (by rw [HX.out]), hB.trans x.bel⟩
end Go.Proofs.Ythcdemmamggboaa
