import Derived.Test.YthcdemmamggboaaG2
namespace Go.Proofs.Ythcdemmamggboaa
open Go.RowKit
set_option maxHeartbeats 4000000 in
theorem rsections_any (t : Tsk) (sv : Value) (w : World) (h : SecsAt w w.heap.size sv t.secs) (hl : t.secs.length ≤ 1000000) :
    Calls Try.prog 29 #[tskV t sv] w fun e w' => e = .returned (.bool (okAll t.cost t.secs && noClash [] t.secs)) ∧ Bel w w' := by
  unfold tskV
  go_enter Try.func29, Try.ntmps29
  go_wp2
  generalize hW : w.alloc _ = w1
  have hB : Bel w w1 := hW ▸ Bel.refl.alloc _
  have hbb : w.heap.size < w1.heap.size := by rw [← hW]; simp
  have g4 : w1.cell? ⟨w.heap.size, 4, none⟩ = some (.int .i64 t.cost) := by rw [← hW]; simp [go_sem]
  have g6 : w1.cell? ⟨w.heap.size, 6, none⟩ = some sv := by rw [← hW]; simp [go_sem]
  have hS := h.keep hB.keeps hB.le
  generalize w.heap.size = p0 at *
  obtain ⟨A, c, rfl, hc, hA⟩ := hS
  clear hW h
  go_loopw [3] (fun i wr => ∃ k : Nat, k ≤ t.secs.length ∧ i = .int .i64 k ∧ Bel w1 wr ∧ okAll t.cost (t.secs.drop k) = okAll t.cost t.secs) (fun i _ => t.secs.length - (intOf i).toNat)
  case atStart => exact ⟨0, by omega, rfl, Bel.refl, rfl⟩
  case round =>
    obtain ⟨k, hk, rfl, hb, hd⟩ := hrel
    have HD := Lib.hid hd
    clear hd
    have e4 := (hb.keeps _ 4 hbb).trans g4
    have e6 := (hb.keeps _ 6 hbb).trans g6
    have hsz := hb.le
    have hp : p0 < wr.heap.size := by omega
    have HB := Lib.hid hb
    clear hb
    by_cases hlt : k < t.secs.length
    · obtain ⟨b, off, rfl, hb, hA⟩ := hA (by omega)
      obtain ⟨s0, s1, s2⟩ := (hA k hlt).keep HB.out.keeps hb
      clear hA
      have hb3 : b < wr.heap.size := by omega
      have HG : secBad t.cost (secAt t.secs k) = false → Hid (okAll t.cost (t.secs.drop (k + 1)) = okAll t.cost t.secs) := fun h0 => by
        apply Lib.hid; rw [← HD.out, secs_drop hlt]; simp [okAll, h0]
      have HF : secBad t.cost (secAt t.secs k) = true → Hid (okAll t.cost t.secs = false) := fun h0 => by
        apply Lib.hid; rw [← HD.out, secs_drop hlt]; simp [okAll, h0]
      go_wp2
      all_goals first
        | (go_roundw
           case rel => exact ⟨k + 1, by omega, by go_num, HB.out.alloc _, (HG (by simp [secBad, *])).out⟩
           case measure => simp [intOf]; omega)
        | (go_ret
           exact ⟨ret_bool (by rw [(HF (by simp [secBad, *])).out]; rfl), hB.trans (HB.out.alloc _)⟩)
    · have : k = t.secs.length := by omega
      subst this
      have HO : Hid (okAll t.cost t.secs = true) := by apply Lib.hid; rw [← HD.out]; simp [okAll]
      clear HD
      go_wp2
      clear e4 e6 hsz hp hlt
      go_loopw [5] (fun i wr => ∃ k : Nat, k ≤ t.secs.length ∧ i = .int .i64 k ∧ Bel w1 wr ∧ noClash (t.secs.take k) (t.secs.drop k) = noClash [] t.secs) (fun i _ => t.secs.length - (intOf i).toNat)
      case atStart => exact ⟨0, by omega, rfl, HB.out, rfl⟩
      case round =>
        clear HB
        obtain ⟨k, hk, rfl, hb, hd⟩ := hrel
        have HD := Lib.hid hd
        clear hd
        have e6 := (hb.keeps _ 6 hbb).trans g6
        have hp : p0 < wr.heap.size := by have := hb.le; omega
        have HB := Lib.hid hb
        clear hb
        by_cases hlt : k < t.secs.length
        · have HG : clashAny (secAt t.secs k) (t.secs.take k) = false → Hid (noClash (t.secs.take (k + 1)) (t.secs.drop (k + 1)) = noClash [] t.secs) := fun h0 => by
            apply Lib.hid; rw [← HD.out, secs_drop hlt, secs_snoc hlt]; simp [noClash, h0]
          have HF : clashAny (secAt t.secs k) (t.secs.take k) = true → Hid (noClash [] t.secs = false) := fun h0 => by
            apply Lib.hid; rw [← HD.out, secs_drop hlt]; simp [noClash, h0]
          clear HD
          go_wp2
          clear e6 hp
          go_loopw [6] (fun i wr => ∃ j : Nat, j ≤ k ∧ i = .int .i64 j ∧ Bel w1 wr ∧ clashAny (secAt t.secs k) ((t.secs.take k).drop j) = clashAny (secAt t.secs k) (t.secs.take k)) (fun i _ => k - (intOf i).toNat)
          case atStart => exact ⟨0, by omega, rfl, HB.out, rfl⟩
          case round =>
            clear HB
            obtain ⟨j, hj, rfl, hb, hd⟩ := hrel
            have HD := Lib.hid hd
            clear hd
            have e6 := (hb.keeps _ 6 hbb).trans g6
            have hp : p0 < wr.heap.size := by have := hb.le; omega
            have HB := Lib.hid hb
            clear hb
            by_cases hltj : j < k
            · obtain ⟨b, off, rfl, hb, hA⟩ := hA (by omega)
              obtain ⟨s0, s1, s2⟩ := (hA k hlt).keep HB.out.keeps hb
              obtain ⟨r0, r1, r2⟩ := (hA j (by omega)).keep HB.out.keeps hb
              have hb3 : b < wr.heap.size := by have := HB.out.le; omega
              have hltj' : j < t.secs.length := by omega
              clear hA
              go_wp2
              have HGj : clash (secAt t.secs k) (secAt t.secs j) = false → Hid (clashAny (secAt t.secs k) ((t.secs.take k).drop (j + 1)) = clashAny (secAt t.secs k) (t.secs.take k)) := fun h0 => by
                apply Lib.hid; rw [← HD.out, secs_take hltj (by omega)]; simp [clashAny, h0]
              have HFj : clash (secAt t.secs k) (secAt t.secs j) = true → Hid (noClash [] t.secs = false) := fun h0 => by
                apply HF; rw [← HD.out, secs_take hltj (by omega)]; simp [clashAny, h0]
              clear HD
              go_region
              all_goals clear s0 s1 s2 r0 r1 r2 e6 hp
              all_goals (generalize hW : World.drew _ = wb; have q0_0 := (congrArg (fun W : World => W.cell? ⟨wr.heap.size, 0, none⟩) hW).symm; simp [go_sem] at q0_0; have q0_1 := (congrArg (fun W : World => W.cell? ⟨wr.heap.size, 1, none⟩) hW).symm; simp [go_sem] at q0_1; have q0_2 := (congrArg (fun W : World => W.cell? ⟨wr.heap.size, 2, none⟩) hW).symm; simp [go_sem] at q0_2; have qz0 : wr.heap.size < wb.heap.size := (by rw [← hW]; simp [go_sem]; try omega); have q1_0 := (congrArg (fun W : World => W.cell? ⟨wr.heap.size + 1, 0, none⟩) hW).symm; simp [go_sem] at q1_0; have q1_1 := (congrArg (fun W : World => W.cell? ⟨wr.heap.size + 1, 1, none⟩) hW).symm; simp [go_sem] at q1_1; have q1_2 := (congrArg (fun W : World => W.cell? ⟨wr.heap.size + 1, 2, none⟩) hW).symm; simp [go_sem] at q1_2; have qz1 : wr.heap.size + 1 < wb.heap.size := (by rw [← hW]; simp [go_sem]; try omega); have HB0 : Hid (Bel w1 wb) := Lib.hid (by rw [← hW]; (repeat (first | exact HB.out | refine Bel.alloc ?_ _ | refine Bel.drew ?_ | refine Bel.drewN ?_ _))); clear hW; replace HB : Hid (Bel wb wb) := Lib.hid Bel.refl)
              all_goals go_wp2_with (first
                | (go_at_call 40; go_must (refine (roverlap_any _ _ _).mono ?_; rintro e w2 ⟨rfl, hb2⟩; replace HB : Hid (Bel wb w2) := Lib.hid (hb2.after (by (repeat (first | exact HB.out | refine Bel.alloc ?_ _ | refine Bel.drew ?_ | refine Bel.drewN ?_ _)))); clear hb2; have hk2 := HB.out.cells))
                | (go_at_call 41; go_must (refine (rcontains_any _ _ _).mono ?_; rintro e w2 ⟨rfl, hb2⟩; replace HB : Hid (Bel wb w2) := Lib.hid (hb2.after (by (repeat (first | exact HB.out | refine Bel.alloc ?_ _ | refine Bel.drew ?_ | refine Bel.drewN ?_ _)))); clear hb2; have hk2 := HB.out.cells)))
              all_goals first
                | (go_roundw
                   case rel => exact ⟨j + 1, by omega, by go_num, HB0.out.trans HB.out, (HGj (by simp [clash, *])).out⟩
                   case measure => simp [intOf]; omega)
                | (go_ret
                   exact ⟨ret_bool (by rw [(HFj (by simp [clash, *])).out]; simp), hB.trans (HB0.out.trans HB.out)⟩)
            · have : j = k := by omega
              subst this
              have HX := HG (by rw [← HD.out]; simp [clashAny])
              clear HG HF HD
              go_wp2
              go_roundw
              case rel => exact ⟨j + 1, by omega, by go_num, HB.out, HX.out⟩
              case measure => simp [intOf]; omega
        · have : k = t.secs.length := by omega
          subst this
          have HX : Hid (noClash [] t.secs = true) := by apply Lib.hid; rw [← HD.out]; simp [noClash]
          clear HD
          go_wp2
          go_ret
          exact ⟨ret_bool (by rw [HX.out, HO.out]; rfl), hB.trans HB.out⟩
end Go.Proofs.Ythcdemmamggboaa
