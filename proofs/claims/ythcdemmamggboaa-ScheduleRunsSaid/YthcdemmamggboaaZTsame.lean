import Derived.Test.YthcdemmamggboaaG2
import Derived.Test.YthcdemmamggboaaRows
import Derived.Deep.Cut
import Derived.RegionTactic
namespace Go.Proofs.Ythcdemmamggboaa
open Go.RowKit
set_option maxRecDepth 100000 in
set_option maxHeartbeats 8000000 in
/-- Same of two task sets that read as one list -/
theorem same_any (v1 v2 : Value) (l : List Tsk) (w : World) (h1 : TsksAt w w.heap.size v1 l) (h2 : TsksAt w w.heap.size v2 l) (hl : l.length ≤ 1000000) (hs : ∀ i, i < l.length → (tskAt l i).secs.length ≤ 1000000) :
    Calls Try.prog 13 #[v1, v2] w fun e w' => e = .returned (.bool true) ∧ Bel w w' := by
  obtain ⟨A, c, rfl, _⟩ := h1.form
  obtain ⟨A', c', rfl, _⟩ := h2.form
  go_enter Try.func13, Try.ntmps13
  go_wp2
  go_loopw [5] (fun i wr => ∃ (k : Nat) (x : Ext w), k ≤ l.length ∧ i = .int .i64 k ∧ wr = x.w) (fun i _ => l.length - (intOf i).toNat)
  case atStart => exact ⟨0, ⟨_, Bel.refl⟩, by omega, rfl, rfl⟩
  case round =>
    obtain ⟨k, x, hk, rfl, rfl⟩ := hrel
    by_cases hlt : k < l.length
    · obtain ⟨b, off, rfl, hb, hA⟩ := h1.at_ (by omega)
      obtain ⟨b', off', rfl, hb', hA'⟩ := h2.at_ (by omega)
      obtain ⟨sv, hT, hS⟩ := hA k hlt
      obtain ⟨sv', hT', hS'⟩ := hA' k hlt
      obtain ⟨A2, c2, rfl, hc2⟩ := hS.form
      obtain ⟨A3, c3, rfl, hc3⟩ := hS'.form
      obtain ⟨t0, t1, t2, t3, t4, t5, t6⟩ := hT
      obtain ⟨r0, r1, r2, r3, r4, r5, r6⟩ := hT'
      have hs1 := hs k hlt
      have hbx : b < x.w.heap.size := Nat.lt_of_lt_of_le hb x.bel.le
      have hbx' : b' < x.w.heap.size := Nat.lt_of_lt_of_le hb' x.bel.le
      clear hs hA hA' h1 h2
      go_upto_region 6 with (fail)
      go_region
      all_goals clear t0 t1 t2 t3 t4 t5 t6 r0 r1 r2 r3 r4 r5 r6
      all_goals (generalize hW : World.drew _ = wb; have q0_0 := (congrArg (fun W : World => W.cell? ⟨x.w.heap.size, 0, none⟩) hW).symm; simp [go_sem] at q0_0; have q0_1 := (congrArg (fun W : World => W.cell? ⟨x.w.heap.size, 1, none⟩) hW).symm; simp [go_sem] at q0_1; have q0_2 := (congrArg (fun W : World => W.cell? ⟨x.w.heap.size, 2, none⟩) hW).symm; simp [go_sem] at q0_2; have q0_3 := (congrArg (fun W : World => W.cell? ⟨x.w.heap.size, 3, none⟩) hW).symm; simp [go_sem] at q0_3; have q0_4 := (congrArg (fun W : World => W.cell? ⟨x.w.heap.size, 4, none⟩) hW).symm; simp [go_sem] at q0_4; have q0_5 := (congrArg (fun W : World => W.cell? ⟨x.w.heap.size, 5, none⟩) hW).symm; simp [go_sem] at q0_5; have q0_6 := (congrArg (fun W : World => W.cell? ⟨x.w.heap.size, 6, none⟩) hW).symm; simp [go_sem] at q0_6; have qz0 : x.w.heap.size < wb.heap.size := (by rw [← hW]; simp [go_sem]; try omega); have q1_0 := (congrArg (fun W : World => W.cell? ⟨x.w.heap.size + 1, 0, none⟩) hW).symm; simp [go_sem] at q1_0; have q1_1 := (congrArg (fun W : World => W.cell? ⟨x.w.heap.size + 1, 1, none⟩) hW).symm; simp [go_sem] at q1_1; have q1_2 := (congrArg (fun W : World => W.cell? ⟨x.w.heap.size + 1, 2, none⟩) hW).symm; simp [go_sem] at q1_2; have q1_3 := (congrArg (fun W : World => W.cell? ⟨x.w.heap.size + 1, 3, none⟩) hW).symm; simp [go_sem] at q1_3; have q1_4 := (congrArg (fun W : World => W.cell? ⟨x.w.heap.size + 1, 4, none⟩) hW).symm; simp [go_sem] at q1_4; have q1_5 := (congrArg (fun W : World => W.cell? ⟨x.w.heap.size + 1, 5, none⟩) hW).symm; simp [go_sem] at q1_5; have q1_6 := (congrArg (fun W : World => W.cell? ⟨x.w.heap.size + 1, 6, none⟩) hW).symm; simp [go_sem] at q1_6; have qz1 : x.w.heap.size + 1 < wb.heap.size := (by rw [← hW]; simp [go_sem]; try omega); have HBW : Hid (Bel w wb) := Lib.hid (by rw [← hW]; (repeat (first | exact Ext.bel _ | exact Bel.refl | refine Bel.alloc ?_ _ | refine Bel.drew ?_ | refine Bel.drewN ?_ _))); clear hW; have hkw := HBW.out.cells; have : b < wb.heap.size := (Nat.lt_of_lt_of_le (by first | assumption | omega) HBW.out.le); have : b' < wb.heap.size := (Nat.lt_of_lt_of_le (by first | assumption | omega) HBW.out.le))
      all_goals go_wp2
      all_goals go_loopw [8] (fun i wr => ∃ (j : Nat) (z : Ext wb), j ≤ (tskAt l k).secs.length ∧ i = .int .i64 j ∧ wr = z.w) (fun i _ => (tskAt l k).secs.length - (intOf i).toNat)
      all_goals first
        | exact ⟨0, ⟨_, Bel.refl⟩, by omega, rfl, rfl⟩
        | skip
      all_goals obtain ⟨j, z, hj, rfl, rfl⟩ := hrel
      all_goals by_cases hltj : j < (tskAt l k).secs.length
      all_goals first
        | (obtain ⟨b2, off2, rfl, hb2, hA2⟩ := hS.at_ (by omega)
           obtain ⟨b3, off3, rfl, hb3, hA3⟩ := hS'.at_ (by omega)
           obtain ⟨s0, s1, s2⟩ := hA2 j hltj
           obtain ⟨u0, u1, u2⟩ := hA3 j hltj
           have hz2 : b2 < wb.heap.size := Nat.lt_of_lt_of_le hb2 HBW.out.le
           have hz3 : b3 < wb.heap.size := Nat.lt_of_lt_of_le hb3 HBW.out.le
           clear hA2 hA3 hS hS'
           go_wp2
           (refine wp_region_ext (wb := wb) (by (repeat (first | exact Ext.bel _ | exact Bel.refl | refine Bel.alloc ?_ _ | refine Bel.drew ?_ | refine Bel.drewN ?_ _))) (by kernel_rfl) (by kernel_rfl) ?_; (repeat (any_goals (first | go_big_quiet_step (fail) | quiet_step (fail) | (refine wpQuiet_step (fun K hK => ?_); go_simp; split <;> (refine hK _ ?_; clear hK K))))); all_goals (refine wpQuiet_nil ?_; intro _ hw'; obtain ⟨y, hw''⟩ := hw'; subst hw''))
           go_wp2
           go_roundw
           case rel => exact ⟨j + 1, y, by omega, by go_num, rfl⟩
           case measure => simp [intOf]; omega)
        | (have : j = (tskAt l k).secs.length := by omega
           subst this
           go_wp2
           go_roundw
           case rel => exact ⟨k + 1, ⟨_, HBW.out.trans z.bel⟩, by omega, by go_num, rfl⟩
           case measure => simp [intOf]; omega)
    · have : k = l.length := by omega
      subst this
      go_wp2
      go_ret
      exact ⟨rfl, x.bel⟩
end Go.Proofs.Ythcdemmamggboaa
