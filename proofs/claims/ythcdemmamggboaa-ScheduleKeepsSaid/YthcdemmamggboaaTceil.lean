import Derived.Test.YthcdemmamggboaaRows
import Derived.Test.YthcdemmamggboaaTmod
namespace Go.Proofs.Ythcdemmamggboaa
open Go.RowKit

set_option maxHeartbeats 400000 in
theorem ceiling_any (v : Value) (l : List Tsk) (r : Int) (w : World) (h : TsksAt w w.heap.size v l) (hl : l.length ≤ 1000000) (hs : ∀ i, i < l.length → (tskAt l i).secs.length ≤ 1000000) :
    Calls Try.prog 42 #[v, .int .i64 r] w fun e w' => e = .returned (.int .i64 (ceilT r l 0)) ∧ w' = w := by
  obtain ⟨A, c, rfl, hc, hA⟩ := h
  go_enter Try.func42, Try.ntmps42
  go_wp2
  go_loop [5, 6] (fun m i => ∃ (k : Nat) (x : Int), k ≤ l.length ∧ i = .int .i64 k ∧ m = .int .i64 x ∧ ceilT r (l.drop k) x = ceilT r l 0) (fun _ i => l.length - (intOf i).toNat)
  case atStart => exact ⟨0, 0, by omega, rfl, rfl, rfl⟩
  case round =>
    obtain ⟨k, x, hk, rfl, rfl, hd⟩ := hrel
    by_cases hlt : k < l.length
    · obtain ⟨b, off, rfl, hb, hA⟩ := hA (by omega)
      obtain ⟨sv, hT, A2, c2, rfl, hc2, hS⟩ := hA k hlt
      have hs := hs k hlt
      obtain ⟨t0, t1, t2, t3, t4, t5, t6⟩ := hT
      have HD := Lib.hid hd
      clear hd hA
      clear t0 t1 t2 t3 t4
      have HT : Hid (ceilT r (l.drop (k + 1)) (ceilS r (tskAt l k).prio (tskAt l k).secs x) = ceilT r l 0) := by rw [← HD.out, tsks_drop hlt]; rfl
      clear HD
      go_wp2
      go_loop [5, 7] (fun m i => ∃ (j : Nat) (y : Int), j ≤ (tskAt l k).secs.length ∧ i = .int .i64 j ∧ m = .int .i64 y ∧ ceilS r (tskAt l k).prio ((tskAt l k).secs.drop j) y = ceilS r (tskAt l k).prio (tskAt l k).secs x) (fun _ i => (tskAt l k).secs.length - (intOf i).toNat)
      case atStart => exact ⟨0, x, by omega, rfl, rfl, rfl⟩
      case round =>
        obtain ⟨j, y, hj, rfl, rfl, hdj⟩ := hrel
        by_cases hltj : j < (tskAt l k).secs.length
        · obtain ⟨b2, off2, rfl, hb2, hS⟩ := hS (by omega)
          obtain ⟨s0, s1, s2⟩ := hS j hltj
          have HJ : Hid (ceilS r (tskAt l k).prio ((tskAt l k).secs.drop (j+1)) (if (secAt (tskAt l k).secs j).res == r then (if y < (tskAt l k).prio then (tskAt l k).prio else y) else y) = ceilS r (tskAt l k).prio (tskAt l k).secs x) := by rw [← hdj, secs_drop hltj]; rfl
          clear hdj hS
          go_wp2
          all_goals
            have hc : _ = _ := ‹((secAt (tskAt l k).secs j).res == r) = _›
            go_round
            case rel => exact ⟨j+1, _, by omega, by go_num, rfl, by rw [← HJ.out, hc]; rfl⟩
            case measure => simp [intOf]; omega
        · have : j = (tskAt l k).secs.length := by omega
          subst this
          have HJ := Lib.hid hdj
          clear hdj
          go_wp2
          go_round
          case rel => exact ⟨k+1, _, by omega, by go_num, rfl, by rw [← HT.out, ← HJ.out]; simp [ceilS]⟩
          case measure => simp [intOf]; omega
    · have : k = l.length := by omega
      subst this
      have HD := Lib.hid hd
      clear hd
      go_wp2
      go_ret
      refine ⟨?_, rfl⟩
      rw [← HD.out]; simp [ceilT]
end Go.Proofs.Ythcdemmamggboaa
