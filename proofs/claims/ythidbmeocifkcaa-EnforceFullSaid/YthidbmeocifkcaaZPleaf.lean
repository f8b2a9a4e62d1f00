import Derived.Test.YthidbmeocifkcaaZPmod
import Derived.RegionTactic
import Derived.BigRegion
import Derived.BigCall
namespace Go.Proofs.Ythidbmeocifkcaa
open Go.RowKit
def pcV (c : PC) : Value := .agg #[.int .i64 c.clk, .bool c.low, .bool c.str, .int .i64 c.c]
set_option maxHeartbeats 400000 in
theorem within_any (i m : Int) (w : World) : Calls Try.prog 42 #[.int .i64 i, .int .i64 m] w fun e w' => e = .returned (.bool (withinB i m)) ∧ w = w' := by
  go_enter Try.func42, Try.ntmps42
  go_wp2
  all_goals (go_ret; exact ⟨ret_bool (by unfold withinB; rw [Bool.eq_iff_iff]; simp; omega), rfl⟩)
set_option maxHeartbeats 400000 in
theorem holds_any (c : PC) (v : Int) (w : World) : Calls Try.prog 56 #[.agg #[.int .i64 c.clk, .bool c.low, .bool c.str, .int .i64 c.c], .int .i64 v] w fun e w' => e = .returned (.bool (holdsC c v)) ∧ Bel w w' := by
  obtain ⟨ck, cl, cs, cc⟩ := c
  simp only [holdsC]
  cases cl <;> cases cs
  all_goals
    go_enter Try.func56, Try.ntmps56
    go_wp2
    all_goals (go_ret; exact ⟨ret_bool (by first | rfl | (rw [Bool.eq_iff_iff]; simp)), Bel.refl.alloc _⟩)
set_option maxHeartbeats 1000000 in
theorem all_any (sv : Value) (l : List PC) (k v : Int) (w : World) (h : ConsAt w w.heap.size sv l) (hl : l.length ≤ 1000000) :
    Calls Try.prog 52 #[sv, .int .i64 k, .int .i64 v] w fun e w' => e = .returned (.bool (allC k v l)) ∧ Bel w w' := by
  obtain ⟨A, c, rfl, hc, hA⟩ := h
  have HA := Lib.hid hA
  clear hA
  go_enter Try.func52, Try.ntmps52
  go_wp2
  go_loopw [7] (fun si wr => ∃ (j : Nat) (z : Ext w), j ≤ l.length ∧ si = .int .i64 j ∧ wr = z.w ∧ allC k v (l.drop j) = allC k v l) (fun si _ => l.length - (intOf si).toNat)
  case atStart => exact ⟨0, ⟨w, Bel.refl⟩, by omega, rfl, rfl, rfl⟩
  case round =>
    obtain ⟨j, x, hj, rfl, rfl, hd⟩ := hrel
    by_cases hlt : j < l.length
    · rw [pc_drop hlt] at hd
      obtain ⟨b, off, rfl, hb, hA⟩ := HA.out (by omega)
      obtain ⟨c0, c1, c2, c3⟩ := hA j hlt
      clear hA
      have HH := Lib.hid fun W => holds_any (pcAt l j) v W
      by_cases hk : (pcAt l j).clk = k
      · have hkb : ((pcAt l j).clk == k) = true := by simpa using hk
        cases hh : holdsC (pcAt l j) v
        · have HD : Hid (allC k v l = false) := Lib.hid (by rw [← hd]; simp only [allC, hkb, hh]; rfl)
          rw [hh] at HH
          clear hd hh hk
          go_wp2_with (first | (go_at_call 56; (with_reducible refine (HH.out _).mono ?_); rintro e w2 ⟨rfl, hb2⟩; obtain ⟨x, rfl⟩ : ∃ x : Ext w, w2 = x.w := ext_of (hb2.after (by (repeat (first | exact Ext.bel _ | exact Bel.refl | refine Bel.alloc ?_ _ | refine Bel.drew ?_ | refine Bel.drewN ?_ _)))); clear hb2))
          go_ret
          exact ⟨ret_bool HD.out.symm, x.bel⟩
        · have HD : Hid (allC k v (l.drop (j + 1)) = allC k v l) := Lib.hid (by rw [← hd]; simp only [allC, hkb, hh]; rfl)
          rw [hh] at HH
          clear hd hh hk
          go_wp2_with (first | (go_at_call 56; (with_reducible refine (HH.out _).mono ?_); rintro e w2 ⟨rfl, hb2⟩; obtain ⟨x, rfl⟩ : ∃ x : Ext w, w2 = x.w := ext_of (hb2.after (by (repeat (first | exact Ext.bel _ | exact Bel.refl | refine Bel.alloc ?_ _ | refine Bel.drew ?_ | refine Bel.drewN ?_ _)))); clear hb2))
          go_roundw
          case rel => exact ⟨j + 1, x, by omega, by go_num, rfl, HD.out⟩
          case measure => simp [intOf]; omega
      · have hkb : ((pcAt l j).clk == k) = false := by simpa using hk
        have HD : Hid (allC k v (l.drop (j + 1)) = allC k v l) := Lib.hid (by rw [← hd]; simp only [allC, hkb]; rfl)
        clear hd hk HH
        go_wp2
        go_roundw
        case rel => exact ⟨j + 1, x, by omega, by go_num, rfl, HD.out⟩
        case measure => simp [intOf]; omega
    · obtain rfl : j = l.length := by omega
      have HD : Hid (allC k v l = true) := Lib.hid (by rw [← hd]; simp [allC])
      clear hd
      go_wp2
      go_ret
      exact ⟨ret_bool HD.out.symm, x.bel⟩
end Go.Proofs.Ythidbmeocifkcaa
