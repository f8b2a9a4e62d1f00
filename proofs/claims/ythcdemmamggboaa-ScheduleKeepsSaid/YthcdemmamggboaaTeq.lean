import Derived.Test.YthcdemmamggboaaRows
import Derived.Test.YthcdemmamggboaaTmod
namespace Go.Proofs.Ythcdemmamggboaa
open Go.RowKit
def beyondS : List Tsk → Bool
  | [] => false
  | t :: ts => if decide (50 < t.secs.length) || decide (1000 < t.name.size) then true else beyondS ts
def beyond (l : List Tsk) : Bool := if 50 < l.length then true else beyondS l
theorem gcd_step (x q : Int) (hx : 0 ≤ x) (hq : 0 < q) : Int.gcd q (x % q) = Int.gcd x q := by
  obtain ⟨a, rfl⟩ := Int.eq_ofNat_of_zero_le hx
  obtain ⟨b, rfl⟩ := Int.eq_ofNat_of_zero_le (show 0 ≤ q by omega)
  have e : ((a : Int) % (b : Int)) = ((a % b : Nat) : Int) := by simp
  rw [e]
  show Nat.gcd b (a % b) = Nat.gcd a b
  rw [Nat.gcd_comm b (a % b), ← Nat.gcd_rec b a, Nat.gcd_comm]

set_option maxHeartbeats 1000000 in
theorem beyond_any (v : Value) (l : List Tsk) (w : World) (h : TsksAt w w.heap.size v l) (hs : ∀ i, i < l.length → (tskAt l i).secs.length ≤ 9223372036854775807 ∧ (tskAt l i).name.size ≤ 9223372036854775807) (hl : l.length ≤ 9223372036854775807) :
    Calls Try.prog 8 #[v] w fun e w' => e = .returned (.bool (beyond l)) ∧ w' = w := by
  obtain ⟨A, c, rfl, hc⟩ := h.form
  go_enter Try.func8, Try.ntmps8
  go_wp2
  · go_ret
    exact ⟨ret_bool (by simp [beyond]; omega), rfl⟩
  · go_loop [3] (fun i => ∃ (k : Nat), k ≤ l.length ∧ i = .int .i64 k ∧ beyondS (l.drop k) = beyond l) (fun i => l.length - (intOf i).toNat)
    case atStart => exact ⟨0, by omega, rfl, by simp [beyond]; omega⟩
    case round =>
      obtain ⟨k, hk, rfl, hd⟩ := hrel
      by_cases hlt : k < l.length
      · obtain ⟨b, off, rfl, hb, hA⟩ := h.at_ (by omega)
        obtain ⟨sv, hT, hS⟩ := hA k hlt
        obtain ⟨A2, c2, rfl, hc2⟩ := hS.form
        obtain ⟨hs1, hs2⟩ := hs k hlt
        obtain ⟨t0, t1, t2, t3, t4, t5, t6⟩ := hT
        rw [tsks_drop hlt] at hd
        unfold beyondS at hd
        have HD := Lib.hid hd
        clear hd hA t1 t2 t3 t4 t5
        go_wp2
        all_goals first
          | (go_round
             case rel => exact ⟨k+1, by omega, by go_num, by rw [← HD.out]; symm; rw [if_neg]; simp; omega⟩
             case measure => simp [intOf]; omega)
          | (go_ret
             exact ⟨ret_bool (by rw [← HD.out]; symm; rw [if_pos]; simp; omega), rfl⟩)
      · have : k = l.length := by omega
        subst this
        have HD := Lib.hid hd
        clear hd
        go_wp2
        go_ret
        exact ⟨ret_bool (by rw [← HD.out]; simp [beyondS]), rfl⟩

end Go.Proofs.Ythcdemmamggboaa
