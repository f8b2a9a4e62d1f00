import Derived.Test.YtppfneockckkgaaRdecp
import Derived.Laws.Bits128
namespace Go.Proofs.Ytppfneockckkgaa
open Go.RowKit
def lval (l : Int) : Bool := decide (l = 1099511627776) || (decide (-2147483648 ≤ l) && decide (l ≤ 2147483649))
def lof (c : Int) (s : Bool) : Int × Int := if c < -1073741824 ∨ 1073741824 < c then (0, 7) else (if s then 2 * c else 2 * c + 1, 0)
def lodd (l : Int) : Bool := decide (l % 2 = 0)
def lsplit (l : Int) : Int × Bool × Int := if lval l then (if l = 1099511627776 then (0, false, 4) else (l / 2, lodd l, 0)) else (0, false, 2)
theorem and_one (n : Int) : bits .and .i64 n 1 = n % 2 := by
  have h1 : (BitVec.ofInt 64 1).toNat = 2 ^ 1 - 1 := by decide
  have key : (BitVec.ofInt 64 n &&& BitVec.ofInt 64 1).toNat = (n % ((2 ^ 64 : Nat) : Int)).toNat % 2 ^ 1 := by
    rw [BitVec.toNat_and, BitVec.toNat_ofInt, h1, Nat.and_two_pow_sub_one_eq_mod]
  show IntKind.i64.wrap ((BitVec.ofInt 64 n &&& BitVec.ofInt 64 1).toNat : Nat) = n % 2
  rw [key, IntKind.wrap_i64]
  omega
theorem or_one (c : Int) (h1 : -1073741824 ≤ c) (h2 : c ≤ 1073741824) : bits .or .i64 (c * 2) 1 = 2 * c + 1 := by
  have h1 : (BitVec.ofInt 64 1).toNat = 1 := by decide
  have key : (BitVec.ofInt 64 (c * 2) ||| BitVec.ofInt 64 1).toNat = ((c * 2) % ((2 ^ 64 : Nat) : Int)).toNat + 1 := by
    rw [BitVec.toNat_or, BitVec.toNat_ofInt, h1]
    have e : ((c * 2) % ((2 ^ 64 : Nat) : Int)).toNat = 2 ^ 1 * (((c * 2) % ((2 ^ 64 : Nat) : Int)).toNat / 2) := by omega
    rw [e]
    exact (Nat.two_pow_add_eq_or_of_lt (by omega) _).symm
  show IntKind.i64.wrap ((BitVec.ofInt 64 (c * 2) ||| BitVec.ofInt 64 1).toNat : Nat) = _
  rw [key, IntKind.wrap_i64]
  omega
theorem ret_two {k k' : IntKind} {a b c d : Int} (h : a = c) (h' : b = d) : Ending.returned (.tuple #[.int k a, .int k' b]) = .returned (.tuple #[.int k c, .int k' d]) := by rw [h, h']
set_option maxHeartbeats 1000000 in
theorem pconst_any (l : Int) (w : World) (h : i64 l) : Calls Try.prog 28 #[.int .i64 l] w fun e w' => e = .returned (.int .i64 (l / 2)) ∧ w = w' := by
  unfold i64 at h
  go_enter Try.func28, Try.ntmps28
  go_wp2
  all_goals (go_ret; exact ⟨ret_int rfl, rfl⟩)
set_option maxHeartbeats 1000000 in
theorem pstrict_any (l : Int) (w : World) (h : i64 l) : Calls Try.prog 30 #[.int .i64 l] w fun e w' => e = .returned (.bool (lodd l)) ∧ w = w' := by
  unfold i64 at h
  go_enter Try.func30, Try.ntmps30
  go_wp2
  all_goals (go_ret; exact ⟨ret_bool (by rw [and_one, Bool.eq_iff_iff]; unfold lodd; simp), rfl⟩)
set_option maxHeartbeats 1000000 in
theorem pof_any (c : Int) (s : Bool) (w : World) (h : i64 c) : Calls Try.prog 31 #[.int .i64 c, .bool s] w fun e w' => e = .returned (.tuple #[.int .i64 (lof c s).1, .int .i64 (lof c s).2]) ∧ w = w' := by
  unfold i64 at h
  cases s
  all_goals
    go_enter Try.func31, Try.ntmps31
    go_wp2
    all_goals (go_ret2; exact ⟨ret_two (by unfold lof; (try rw [or_one c (by omega) (by omega)]); split <;> simp <;> omega) (by unfold lof; split <;> simp <;> omega), rfl⟩)
set_option maxHeartbeats 1000000 in
theorem rlim_any (c : Int) (s : Bool) (w : World) (h : i64 c) : Calls Try.prog 32 #[.int .i64 c, .bool s] w fun e w' => e = .returned (.tuple #[.int .i64 (lof c s).1, .int .i64 (lof c s).2]) ∧ w = w' := by
  unfold i64 at h
  cases s
  all_goals
    go_enter Try.func32, Try.ntmps32
    go_wp2
    all_goals (go_ret2; exact ⟨ret_two (by unfold lof; (try rw [or_one c (by omega) (by omega)]); split <;> simp <;> omega) (by unfold lof; split <;> simp <;> omega), rfl⟩)
set_option maxHeartbeats 1000000 in
theorem plval_any (l : Int) (w : World) (h : i64 l) : Calls Try.prog 15 #[.int .i64 l] w fun e w' => e = .returned (.bool (lval l)) ∧ w = w' := by
  have HL := Lib.hid h
  unfold i64 at h
  go_enter Try.func15, Try.ntmps15
  go_wp2_with (go_at_call 28; (with_reducible refine (pconst_any _ _ HL.out).mono ?_); rintro e w2 ⟨rfl, rfl⟩)
  all_goals (go_ret; exact ⟨ret_bool (by rw [Bool.eq_iff_iff]; unfold lval; simp; omega), rfl⟩)
set_option maxHeartbeats 1000000 in
theorem rlval_any (l : Int) (w : World) (h : i64 l) : Calls Try.prog 17 #[.int .i64 l] w fun e w' => e = .returned (.bool (lval l)) ∧ w = w' := by
  unfold i64 at h
  go_enter Try.func17, Try.ntmps17
  go_wp2
  all_goals (go_ret; exact ⟨ret_bool (by rw [Bool.eq_iff_iff]; unfold lval; simp; omega), rfl⟩)
end Go.Proofs.Ytppfneockckkgaa
