import Derived.Test.YtbilfpoghohddaaG2
import Derived.Test.YtbilfpoghohddaaRows
import Derived.Test.YtbilfpoghohddaaG1
namespace Go.Proofs.Ytbilfpoghohddaa
open Go.RowKit
set_option maxHeartbeats 400000 in
theorem pick_any (i n : Int) (w : World) (hn : 1 ≤ n) (hn2 : n ≤ 1000000) (hi : i64 i) : Calls Try.prog 21 #[.int .i64 i, .int .i64 n] w fun e w' => (∃ k : Nat, (k : Int) < n ∧ e = .returned (.int .i64 k)) ∧ Bel w w' := by
  unfold i64 at hi
  have h1 : i.tmod n < n ∧ -n < i.tmod n := by
    have h2 := Int.natAbs_tmod i n
    have h3 := Nat.mod_lt i.natAbs (y := n.natAbs) (by omega)
    omega
  have h4 := Int.tmod_eq_emod_of_nonneg (a := i.tmod n + n) (b := n) (by omega)
  have h2 : 0 ≤ (i.tmod n + n) % n ∧ (i.tmod n + n) % n < n := ⟨Int.emod_nonneg _ (by omega), Int.emod_lt_of_pos _ (by omega)⟩
  have h5 : (i.tmod n + n) % n = i.tmod n % n := by simp
  have hz : (n == 0) = false := by simp; omega
  go_enter Try.func21, Try.ntmps21
  go_wp2
  go_ret
  refine ⟨⟨((i.tmod n + n) % n).toNat, by omega, ?_⟩, Bel.refl⟩
  exact ret_int (by omega)
end Go.Proofs.Ytbilfpoghohddaa
