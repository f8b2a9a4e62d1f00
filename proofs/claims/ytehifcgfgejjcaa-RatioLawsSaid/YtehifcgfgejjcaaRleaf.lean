import Derived.Test.YtehifcgfgejjcaaRows
import Derived.Test.YtehifcgfgejjcaaGen
import Derived.RegionTactic
import Derived.BigRegion
import Derived.BigCall
import Derived.Outline
import Derived.Laws.EntriesVeiled
namespace Go.Proofs.Ytehifcgfgejjcaa
open Go.RowKit
def absU (n : Int) : Int := (n.natAbs : Nat)
def gcdU (a b : Int) : Int := (Nat.gcd a.toNat b.toNat : Nat)
theorem absU_u (n : Int) (h : i64 n) : u64 (absU n) := by unfold i64 at h; unfold u64 absU; omega
theorem wrapu (a : Int) : IntKind.u64.wrap a = a % 18446744073709551616 := rfl
theorem gcdU_zero {a b : Int} (h1 : u64 a) (h : b = 0) : gcdU a b = a := by subst h; unfold gcdU u64 at *; simp; omega
theorem gcdU_step {a b : Int} (h1 : u64 a) (h2 : u64 b) (h : b ≠ 0) : gcdU b (a % b) = gcdU a b := by
  unfold gcdU u64 at *
  obtain ⟨x, rfl⟩ := Int.eq_ofNat_of_zero_le h1.1
  obtain ⟨y, rfl⟩ := Int.eq_ofNat_of_zero_le h2.1
  have e : ((x : Int) % (y : Int)).toNat = x % y := by omega
  rw [e, Int.toNat_natCast, Int.toNat_natCast, Nat.gcd_comm y (x % y), ← Nat.gcd_rec, Nat.gcd_comm]
theorem mod_u64 {a b : Int} (h1 : u64 a) (h2 : u64 b) (h : b ≠ 0) : u64 (a % b) ∧ (a % b).toNat < b.toNat := by
  unfold u64 at *
  have h3 := Int.emod_nonneg a h
  have h4 := Int.emod_lt_of_pos a (b := b) (by omega)
  omega
set_option maxHeartbeats 400000 in
theorem pabs_any (n : Int) (w : World) (h : i64 n) :
    Calls Try.prog 46 #[.int .i64 n] w fun e w' => e = .returned (.int .u64 (absU n)) ∧ Bel w w' := by
  unfold i64 at h
  go_enter Try.func46, Try.ntmps46
  go_wp2
  all_goals (go_ret; exact ⟨ret_int (by (try simp only [wrapu]); unfold absU; omega), Bel.refl⟩)
set_option maxHeartbeats 400000 in
theorem rsize_any (n : Int) (w : World) (h : i64 n) :
    Calls Try.prog 49 #[.int .i64 n] w fun e w' => e = .returned (.int .u64 (absU n)) ∧ Bel w w' := by
  unfold i64 at h
  go_enter Try.func49, Try.ntmps49
  go_wp2
  all_goals (go_ret; exact ⟨ret_int (by unfold absU; omega), Bel.refl⟩)
set_option maxHeartbeats 1000000 in
theorem gcd1_any (p : Nat) : ∀ (n : Nat) (a b : Int) (w : World) (_ : u64 a) (_ : u64 b) (_ : b.toNat ≤ n) (_ : p < w.heap.size)
    (_ : w.cell? ⟨p, 0, none⟩ = some (.func (.func 51) #[] #[.pointer (some ⟨p, 0, none⟩)])),
    Calls Try.prog 51 #[.int .u64 a, .int .u64 b, .pointer (some ⟨p, 0, none⟩)] w fun e w' => e = .returned (.int .u64 (gcdU a b)) ∧ Bel w w' := by
  intro n
  induction n with
  | zero =>
    intro a b w h1 h2 hn hp hc
    have hb : b = 0 := by unfold u64 at h2; omega
    have HZ := Lib.hid (gcdU_zero h1 hb)
    subst hb
    clear hc hp
    go_enter Try.func51, Try.ntmps51
    go_wp2
    go_ret
    exact ⟨ret_int HZ.out.symm, Bel.refl⟩
  | succ n ih =>
    intro a b w h1 h2 hn hp hc
    by_cases hb : b = 0
    · have HZ := Lib.hid (gcdU_zero h1 hb)
      subst hb
      clear hc hp ih
      go_enter Try.func51, Try.ntmps51
      go_wp2
      go_ret
      exact ⟨ret_int HZ.out.symm, Bel.refl⟩
    · have HZ := Lib.hid (gcdU_step h1 h2 hb)
      obtain ⟨hm, hlt⟩ := mod_u64 h1 h2 hb
      have IH := Lib.hid fun (x : Ext w) => ih b (a % b) x.w h2 hm (by omega) (ext_lt x hp) ((ext_cells x p 0 hp).trans hc)
      clear ih hm hlt hn
      unfold u64 at h1 h2
      obtain ⟨ha0, ha1⟩ := h1
      obtain ⟨hb0, hb1⟩ := h2
      have hz : (b == 0) = false := by simpa using hb
      go_enter Try.func51, Try.ntmps51
      go_wp2
      (refine wp_region_ext (wb := w) (by (repeat (first | exact Ext.bel _ | exact Bel.refl | refine Bel.alloc ?_ _ | refine Bel.drew ?_ | refine Bel.drewN ?_ _))) (by kernel_rfl) (by kernel_rfl) ?_; (repeat (any_goals (first | go_big_quiet_step ((go_at_call 51; with_reducible exact ext_call (IH.out _))) | quiet_step ((go_at_call 51; with_reducible exact ext_call (IH.out _))) | (refine wpQuiet_step (fun K hK => ?_); go_simp; split <;> (refine hK _ ?_; clear hK K))))); all_goals (refine wpQuiet_nil ?_; intro _ hw'; obtain ⟨y, hw''⟩ := hw'; subst hw''))
      go_wp2
      go_ret
      exact ⟨ret_int HZ.out, y.bel⟩
set_option maxHeartbeats 1000000 in
theorem pgcd_any (a b : Int) (w : World) (h1 : u64 a) (h2 : u64 b) :
    Calls Try.prog 47 #[.int .u64 a, .int .u64 b] w fun e w' => e = .returned (.int .u64 (gcdU a b)) ∧ Bel w w' := by
  have HC := Lib.hid fun (W : World) (hp : w.heap.size < W.heap.size) hc => gcd1_any w.heap.size b.toNat a b W h1 h2 (Nat.le_refl _) hp hc
  go_enter Try.func47, Try.ntmps47
  go_wp2_with (go_at_call 51; go_must (refine (HC.out _ (by simp [go_sem]) (by simp [go_sem])).mono ?_; rintro e w2 ⟨rfl, hb2⟩; have HB := Lib.hid hb2; clear hb2))
  go_ret
  exact ⟨rfl, (Bel.refl.alloc _).trans HB.out⟩
set_option maxHeartbeats 1000000 in
theorem rdiv_any (a b : Int) (w : World) (h1 : u64 a) (h2 : u64 b) :
    Calls Try.prog 48 #[.int .u64 a, .int .u64 b] w fun e w' => e = .returned (.int .u64 (gcdU a b)) ∧ Bel w w' := by
  go_enter Try.func48, Try.ntmps48
  go_wp2
  go_loopw [0, 1] (fun u v wr => ∃ (x y : Int) (z : Ext w), u64 x ∧ u64 y ∧ u = .int .u64 x ∧ v = .int .u64 y ∧ wr = z.w ∧ gcdU x y = gcdU a b) (fun _ v _ => (intOf v).toNat)
  case atStart => exact ⟨a, b, ⟨w, Bel.refl⟩, h1, h2, rfl, rfl, rfl, rfl⟩
  case round =>
    obtain ⟨x, m, z, hx, hy, rfl, rfl, rfl, hg⟩ := hrel
    by_cases hb : m = 0
    · have HZ := Lib.hid ((gcdU_zero hx hb).symm.trans hg)
      clear hg
      subst hb
      go_wp2
      go_ret
      exact ⟨ret_int HZ.out, z.bel⟩
    · have HZ := Lib.hid ((gcdU_step hx hy hb).trans hg)
      have HM := Lib.hid (mod_u64 hx hy hb)
      have HX := Lib.hid hx
      have HY := Lib.hid hy
      clear hg
      unfold u64 at hx hy
      obtain ⟨ha0, ha1⟩ := hx
      obtain ⟨hb0, hb1⟩ := hy
      have hz : (m == 0) = false := by simpa using hb
      have hz2 : (m != 0) = true := by simpa using hb
      go_wp2
      (refine wp_region_ext (wb := w) (by (repeat (first | exact Ext.bel _ | exact Bel.refl | refine Bel.alloc ?_ _ | refine Bel.drew ?_ | refine Bel.drewN ?_ _))) (by kernel_rfl) (by kernel_rfl) ?_; (repeat (any_goals (first | go_big_quiet_step (fail) | quiet_step (fail) | (refine wpQuiet_step (fun K hK => ?_); go_simp; split <;> (refine hK _ ?_; clear hK K))))); all_goals (refine wpQuiet_nil ?_; intro _ hw'; obtain ⟨y, hw''⟩ := hw'; subst hw''))
      go_wp2
      go_roundw
      case rel => exact ⟨m, x % m, _, HY.out, HM.out.1, rfl, rfl, rfl, HZ.out⟩
      case measure => have := HM.out.2; simp [intOf]; omega
end Go.Proofs.Ytehifcgfgejjcaa
