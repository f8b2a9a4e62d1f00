import Derived.Test.YtbncnadjlppknaaRows
import Derived.Test.YtbncnadjlppknaaTmod
namespace Go.Proofs.Ytbncnadjlppknaa
open Go.RowKit
def beyondS : List Tsk → Bool
  | [] => false
  | t :: ts => if decide (50 < t.secs.length) || decide (1000 < t.name.size) then true else beyondS ts
def beyond (l : List Tsk) : Bool := if 50 < l.length then true else beyondS l
theorem gcd_step (x q : Int) (hx : 0 ≤ x) (hq : 0 < q) : Int.gcd q (x % q) = Int.gcd x q := by
  obtain ⟨a, rfl⟩ := Int.eq_ofNat_of_zero_le hx
  obtain ⟨b, rfl⟩ := Int.eq_ofNat_of_zero_le (show 0 ≤ q by omega)
  have e : ((a : Int) % (b : Int)) = ((a % b : Nat) : Int) := by simp
  rw [e]
  show Nat.gcd b (a % b) = Nat.gcd a b
  rw [Nat.gcd_comm b (a % b), ← Nat.gcd_rec b a, Nat.gcd_comm]

set_option maxHeartbeats 1000000 in
theorem sameLongs_any (v1 v2 : Value) (xs ys : List Int) (w : World) (hx : IntsAt w w.heap.size v1 xs) (hy : IntsAt w w.heap.size v2 ys) (hlx : xs.length ≤ 1000000) (hly : ys.length ≤ 1000000) :
    Calls Try.prog 10 #[v1, v2] w fun e w' => e = .returned (.bool (decide (xs = ys))) ∧ Bel w w' := by
  obtain ⟨A, c, rfl, _⟩ := hx.form
  obtain ⟨A', c', rfl, _⟩ := hy.form
  by_cases hl : xs.length = ys.length
  · have hd1 : ((xs.length : Int) != ys.length) = false := by simp [hl]
    go_enter Try.func10, Try.ntmps10
    go_wp2
    go_loopw [5] (fun i wr => ∃ (k : Nat) (x : Ext w), k ≤ xs.length ∧ i = .int .i64 k ∧ wr = x.w ∧ decide (xs.drop k = ys.drop k) = decide (xs = ys)) (fun i _ => xs.length - (intOf i).toNat)
    case atStart => exact ⟨0, ⟨_, Bel.refl⟩, by omega, rfl, rfl, rfl⟩
    case round =>
      obtain ⟨k, x, hk, rfl, rfl, hd⟩ := hrel
      by_cases hlt : k < xs.length
      · obtain ⟨b, off, rfl, hb, hc⟩ := hx.at_ (by omega)
        obtain ⟨b', off', rfl, hb', hc'⟩ := hy.at_ (by omega)
        have g1 := hc k hlt
        have g2 := hc' k (by omega)
        have hlt2 : k < ys.length := by omega
        have HE : Hid (decide (xs.getD k 0 = ys.getD k 0 ∧ xs.drop (k+1) = ys.drop (k+1)) = decide (xs = ys)) := by
          refine Lib.hid (Eq.trans (decide_eq_decide.2 ?_) hd)
          rw [List.drop_eq_getElem_cons hlt, List.drop_eq_getElem_cons hlt2, List.cons.injEq]; simp [List.getD, hlt, hlt2]
        clear hc hc' hd hl
        generalize xs.getD k 0 = p at *
        generalize ys.getD k 0 = q at *
        go_wp2
        (refine wp_region_ext (wb := w) (by (repeat (first | exact Ext.bel _ | exact Bel.refl | refine Bel.alloc ?_ _ | refine Bel.drew ?_ | refine Bel.drewN ?_ _))) (by kernel_rfl) (by kernel_rfl) ?_; (repeat (any_goals (first | go_big_quiet_step (fail) | quiet_step (fail) | (refine wpQuiet_step (fun K hK => ?_); go_simp; split <;> (refine hK _ ?_; clear hK K))))); all_goals (refine wpQuiet_nil ?_; intro _ hw'; obtain ⟨y, hw''⟩ := hw'; subst hw''))
        go_wp2
        · go_ret
          have hpq : p ≠ q := by intro h; simp_all
          exact ⟨ret_bool (by rw [← HE.out]; simp [hpq]), y.bel⟩
        · go_roundw
          case rel =>
            have hpq : p = q := by simp_all
            exact ⟨k+1, y, by omega, by go_num, rfl, by rw [← HE.out]; simp [hpq]⟩
          case measure => simp [intOf]; omega
      · have : k = xs.length := by omega
        subst this
        have HD := Lib.hid hd
        clear hd
        go_wp2
        go_ret
        exact ⟨ret_bool (by rw [← HD.out]; simp [hl]), x.bel⟩
  · have hd1 : ((xs.length : Int) != ys.length) = true := by simp; omega
    go_enter Try.func10, Try.ntmps10
    go_wp2
    go_ret
    exact ⟨ret_bool (by symm; simp; rintro rfl; exact hl rfl), Bel.refl⟩

set_option maxHeartbeats 1000000 in
theorem beyond_any (v : Value) (l : List Tsk) (w : World) (h : TsksAt w w.heap.size v l) (hs : ∀ i, i < l.length → (tskAt l i).secs.length ≤ 9223372036854775807 ∧ (tskAt l i).name.size ≤ 9223372036854775807) (hl : l.length ≤ 9223372036854775807) :
    Calls Try.prog 7 #[v] w fun e w' => e = .returned (.bool (beyond l)) ∧ w' = w := by
  obtain ⟨A, c, rfl, hc⟩ := h.form
  go_enter Try.func7, Try.ntmps7
  go_wp2
  · go_ret
    exact ⟨ret_bool (by simp [beyond]; omega), rfl⟩
  · go_loop [3] (fun i => ∃ (k : Nat), k ≤ l.length ∧ i = .int .i64 k ∧ beyondS (l.drop k) = beyond l) (fun i => l.length - (intOf i).toNat)
    case atStart => exact ⟨0, by omega, rfl, by simp [beyond]; omega⟩
    case round =>
      obtain ⟨k, hk, rfl, hd⟩ := hrel
      by_cases hlt : k < l.length
      · obtain ⟨b, off, rfl, hb, hA⟩ := h.at_ (by omega)
        obtain ⟨sv, hT, hS⟩ := hA k hlt
        obtain ⟨A2, c2, rfl, hc2⟩ := hS.form
        obtain ⟨hs1, hs2⟩ := hs k hlt
        obtain ⟨t0, t1, t2, t3, t4, t5, t6⟩ := hT
        rw [tsks_drop hlt] at hd
        unfold beyondS at hd
        have HD := Lib.hid hd
        clear hd hA t1 t2 t3 t4 t5
        go_wp2
        all_goals first
          | (go_round
             case rel => exact ⟨k+1, by omega, by go_num, by rw [← HD.out]; symm; rw [if_neg]; simp; omega⟩
             case measure => simp [intOf]; omega)
          | (go_ret
             exact ⟨ret_bool (by rw [← HD.out]; symm; rw [if_pos]; simp; omega), rfl⟩)
      · have : k = l.length := by omega
        subst this
        have HD := Lib.hid hd
        clear hd
        go_wp2
        go_ret
        exact ⟨ret_bool (by rw [← HD.out]; simp [beyondS]), rfl⟩

end Go.Proofs.Ytbncnadjlppknaa
