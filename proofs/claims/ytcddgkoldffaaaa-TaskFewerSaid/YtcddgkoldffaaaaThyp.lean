import Derived.Test.YtcddgkoldffaaaaTrchk
import Derived.Test.YtcddgkoldffaaaaTeq
namespace Go.Proofs.Ytcddgkoldffaaaa
open Go.RowKit
/-- after a check that says OK: every task is right -/
theorem rchk_ok_T : ∀ (l pre : List Tsk), rchkT pre l = 0 → ∀ i, i < l.length → tskBad (tskAt l i) = false ∧ rsecsOk (tskAt l i) = true
  | [], _, _, i, hi => by simp at hi
  | t :: ts, pre, h, i, hi => by
    unfold rchkT at h
    cases hb : tskBad t <;> cases hs : rsecsOk t <;> simp [hb, hs] at h
    cases i with
    | zero => exact ⟨hb, hs⟩
    | succ i =>
      cases hw : twinAny t pre <;> simp [hw] at h
      exact rchk_ok_T ts _ h i (by simpa using hi)
theorem rchk_ok {l : List Tsk} (h : rchk l = 0) : l.length ≤ 8 ∧ ∀ i, i < l.length → tskBad (tskAt l i) = false ∧ rsecsOk (tskAt l i) = true := by
  unfold rchk at h
  by_cases h8 : 8 < l.length
  · simp [h8] at h
  · refine ⟨by omega, ?_⟩
    cases hm : manySecs l <;> simp [h8, hm] at h
    by_cases h0 : l = []
    · subst h0; intro i hi; simp at hi
    · simp [h0] at h; exact rchk_ok_T l [] h
def hypT : List Tsk → Int → Int × Int
  | [], h => (h, 0)
  | t :: ts, h => if 20000 < h / (Int.gcd h t.per : Int) * t.per then (0, 7) else hypT ts (h / (Int.gcd h t.per : Int) * t.per)
def hyp (l : List Tsk) : Int × Int := if rchk l = 0 then hypT l 1 else (0, rchk l)
theorem gcd_pos_i (x y : Int) (h : 1 ≤ y) : 1 ≤ (Int.gcd x y : Int) := by
  have : 0 < Int.gcd x y := Int.gcd_pos_of_ne_zero_right x (by omega)
  omega
theorem lcm_bd (x y : Int) (hx : 1 ≤ x) (hx2 : x ≤ 20000) (hy : 1 ≤ y) (hy2 : y ≤ 1000) : 1 ≤ x / (Int.gcd x y : Int) * y ∧ x / (Int.gcd x y : Int) * y ≤ 20000000 ∧ 1 ≤ x / (Int.gcd x y : Int) ∧ x / (Int.gcd x y : Int) ≤ 20000 := by
  have hg := gcd_pos_i x y hy
  have hd : (Int.gcd x y : Int) ∣ x := Int.gcd_dvd_left ..
  obtain ⟨q, hq⟩ := hd
  generalize (Int.gcd x y : Int) = g at *
  have hq2 : x / g = q := by rw [hq]; exact Int.mul_ediv_cancel_left _ (by omega)
  rw [hq2]
  have h1 : 1 ≤ q := by
    rcases Int.lt_or_le 0 q with h | h
    · omega
    · have := Int.mul_nonpos_of_nonneg_of_nonpos (show 0 ≤ g by omega) h
      omega
  have h2 : 1 * q ≤ g * q := Int.mul_le_mul_of_nonneg_right hg (by omega)
  have h3 : 1 * 1 ≤ q * y := Int.mul_le_mul h1 hy (by omega) (by omega)
  have h4 : q * y ≤ 20000 * 1000 := Int.mul_le_mul (by omega) hy2 (by omega) (by omega)
  omega

set_option maxRecDepth 100000 in
set_option maxHeartbeats 4000000 in
theorem rhyper_any (v : Value) (l : List Tsk) (w : World) (h : TsksAt w w.heap.size v l) (hl : l.length ≤ 1000000) (hs : ∀ i, i < l.length → (tskAt l i).secs.length ≤ 1000000 ∧ (tskAt l i).name.size ≤ 1000000) :
    Calls Try.prog 16 #[v] w fun e w' => e = .returned (.tuple #[.int .i64 (hyp l).1, .int .i64 (hyp l).2]) ∧ Bel w w' := by
  have HC := rcheck_any v l w h hl hs
  have HC := Lib.hid HC
  by_cases h0 : rchk l = 0
  · have HY : Hid (hyp l = hypT l 1) := Lib.hid (by unfold hyp; rw [if_pos h0])
    obtain ⟨hl8, hok⟩ := rchk_ok h0
    obtain ⟨A, c, rfl, hlc⟩ := h.form
    rw [h0] at HC
    clear h0
    go_enter Try.func16, Try.ntmps16
    go_wp2_with (go_at_call 12; (with_reducible refine (HC.out).mono ?_); rintro e w2 ⟨rfl, hb2⟩; obtain ⟨x, rfl⟩ : ∃ x : Ext w, w2 = x.w := ext_of (hb2.after (by (repeat (first | exact Ext.bel _ | exact Bel.refl | refine Bel.alloc ?_ _ | refine Bel.drew ?_ | refine Bel.drewN ?_ _)))); clear hb2)
    have HK := Lib.hid hok
    clear hok hs
    go_loopw [5, 6] (fun u i wr => ∃ (k : Nat) (x : Ext w) (q : Int), k ≤ l.length ∧ i = .int .i64 k ∧ u = .int .i64 q ∧ wr = x.w ∧ 1 ≤ q ∧ q ≤ 20000 ∧ hypT (l.drop k) q = hypT l 1) (fun _ i _ => l.length - (intOf i).toNat)
    case atStart => exact ⟨0, x, 1, by omega, rfl, rfl, rfl, by omega, by omega, rfl⟩
    case round =>
      clear x
      obtain ⟨k, x, q, hk, rfl, rfl, rfl, hq1, hq2, hd⟩ := hrel
      by_cases hlt : k < l.length
      · obtain ⟨b, off, rfl, hb, hA⟩ := h.at_ (by omega)
        obtain ⟨sv, hT, hS⟩ := hA k hlt
        obtain ⟨_, _, _, b3, b4, _⟩ := tskBad_false.1 (HK.out k hlt).1
        obtain ⟨t0, t1, t2, t3, t4, t5, t6⟩ := hT
        clear t0 t2 t3 t4 t5 t6 hA hS
        have hgp := gcd_pos_i q (tskAt l k).per b3
        obtain ⟨m1, m2, m3, m4⟩ := lcm_bd q (tskAt l k).per hq1 hq2 b3 b4
        have HD : Hid ((if 20000 < q / (Int.gcd q (tskAt l k).per : Int) * (tskAt l k).per then (0, 7) else hypT (l.drop (k + 1)) (q / (Int.gcd q (tskAt l k).per : Int) * (tskAt l k).per)) = hypT l 1) := Lib.hid (by rw [← hd, tsks_drop hlt]; rfl)
        clear hd
        have hv := divisor_any q (tskAt l k).per
        generalize hg : (Int.gcd q (tskAt l k).per : Int) = g at *
        generalize (tskAt l k).per = p at *
        have HV := Lib.hid hv
        clear hv hg
        go_wp2
        (refine wp_region_ext (wb := w) (by (repeat (first | exact Ext.bel _ | exact Bel.refl | refine Bel.alloc ?_ _ | refine Bel.drew ?_ | refine Bel.drewN ?_ _))) (by kernel_rfl) (by kernel_rfl) ?_; (repeat (any_goals (first | go_big_quiet_step ((go_at_call 24; with_reducible exact ext_call (HV.out _ (by omega) (by omega) (by omega) (by omega)))) | quiet_step ((go_at_call 24; with_reducible exact ext_call (HV.out _ (by omega) (by omega) (by omega) (by omega)))) | (refine wpQuiet_step (fun K hK => ?_); go_simp; split <;> (refine hK _ ?_; clear hK K))))); all_goals (refine wpQuiet_nil ?_; intro _ hw'; obtain ⟨y, hw''⟩ := hw'; subst hw''))
        go_wp2
        · go_ret2
          have e := HD.out
          rw [if_pos (by assumption)] at e
          exact ⟨by rw [HY.out, ← e] <;> rfl, y.bel⟩
        · have e := HD.out
          rw [if_neg (by omega)] at e
          have E := Lib.hid e
          clear e
          go_roundw
          case rel => exact ⟨k + 1, y, _, by omega, by go_num, rfl, rfl, by omega, by omega, E.out⟩
          case measure => simp [intOf]; omega
      · have : k = l.length := by omega
        subst this
        have HD := Lib.hid hd
        clear hd
        go_wp2
        go_ret2
        refine ⟨?_, x.bel⟩
        rw [HY.out, ← HD.out]; simp [hypT]
  · have HY : Hid (hyp l = (0, rchk l)) := Lib.hid (by unfold hyp; rw [if_neg h0])
    have hne : (rchk l != 0) = true := by simpa using h0
    generalize rchk l = e at *
    clear h0
    go_enter Try.func16, Try.ntmps16
    go_wp2_with (go_at_call 12; (with_reducible refine (HC.out).mono ?_); rintro e w2 ⟨rfl, hb2⟩; obtain ⟨x, rfl⟩ : ∃ x : Ext w, w2 = x.w := ext_of (hb2.after (by (repeat (first | exact Ext.bel _ | exact Bel.refl | refine Bel.alloc ?_ _ | refine Bel.drew ?_ | refine Bel.drewN ?_ _)))); clear hb2)
    go_ret2
    exact ⟨by rw [HY.out]; rfl, x.bel⟩
end Go.Proofs.Ytcddgkoldffaaaa
