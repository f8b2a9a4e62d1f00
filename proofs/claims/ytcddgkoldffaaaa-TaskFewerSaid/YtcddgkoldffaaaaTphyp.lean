import Derived.Test.YtcddgkoldffaaaaThyp
import Derived.Test.YtcddgkoldffaaaaTmodq
import Derived.Deep.Cut
namespace Go.Proofs.Ytcddgkoldffaaaa
open Go.RowKit
structure Sized (l : List Tsk) : Prop where
  len : l.length ≤ 1000000
  parts : ∀ i, i < l.length → (tskAt l i).secs.length ≤ 1000000 ∧ (tskAt l i).name.size ≤ 1000000
  wf : ∀ i, i < l.length → (tskAt l i).wf
/-- what is shown of the program's Check -/
def CheckP : Prop := ∀ (v : Value) (l : List Tsk) (w : World), TsksAt w w.heap.size v l → Sized l →
  Calls Try.prog 11 #[v] w fun e w' => e = .returned (.int .i64 (rchk l)) ∧ Bel w w'
set_option maxRecDepth 100000 in
set_option maxHeartbeats 4000000 in
theorem hyper_any (HCP : CheckP) (v : Value) (l : List Tsk) (w : World) (h : TsksAt w w.heap.size v l) (hs : Sized l) :
    Calls Try.prog 15 #[v] w fun e w' => e = .returned (.tuple #[.int .i64 (hyp l).1, .int .i64 (hyp l).2]) ∧ Bel w w' := by
  have HC := HCP v l w h hs
  have HC := Lib.hid HC
  have hl := hs.len
  by_cases h0 : rchk l = 0
  · have HY : Hid (hyp l = hypT l 1) := Lib.hid (by unfold hyp; rw [if_pos h0])
    obtain ⟨hl8, hok⟩ := rchk_ok h0
    obtain ⟨A, c, rfl, hlc⟩ := h.form
    rw [h0] at HC
    clear h0
    go_enter Try.func15, Try.ntmps15
    go_wp2_with (go_at_call 11; (with_reducible refine (HC.out).mono ?_); rintro e w2 ⟨rfl, hb2⟩; obtain ⟨x, rfl⟩ : ∃ x : Ext w, w2 = x.w := ext_of (hb2.after (by (repeat (first | exact Ext.bel _ | exact Bel.refl | refine Bel.alloc ?_ _ | refine Bel.drew ?_ | refine Bel.drewN ?_ _)))); clear hb2)
    have HK := Lib.hid hok
    clear hok hs
    go_loopw [5, 17] (fun u i wr => ∃ (k : Nat) (x : Ext w) (q : Int), k ≤ l.length ∧ i = .int .i64 k ∧ u = .int .i64 q ∧ wr = x.w ∧ 1 ≤ q ∧ q ≤ 20000 ∧ hypT (l.drop k) q = hypT l 1) (fun _ i _ => l.length - (intOf i).toNat)
    case atStart => exact ⟨0, x, 1, by omega, rfl, rfl, rfl, by omega, by omega, rfl⟩
    case round =>
      clear x
      obtain ⟨k, x, q, hk, rfl, rfl, rfl, hq1, hq2, hd⟩ := hrel
      by_cases hlt : k < l.length
      · obtain ⟨b, off, rfl, hb, hA⟩ := h.at_ (by omega)
        obtain ⟨sv, hT, hS⟩ := hA k hlt
        obtain ⟨A2, c2, rfl, hc2⟩ := hS.form
        obtain ⟨_, _, _, b3, b4, _⟩ := tskBad_false.1 (HK.out k hlt).1
        obtain ⟨t0, t1, t2, t3, t4, t5, t6⟩ := hT
        have hgp := gcd_pos_i q (tskAt l k).per b3
        obtain ⟨m1, m2, m3, m4⟩ := lcm_bd q (tskAt l k).per hq1 hq2 b3 b4
        have HD : Hid ((if 20000 < q / (Int.gcd q (tskAt l k).per : Int) * (tskAt l k).per then (0, 7) else hypT (l.drop (k + 1)) (q / (Int.gcd q (tskAt l k).per : Int) * (tskAt l k).per)) = hypT l 1) := Lib.hid (by rw [← hd, tsks_drop hlt]; rfl)
        clear hd
        go_upto_region 8 with (fail)
        (generalize hW : World.alloc _ _ = wb; have q0_0 := (congrArg (fun W : World => W.cell? ⟨x.w.heap.size, 0, none⟩) hW).symm; simp [go_sem] at q0_0; have q0_1 := (congrArg (fun W : World => W.cell? ⟨x.w.heap.size, 1, none⟩) hW).symm; simp [go_sem] at q0_1; have q0_2 := (congrArg (fun W : World => W.cell? ⟨x.w.heap.size, 2, none⟩) hW).symm; simp [go_sem] at q0_2; have q0_3 := (congrArg (fun W : World => W.cell? ⟨x.w.heap.size, 3, none⟩) hW).symm; simp [go_sem] at q0_3; have q0_4 := (congrArg (fun W : World => W.cell? ⟨x.w.heap.size, 4, none⟩) hW).symm; simp [go_sem] at q0_4; have q0_5 := (congrArg (fun W : World => W.cell? ⟨x.w.heap.size, 5, none⟩) hW).symm; simp [go_sem] at q0_5; have q0_6 := (congrArg (fun W : World => W.cell? ⟨x.w.heap.size, 6, none⟩) hW).symm; simp [go_sem] at q0_6; have qz0 : x.w.heap.size < wb.heap.size := (by rw [← hW]; simp [go_sem]; try omega); have HBW : Hid (Bel w wb) := Lib.hid (by rw [← hW]; (repeat (first | exact Ext.bel _ | exact Bel.refl | refine Bel.alloc ?_ _ | refine Bel.drew ?_ | refine Bel.drewN ?_ _))); clear hW; have hkw := HBW.out.cells; have : b < wb.heap.size := (Nat.lt_of_lt_of_le (by first | assumption | omega) HBW.out.le))
        clear t0 t1 t2 t3 t4 t5 t6 hA hS q0_0 q0_2 q0_3 q0_4 q0_5 q0_6
        generalize hpp : (tskAt l k).per = p at *
        clear hpp
        (refine wp_region_ext (wb := wb) (by (repeat (first | exact Ext.bel _ | exact Bel.refl | refine Bel.alloc ?_ _ | refine Bel.drew ?_ | refine Bel.drewN ?_ _))) (by kernel_rfl) (by kernel_rfl) ?_; (repeat (any_goals (first | go_big_quiet_step (fail) | quiet_step (fail) | (refine wpQuiet_step (fun K hK => ?_); go_simp; split <;> (refine hK _ ?_; clear hK K))))); all_goals (refine wpQuiet_nil ?_; intro _ hw'; obtain ⟨y, hw''⟩ := hw'; subst hw''))
        go_wp2
        go_loopw [8, 9] (fun u v wr => ∃ (a b : Int) (z : Ext wb), 0 ≤ a ∧ 0 ≤ b ∧ a ≤ 20000 ∧ b ≤ 20000 ∧ u = .int .i64 a ∧ v = .int .i64 b ∧ wr = z.w ∧ Int.gcd a b = Int.gcd q p) (fun _ v _ => (intOf v).toNat)
        case atStart => exact ⟨q, p, y, by omega, by omega, by omega, by omega, rfl, rfl, rfl, rfl⟩
        case round =>
          clear y
          obtain ⟨a, b', z, ha, hb', ha2, hb2, rfl, rfl, rfl, hg⟩ := hrel
          have HG := Lib.hid hg
          clear hg
          by_cases h0 : b' = 0
          · have h2 : (b' != 0) = false := by simpa using h0
            have hga : Hid ((Int.gcd q p : Int) = a) := Lib.hid (by rw [← HG.out, h0]; simp; omega)
            rw [hga.out] at hgp m1 m2 m3 m4 HD
            clear HG hga h0
            go_wp2
            (refine wp_region_ext (wb := wb) (by (repeat (first | exact Ext.bel _ | exact Bel.refl | refine Bel.alloc ?_ _ | refine Bel.drew ?_ | refine Bel.drewN ?_ _))) (by kernel_rfl) (by kernel_rfl) ?_; (repeat (any_goals (first | go_big_quiet_step (fail) | quiet_step (fail) | (refine wpQuiet_step (fun K hK => ?_); go_simp; split <;> (refine hK _ ?_; clear hK K))))); all_goals (refine wpQuiet_nil ?_; intro _ hw'; obtain ⟨y, hw''⟩ := hw'; subst hw''))
            go_wp2
            · go_ret2
              have e := HD.out
              rw [if_pos (by assumption)] at e
              exact ⟨by rw [HY.out, ← e] <;> rfl, HBW.out.trans y.bel⟩
            · have e := HD.out
              rw [if_neg (by omega)] at e
              have E := Lib.hid e
              clear e
              go_roundw
              case rel => exact ⟨k + 1, ⟨_, HBW.out.trans y.bel⟩, _, by omega, by go_num, rfl, rfl, by omega, by omega, E.out⟩
              case measure => simp [intOf]; omega
          · have h1 : 0 < b' := by omega
            have h2 : (b' != 0) = true := by simp; omega
            have hm1 := Int.emod_nonneg a (show b' ≠ 0 by omega)
            have hm2 := Int.emod_lt_of_pos a h1
            have HX : Hid (Int.gcd b' (a % b') = Int.gcd q p) := Lib.hid (by rw [← HG.out]; exact gcd_step a b' ha h1)
            clear HG h0
            go_wp2
            (refine wp_region_ext (wb := wb) (by (repeat (first | exact Ext.bel _ | exact Bel.refl | refine Bel.alloc ?_ _ | refine Bel.drew ?_ | refine Bel.drewN ?_ _))) (by kernel_rfl) (by kernel_rfl) ?_; (repeat (any_goals (first | go_big_quiet_step (fail) | quiet_step (fail) | (refine wpQuiet_step (fun K hK => ?_); go_simp; split <;> (refine hK _ ?_; clear hK K))))); all_goals (refine wpQuiet_nil ?_; intro _ hw'; obtain ⟨y, hw''⟩ := hw'; subst hw''))
            go_wp2
            go_roundw
            case rel => exact ⟨b', a % b', y, by omega, hm1, hb2, by omega, rfl, rfl, rfl, HX.out⟩
            case measure => simp [intOf]; omega
      · have : k = l.length := by omega
        subst this
        have HD := Lib.hid hd
        clear hd
        go_wp2
        go_ret2
        refine ⟨?_, x.bel⟩
        rw [HY.out, ← HD.out]; simp [hypT]
  · have HY : Hid (hyp l = (0, rchk l)) := Lib.hid (by unfold hyp; rw [if_neg h0])
    have hne : (rchk l != 0) = true := by simpa using h0
    generalize rchk l = e at *
    clear h0
    go_enter Try.func15, Try.ntmps15
    go_wp2_with (go_at_call 11; (with_reducible refine (HC.out).mono ?_); rintro e w2 ⟨rfl, hb2⟩; obtain ⟨x, rfl⟩ : ∃ x : Ext w, w2 = x.w := ext_of (hb2.after (by (repeat (first | exact Ext.bel _ | exact Bel.refl | refine Bel.alloc ?_ _ | refine Bel.drew ?_ | refine Bel.drewN ?_ _)))); clear hb2)
    go_ret2
    exact ⟨by rw [HY.out]; rfl, x.bel⟩
end Go.Proofs.Ytcddgkoldffaaaa
