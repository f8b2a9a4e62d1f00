import Derived.Test.YtalphoebmefgoaaG31
import Derived.Deep.CutRange
/- slices.swapRangeCmpFunc over lines. -/
namespace Go.Proofs.Ytalphoebmefgoaa
open Go.RowKit
set_option maxRecDepth 100000 in
set_option maxHeartbeats 4000000 in
theorem swapR_any (b C len cap p q n : Nat) (d : Nat → Ln) (fv : Value) (w : World) (h : RowAt w b 72 (rowL d C)) (hl : len ≤ C) (hC : C ≤ 4000) (hp : p + n ≤ q) (hq : q + n ≤ len) :
    Calls Try.prog 111 #[.slice (some ⟨b, 0, none⟩) len cap, .int .i64 p, .int .i64 q, .int .i64 n, fv] w fun e w' => e = .returned (.tuple #[]) ∧ GrsOk w [b] w' ∧ RowAt w' b 72 (rowL (swr d p q n) C) := by
  have H := Lib.hid h
  clear h
  go_enter Try.func111, Try.ntmps111
  go_wp2
  go_loopw [10] (fun s10 wq => ∃ (i : Nat) (z : Grs w [b]), i ≤ n ∧ s10 = .int .i64 i ∧ wq = z.w ∧ RowAt z.w b 72 (rowL (swr d p q i) C)) (fun s10 _ => n - (intOf s10).toNat)
  case atStart => exact ⟨0, ⟨w, grs_refl w _⟩, Nat.zero_le _, rfl, rfl, by rw [swr_zero]; exact H.out⟩
  case round =>
    obtain ⟨i, z, hi, rfl, rfl, hz⟩ := hrel
    by_cases hlt : i < n
    · have hdl : decide ((i : Int) < (n : Int)) = true := by simp; omega
      have hw1 : IntKind.i64.wrap ((p : Int) + (i : Int)) = ((p + i : Nat) : Int) := by rw [← Int.natCast_add]; exact IntWalk.i64_in _ (by omega)
      have hw2 : IntKind.i64.wrap ((q : Int) + (i : Int)) = ((q + i : Nat) : Int) := by rw [← Int.natCast_add]; exact IntWalk.i64_in _ (by omega)
      have HS := swr_step d (by omega : p + n ≤ q) hlt
      have HZ := Lib.hid hz
      have HG := Lib.hid z.2
      have hj1 : ((p + i : Nat) : Int) < (len : Int) := by omega
      have hj2 : ((q + i : Nat) : Int) < (len : Int) := by omega
      have hC1 : p + i < C := by omega
      have hC2 : q + i < C := by omega
      obtain ⟨x0, x1, x2, x3, x4, x5, x6, x7⟩ := row_line hz hC1
      obtain ⟨y0, y1, y2, y3, y4, y5, y6, y7⟩ := row_line hz hC2
      have fz := fun k => hz.frozen k
      clear hz
      generalize swr d p q i = e at *
      have hne : p + i ≠ q + i := by omega
      go_upto_region 3 with (fail)
      go_region
      have hr : RowAt (setL (setL z.w b ((p + i) * 8) (e (q + i))) b ((q + i) * 8) (e (p + i))) b 72 (rowL (swp e (p + i) (q + i)) C) := by
        have := row_put (row_put HZ.out hC1 (e (q + i))) hC2 (e (p + i))
        rwa [putL_swp] at this
      have hg : GrsOk w [b] (setL (setL z.w b ((p + i) * 8) (e (q + i))) b ((q + i) * 8) (e (p + i))) := grs_setL (grs_setL HG.out (by simp) _ _) (by simp) _ _
      unfold setL at hr hg
      rw [HS] at hr
      generalize World.setCell (World.setCell _ _ _) _ _ = W9 at *
      have HR9 := Lib.hid hr
      have HG9 := Lib.hid hg
      clear hr hg x0 x1 x2 x3 x4 x5 x6 x7 y0 y1 y2 y3 y4 y5 y6 y7 fz
      go_wp2
      go_roundw
      case rel => exact ⟨i + 1, ⟨_, grs_drewN HG9.out 1⟩, by omega, by go_num, rfl, HR9.out⟩
      case measure => simp [intOf]; omega
    · obtain rfl : i = n := by omega
      have hdl : decide ((i : Int) < (i : Int)) = false := by simp
      go_wp2
      go_end0
      exact ⟨rfl, z.2, hz⟩
end Go.Proofs.Ytalphoebmefgoaa
/- slices.rotateCmpFunc over lines. -/
namespace Go.Proofs.Ytalphoebmefgoaa
open Go.RowKit
set_option maxRecDepth 100000 in
set_option maxHeartbeats 4000000 in
theorem rotR_any (b C len cap a m t : Nat) (d : Nat → Ln) (fv : Value) (w : World) (h : RowAt w b 72 (rowL d C)) (hl : len ≤ C) (hC : C ≤ 4000) (h1 : a < m) (h2 : m < t) (h3 : t ≤ len) :
    Calls Try.prog 110 #[.slice (some ⟨b, 0, none⟩) len cap, .int .i64 a, .int .i64 m, .int .i64 t, fv] w fun e w' => e = .returned (.tuple #[]) ∧ GrsOk w [b] w' ∧ RowAt w' b 72 (rowL (rotF d a m t) C) := by
  have H := Lib.hid h
  clear h
  have wi : ∀ x : Nat, x ≤ 4000 → IntKind.i64.wrap (x : Int) = x := fun x hx => IntWalk.i64_in _ (by omega)
  have k1 : IntKind.i64.wrap ((m : Int) - (a : Int)) = ((m - a : Nat) : Int) := by rw [show (m : Int) - (a : Int) = ((m - a : Nat) : Int) by omega]; exact wi _ (by omega)
  have k2 : IntKind.i64.wrap ((t : Int) - (m : Int)) = ((t - m : Nat) : Int) := by rw [show (t : Int) - (m : Int) = ((t - m : Nat) : Int) by omega]; exact wi _ (by omega)
  go_enter Try.func110, Try.ntmps110
  go_wp2
  clear k1 k2
  go_loopw [10, 11] (fun s10 s11 wq => ∃ (i j : Nat) (z : Grs w [b]) (e : Nat → Ln), 0 < i ∧ 0 < j ∧ i ≤ m - a ∧ j ≤ t - m ∧ s10 = .int .i64 i ∧ s11 = .int .i64 j ∧ wq = z.w ∧ RowAt z.w b 72 (rowL e C) ∧ rotF e (m - i) m (m + j) = rotF d a m t) (fun s10 s11 _ => (intOf s10).toNat + (intOf s11).toNat)
  case atStart => exact ⟨m - a, t - m, ⟨w, grs_refl w _⟩, d, by omega, by omega, by omega, by omega, rfl, rfl, rfl, H.out, by rw [show m - (m - a) = a by omega, show m + (t - m) = t by omega]⟩
  case round =>
    obtain ⟨i, j, z, e, hi0, hj0, hi, hj, rfl, rfl, rfl, hz, hr⟩ := hrel
    have HZ := Lib.hid hz
    have HG := Lib.hid z.2
    have HR := Lib.hid hr
    clear hz hr
    have k3 : IntKind.i64.wrap ((m : Int) - (i : Int)) = ((m - i : Nat) : Int) := by rw [show (m : Int) - (i : Int) = ((m - i : Nat) : Int) by omega]; exact wi _ (by omega)
    by_cases he : i = j
    · subst he
      have hdl : ((i : Int) != (i : Int)) = false := by simp
      have hC := fun W (hW : RowAt W b 72 (rowL e C)) => swapR_any b C len cap (m - i) m i e fv W hW hl hC (by omega) (by omega)
      go_wp2_with fail
      refine (hC _ HZ.out).mono ?_
      rintro e1 w1 ⟨rfl, hg, hq⟩
      go_wp2
      go_end0
      refine ⟨rfl, grs_trans2 HG.out hg, ?_⟩
      rw [← HR.out, ← rot_same e (by omega)]
      exact hq
    · have hdl : ((i : Int) != (j : Int)) = true := by simp; omega
      by_cases hgt : j < i
      · have hd2 : decide ((j : Int) < (i : Int)) = true := by simp; omega
        have k4 : IntKind.i64.wrap ((i : Int) - (j : Int)) = ((i - j : Nat) : Int) := by rw [show (i : Int) - (j : Int) = ((i - j : Nat) : Int) by omega]; exact wi _ (by omega)
        have hC := fun W (hW : RowAt W b 72 (rowL e C)) => swapR_any b C len cap (m - i) m j e fv W hW hl hC (by omega) (by omega)
        go_wp2_with fail
        refine (hC _ HZ.out).mono ?_
        rintro e1 w1 ⟨rfl, hg, hq⟩
        have HQ := Lib.hid hq
        have HG1 := Lib.hid (grs_trans2 HG.out hg)
        clear hq hg
        go_wp2
        go_roundw
        case rel => exact ⟨i - j, j, ⟨w1, HG1.out⟩, _, by omega, hj0, by omega, hj, by go_num, rfl, rfl, HQ.out, by rw [rot_more e (by omega) hgt]; exact HR.out⟩
        case measure => simp [intOf]; omega
      · have hd2 : decide ((j : Int) < (i : Int)) = false := by simp; omega
        have k4 : IntKind.i64.wrap ((j : Int) - (i : Int)) = ((j - i : Nat) : Int) := by rw [show (j : Int) - (i : Int) = ((j - i : Nat) : Int) by omega]; exact wi _ (by omega)
        have k5 : IntKind.i64.wrap ((m : Int) + (j : Int)) = ((m + j : Nat) : Int) := by rw [← Int.natCast_add]; exact wi _ (by omega)
        have k6 : IntKind.i64.wrap ((m : Int) + (j : Int) - (i : Int)) = ((m + j - i : Nat) : Int) := by rw [show (m : Int) + (j : Int) - (i : Int) = ((m + j - i : Nat) : Int) by omega]; exact wi _ (by omega)
        have hC := fun W (hW : RowAt W b 72 (rowL e C)) => swapR_any b C len cap (m - i) (m + j - i) i e fv W hW hl hC (by omega) (by omega)
        go_wp2_with fail
        refine (hC _ HZ.out).mono ?_
        rintro e1 w1 ⟨rfl, hg, hq⟩
        have HQ := Lib.hid hq
        have HG1 := Lib.hid (grs_trans2 HG.out hg)
        clear hq hg
        go_wp2
        go_roundw
        case rel => exact ⟨i, j - i, ⟨w1, HG1.out⟩, _, hi0, by omega, hi, by omega, rfl, by go_num, rfl, HQ.out, by rw [rot_less e (by omega) (by omega)]; exact HR.out⟩
        case measure => simp [intOf]; omega
end Go.Proofs.Ytalphoebmefgoaa
/- slices.symMergeCmpFunc over lines. -/
namespace Go.Proofs.Ytalphoebmefgoaa
open Go.RowKit
theorem wrapN (x : Nat) (h : x ≤ 20000) : IntKind.i64.wrap (x : Int) = x := IntWalk.i64_in _ (by omega)
def SymPost (b C a t : Nat) (d : Nat → Ln) (w : World) : Ending → World → Prop := fun e w' => e = .returned (.tuple #[]) ∧ GrsOk w [b] w' ∧ ∃ e, RowAt w' b 72 (rowL e C) ∧ Sam d e a t ∧ Srt leL e a t
set_option maxRecDepth 100000 in
set_option maxHeartbeats 4000000 in
theorem symR_one (b C len cap a t : Nat) (d : Nat → Ln) (w : World) (h : RowAt w b 72 (rowL d C)) (hl : len ≤ C) (hC : C ≤ 4000) (h2 : a + 1 < t) (h3 : t ≤ len) (hs : Srt leL d (a + 1) t) :
    Calls Try.prog 108 #[.slice (some ⟨b, 0, none⟩) len cap, .int .i64 a, .int .i64 ((a + 1 : Nat) : Int), .int .i64 t, .func (.func 79) #[] #[]] w (SymPost b C a t d w) := by
  have H := Lib.hid h
  have HS := Lib.hid hs
  clear h hs
  obtain ⟨m, hm⟩ : ∃ m, m = a + 1 := ⟨_, rfl⟩
  rw [← hm] at HS ⊢
  have k1 : IntKind.i64.wrap ((m : Int) - (a : Int)) = 1 := by rw [show (m : Int) - (a : Int) = 1 by omega]; decide
  go_enter Try.func108, Try.ntmps108
  go_wp2
  clear k1
  have HM := Lib.hid hm
  clear hm
  go_loopw [10, 11] (fun s10 s11 wq => ∃ (i j : Nat) (y : Ext w), m ≤ i ∧ i ≤ j ∧ j ≤ t ∧ s10 = .int .i64 i ∧ s11 = .int .i64 j ∧ wq = y.w ∧ (m < i → cmpL (d (i - 1)) (d a) < 0) ∧ (j < t → ¬ cmpL (d j) (d a) < 0)) (fun s10 s11 _ => (intOf s11).toNat - (intOf s10).toNat)
  case atStart => exact ⟨m, t, ⟨w, Bel.refl⟩, Nat.le_refl _, by have := HM.out; omega, Nat.le_refl _, rfl, rfl, rfl, fun h => absurd h (Nat.lt_irrefl _), fun h => absurd h (Nat.lt_irrefl _)⟩
  case round =>
    obtain ⟨i, j, y0, hi, hij, hj, rfl, rfl, rfl, hlo, hup⟩ := hrel
    have HLO := Lib.hid hlo
    have HUP := Lib.hid hup
    clear hlo hup
    by_cases hlt : i < j
    · have hdl : decide ((i : Int) < (j : Int)) = true := by simp; omega
      have hw1 : IntKind.i64.wrap ((i : Int) + (j : Int)) = ((i + j : Nat) : Int) := by rw [← Int.natCast_add]; exact wrapN _ (by omega)
      obtain ⟨q, hq⟩ : ∃ q, q = (i + j) / 2 := ⟨_, rfl⟩
      have hq1 : ((i : Int) + (j : Int)) / 2 = (q : Int) := by omega
      have hq2 : i ≤ q ∧ q < j := by omega
      have hw2 : IntKind.i64.wrap ((q : Int) + 1) = ((q + 1 : Nat) : Int) := by rw [show (q : Int) + 1 = ((q + 1 : Nat) : Int) by omega]; exact wrapN _ (by omega)
      have hL1 : (q : Int) < (len : Int) := by omega
      have hL2 : (a : Int) < (len : Int) := by omega
      have hr := H.out.bel y0.bel
      have hbl := hr.lt
      obtain ⟨x0, x1, x2, x3, x4, x5, x6, x7⟩ := row_line hr (show q < C by omega)
      obtain ⟨y0', y1', y2', y3', y4', y5', y6', y7'⟩ := row_line hr (show a < C by omega)
      have HLS := Lib.hid (fun W => less_at (d q) (d a) W)
      clear hq hr
      generalize hX : d q = X at *
      generalize hY : d a = Y at *
      have HX := Lib.hid hX
      have HY := Lib.hid hY
      clear hX hY
      go_upto_region 5 with (fail)
      by_cases hlss : cmpL X Y < 0
      · have hd3 : decide (cmpL X Y < 0) = true := by simp [hlss]
        (refine wp_region_ext (wb := y0.w) (by (repeat (first | exact Ext.bel _ | exact Bel.refl | refine Bel.alloc ?_ _ | refine Bel.drew ?_ | refine Bel.drewN ?_ _))) (by kernel_rfl) (by kernel_rfl) ?_; (repeat (any_goals (first | go_big_quiet_step ((go_at_call 79; with_reducible exact ext_call (HLS.out _))) | quiet_step ((go_at_call 79; with_reducible exact ext_call (HLS.out _))) | (refine wpQuiet_step (fun K hK => ?_); go_simp; split <;> (refine hK _ ?_; clear hK K))))); all_goals (refine wpQuiet_nil ?_; intro _ hw'; obtain ⟨y, hw''⟩ := hw'; subst hw''))
        have HD : Hid (cmpL (d q) Y < 0) := Lib.hid (by rw [HX.out]; exact hlss)
        clear hbl x0 x1 x2 x3 x4 x5 x6 x7 y0' y1' y2' y3' y4' y5' y6' y7' HLS hlss
        go_wp2
        go_roundw
        case rel => exact ⟨q + 1, j, ⟨_, y0.bel.trans y.bel⟩, by omega, by omega, hj, by go_num, rfl, rfl, fun _ => HD.out, HUP.out⟩
        case measure => simp [intOf]; omega
      · have hd3 : decide (cmpL X Y < 0) = false := by simp [hlss]
        (refine wp_region_ext (wb := y0.w) (by (repeat (first | exact Ext.bel _ | exact Bel.refl | refine Bel.alloc ?_ _ | refine Bel.drew ?_ | refine Bel.drewN ?_ _))) (by kernel_rfl) (by kernel_rfl) ?_; (repeat (any_goals (first | go_big_quiet_step ((go_at_call 79; with_reducible exact ext_call (HLS.out _))) | quiet_step ((go_at_call 79; with_reducible exact ext_call (HLS.out _))) | (refine wpQuiet_step (fun K hK => ?_); go_simp; split <;> (refine hK _ ?_; clear hK K))))); all_goals (refine wpQuiet_nil ?_; intro _ hw'; obtain ⟨y, hw''⟩ := hw'; subst hw''))
        have HD : Hid (¬ cmpL (d q) Y < 0) := Lib.hid (by rw [HX.out]; exact hlss)
        clear hbl x0 x1 x2 x3 x4 x5 x6 x7 y0' y1' y2' y3' y4' y5' y6' y7' HLS hlss
        go_wp2
        go_roundw
        case rel => exact ⟨i, q, ⟨_, y0.bel.trans y.bel⟩, hi, by omega, by omega, rfl, rfl, rfl, HLO.out, fun _ => HD.out⟩
        case measure => simp [intOf]; omega
    · obtain rfl : i = j := by omega
      have hdl : decide ((i : Int) < (i : Int)) = false := by simp
      have hw1 : IntKind.i64.wrap ((i : Int) - 1) = ((i - 1 : Nat) : Int) := by rw [show (i : Int) - 1 = ((i - 1 : Nat) : Int) by have := HM.out; omega]; exact wrapN _ (by omega)
      go_wp2
      have HG0 := Lib.hid (grs_bel (grs_refl w [b]) y0.bel)
      have HR0 := Lib.hid (H.out.bel y0.bel)
      generalize y0.w = w0 at *
      obtain ⟨p, hp⟩ : ∃ p, p = i - 1 := ⟨_, rfl⟩
      rw [← hp] at hw1
      have HP := Lib.hid hp
      clear hp
      go_loopw [13] (fun s13 wq => ∃ (k : Nat) (y : Grs w [b]), a ≤ k ∧ k ≤ p ∧ s13 = .int .i64 k ∧ wq = y.w ∧ RowAt y.w b 72 (rowL (insU d a k) C)) (fun s13 _ => p - (intOf s13).toNat)
      case atStart => exact ⟨a, ⟨w0, HG0.out⟩, Nat.le_refl _, by have := HM.out; have := HP.out; omega, rfl, rfl, by rw [insU_self]; exact HR0.out⟩
      case round =>
        obtain ⟨k, y, hk1, hk2, rfl, rfl, hr⟩ := hrel
        have HR := Lib.hid hr
        by_cases hkp : k < p
        · have hd2 : decide ((k : Int) < (p : Int)) = true := by simp; omega
          have hw3 : IntKind.i64.wrap ((k : Int) + 1) = ((k + 1 : Nat) : Int) := by rw [show (k : Int) + 1 = ((k + 1 : Nat) : Int) by omega]; exact wrapN _ (by have := HP.out; omega)
          have hL1 : (k : Int) < (len : Int) := by have := HP.out; omega
          have hL2 : ((k + 1 : Nat) : Int) < (len : Int) := by have := HP.out; omega
          have hC1 : k < C := by have := HP.out; omega
          have hC2 : k + 1 < C := by have := HP.out; omega
          have hne : k ≠ k + 1 := by omega
          have HSW := Lib.hid (insU_step d (show a ≤ k by omega))
          obtain ⟨x0, x1, x2, x3, x4, x5, x6, x7⟩ := row_line hr hC1
          obtain ⟨y0', y1', y2', y3', y4', y5', y6', y7'⟩ := row_line hr hC2
          have fz := fun k => hr.frozen k
          have HG := Lib.hid y.2
          clear hr
          generalize insU d a k = e at *
          go_upto_region 11 with (fail)
          go_region
          have hr : RowAt (setL (setL y.w b (k * 8) (e (k + 1))) b ((k + 1) * 8) (e k)) b 72 (rowL (insU d a (k + 1)) C) := by
            have := row_put (row_put HR.out hC1 (e (k + 1))) hC2 (e k)
            rwa [putL_swp, HSW.out] at this
          have hg : GrsOk w [b] (setL (setL y.w b (k * 8) (e (k + 1))) b ((k + 1) * 8) (e k)) := grs_setL (grs_setL HG.out (by simp) _ _) (by simp) _ _
          unfold setL at hr hg
          generalize World.setCell (World.setCell _ _ _) _ _ = W9 at *
          have HR9 := Lib.hid hr
          have HG9 := Lib.hid hg
          clear hr hg x0 x1 x2 x3 x4 x5 x6 x7 y0' y1' y2' y3' y4' y5' y6' y7' fz
          go_wp2
          go_roundw
          case rel => exact ⟨k + 1, ⟨_, grs_drewN HG9.out 1⟩, by omega, by omega, by go_num, rfl, HR9.out⟩
          case measure => simp [intOf]; omega
        · obtain rfl : k = p := by omega
          have hd2 : decide ((k : Int) < (k : Int)) = false := by simp
          have HD : Hid (Sam d (insU d a k) a t ∧ Srt leL (insU d a k) a t) := by
            have e1 := HM.out
            have e2 := HP.out
            subst e1
            subst e2
            refine Lib.hid ⟨(sam_insU d hk1).wide (Nat.le_refl _) (by omega), srt_insU leL_trans leL_refl HS.out hk1 (by omega) (fun hh => leL_of_lt (HLO.out (by omega))) (fun hh => ?_)⟩
            have := HUP.out (by omega)
            rw [show i - 1 + 1 = i by omega]
            exact leL_of_nlt (by omega)
          clear hr
          go_wp2
          go_end0
          exact ⟨rfl, y.2, _, HR.out, HD.out.1, HD.out.2⟩
end Go.Proofs.Ytalphoebmefgoaa
/- slices.symMergeCmpFunc over lines: a second part of one element. -/
namespace Go.Proofs.Ytalphoebmefgoaa
open Go.RowKit
set_option maxRecDepth 100000 in
set_option maxHeartbeats 4000000 in
theorem symR_last (b C len cap a m : Nat) (d : Nat → Ln) (w : World) (h : RowAt w b 72 (rowL d C)) (hl : len ≤ C) (hC : C ≤ 4000) (h2 : a + 1 < m) (h3 : m + 1 ≤ len) (hs : Srt leL d a m) :
    Calls Try.prog 108 #[.slice (some ⟨b, 0, none⟩) len cap, .int .i64 a, .int .i64 m, .int .i64 ((m + 1 : Nat) : Int), .func (.func 79) #[] #[]] w (SymPost b C a (m + 1) d w) := by
  have H := Lib.hid h
  have HS := Lib.hid hs
  clear h hs
  obtain ⟨t, ht⟩ : ∃ t, t = m + 1 := ⟨_, rfl⟩
  rw [← ht] at h3 ⊢
  have k1 : IntKind.i64.wrap ((m : Int) - (a : Int)) = ((m - a : Nat) : Int) := by rw [show (m : Int) - (a : Int) = ((m - a : Nat) : Int) by omega]; exact wrapN _ (by omega)
  have k2 : (((m - a : Nat) : Int) == 1) = false := by simp; omega
  have k3 : IntKind.i64.wrap ((t : Int) - (m : Int)) = 1 := by rw [show (t : Int) - (m : Int) = 1 by omega]; decide
  go_enter Try.func108, Try.ntmps108
  go_wp2
  clear k1 k2 k3
  have HM := Lib.hid ht
  clear ht
  go_loopw [14, 15] (fun s10 s11 wq => ∃ (i j : Nat) (y : Ext w), a ≤ i ∧ i ≤ j ∧ j ≤ m ∧ s10 = .int .i64 i ∧ s11 = .int .i64 j ∧ wq = y.w ∧ (a < i → ¬ cmpL (d m) (d (i - 1)) < 0) ∧ (j < m → cmpL (d m) (d j) < 0)) (fun s10 s11 _ => (intOf s11).toNat - (intOf s10).toNat)
  case atStart => exact ⟨a, m, ⟨w, Bel.refl⟩, Nat.le_refl _, by omega, Nat.le_refl _, rfl, rfl, rfl, fun h => absurd h (Nat.lt_irrefl _), fun h => absurd h (Nat.lt_irrefl _)⟩
  case round =>
    obtain ⟨i, j, y0, hi, hij, hj, rfl, rfl, rfl, hlo, hup⟩ := hrel
    have HLO := Lib.hid hlo
    have HUP := Lib.hid hup
    clear hlo hup
    by_cases hlt : i < j
    · have hdl : decide ((i : Int) < (j : Int)) = true := by simp; omega
      have hw1 : IntKind.i64.wrap ((i : Int) + (j : Int)) = ((i + j : Nat) : Int) := by rw [← Int.natCast_add]; exact wrapN _ (by have := HM.out; omega)
      obtain ⟨q, hq⟩ : ∃ q, q = (i + j) / 2 := ⟨_, rfl⟩
      have hq1 : ((i : Int) + (j : Int)) / 2 = (q : Int) := by omega
      have hq2 : i ≤ q ∧ q < j := by omega
      have hw2 : IntKind.i64.wrap ((q : Int) + 1) = ((q + 1 : Nat) : Int) := by rw [show (q : Int) + 1 = ((q + 1 : Nat) : Int) by omega]; exact wrapN _ (by have := HM.out; omega)
      have hL1 : (q : Int) < (len : Int) := by have := HM.out; omega
      have hL2 : (m : Int) < (len : Int) := by have := HM.out; omega
      have hr := H.out.bel y0.bel
      have hbl := hr.lt
      obtain ⟨x0, x1, x2, x3, x4, x5, x6, x7⟩ := row_line hr (show m < C by have := HM.out; omega)
      obtain ⟨y0', y1', y2', y3', y4', y5', y6', y7'⟩ := row_line hr (show q < C by have := HM.out; omega)
      have HLS := Lib.hid (fun W => less_at (d m) (d q) W)
      clear hq hr
      generalize hX : d m = X at *
      generalize hY : d q = Y at *
      have HX := Lib.hid hX
      have HY := Lib.hid hY
      clear hX hY
      go_upto_region 17 with (fail)
      by_cases hlss : cmpL X Y < 0
      · have hd3 : decide (cmpL X Y < 0) = true := by simp [hlss]
        (refine wp_region_ext (wb := y0.w) (by (repeat (first | exact Ext.bel _ | exact Bel.refl | refine Bel.alloc ?_ _ | refine Bel.drew ?_ | refine Bel.drewN ?_ _))) (by kernel_rfl) (by kernel_rfl) ?_; (repeat (any_goals (first | go_big_quiet_step ((go_at_call 79; with_reducible exact ext_call (HLS.out _))) | quiet_step ((go_at_call 79; with_reducible exact ext_call (HLS.out _))) | (refine wpQuiet_step (fun K hK => ?_); go_simp; split <;> (refine hK _ ?_; clear hK K))))); all_goals (refine wpQuiet_nil ?_; intro _ hw'; obtain ⟨y, hw''⟩ := hw'; subst hw''))
        have HD : Hid (cmpL X (d q) < 0) := Lib.hid (by rw [HY.out]; exact hlss)
        clear hbl x0 x1 x2 x3 x4 x5 x6 x7 y0' y1' y2' y3' y4' y5' y6' y7' HLS hlss
        go_wp2
        go_roundw
        case rel => exact ⟨i, q, ⟨_, y0.bel.trans y.bel⟩, hi, by omega, by omega, rfl, rfl, rfl, HLO.out, fun _ => HD.out⟩
        case measure => simp [intOf]; omega
      · have hd3 : decide (cmpL X Y < 0) = false := by simp [hlss]
        (refine wp_region_ext (wb := y0.w) (by (repeat (first | exact Ext.bel _ | exact Bel.refl | refine Bel.alloc ?_ _ | refine Bel.drew ?_ | refine Bel.drewN ?_ _))) (by kernel_rfl) (by kernel_rfl) ?_; (repeat (any_goals (first | go_big_quiet_step ((go_at_call 79; with_reducible exact ext_call (HLS.out _))) | quiet_step ((go_at_call 79; with_reducible exact ext_call (HLS.out _))) | (refine wpQuiet_step (fun K hK => ?_); go_simp; split <;> (refine hK _ ?_; clear hK K))))); all_goals (refine wpQuiet_nil ?_; intro _ hw'; obtain ⟨y, hw''⟩ := hw'; subst hw''))
        have HD : Hid (¬ cmpL X (d q) < 0) := Lib.hid (by rw [HY.out]; exact hlss)
        clear hbl x0 x1 x2 x3 x4 x5 x6 x7 y0' y1' y2' y3' y4' y5' y6' y7' HLS hlss
        go_wp2
        go_roundw
        case rel => exact ⟨q + 1, j, ⟨_, y0.bel.trans y.bel⟩, by omega, by omega, hj, by go_num, rfl, rfl, fun _ => HD.out, HUP.out⟩
        case measure => simp [intOf]; omega
    · obtain rfl : i = j := by omega
      have hdl : decide ((i : Int) < (i : Int)) = false := by simp
      go_wp2
      have HG0 := Lib.hid (grs_bel (grs_refl w [b]) y0.bel)
      have HR0 := Lib.hid (H.out.bel y0.bel)
      generalize y0.w = w0 at *
      go_loopw [17] (fun s17 wq => ∃ (k : Nat) (y : Grs w [b]), i ≤ k ∧ k ≤ m ∧ s17 = .int .i64 k ∧ wq = y.w ∧ RowAt y.w b 72 (rowL (insD d m k) C)) (fun s17 _ => (intOf s17).toNat)
      case atStart => exact ⟨m, ⟨w0, HG0.out⟩, hj, Nat.le_refl _, rfl, rfl, by rw [insD_self]; exact HR0.out⟩
      case round =>
        obtain ⟨k, y, hk1, hk2, rfl, rfl, hr⟩ := hrel
        have HR := Lib.hid hr
        by_cases hkp : i < k
        · have hd2 : decide ((i : Int) < (k : Int)) = true := by simp; omega
          have hw3 : IntKind.i64.wrap ((k : Int) - 1) = ((k - 1 : Nat) : Int) := by rw [show (k : Int) - 1 = ((k - 1 : Nat) : Int) by omega]; exact wrapN _ (by have := HM.out; omega)
          have hL1 : (k : Int) < (len : Int) := by have := HM.out; omega
          have hL2 : ((k - 1 : Nat) : Int) < (len : Int) := by have := HM.out; omega
          have hC1 : k < C := by have := HM.out; omega
          have hC2 : k - 1 < C := by have := HM.out; omega
          have hne : k ≠ k - 1 := by omega
          have HSW : Hid (swp (insD d m k) k (k - 1) = insD d m (k - 1)) := Lib.hid (by
            have := insD_step d (i := m) (j := k - 1) (by omega)
            rwa [show k - 1 + 1 = k by omega] at this)
          obtain ⟨x0, x1, x2, x3, x4, x5, x6, x7⟩ := row_line hr hC1
          obtain ⟨y0', y1', y2', y3', y4', y5', y6', y7'⟩ := row_line hr hC2
          have fz := fun k => hr.frozen k
          have HG := Lib.hid y.2
          clear hr
          generalize hp : k - 1 = p at *
          have HP := Lib.hid hp
          clear hp
          generalize insD d m k = e at *
          go_upto_region 23 with (fail)
          go_region
          have hr : RowAt (setL (setL y.w b (k * 8) (e p)) b (p * 8) (e k)) b 72 (rowL (insD d m p) C) := by
            have := row_put (row_put HR.out hC1 (e p)) hC2 (e k)
            rwa [putL_swp, HSW.out] at this
          have hg : GrsOk w [b] (setL (setL y.w b (k * 8) (e p)) b (p * 8) (e k)) := grs_setL (grs_setL HG.out (by simp) _ _) (by simp) _ _
          unfold setL at hr hg
          generalize World.setCell (World.setCell _ _ _) _ _ = W9 at *
          have HR9 := Lib.hid hr
          have HG9 := Lib.hid hg
          clear hr hg x0 x1 x2 x3 x4 x5 x6 x7 y0' y1' y2' y3' y4' y5' y6' y7' fz
          go_wp2
          go_roundw
          case rel => exact ⟨p, ⟨_, grs_drewN HG9.out 1⟩, by have := HP.out; omega, by have := HP.out; omega, by go_num, rfl, HR9.out⟩
          case measure => have := HP.out; simp [intOf]; omega
        · obtain rfl : k = i := by omega
          have hd2 : decide ((k : Int) < (k : Int)) = false := by simp
          have HD : Hid (Sam d (insD d m k) a t ∧ Srt leL (insD d m k) a t) := by
            have e1 := HM.out
            subst e1
            exact Lib.hid ⟨(sam_insD d hj).wide hi (by omega), srt_insD leL_trans leL_refl HS.out hi hj (fun hh => leL_of_nlt (by have := HLO.out hh; omega)) (fun hh => leL_of_lt (HUP.out hh))⟩
          clear hr
          go_wp2
          go_end0
          exact ⟨rfl, y.2, _, HR.out, HD.out.1, HD.out.2⟩
end Go.Proofs.Ytalphoebmefgoaa
/- slices.symMergeCmpFunc over lines. -/
namespace Go.Proofs.Ytalphoebmefgoaa
open Go.RowKit
theorem rot_none {α : Type} (d : Nat → α) {s m E : Nat} (h1 : s ≤ m) (h2 : m ≤ E) (h : s = m ∨ m = E) : rotF d s m E = d := by
  funext k; unfold rotF
  repeat' split
  all_goals first | rfl | (congr 1; omega) | (exfalso; omega)
/-- where the search of the middle begins and ends -/
structure Midd (a m t mid S0 R0 : Nat) : Prop where
  lo : a ≤ S0
  le : S0 ≤ R0
  rm : R0 ≤ m
  rmid : R0 ≤ mid
  st : mid + m - S0 ≤ t
  l : a < S0 → mid + m - S0 = t
  u : R0 < m → R0 = mid
set_option maxRecDepth 100000 in
set_option maxHeartbeats 4000000 in
theorem symR_more (b C len cap a m t : Nat) (d : Nat → Ln) (w : World) (h : RowAt w b 72 (rowL d C)) (hl : len ≤ C) (hC : C ≤ 4000) (h1 : a + 1 < m) (h2 : m + 1 < t) (h3 : t ≤ len) (hs1 : Srt leL d a m) (hs2 : Srt leL d m t)
    (IH : ∀ (a' m' t' : Nat) (d' : Nat → Ln) (w' : World), t' - a' < t - a → a' < m' → m' < t' → t' ≤ len → RowAt w' b 72 (rowL d' C) → Srt leL d' a' m' → Srt leL d' m' t' →
      Calls Try.prog 108 #[.slice (some ⟨b, 0, none⟩) len cap, .int .i64 a', .int .i64 m', .int .i64 t', .func (.func 79) #[] #[]] w' (SymPost b C a' t' d' w')) :
    Calls Try.prog 108 #[.slice (some ⟨b, 0, none⟩) len cap, .int .i64 a, .int .i64 m, .int .i64 t, .func (.func 79) #[] #[]] w (SymPost b C a t d w) := by
  have H := Lib.hid h
  have HS1 := Lib.hid hs1
  have HS2 := Lib.hid hs2
  have HI := Lib.hid IH
  clear h hs1 hs2 IH
  obtain ⟨mid, hmid⟩ : ∃ mid, mid = (a + t) / 2 := ⟨_, rfl⟩
  have k1 : IntKind.i64.wrap ((m : Int) - (a : Int)) = ((m - a : Nat) : Int) := by rw [show (m : Int) - (a : Int) = ((m - a : Nat) : Int) by omega]; exact wrapN _ (by omega)
  have k2 : (((m - a : Nat) : Int) == 1) = false := by simp; omega
  have k3 : IntKind.i64.wrap ((t : Int) - (m : Int)) = ((t - m : Nat) : Int) := by rw [show (t : Int) - (m : Int) = ((t - m : Nat) : Int) by omega]; exact wrapN _ (by omega)
  have k4 : (((t - m : Nat) : Int) == 1) = false := by simp; omega
  have k5 : IntKind.i64.wrap ((a : Int) + (t : Int)) = ((a + t : Nat) : Int) := by rw [← Int.natCast_add]; exact wrapN _ (by omega)
  have k6 : ((a : Int) + (t : Int)) / 2 = (mid : Int) := by omega
  have k7 : IntKind.i64.wrap ((mid : Int) + (m : Int)) = ((mid + m : Nat) : Int) := by rw [← Int.natCast_add]; exact wrapN _ (by omega)
  have HMID := Lib.hid hmid
  have hb1 : a < mid ∧ mid < t := by omega
  clear hmid
  go_enter Try.func108, Try.ntmps108
  go_upto_region 27 with (fail)
  clear k1 k2 k3 k4 k5 k6 k7
  go_upto_if 140 with (fail)
  go_cut [20, 21] from 25 (fun s20 s21 wx => ∃ S0 R0 : Nat, s20 = .int .i64 S0 ∧ s21 = .int .i64 R0 ∧ Midd a m t mid S0 R0 ∧ w = wx)
  case first =>
    by_cases hgt : mid < m
    · have hd : decide ((mid : Int) < (m : Int)) = true := by simp; omega
      have k8 : IntKind.i64.wrap ((mid : Int) + (m : Int) - (t : Int)) = ((mid + m - t : Nat) : Int) := by rw [show (mid : Int) + (m : Int) - (t : Int) = ((mid + m - t : Nat) : Int) by have := HMID.out; omega]; exact wrapN _ (by omega)
      go_wp2
      go_meet
      case rel => exact ⟨mid + m - t, mid, by go_num, rfl, ⟨by have := HMID.out; omega, by have := HMID.out; omega, by omega, by omega, by have := HMID.out; omega, fun _ => by have := HMID.out; omega, fun _ => rfl⟩, rfl⟩
    · have hd : decide ((mid : Int) < (m : Int)) = false := by simp; omega
      go_wp2
      go_meet
      case rel => exact ⟨a, m, rfl, rfl, ⟨by omega, by omega, by omega, by omega, by have := HMID.out; omega, fun h => by omega, fun h => by omega⟩, rfl⟩
  case rest =>
    as_aux_lemma =>
    obtain ⟨S0, R0, rfl, rfl, hM, rfl⟩ := hcut
    have HM := Lib.hid hM
    have hM1 := hM.lo
    have hM2 := hM.le
    have hM3 := hM.rm
    have hM4 := hM.rmid
    have hM5 := hM.st
    clear hM
    obtain ⟨p, hp⟩ : ∃ p, p = mid + m - 1 := ⟨_, rfl⟩
    have k9 : IntKind.i64.wrap ((mid : Int) + (m : Int) - 1) = (p : Int) := by rw [show (mid : Int) + (m : Int) - 1 = (p : Int) by omega]; exact wrapN _ (by omega)
    have HP := Lib.hid hp
    clear hp
    go_wp2
    clear k9
    go_loopw [20, 21] (fun s20 s21 wq => ∃ (i j : Nat) (y : Ext w), S0 ≤ i ∧ i ≤ j ∧ j ≤ R0 ∧ s20 = .int .i64 i ∧ s21 = .int .i64 j ∧ wq = y.w ∧ (S0 < i → ¬ cmpL (d (p - (i - 1))) (d (i - 1)) < 0) ∧ (j < R0 → cmpL (d (p - j)) (d j) < 0)) (fun s20 s21 _ => (intOf s21).toNat - (intOf s20).toNat)
    case atStart => exact ⟨S0, R0, ⟨w, Bel.refl⟩, Nat.le_refl _, hM2, Nat.le_refl _, rfl, rfl, rfl, fun h => absurd h (Nat.lt_irrefl _), fun h => absurd h (Nat.lt_irrefl _)⟩
    case round =>
      obtain ⟨i, j, y0, hi, hij, hj, rfl, rfl, rfl, hlo, hup⟩ := hrel
      have HLO := Lib.hid hlo
      have HUP := Lib.hid hup
      clear hlo hup
      by_cases hlt : i < j
      · have hdl : decide ((i : Int) < (j : Int)) = true := by simp; omega
        have hw1 : IntKind.i64.wrap ((i : Int) + (j : Int)) = ((i + j : Nat) : Int) := by rw [← Int.natCast_add]; exact wrapN _ (by omega)
        obtain ⟨q, hq⟩ : ∃ q, q = (i + j) / 2 := ⟨_, rfl⟩
        have hq1 : ((i : Int) + (j : Int)) / 2 = (q : Int) := by omega
        have hq2 : i ≤ q ∧ q < j := by omega
        obtain ⟨r, hr0⟩ : ∃ r, r = p - q := ⟨_, rfl⟩
        have hr1 : r + q = p := by have := HP.out; omega
        have hw2 : IntKind.i64.wrap ((q : Int) + 1) = ((q + 1 : Nat) : Int) := by rw [show (q : Int) + 1 = ((q + 1 : Nat) : Int) by omega]; exact wrapN _ (by omega)
        have hw3 : IntKind.i64.wrap ((p : Int) - (q : Int)) = (r : Int) := by rw [show (p : Int) - (q : Int) = (r : Int) by omega]; exact wrapN _ (by have := HP.out; omega)
        have hL1 : (q : Int) < (len : Int) := by omega
        have hL2 : (r : Int) < (len : Int) := by have := HP.out; omega
        have hr := H.out.bel y0.bel
        have hbl := hr.lt
        obtain ⟨x0, x1, x2, x3, x4, x5, x6, x7⟩ := row_line hr (show r < C by omega)
        obtain ⟨y0', y1', y2', y3', y4', y5', y6', y7'⟩ := row_line hr (show q < C by omega)
        have HLS := Lib.hid (fun W => less_at (d r) (d q) W)
        have HR0 := Lib.hid hr0
        clear hq hr hr0 hr1
        generalize hX : d r = X at *
        generalize hY : d q = Y at *
        have HX := Lib.hid hX
        have HY := Lib.hid hY
        clear hX hY
        go_upto_region 35 with (fail)
        by_cases hlss : cmpL X Y < 0
        · have hd3 : decide (cmpL X Y < 0) = true := by simp [hlss]
          (refine wp_region_ext (wb := y0.w) (by (repeat (first | exact Ext.bel _ | exact Bel.refl | refine Bel.alloc ?_ _ | refine Bel.drew ?_ | refine Bel.drewN ?_ _))) (by kernel_rfl) (by kernel_rfl) ?_; (repeat (any_goals (first | go_big_quiet_step ((go_at_call 79; with_reducible exact ext_call (HLS.out _))) | quiet_step ((go_at_call 79; with_reducible exact ext_call (HLS.out _))) | (refine wpQuiet_step (fun K hK => ?_); go_simp; split <;> (refine hK _ ?_; clear hK K))))); all_goals (refine wpQuiet_nil ?_; intro _ hw'; obtain ⟨y, hw''⟩ := hw'; subst hw''))
          have HD : Hid (cmpL (d (p - q)) (d q) < 0) := Lib.hid (by rw [← HR0.out, HX.out, HY.out]; exact hlss)
          clear hbl x0 x1 x2 x3 x4 x5 x6 x7 y0' y1' y2' y3' y4' y5' y6' y7' HLS hlss
          go_wp2
          go_roundw
          case rel => exact ⟨i, q, ⟨_, y0.bel.trans y.bel⟩, hi, by omega, by omega, rfl, rfl, rfl, HLO.out, fun _ => HD.out⟩
          case measure => simp [intOf]; omega
        · have hd3 : decide (cmpL X Y < 0) = false := by simp [hlss]
          (refine wp_region_ext (wb := y0.w) (by (repeat (first | exact Ext.bel _ | exact Bel.refl | refine Bel.alloc ?_ _ | refine Bel.drew ?_ | refine Bel.drewN ?_ _))) (by kernel_rfl) (by kernel_rfl) ?_; (repeat (any_goals (first | go_big_quiet_step ((go_at_call 79; with_reducible exact ext_call (HLS.out _))) | quiet_step ((go_at_call 79; with_reducible exact ext_call (HLS.out _))) | (refine wpQuiet_step (fun K hK => ?_); go_simp; split <;> (refine hK _ ?_; clear hK K))))); all_goals (refine wpQuiet_nil ?_; intro _ hw'; obtain ⟨y, hw''⟩ := hw'; subst hw''))
          have HD : Hid (¬ cmpL (d (p - q)) (d q) < 0) := Lib.hid (by rw [← HR0.out, HX.out, HY.out]; exact hlss)
          clear hbl x0 x1 x2 x3 x4 x5 x6 x7 y0' y1' y2' y3' y4' y5' y6' y7' HLS hlss
          go_wp2
          go_roundw
          case rel => exact ⟨q + 1, j, ⟨_, y0.bel.trans y.bel⟩, by omega, by omega, hj, by go_num, rfl, rfl, fun _ => HD.out, HUP.out⟩
          case measure => simp [intOf]; omega
      · obtain rfl : i = j := by omega
        have hdl : decide ((i : Int) < (i : Int)) = false := by simp
        have HCUT : Hid (Cutt leL d a m t mid i) := by
          have hm := HM.out
          have hp := HP.out
          refine Lib.hid ⟨by omega, by omega, by omega, by omega, fun h1 h2 => ?_, fun h1 h2 => ?_⟩
          · by_cases hc : S0 < i
            · have := HLO.out hc
              rw [show p - (i - 1) = mid + m - i by omega] at this
              exact leL_of_nlt (by omega)
            · have := hm.l (by omega); omega
          · by_cases hc : i < R0
            · have := HUP.out hc
              rw [show p - i = mid + m - i - 1 by omega] at this
              exact leL_of_lt this
            · have := hm.u (by omega); omega
        obtain ⟨E, hE⟩ : ∃ E, E = mid + m - i := ⟨_, rfl⟩
        have k10 : IntKind.i64.wrap ((mid : Int) + (m : Int) - (i : Int)) = (E : Int) := by rw [show (mid : Int) + (m : Int) - (i : Int) = (E : Int) by omega]; exact wrapN _ (by omega)
        have HROT := Lib.hid (cut_rot leL_trans HS1.out HS2.out HCUT.out)
        rw [← hE] at HROT
        have HE := Lib.hid hE
        have hg1 : i ≤ m ∧ m ≤ E ∧ E ≤ t ∧ mid ≤ E := by omega
        clear hE
        go_upto_region 39 with (fail)
        clear k10
        have HRW := Lib.hid (H.out.bel y0.bel)
        have HGW := Lib.hid (grs_bel (grs_refl w [b]) y0.bel)
        generalize y0.w = w0 at *
        go_cut [185] from 25 (fun sB wx => sB = .bool (decide (i < m) && decide (m < E)) ∧ w0 = wx)
        case first =>
          by_cases c1 : i < m
          · have e1 : decide ((i : Int) < (m : Int)) = true := by simp; omega
            by_cases c2 : m < E
            · have e2 : decide ((m : Int) < (E : Int)) = true := by simp; omega
              go_wp2
              go_meet
              case rel => exact ⟨by simp [c1, c2], rfl⟩
            · have e2 : decide ((m : Int) < (E : Int)) = false := by simp; omega
              go_wp2
              go_meet
              case rel => exact ⟨by simp [c1, c2], rfl⟩
          · have e1 : decide ((i : Int) < (m : Int)) = false := by simp; omega
            go_wp2
            go_meet
            case rel => exact ⟨by simp [c1], rfl⟩
        case rest =>
        as_aux_lemma =>
        obtain ⟨rfl, rfl⟩ := hcut
        obtain ⟨B, hB⟩ : ∃ B, (decide (i < m) && decide (m < E)) = B := ⟨_, rfl⟩
        rw [hB]
        go_upto_if 185 with (fail)
        go_cut [] from 25 (fun wx => GrsOk w [b] wx ∧ RowAt wx b 72 (rowL (rotF d i m E) C))
        case first =>
          cases B
          · have hr : RowAt w0 b 72 (rowL (rotF d i m E) C) := by
              rw [rot_none d hg1.1 hg1.2.1 (by simp only [Bool.and_eq_false_iff, decide_eq_false_iff_not] at hB; omega)]; exact HRW.out
            have HR := Lib.hid hr
            clear hr
            go_wp2
            go_meet
            case rel => exact ⟨HGW.out, HR.out⟩
          · have HC2 := Lib.hid (rotR_any b C len cap i m E d (.func (.func 79) #[] #[]) w0 HRW.out hl hC (by simp only [Bool.and_eq_true, decide_eq_true_eq] at hB; omega) (by simp only [Bool.and_eq_true, decide_eq_true_eq] at hB; omega) (by omega))
            go_wp2_with fail
            refine HC2.out.mono ?_
            rintro e w1 ⟨rfl, hg, hr⟩
            have HG := Lib.hid (grs_trans2 HGW.out hg)
            have HR := Lib.hid hr
            clear hg hr
            go_wp2
            go_meet
            case rel => exact ⟨HG.out, HR.out⟩
        case rest =>
        as_aux_lemma =>
        have HG1 := Lib.hid hcut.1
        have HR1 := Lib.hid hcut.2
        clear hcut hB B HRW HGW w0
        have HSM : Hid (Sam d (rotF d i m E) a t) := Lib.hid ((sam_rot d hg1.1 hg1.2.1).wide (by omega) (by omega))
        generalize rotF d i m E = r0 at *
        have hia : a ≤ i := by omega
        have him : i ≤ mid := by omega
        clear HCUT
        generalize wc = w0 at *
        go_upto_region 41 with (fail)
        go_cut [199] from 25 (fun sB wx => sB = .bool (decide (a < i) && decide (i < mid)) ∧ w0 = wx)
        case first =>
          by_cases c1 : a < i
          · have e1 : decide ((a : Int) < (i : Int)) = true := by simp; omega
            by_cases c2 : i < mid
            · have e2 : decide ((i : Int) < (mid : Int)) = true := by simp; omega
              go_wp2
              go_meet
              case rel => exact ⟨by simp [c1, c2], rfl⟩
            · have e2 : decide ((i : Int) < (mid : Int)) = false := by simp; omega
              go_wp2
              go_meet
              case rel => exact ⟨by simp [c1, c2], rfl⟩
          · have e1 : decide ((a : Int) < (i : Int)) = false := by simp; omega
            go_wp2
            go_meet
            case rel => exact ⟨by simp [c1], rfl⟩
        case rest =>
        as_aux_lemma =>
        obtain ⟨rfl, rfl⟩ := hcut
        obtain ⟨B, hB⟩ : ∃ B, (decide (a < i) && decide (i < mid)) = B := ⟨_, rfl⟩
        rw [hB]
        go_upto_if 199 with (fail)
        go_cut [] from 25 (fun wx => ∃ e1, GrsOk w [b] wx ∧ RowAt wx b 72 (rowL e1 C) ∧ Sam r0 e1 a mid ∧ Srt leL e1 a mid)
        case first =>
          cases B
          · have hs : Srt leL r0 a mid := by
              have h := HROT.out
              simp only [Bool.and_eq_false_iff, decide_eq_false_iff_not] at hB
              by_cases hc : a < i
              · rw [show mid = i by omega]; exact h.1
              · have : a = i := by omega
                rw [this]; exact h.2.1
            have HS := Lib.hid hs
            clear hs
            go_wp2
            go_meet
            case rel => exact ⟨r0, HG1.out, HR1.out, Sam.refl _ _ _, HS.out⟩
          · have HC2 := Lib.hid (HI.out a i mid r0 w0 (by omega) (by simp only [Bool.and_eq_true, decide_eq_true_eq] at hB; omega) (by simp only [Bool.and_eq_true, decide_eq_true_eq] at hB; omega) (by omega) HR1.out HROT.out.1 HROT.out.2.1)
            go_wp2_with fail
            refine HC2.out.mono ?_
            rintro e w1 ⟨rfl, hg, e1, hr, hsm, hst⟩
            have HG := Lib.hid (grs_trans2 HG1.out hg)
            have HR := Lib.hid hr
            have HS := Lib.hid (And.intro hsm hst)
            clear hg hr hsm hst
            go_wp2
            go_meet
            case rel => exact ⟨e1, HG.out, HR.out, HS.out.1, HS.out.2⟩
        case rest =>
        as_aux_lemma =>
        obtain ⟨e1, hg, hr, hsm, hst⟩ := hcut
        have HG2 := Lib.hid hg
        have HR2 := Lib.hid hr
        have HSM1 := Lib.hid hsm
        have HST1 := Lib.hid hst
        clear hg hr hsm hst hB B HR1 HG1 w0
        generalize wc = w0 at *
        go_upto_region 43 with (fail)
        go_cut [213] from 25 (fun sB wx => sB = .bool (decide (mid < E) && decide (E < t)) ∧ w0 = wx)
        case first =>
          by_cases c1 : mid < E
          · have e1 : decide ((mid : Int) < (E : Int)) = true := by simp; omega
            by_cases c2 : E < t
            · have e2 : decide ((E : Int) < (t : Int)) = true := by simp; omega
              go_wp2
              go_meet
              case rel => exact ⟨by simp [c1, c2], rfl⟩
            · have e2 : decide ((E : Int) < (t : Int)) = false := by simp; omega
              go_wp2
              go_meet
              case rel => exact ⟨by simp [c1, c2], rfl⟩
          · have e1 : decide ((mid : Int) < (E : Int)) = false := by simp; omega
            go_wp2
            go_meet
            case rel => exact ⟨by simp [c1], rfl⟩
        case rest =>
        as_aux_lemma =>
        obtain ⟨rfl, rfl⟩ := hcut
        obtain ⟨B, hB⟩ : ∃ B, (decide (mid < E) && decide (E < t)) = B := ⟨_, rfl⟩
        rw [hB]
        have HK1 : Hid (Srt leL e1 mid E ∧ Srt leL e1 E t) := Lib.hid ⟨HROT.out.2.2.1.keep (fun k h1 _ => HSM1.out.out k (.inr h1)), HROT.out.2.2.2.1.keep (fun k h1 _ => HSM1.out.out k (.inr (by omega)))⟩
        have HFIN : Hid (∀ e2, Sam e1 e2 mid t → Srt leL e2 mid t → Sam d e2 a t ∧ Srt leL e2 a t) := Lib.hid (fun e2 g1 g2 =>
          ⟨HSM.out.trans ((HSM1.out.wide (Nat.le_refl _) (by omega)).trans (g1.wide (by omega) (Nat.le_refl _))),
           srt_join (HST1.out.keep (fun k _ h => g1.out k (.inl h))) g2 (all_sam2 g1 (all_sam HSM1.out HROT.out.2.2.2.2))⟩)
        cases B
        · have hs : Srt leL e1 mid t := by
            have h := HK1.out
            simp only [Bool.and_eq_false_iff, decide_eq_false_iff_not] at hB
            by_cases hc : mid < E
            · rw [show t = E by omega]; exact h.1
            · have : mid = E := by omega
              rw [this]; exact h.2
          have HF := Lib.hid (HFIN.out e1 (Sam.refl _ _ _) hs)
          clear hs HROT HFIN
          go_wp2
          go_end0
          exact ⟨rfl, HG2.out, e1, HR2.out, HF.out.1, HF.out.2⟩
        · have HC2 := Lib.hid (HI.out mid E t e1 w0 (by omega) (by simp only [Bool.and_eq_true, decide_eq_true_eq] at hB; omega) (by simp only [Bool.and_eq_true, decide_eq_true_eq] at hB; omega) h3 HR2.out HK1.out.1 HK1.out.2)
          clear HROT
          go_wp2_with fail
          refine HC2.out.mono ?_
          rintro e w1 ⟨rfl, hg, e2, hr, hsm, hst⟩
          have HG := Lib.hid (grs_trans2 HG2.out hg)
          have HR := Lib.hid hr
          have HF := Lib.hid (HFIN.out e2 hsm hst)
          clear hg hr hsm hst
          go_wp2
          go_end0
          exact ⟨rfl, HG.out, e2, HR.out, HF.out.1, HF.out.2⟩
theorem symR_any (b C len cap : Nat) (hl : len ≤ C) (hC : C ≤ 4000) : ∀ (N a m t : Nat) (d : Nat → Ln) (w : World), t - a ≤ N → a < m → m < t → t ≤ len → RowAt w b 72 (rowL d C) → Srt leL d a m → Srt leL d m t →
    Calls Try.prog 108 #[.slice (some ⟨b, 0, none⟩) len cap, .int .i64 a, .int .i64 m, .int .i64 t, .func (.func 79) #[] #[]] w (SymPost b C a t d w)
  | 0, a, m, t, d, w, hn, h1, h2, h3, hr, s1, s2 => by omega
  | N + 1, a, m, t, d, w, hn, h1, h2, h3, hr, s1, s2 => by
    by_cases c1 : m = a + 1
    · subst c1; exact symR_one b C len cap a t d w hr hl hC h2 h3 s2
    · by_cases c2 : t = m + 1
      · subst c2; exact symR_last b C len cap a m d w hr hl hC (by omega) h3 s1
      · exact symR_more b C len cap a m t d w hr hl hC (by omega) (by omega) h3 s1 s2 (fun a' m' t' d' w' g1 g2 g3 g4 g5 g6 g7 => symR_any b C len cap hl hC N a' m' t' d' w' (by omega) g2 g3 g4 g5 g6 g7)
end Go.Proofs.Ytalphoebmefgoaa
/- slices.SortStableFunc over lines. -/
namespace Go.Proofs.Ytalphoebmefgoaa
open Go.RowKit
theorem dvd_lt {s p a : Nat} (h1 : s ∣ p) (h2 : s ∣ a) (h : p < a) : p + s ≤ a := by
  obtain ⟨x, rfl⟩ := h1
  obtain ⟨y, rfl⟩ := h2
  have hxy : x < y := Nat.lt_of_mul_lt_mul_left h
  calc s * x + s = s * (x + 1) := by rw [Nat.mul_succ]
    _ ≤ s * y := Nat.mul_le_mul_left s hxy
/-- all runs of s are sorted -/
def Runs (e : Nat → Ln) (s n : Nat) : Prop := ∀ p, s ∣ p → Srt leL e p (min (p + s) n)
/-- the runs of 2 s before a are sorted, those of s behind it too -/
structure Half (e : Nat → Ln) (s n a : Nat) : Prop where
  two : ∀ p, p < a → 2 * s ∣ p → Srt leL e p (min (p + 2 * s) n)
  one : ∀ p, a ≤ p → s ∣ p → Srt leL e p (min (p + s) n)
theorem half_step {e f : Nat → Ln} {s n a : Nat} (h : Half e s n a) (ha : 2 * s ∣ a) (hs : 0 < s) (hm : Sam e f a (a + 2 * s)) (hf : Srt leL f a (a + 2 * s)) : Half f s n (a + 2 * s) := by
  refine ⟨fun p hp hd => ?_, fun p hp hd => (h.one p (by omega) hd).keep (fun k h1 _ => hm.out k (.inr (by omega)))⟩
  by_cases hc : p < a
  · have := dvd_lt hd ha hc
    exact (h.two p hc hd).keep (fun k _ h2 => hm.out k (.inl (by omega)))
  · have : p = a := by
      rcases Nat.lt_or_ge a p with g | g
      · have := dvd_lt ha hd g; omega
      · omega
    subst this
    exact hf.part (Nat.le_refl _) (by omega)
theorem half_last {e f : Nat → Ln} {s n a : Nat} (h : Half e s n a) (ha : 2 * s ∣ a) (hn : n < a + 2 * s) (hm : Sam e f a n) (hf : Srt leL f a n) : Runs f (2 * s) n := by
  intro p hd
  by_cases hc : p < a
  · have := dvd_lt hd ha hc
    exact (h.two p hc hd).keep (fun k _ h2 => hm.out k (.inl (by omega)))
  · by_cases he : p = a
    · subst he; exact hf.part (Nat.le_refl _) (by omega)
    · have := dvd_lt ha hd (by omega)
      intro i j h1 h2 h3
      omega
theorem runs_half {e : Nat → Ln} {s n : Nat} (h : Runs e s n) : Half e s n 0 := ⟨fun p hp => by omega, fun p _ hd => h p hd⟩
set_option maxRecDepth 100000 in
set_option maxHeartbeats 4000000 in
theorem stabR_any (b C len cap : Nat) (d : Nat → Ln) (w : World) (h : RowAt w b 72 (rowL d C)) (hl : len ≤ C) (hC : C ≤ 4000) :
    Calls Try.prog 102 #[.slice (some ⟨b, 0, none⟩) len cap, .int .i64 len, .func (.func 79) #[] #[]] w (SymPost b C 0 len d w) := by
  have H := Lib.hid h
  clear h
  go_enter Try.func102, Try.ntmps102
  go_wp2
  go_loopw [7, 8] (fun s7 s8 wq => ∃ (a : Nat) (z : Grs w [b]) (e : Nat → Ln), a ≤ len ∧ 20 ∣ a ∧ s7 = .int .i64 a ∧ s8 = .int .i64 ((a + 20 : Nat) : Int) ∧ wq = z.w ∧ RowAt z.w b 72 (rowL e C) ∧ Sam d e 0 len ∧ ∀ p, p < a → 20 ∣ p → Srt leL e p (min (p + 20) len)) (fun s7 s8 _ => len - (intOf s7).toNat)
  case atStart => exact ⟨0, ⟨w, grs_refl w _⟩, d, by omega, by omega, rfl, rfl, rfl, H.out, Sam.refl _ _ _, fun p hp => by omega⟩
  case round =>
    obtain ⟨a, z, e, ha, had, rfl, rfl, rfl, hr, hs, ho⟩ := hrel
    have HR := Lib.hid hr
    have HS := Lib.hid hs
    have HO := Lib.hid ho
    have HAD := Lib.hid had
    clear hr hs ho had
    by_cases hlt : a + 20 ≤ len
    · have hdl : decide (((a + 20 : Nat) : Int) ≤ (len : Int)) = true := by simp; omega
      have hdl2 : decide ((a : Int) + 20 ≤ (len : Int)) = true := by simp; omega
      have k1 : IntKind.i64.wrap (((a + 20 : Nat) : Int) + 20) = ((a + 20 + 20 : Nat) : Int) := by rw [show ((a + 20 : Nat) : Int) + 20 = ((a + 20 + 20 : Nat) : Int) by omega]; exact wrapN _ (by omega)
      have k2 : IntKind.i64.wrap ((a : Int) + 20 + 20) = ((a + 20 + 20 : Nat) : Int) := by rw [show (a : Int) + 20 + 20 = ((a + 20 + 20 : Nat) : Int) by omega]; exact wrapN _ (by omega)
      have HC2 := Lib.hid (insR_any b C len cap a (a + 20) e z.w HR.out hl hC (by omega) (by omega))
      go_wp2_with fail
      refine HC2.out.mono ?_
      rintro e1 w1 ⟨rfl, hg, f, hr, hsm, hst⟩
      have HG := Lib.hid (grs_trans2 z.2 hg)
      have HR1 := Lib.hid hr
      have HF : Hid (Sam d f 0 len ∧ ∀ p, p < a + 20 → 20 ∣ p → Srt leL f p (min (p + 20) len)) := Lib.hid ⟨HS.out.trans (hsm.wide (by omega) hlt), fun p hp hd => by
        by_cases hc : p < a
        · exact (HO.out p hc hd).keep (fun k _ h2 => hsm.out k (.inl (by have := dvd_lt hd HAD.out hc; omega)))
        · have : p = a := by have := HAD.out; omega
          subst this
          exact hst.part (Nat.le_refl _) (by omega)⟩
      clear hg hr hsm hst HC2 HR HS HO
      go_wp2
      go_roundw
      case rel => exact ⟨a + 20, ⟨_, HG.out⟩, f, hlt, by have := HAD.out; omega, by go_num, by go_num, rfl, HR1.out, HF.out.1, HF.out.2⟩
      case measure => simp [intOf]; omega
    · have hdl : decide (((a + 20 : Nat) : Int) ≤ (len : Int)) = false := by simp; omega
      have hdl2 : decide ((a : Int) + 20 ≤ (len : Int)) = false := by simp; omega
      have HC2 := Lib.hid (insR_any b C len cap a len e z.w HR.out hl hC ha (Nat.le_refl _))
      go_wp2_with fail
      refine HC2.out.mono ?_
      rintro e1 w1 ⟨rfl, hg, f, hr, hsm, hst⟩
      have HG := Lib.hid (grs_trans2 z.2 hg)
      have HR1 := Lib.hid hr
      have HF : Hid (Sam d f 0 len ∧ Runs f 20 len) := Lib.hid ⟨HS.out.trans (hsm.wide (by omega) (Nat.le_refl _)), fun p hd => by
        by_cases hc : p < a
        · exact (HO.out p hc hd).keep (fun k _ h2 => hsm.out k (.inl (by have := dvd_lt hd HAD.out hc; omega)))
        · by_cases he : p = a
          · subst he; exact hst.part (Nat.le_refl _) (by omega)
          · intro i j h1 h2 h3
            have := dvd_lt HAD.out hd (by omega)
            omega⟩
      clear hg hr hsm hst HC2 HR HS HO HAD
      go_wp2
      generalize w1 = w0 at *
      go_loopw [6] (fun s6 wq => ∃ (s : Nat) (z : Grs w [b]) (f : Nat → Ln), 0 < s ∧ s ≤ 8000 ∧ s6 = .int .i64 s ∧ wq = z.w ∧ RowAt z.w b 72 (rowL f C) ∧ Sam d f 0 len ∧ Runs f s len) (fun s6 _ => len - (intOf s6).toNat)
      case atStart => exact ⟨20, ⟨w0, HG.out⟩, f, by omega, by omega, rfl, rfl, HR1.out, HF.out.1, HF.out.2⟩
      case round =>
        clear HF HR1
        obtain ⟨s, z1, f, hs0, hs1, rfl, rfl, hr, hsm, hrun⟩ := hrel
        have HR := Lib.hid hr
        have HS := Lib.hid hsm
        have HO := Lib.hid hrun
        clear hr hsm hrun hdl hdl2
        by_cases hsl : s < len
        · have hdl : decide ((s : Int) < (len : Int)) = true := by simp; omega
          have k1 : IntKind.i64.wrap (2 * (s : Int)) = ((2 * s : Nat) : Int) := by rw [show 2 * (s : Int) = ((2 * s : Nat) : Int) by omega]; exact wrapN _ (by omega)
          go_wp2
          clear k1
          go_loopw [7, 8] (fun s7 s8 wq => ∃ (a : Nat) (y : Grs w [b]) (e : Nat → Ln), a ≤ len ∧ 2 * s ∣ a ∧ s7 = .int .i64 a ∧ s8 = .int .i64 ((a + 2 * s : Nat) : Int) ∧ wq = y.w ∧ RowAt y.w b 72 (rowL e C) ∧ Sam d e 0 len ∧ Half e s len a) (fun s7 s8 _ => len - (intOf s7).toNat)
          case atStart => exact ⟨0, z1, f, by omega, ⟨0, rfl⟩, rfl, by go_num, rfl, HR.out, HS.out, runs_half HO.out⟩
          case round =>
            clear HR HS HO
            obtain ⟨a, y, e, ha, had, rfl, rfl, rfl, hr, hsm, hh⟩ := hrel
            have HR := Lib.hid hr
            have HS := Lib.hid hsm
            have HH := Lib.hid hh
            have HAD := Lib.hid had
            have hsd : s ∣ a := Nat.dvd_trans ⟨2, by omega⟩ had
            have HSD := Lib.hid hsd
            clear hr hsm hh had hsd
            have k2 : IntKind.i64.wrap ((a : Int) + (s : Int)) = ((a + s : Nat) : Int) := by rw [← Int.natCast_add]; exact wrapN _ (by omega)
            by_cases hlt2 : a + 2 * s ≤ len
            · have hd2 : decide (((a + 2 * s : Nat) : Int) ≤ (len : Int)) = true := by simp; omega
              have hd3 : decide ((a : Int) + 2 * (s : Int) ≤ (len : Int)) = true := by simp; omega
              have k1 : IntKind.i64.wrap (2 * (s : Int)) = ((2 * s : Nat) : Int) := by rw [show 2 * (s : Int) = ((2 * s : Nat) : Int) by omega]; exact wrapN _ (by omega)
              have k3 : IntKind.i64.wrap ((a : Int) + 2 * (s : Int) + 2 * (s : Int)) = ((a + 2 * s + 2 * s : Nat) : Int) := by rw [show (a : Int) + 2 * (s : Int) + 2 * (s : Int) = ((a + 2 * s + 2 * s : Nat) : Int) by omega]; exact wrapN _ (by omega)
              have HC2 := Lib.hid (symR_any b C len cap hl hC _ a (a + s) (a + 2 * s) e y.w (Nat.le_refl _) (by omega) (by omega) hlt2 HR.out
                ((HH.out.one a (Nat.le_refl _) HSD.out).part (Nat.le_refl _) (by omega)) ((HH.out.one (a + s) (by omega) ((Nat.dvd_add_right HSD.out).mpr (Nat.dvd_refl s))).part (Nat.le_refl _) (by omega)))
              go_wp2_with fail
              refine HC2.out.mono ?_
              rintro e1 w1 ⟨rfl, hg, g, hr, hsm, hst⟩
              have HG := Lib.hid (grs_trans2 y.2 hg)
              have HR1 := Lib.hid hr
              have HF : Hid (Sam d g 0 len ∧ Half g s len (a + 2 * s)) := Lib.hid ⟨HS.out.trans (hsm.wide (by omega) hlt2), half_step HH.out HAD.out hs0 hsm hst⟩
              clear hg hr hsm hst HC2 HR HS HH
              go_wp2
              go_roundw
              case rel => exact ⟨a + 2 * s, ⟨_, HG.out⟩, g, hlt2, (Nat.dvd_add_right HAD.out).mpr (Nat.dvd_refl _), by go_num, by go_num, rfl, HR1.out, HF.out.1, HF.out.2⟩
              case measure => simp [intOf]; omega
            · have hd2 : decide (((a + 2 * s : Nat) : Int) ≤ (len : Int)) = false := by simp; omega
              have hd3 : decide ((a : Int) + 2 * (s : Int) ≤ (len : Int)) = false := by simp; omega
              have k4 : IntKind.i64.wrap ((s : Int) * 2) = ((2 * s : Nat) : Int) := by rw [show (s : Int) * 2 = ((2 * s : Nat) : Int) by omega]; exact wrapN _ (by omega)
              by_cases hm : a + s < len
              · have hd4 : decide ((a : Int) + (s : Int) < (len : Int)) = true := by simp; omega
                have hd5 : decide (((a + s : Nat) : Int) < (len : Int)) = true := by simp; omega
                have HC2 := Lib.hid (symR_any b C len cap hl hC _ a (a + s) len e y.w (Nat.le_refl _) (by omega) hm (Nat.le_refl _) HR.out
                  ((HH.out.one a (Nat.le_refl _) HSD.out).part (Nat.le_refl _) (by omega)) ((HH.out.one (a + s) (by omega) ((Nat.dvd_add_right HSD.out).mpr (Nat.dvd_refl s))).part (Nat.le_refl _) (by omega)))
                go_wp2_with fail
                refine HC2.out.mono ?_
                rintro e1 w1 ⟨rfl, hg, g, hr, hsm, hst⟩
                have HG := Lib.hid (grs_trans2 y.2 hg)
                have HR1 := Lib.hid hr
                have HF : Hid (Sam d g 0 len ∧ Runs g (2 * s) len) := Lib.hid ⟨HS.out.trans (hsm.wide (by omega) (Nat.le_refl _)), half_last HH.out HAD.out (by omega) hsm hst⟩
                clear hg hr hsm hst HC2 HR HS HH
                go_wp2
                go_roundw
                case rel => exact ⟨2 * s, ⟨_, HG.out⟩, g, by omega, by omega, by go_num, rfl, HR1.out, HF.out.1, HF.out.2⟩
                case measure => simp [intOf]; omega
              · have hd4 : decide ((a : Int) + (s : Int) < (len : Int)) = false := by simp; omega
                have hd5 : decide (((a + s : Nat) : Int) < (len : Int)) = false := by simp; omega
                have HF : Hid (Sam d e 0 len ∧ Runs e (2 * s) len) := Lib.hid ⟨HS.out, half_last HH.out HAD.out (by omega) (Sam.refl _ _ _) ((HH.out.one a (Nat.le_refl _) HSD.out).part (Nat.le_refl _) (by omega))⟩
                clear HS HH
                go_wp2
                go_roundw
                case rel => exact ⟨2 * s, y, e, by omega, by omega, by go_num, rfl, HR.out, HF.out.1, HF.out.2⟩
                case measure => simp [intOf]; omega
        · have hdl : decide ((s : Int) < (len : Int)) = false := by simp; omega
          have HF := Lib.hid ((HO.out 0 ⟨0, rfl⟩).part (Nat.le_refl _) (show len ≤ min (0 + s) len by omega))
          go_wp2
          go_end0
          exact ⟨rfl, z1.2, f, HR.out, HS.out, HF.out⟩
theorem sortR_any (b C len cap : Nat) (d : Nat → Ln) (w : World) (h : RowAt w b 72 (rowL d C)) (hl : len ≤ C) (hC : C ≤ 4000) :
    Calls Try.prog 78 #[.slice (some ⟨b, 0, none⟩) len cap, .func (.func 79) #[] #[]] w (SymPost b C 0 len d w) := by
  have HC := Lib.hid (stabR_any b C len cap d w h hl hC)
  clear h
  go_enter Try.func78, Try.ntmps78
  go_wp2_with fail
  refine HC.out.mono ?_
  rintro e w1 ⟨rfl, hp⟩
  have HP := Lib.hid hp
  clear hp HC
  go_wp2
  go_end0
  exact ⟨rfl, HP.out⟩
end Go.Proofs.Ytalphoebmefgoaa
