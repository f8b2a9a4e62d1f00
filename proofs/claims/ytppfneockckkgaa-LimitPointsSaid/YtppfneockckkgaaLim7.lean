import Derived.Test.YtppfneockckkgaaLim6
import Derived.Test.YtppfneockckkgaaRtext
namespace Go.Proofs.Ytppfneockckkgaa
open Go.RowKit
def ltext (l : Int) : List UInt8 × Int := if lval l then (if l = 1099511627776 then ([97, 110, 121], 0) else ((if lodd l then [60] else [60, 61]) ++ decL (l / 2), 0)) else ([], 2)
theorem rval_int {c : Int} (h1 : -1073741824 ≤ c) (h2 : c ≤ 1073741824) : rval ⟨c, 1⟩ = true := by
  unfold rval absU gcdU
  simp
  omega
theorem rtext_int {c : Int} (h1 : -1073741824 ≤ c) (h2 : c ≤ 1073741824) : rtext ⟨c, 1⟩ = (decL c, 0) := by
  unfold rtext; rw [rval_int h1 h2]; simp
set_option maxHeartbeats 2000000 in
theorem pltext_any (l : Int) (w : World) (h : i64 l) : Calls Try.prog 25 #[.int .i64 l] w fun e w' => e = .returned (.tuple #[strV (ltext l).1, .int .i64 (ltext l).2]) ∧ Bel w w' := by
  have HC := fun W => psplit_at l W h rfl rfl rfl
  have hs := spl l
  generalize (lsplit l).1 = c at *
  generalize (lsplit l).2.1 = s at *
  generalize (lsplit l).2.2 = e at *
  replace HC := Lib.hid HC
  cases hs
  case bad hv =>
    have HR : Hid (ltext l = ([], 2)) := Lib.hid (by unfold ltext; simp [hv])
    clear hv h
    go_enter Try.func25, Try.ntmps25
    go_wp2_with (go_at_call 23; (with_reducible refine (HC.out _).mono ?_); rintro e w2 ⟨rfl, rfl⟩)
    go_ret2
    exact ⟨by rw [HR.out]; rfl, Bel.refl⟩
  case none hv hl =>
    have HR : Hid (ltext l = ([97, 110, 121], 0)) := Lib.hid (by unfold ltext; rw [hv, if_pos hl]; rfl)
    clear hv h hl
    go_enter Try.func25, Try.ntmps25
    go_wp2_with (go_at_call 23; (with_reducible refine (HC.out _).mono ?_); rintro e w2 ⟨rfl, rfl⟩)
    go_ret2
    exact ⟨by rw [HR.out]; rfl, Bel.refl⟩
  case ok hv hl h1 h2 =>
    have HR : Hid (ltext l = ((if lodd l then [60] else [60, 61]) ++ decL (l / 2), 0)) := Lib.hid (by unfold ltext; rw [hv, if_neg hl]; rfl)
    have HT : Hid (∀ W, Calls Try.prog 37 #[.agg #[.int .i64 (l / 2), .int .i64 1]] W fun e w' => e = .returned (.tuple #[.string ⟨(decL (l / 2)).toArray⟩, .int .i64 0]) ∧ Bel W w') := Lib.hid (fun W => by
      have := ptext_any ⟨l / 2, 1⟩ W ⟨by unfold i64; simp; omega, by unfold i64; simp⟩
      rw [rtext_int (by omega) (by omega)] at this
      exact this)
    have hlen := decL_len (l / 2)
    clear hv h hl
    cases ho : lodd l <;> rw [ho] at HC HR <;> clear ho
    all_goals
      go_enter Try.func25, Try.ntmps25
      go_wp2_with (first | (go_at_call 23; (with_reducible refine (HC.out _).mono ?_); rintro e w2 ⟨rfl, rfl⟩) | (go_at_call 37; (with_reducible refine (HT.out _).mono ?_); rintro e w2 ⟨rfl, hb2⟩; obtain ⟨x, rfl⟩ : ∃ x : Ext w, w2 = x.w := ext_of (hb2.after (by (repeat (first | exact Ext.bel _ | exact Bel.refl | refine Bel.alloc ?_ _ | refine Bel.drew ?_ | refine Bel.drewN ?_ _)))); clear hb2))
      go_ret2
      exact ⟨ret_str (by rw [HR.out]; first | exact str_app [60] _ | exact str_app [60, 61] _) (by rw [HR.out]), x.bel⟩
set_option maxHeartbeats 2000000 in
theorem rltext_any (l : Int) (w : World) (h : i64 l) : Calls Try.prog 26 #[.int .i64 l] w fun e w' => e = .returned (.tuple #[strV (ltext l).1, .int .i64 (ltext l).2]) ∧ Bel w w' := by
  have HC := fun W => rsplit_at l W h rfl rfl rfl
  have hs := spl l
  generalize (lsplit l).1 = c at *
  generalize (lsplit l).2.1 = s at *
  generalize (lsplit l).2.2 = e at *
  replace HC := Lib.hid HC
  cases hs
  case bad hv =>
    have HR : Hid (ltext l = ([], 2)) := Lib.hid (by unfold ltext; simp [hv])
    clear hv h
    go_enter Try.func26, Try.ntmps26
    go_wp2_with (go_at_call 24; (with_reducible refine (HC.out _).mono ?_); rintro e w2 ⟨rfl, rfl⟩)
    go_ret2
    exact ⟨by rw [HR.out]; rfl, Bel.refl⟩
  case none hv hl =>
    have HR : Hid (ltext l = ([97, 110, 121], 0)) := Lib.hid (by unfold ltext; rw [hv, if_pos hl]; rfl)
    clear hv h hl
    go_enter Try.func26, Try.ntmps26
    go_wp2_with (go_at_call 24; (with_reducible refine (HC.out _).mono ?_); rintro e w2 ⟨rfl, rfl⟩)
    go_ret2
    exact ⟨by rw [HR.out]; rfl, Bel.refl⟩
  case ok hv hl h1 h2 =>
    have HR : Hid (ltext l = ((if lodd l then [60] else [60, 61]) ++ decL (l / 2), 0)) := Lib.hid (by unfold ltext; rw [hv, if_neg hl]; rfl)
    have HT : Hid (∀ W, Calls Try.prog 38 #[.agg #[.int .i64 (l / 2), .int .i64 1]] W fun e w' => e = .returned (.tuple #[.string ⟨(decL (l / 2)).toArray⟩, .int .i64 0]) ∧ Bel W w') := Lib.hid (fun W => by
      have := rtext_any ⟨l / 2, 1⟩ W ⟨by unfold i64; simp; omega, by unfold i64; simp⟩
      rw [rtext_int (by omega) (by omega)] at this
      exact this)
    have hlen := decL_len (l / 2)
    clear hv h hl
    cases ho : lodd l <;> rw [ho] at HC HR <;> clear ho
    all_goals
      go_enter Try.func26, Try.ntmps26
      go_wp2_with (first | (go_at_call 24; (with_reducible refine (HC.out _).mono ?_); rintro e w2 ⟨rfl, rfl⟩) | (go_at_call 38; (with_reducible refine (HT.out _).mono ?_); rintro e w2 ⟨rfl, hb2⟩; obtain ⟨x, rfl⟩ : ∃ x : Ext w, w2 = x.w := ext_of (hb2.after (by (repeat (first | exact Ext.bel _ | exact Bel.refl | refine Bel.alloc ?_ _ | refine Bel.drew ?_ | refine Bel.drewN ?_ _)))); clear hb2))
      go_ret2
      exact ⟨ret_str (by rw [HR.out]; first | exact str_app [60] _ | exact str_app [60, 61] _) (by rw [HR.out]), x.bel⟩
end Go.Proofs.Ytppfneockckkgaa
