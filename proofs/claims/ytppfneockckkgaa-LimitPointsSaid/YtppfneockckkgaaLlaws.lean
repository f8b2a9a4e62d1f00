import Derived.Test.YtppfneockckkgaaLlaw
namespace Go.Proofs.Ytppfneockckkgaa
open Go.RowKit
theorem padd_at (x y : Int) (W : World) (hx : i64 x) (hy : i64 y) {a e : Int} (h : ladd x y = (a, e)) : Calls Try.prog 8 #[.int .i64 x, .int .i64 y] W fun e' w' => e' = .returned (.tuple #[.int .i64 a, .int .i64 e]) ∧ W = w' := by
  have := padd_any x y W hx hy
  rw [h] at this
  exact this
theorem pnot_at (x : Int) (W : World) (hx : i64 x) {a e : Int} (h : lnot x = (a, e)) : Calls Try.prog 10 #[.int .i64 x] W fun e' w' => e' = .returned (.tuple #[.int .i64 a, .int .i64 e]) ∧ W = w' := by
  have := pnot_any x W hx
  rw [h] at this
  exact this
theorem plval_at (l : Int) (W : World) (h : i64 l) {b : Bool} (hb : lval l = b) : Calls Try.prog 15 #[.int .i64 l] W fun e w' => e = .returned (.bool b) ∧ W = w' := by
  subst hb; exact plval_any l W h
set_option maxHeartbeats 8000000 in
theorem laws_any (x y z : Int) (w : World) (hx : i64 x) (hy : i64 y) (hz : i64 z) : Calls Try.prog 5 #[.int .i64 x, .int .i64 y, .int .i64 z] w fun e w' => e = .returned (.bool true) ∧ Bel w w' := by
  cases vx : lval x
  · have H1 := Lib.hid fun W => plval_at x W hx vx
    clear vx hx hy hz
    go_enter Try.func5, Try.ntmps5
    go_wp2_with (first | (go_at_call 15; (with_reducible refine (H1.out _).mono ?_); rintro e w2 ⟨rfl, rfl⟩) | (go_at_call 12; (with_reducible refine (shown_any _).mono ?_); rintro e w2 ⟨rfl, hb2⟩; obtain ⟨x, rfl⟩ : ∃ x : Ext w, w2 = x.w := ext_of (hb2.after (by (repeat (first | exact Ext.bel _ | exact Bel.refl | refine Bel.alloc ?_ _ | refine Bel.drew ?_ | refine Bel.drewN ?_ _)))); clear hb2))
    go_ret
    exact ⟨rfl, x.bel⟩
  have H1 := Lib.hid fun W => plval_at x W hx vx
  cases vy : lval y
  · have H2 := Lib.hid fun W => plval_at y W hy vy
    clear vx vy hx hy hz
    go_enter Try.func5, Try.ntmps5
    go_wp2_with (first | (go_at_call 15; (with_reducible refine (H1.out _).mono ?_); rintro e w2 ⟨rfl, rfl⟩) | (go_at_call 15; (with_reducible refine (H2.out _).mono ?_); rintro e w2 ⟨rfl, rfl⟩) | (go_at_call 12; (with_reducible refine (shown_any _).mono ?_); rintro e w2 ⟨rfl, hb2⟩; obtain ⟨x, rfl⟩ : ∃ x : Ext w, w2 = x.w := ext_of (hb2.after (by (repeat (first | exact Ext.bel _ | exact Bel.refl | refine Bel.alloc ?_ _ | refine Bel.drew ?_ | refine Bel.drewN ?_ _)))); clear hb2))
    go_ret
    exact ⟨rfl, x.bel⟩
  have H2 := Lib.hid fun W => plval_at y W hy vy
  cases vz : lval z
  · have H3 := Lib.hid fun W => plval_at z W hz vz
    clear vx vy vz hx hy hz
    go_enter Try.func5, Try.ntmps5
    go_wp2_with (first | (go_at_call 15; (with_reducible refine (H1.out _).mono ?_); rintro e w2 ⟨rfl, rfl⟩) | (go_at_call 15; (with_reducible refine (H2.out _).mono ?_); rintro e w2 ⟨rfl, rfl⟩) | (go_at_call 15; (with_reducible refine (H3.out _).mono ?_); rintro e w2 ⟨rfl, rfl⟩) | (go_at_call 12; (with_reducible refine (shown_any _).mono ?_); rintro e w2 ⟨rfl, hb2⟩; obtain ⟨x, rfl⟩ : ∃ x : Ext w, w2 = x.w := ext_of (hb2.after (by (repeat (first | exact Ext.bel _ | exact Bel.refl | refine Bel.alloc ?_ _ | refine Bel.drew ?_ | refine Bel.drewN ?_ _)))); clear hb2))
    go_ret
    exact ⟨rfl, x.bel⟩
  have H3 := Lib.hid fun W => plval_at z W hz vz
  have hcm := ladd_comm y x
  have hcm2 : ladd x y = ((ladd x y).1, (ladd x y).2) := rfl
  have has := fun h1 h2 => ladd_assoc vx vy vz h1 h2
  have hmo := fun h1 h2 h3 => ladd_mono vx vy vz h1 h2 h3
  have ia := (ladd_i64 x y).1
  have ic := (ladd_i64 y z).1
  have A1 := Lib.hid fun W => padd_at x y W hx hy (a := (ladd x y).1) (e := (ladd x y).2) rfl
  have A2 := Lib.hid fun W => padd_at y x W hy hx (a := (ladd x y).1) (e := (ladd x y).2) hcm
  have A3 := Lib.hid fun W => padd_at y z W hy hz (a := (ladd y z).1) (e := (ladd y z).2) rfl
  have A4 := Lib.hid fun W => padd_at x z W hx hz (a := (ladd x z).1) (e := (ladd x z).2) rfl
  have A5 := fun W => padd_at (ladd x y).1 z W ia hz (a := (ladd (ladd x y).1 z).1) (e := (ladd (ladd x y).1 z).2) rfl
  have A6 := fun W => padd_at x (ladd y z).1 W hx ic (a := (ladd x (ladd y z).1).1) (e := (ladd x (ladd y z).1).2) rfl
  have HN : Hid (x ≠ 1099511627776 → ∀ W, Calls Try.prog 10 #[.int .i64 x] W fun e' w' => e' = .returned (.tuple #[.int .i64 (1 - x), .int .i64 0]) ∧ W = w') := Lib.hid fun hn W => pnot_at x W hx (lnot_ok vx hn)
  have HM : Hid (x ≠ 1099511627776 → ∀ W, Calls Try.prog 10 #[.int .i64 (1 - x)] W fun e' w' => e' = .returned (.tuple #[.int .i64 x, .int .i64 0]) ∧ W = w') := Lib.hid fun hn W => pnot_at (1 - x) W (by have := lval_bounds vx hn; unfold i64; omega) (by
    have := lval_not vx hn
    rw [lnot_ok this.1 this.2]
    congr 1
    omega)
  have hxb : x ≠ 1099511627776 → -2147483648 ≤ x ∧ x ≤ 2147483649 := fun hn => lval_bounds vx hn
  clear hcm hcm2 vx vy vz hx hy hz ia ic
  have hlr : (ladd x y).2 = 0 → (ladd y z).2 = 0 → ladd x (ladd y z).1 = ladd (ladd x y).1 z := fun h1 h2 => (has h1 h2).symm
  clear has
  generalize ladd x (ladd y z).1 = R at *
  generalize ladd (ladd x y).1 z = L at *
  generalize (ladd x y).1 = a at *
  generalize (ladd x y).2 = e at *
  generalize (ladd y z).1 = c at *
  generalize (ladd y z).2 = g at *
  generalize (ladd x z).1 = d at *
  generalize (ladd x z).2 = h at *
  obtain ⟨l, i⟩ := L
  have hfin : (e = 0 ∧ g = 0 ∧ R = (l, i)) ∨ (e = 0 ∧ g ≠ 0) ∨ e ≠ 0 := by
    by_cases he : e = 0
    · by_cases hg : g = 0
      · exact .inl ⟨he, hg, hlr he hg⟩
      · exact .inr (.inl ⟨he, hg⟩)
    · exact .inr (.inr he)
  have hmm : (e = 0 ∧ h = 0 ∧ y ≤ z ∧ a ≤ d) ∨ (e = 0 ∧ h = 0 ∧ ¬ y ≤ z) ∨ (e = 0 ∧ h ≠ 0) ∨ e ≠ 0 := by
    by_cases he : e = 0
    · by_cases hh : h = 0
      · by_cases hyz : y ≤ z
        · exact .inl ⟨he, hh, hyz, hmo he hh hyz⟩
        · exact .inr (.inl ⟨he, hh, hyz⟩)
      · exact .inr (.inr (.inl ⟨he, hh⟩))
    · exact .inr (.inr (.inr he))
  clear hlr hmo
  have hxx : x = 1099511627776 ∨ (x ≠ 1099511627776 ∧ (x == 1099511627776) = false ∧ -2147483648 ≤ x ∧ x ≤ 2147483649) := by
    by_cases hn : x = 1099511627776
    · exact .inl hn
    · exact .inr ⟨hn, by simpa using hn, hxb hn⟩
  clear hxb
  by_cases he : e = 0
  · subst he
    have hg' : (g = 0 ∧ R = (l, i)) ∨ (g == 0) = false := by
      rcases hfin with ⟨_, h2, h3⟩ | ⟨_, h2⟩ | h1
      · exact .inl ⟨h2, h3⟩
      · exact .inr (by simpa using h2)
      · exact absurd rfl h1
    have hh' : (h = 0 ∧ y ≤ z ∧ ¬ d < a) ∨ (h = 0 ∧ ¬ y ≤ z) ∨ (h == 0) = false := by
      rcases hmm with ⟨_, h2, h3, h4⟩ | ⟨_, h2, h3⟩ | ⟨_, h2⟩ | h1
      · exact .inl ⟨h2, h3, by omega⟩
      · exact .inr (.inl ⟨h2, h3⟩)
      · exact .inr (.inr (by simpa using h2))
      · exact absurd rfl h1
    clear hfin hmm
    rcases hg' with ⟨rfl, rfl⟩ | hzg <;> rcases hh' with ⟨rfl, hyz, hda⟩ | ⟨rfl, hyz⟩ | hzh <;> rcases hxx with rfl | ⟨hn, hnx, n1, n2⟩
    all_goals
      replace A5 := Lib.hid A5
      replace A6 := Lib.hid A6
      try replace hn := Lib.hid hn
      go_enter Try.func5, Try.ntmps5
      go_wp2_with (first | (go_at_call 15; (with_reducible refine (H1.out _).mono ?_); rintro e w2 ⟨rfl, rfl⟩) | (go_at_call 15; (with_reducible refine (H2.out _).mono ?_); rintro e w2 ⟨rfl, rfl⟩) | (go_at_call 15; (with_reducible refine (H3.out _).mono ?_); rintro e w2 ⟨rfl, rfl⟩) | (go_at_call 8; (with_reducible refine (A1.out _).mono ?_); rintro e w2 ⟨rfl, rfl⟩) | (go_at_call 8; (with_reducible refine (A2.out _).mono ?_); rintro e w2 ⟨rfl, rfl⟩) | (go_at_call 8; (with_reducible refine (A3.out _).mono ?_); rintro e w2 ⟨rfl, rfl⟩) | (go_at_call 8; (with_reducible refine (A4.out _).mono ?_); rintro e w2 ⟨rfl, rfl⟩) | (go_at_call 8; (with_reducible refine (A5.out _).mono ?_); rintro e w2 ⟨rfl, rfl⟩) | (go_at_call 8; (with_reducible refine (A6.out _).mono ?_); rintro e w2 ⟨rfl, rfl⟩) | (go_at_call 10; (with_reducible refine (HN.out hn.out _).mono ?_); rintro e w2 ⟨rfl, rfl⟩) | (go_at_call 10; (with_reducible refine (HM.out hn.out _).mono ?_); rintro e w2 ⟨rfl, rfl⟩) | (go_at_call 12; (with_reducible refine (shown_any _).mono ?_); rintro e w2 ⟨rfl, hb2⟩; obtain ⟨x, rfl⟩ : ∃ x : Ext w, w2 = x.w := ext_of (hb2.after (by (repeat (first | exact Ext.bel _ | exact Bel.refl | refine Bel.alloc ?_ _ | refine Bel.drew ?_ | refine Bel.drewN ?_ _)))); clear hb2))
      go_ret
      exact ⟨rfl, x.bel⟩
  · have hze : (e == 0) = false := by simpa using he
    replace A5 := Lib.hid A5
    replace A6 := Lib.hid A6
    clear hfin hmm he
    rcases hxx with rfl | ⟨hn, hnx, n1, n2⟩
    · go_enter Try.func5, Try.ntmps5
      go_wp2_with (first | (go_at_call 15; (with_reducible refine (H1.out _).mono ?_); rintro e w2 ⟨rfl, rfl⟩) | (go_at_call 15; (with_reducible refine (H2.out _).mono ?_); rintro e w2 ⟨rfl, rfl⟩) | (go_at_call 15; (with_reducible refine (H3.out _).mono ?_); rintro e w2 ⟨rfl, rfl⟩) | (go_at_call 8; (with_reducible refine (A1.out _).mono ?_); rintro e w2 ⟨rfl, rfl⟩) | (go_at_call 8; (with_reducible refine (A2.out _).mono ?_); rintro e w2 ⟨rfl, rfl⟩) | (go_at_call 8; (with_reducible refine (A3.out _).mono ?_); rintro e w2 ⟨rfl, rfl⟩) | (go_at_call 8; (with_reducible refine (A4.out _).mono ?_); rintro e w2 ⟨rfl, rfl⟩) | (go_at_call 12; (with_reducible refine (shown_any _).mono ?_); rintro e w2 ⟨rfl, hb2⟩; obtain ⟨x, rfl⟩ : ∃ x : Ext w, w2 = x.w := ext_of (hb2.after (by (repeat (first | exact Ext.bel _ | exact Bel.refl | refine Bel.alloc ?_ _ | refine Bel.drew ?_ | refine Bel.drewN ?_ _)))); clear hb2))
      go_ret
      exact ⟨rfl, x.bel⟩
    · have N1 := Lib.hid (HN.out hn)
      have N2 := Lib.hid (HM.out hn)
      clear hn
      go_enter Try.func5, Try.ntmps5
      go_wp2_with (first | (go_at_call 15; (with_reducible refine (H1.out _).mono ?_); rintro e w2 ⟨rfl, rfl⟩) | (go_at_call 15; (with_reducible refine (H2.out _).mono ?_); rintro e w2 ⟨rfl, rfl⟩) | (go_at_call 15; (with_reducible refine (H3.out _).mono ?_); rintro e w2 ⟨rfl, rfl⟩) | (go_at_call 8; (with_reducible refine (A1.out _).mono ?_); rintro e w2 ⟨rfl, rfl⟩) | (go_at_call 8; (with_reducible refine (A2.out _).mono ?_); rintro e w2 ⟨rfl, rfl⟩) | (go_at_call 8; (with_reducible refine (A3.out _).mono ?_); rintro e w2 ⟨rfl, rfl⟩) | (go_at_call 8; (with_reducible refine (A4.out _).mono ?_); rintro e w2 ⟨rfl, rfl⟩) | (go_at_call 10; (with_reducible refine (N1.out _).mono ?_); rintro e w2 ⟨rfl, rfl⟩) | (go_at_call 10; (with_reducible refine (N2.out _).mono ?_); rintro e w2 ⟨rfl, rfl⟩) | (go_at_call 12; (with_reducible refine (shown_any _).mono ?_); rintro e w2 ⟨rfl, hb2⟩; obtain ⟨x, rfl⟩ : ∃ x : Ext w, w2 = x.w := ext_of (hb2.after (by (repeat (first | exact Ext.bel _ | exact Bel.refl | refine Bel.alloc ?_ _ | refine Bel.drew ?_ | refine Bel.drewN ?_ _)))); clear hb2))
      go_ret
      exact ⟨rfl, x.bel⟩
end Go.Proofs.Ytppfneockckkgaa
