import Derived.Test.YthidbmeocifkcaaZPleaf
namespace Go.Proofs.Ythidbmeocifkcaa
open Go.RowKit
theorem within_at (i m : Int) (W : World) {b : Bool} (h : withinB i m = b) : Calls Try.prog 42 #[.int .i64 i, .int .i64 m] W fun e w' => e = .returned (.bool b) ∧ W = w' := by
  subst h; exact within_any i m W
theorem withinB_true {i m : Int} : withinB i m = true ↔ 0 ≤ i ∧ i < m := by simp [withinB]
theorem withinB_false {i m : Int} : withinB i m = false ↔ (i < 0 ∨ m ≤ i) := by
  rw [← Bool.not_eq_true, withinB_true]; omega
set_option maxHeartbeats 1000000 in
theorem chk1_any (c : PC) (b : Nat) (clks : Int) (w : World) (hc : c.wf) (hk : i64 clks) (hb : b < w.heap.size) (h1 : w.cell? ⟨b, 1, none⟩ = some (.int .i64 clks)) :
    Calls Try.prog 48 #[.agg #[.int .i64 c.clk, .bool c.low, .bool c.str, .int .i64 c.c], .pointer (some ⟨b, 0, none⟩)] w fun e w' => e = .returned (.bool (pcBad clks c)) ∧ Bel w w' := by
  obtain ⟨hc1, hc2⟩ := hc
  obtain ⟨k1, k2⟩ := hc1
  obtain ⟨k3, k4⟩ := hk
  clear hc2
  have hne : b ≠ w.heap.size := by omega
  obtain ⟨ck, cl, cs, cc⟩ := c
  simp only at k1 k2
  by_cases hm : ck = -9223372036854775808
  · subst hm
    have HV := Lib.hid fun W => within_at (wrap64 (-9223372036854775809)) clks W (b := false) (by rw [withinB_false, show wrap64 (-9223372036854775809) = 9223372036854775807 by unfold wrap64; omega]; omega)
    have HR : Hid (pcBad clks ⟨-9223372036854775808, cl, cs, cc⟩ = true) := Lib.hid (by simp [pcBad])
    clear k1 k2 k3 k4
    go_enter Try.func48, Try.ntmps48
    go_wp2_with (first | (go_at_call 42; (with_reducible refine (HV.out _).mono ?_); rintro e w2 ⟨rfl, rfl⟩))
    go_ret
    exact ⟨ret_bool HR.out.symm, Bel.refl.alloc _⟩
  by_cases hin : 1 ≤ ck ∧ ck ≤ clks
  · have HV := Lib.hid fun W => within_at (ck - 1) clks W (b := true) (by rw [withinB_true]; omega)
    have HR : Hid (pcBad clks ⟨ck, cl, cs, cc⟩ = (decide (cc < 0) || decide (30 < cc))) := Lib.hid (by
      have e1 : decide (ck < 1) = false := by simp; omega
      have e2 : decide (clks < ck) = false := by simp; omega
      simp only [pcBad, e1, e2, Bool.false_or])
    go_enter Try.func48, Try.ntmps48
    go_wp2_with (first | (go_at_call 42; (with_reducible refine (HV.out _).mono ?_); rintro e w2 ⟨rfl, rfl⟩))
    all_goals
      go_ret
      exact ⟨ret_bool (Eq.trans (by first | rfl | (rw [Bool.eq_iff_iff]; first | (simp; done) | (simp; omega))) HR.out.symm), Bel.refl.alloc _⟩
  · have HV := Lib.hid fun W => within_at (ck - 1) clks W (b := false) (by rw [withinB_false]; omega)
    have HR : Hid (pcBad clks ⟨ck, cl, cs, cc⟩ = true) := Lib.hid (by simp [pcBad]; omega)
    go_enter Try.func48, Try.ntmps48
    go_wp2_with (first | (go_at_call 42; (with_reducible refine (HV.out _).mono ?_); rintro e w2 ⟨rfl, rfl⟩))
    go_ret
    exact ⟨ret_bool HR.out.symm, Bel.refl.alloc _⟩
set_option maxHeartbeats 1000000 in
theorem chk2_any (c : Int) (b : Nat) (clks : Int) (w : World) (hc : i64 c) (hk : i64 clks) (h1 : w.cell? ⟨b, 1, none⟩ = some (.int .i64 clks)) :
    Calls Try.prog 50 #[.int .i64 c, .pointer (some ⟨b, 0, none⟩)] w fun e w' => e = .returned (.bool (rstBad clks c)) ∧ Bel w w' := by
  obtain ⟨k1, k2⟩ := hc
  obtain ⟨k3, k4⟩ := hk
  by_cases hm : c = -9223372036854775808
  · subst hm
    have HV := Lib.hid fun W => within_at (wrap64 (-9223372036854775809)) clks W (b := false) (by rw [withinB_false, show wrap64 (-9223372036854775809) = 9223372036854775807 by unfold wrap64; omega]; omega)
    have HR : Hid (rstBad clks (-9223372036854775808) = true) := Lib.hid (by simp [rstBad])
    clear k1 k2 k3 k4
    go_enter Try.func50, Try.ntmps50
    go_wp2_with (first | (go_at_call 42; (with_reducible refine (HV.out _).mono ?_); rintro e w2 ⟨rfl, rfl⟩))
    go_ret
    exact ⟨ret_bool HR.out.symm, Bel.refl⟩
  · have HV := fun W => within_any (c - 1) clks W
    have HR : Hid (rstBad clks c = !withinB (c - 1) clks) := Lib.hid (by
      rw [Bool.eq_iff_iff]; simp only [rstBad, withinB, Bool.or_eq_true, decide_eq_true_eq, Bool.not_eq_true', Bool.and_eq_false_iff, decide_eq_false_iff_not]; omega)
    generalize withinB (c - 1) clks = b1 at *
    replace HV := Lib.hid HV
    go_enter Try.func50, Try.ntmps50
    go_wp2_with (first | (go_at_call 42; (with_reducible refine (HV.out _).mono ?_); rintro e w2 ⟨rfl, rfl⟩))
    go_ret
    exact ⟨ret_bool HR.out.symm, Bel.refl⟩
/-- the index of the first that is bad -/
def idxP {α : Type} (f : α → Bool) : List α → Nat → Int
  | [], _ => -1
  | x :: xs, k => if f x then (k : Int) else idxP f xs (k + 1)
theorem idxP_any {α : Type} (f : α → Bool) : ∀ (l : List α) (k : Nat), decide (0 ≤ idxP f l k) = anyP f l
  | [], _ => rfl
  | x :: xs, k => by
    by_cases h : f x = true
    · rw [anyP_t h]; simp only [idxP, h, if_true]; simp
    · have h0 : f x = false := by simpa using h
      rw [anyP_f h0, ← idxP_any f xs (k + 1)]
      simp only [idxP, h0]; rfl
set_option maxHeartbeats 1000000 in
theorem idxCon_any (sv : Value) (l : List PC) (b : Nat) (clks : Int) (w : World) (h : ConsAt w w.heap.size sv l) (hl : l.length ≤ 1000000) (hw : ∀ c ∈ l, c.wf) (hk : i64 clks) (hb : b < w.heap.size) (h1 : w.cell? ⟨b, 1, none⟩ = some (.int .i64 clks)) :
    Calls Try.prog 53 #[sv, .func (.func 48) #[] #[.pointer (some ⟨b, 0, none⟩)]] w fun e w' => e = .returned (.int .i64 (idxP (pcBad clks) l 0)) ∧ Bel w w' := by
  obtain ⟨A, c, rfl, hc, hA⟩ := h
  have HA := Lib.hid hA
  have HW := Lib.hid hw
  have HK := Lib.hid fun c hc (x : Ext w) => chk1_any c b clks x.w hc hk (ext_lt x hb) ((ext_cells x b 1 hb).trans h1)
  clear hA hw hk h1
  go_enter Try.func53, Try.ntmps53
  go_wp2
  go_loopw [8] (fun si wr => ∃ (j : Nat) (z : Ext w), j ≤ l.length ∧ si = .int .i64 j ∧ wr = z.w ∧ idxP (pcBad clks) (l.drop j) j = idxP (pcBad clks) l 0) (fun si _ => l.length - (intOf si).toNat)
  case atStart => exact ⟨0, ⟨w, Bel.refl⟩, by omega, rfl, rfl, rfl⟩
  case round =>
    obtain ⟨j, x, hj, rfl, rfl, hd⟩ := hrel
    by_cases hlt : j < l.length
    · rw [pc_drop hlt] at hd
      obtain ⟨b2, off, rfl, hb2, hA⟩ := HA.out (by omega)
      obtain ⟨c0, c1, c2, c3⟩ := hA j hlt
      clear hA
      have HH := fun y => HK.out (pcAt l j) (HW.out _ (pc_mem hlt)) y
      cases hh : pcBad clks (pcAt l j)
      · have HD : Hid (idxP (pcBad clks) (l.drop (j + 1)) (j + 1) = idxP (pcBad clks) l 0) := Lib.hid (by rw [← hd]; simp only [idxP, hh]; rfl)
        rw [hh] at HH
        replace HH := Lib.hid HH
        clear hd hh
        go_wp2_with (first | (go_at_call 48; (with_reducible refine (HH.out _).mono ?_); rintro e w2 ⟨rfl, hb2⟩; obtain ⟨x, rfl⟩ : ∃ x : Ext w, w2 = x.w := ext_of (hb2.after (by (repeat (first | exact Ext.bel _ | exact Bel.refl | refine Bel.alloc ?_ _ | refine Bel.drew ?_ | refine Bel.drewN ?_ _)))); clear hb2))
        go_roundw
        case rel => exact ⟨j + 1, x, by omega, by go_num, rfl, HD.out⟩
        case measure => simp [intOf]; omega
      · have HD : Hid (idxP (pcBad clks) l 0 = (j : Int)) := Lib.hid (by rw [← hd]; simp only [idxP, hh]; rfl)
        rw [hh] at HH
        replace HH := Lib.hid HH
        clear hd hh
        go_wp2_with (first | (go_at_call 48; (with_reducible refine (HH.out _).mono ?_); rintro e w2 ⟨rfl, hb2⟩; obtain ⟨x, rfl⟩ : ∃ x : Ext w, w2 = x.w := ext_of (hb2.after (by (repeat (first | exact Ext.bel _ | exact Bel.refl | refine Bel.alloc ?_ _ | refine Bel.drew ?_ | refine Bel.drewN ?_ _)))); clear hb2))
        go_ret
        exact ⟨ret_int HD.out.symm, x.bel⟩
    · obtain rfl : j = l.length := by omega
      have HD : Hid (idxP (pcBad clks) l 0 = -1) := Lib.hid (by rw [← hd]; simp [idxP])
      clear hd
      go_wp2
      go_ret
      exact ⟨ret_int HD.out.symm, x.bel⟩
set_option maxHeartbeats 1000000 in
theorem hasCon_any (sv : Value) (l : List PC) (b : Nat) (clks : Int) (w : World) (h : ConsAt w w.heap.size sv l) (hl : l.length ≤ 1000000) (hw : ∀ c ∈ l, c.wf) (hk : i64 clks) (hb : b < w.heap.size) (h1 : w.cell? ⟨b, 1, none⟩ = some (.int .i64 clks)) :
    Calls Try.prog 47 #[sv, .func (.func 48) #[] #[.pointer (some ⟨b, 0, none⟩)]] w fun e w' => e = .returned (.bool (anyP (pcBad clks) l)) ∧ Bel w w' := by
  have HK := Lib.hid (idxCon_any sv l b clks w h hl hw hk hb h1)
  have HR := Lib.hid (idxP_any (pcBad clks) l 0)
  generalize idxP (pcBad clks) l 0 = n at *
  clear h hw hk h1
  go_enter Try.func47, Try.ntmps47
  go_wp2_with (first | (go_at_call 53; (with_reducible refine (HK.out).mono ?_); rintro e w2 ⟨rfl, hb2⟩; obtain ⟨x, rfl⟩ : ∃ x : Ext w, w2 = x.w := ext_of (hb2.after (by (repeat (first | exact Ext.bel _ | exact Bel.refl | refine Bel.alloc ?_ _ | refine Bel.drew ?_ | refine Bel.drewN ?_ _)))); clear hb2))
  go_ret
  exact ⟨ret_bool HR.out, x.bel⟩
set_option maxHeartbeats 1000000 in
theorem idxInt_any (sv : Value) (l : List Int) (b : Nat) (clks : Int) (w : World) (h : IntsAt w w.heap.size sv l) (hl : l.length ≤ 1000000) (hw : ∀ c ∈ l, i64 c) (hk : i64 clks) (hb : b < w.heap.size) (h1 : w.cell? ⟨b, 1, none⟩ = some (.int .i64 clks)) :
    Calls Try.prog 54 #[sv, .func (.func 50) #[] #[.pointer (some ⟨b, 0, none⟩)]] w fun e w' => e = .returned (.int .i64 (idxP (rstBad clks) l 0)) ∧ Bel w w' := by
  obtain ⟨A, c, rfl, hc, hA⟩ := h
  have HA := Lib.hid hA
  have HW := Lib.hid hw
  have HK := Lib.hid fun c hc (x : Ext w) => chk2_any c b clks x.w hc hk ((ext_cells x b 1 hb).trans h1)
  clear hA hw hk h1
  go_enter Try.func54, Try.ntmps54
  go_wp2
  go_loopw [8] (fun si wr => ∃ (j : Nat) (z : Ext w), j ≤ l.length ∧ si = .int .i64 j ∧ wr = z.w ∧ idxP (rstBad clks) (l.drop j) j = idxP (rstBad clks) l 0) (fun si _ => l.length - (intOf si).toNat)
  case atStart => exact ⟨0, ⟨w, Bel.refl⟩, by omega, rfl, rfl, rfl⟩
  case round =>
    obtain ⟨j, x, hj, rfl, rfl, hd⟩ := hrel
    by_cases hlt : j < l.length
    · rw [int_drop hlt] at hd
      obtain ⟨b2, off, rfl, hb2, hA⟩ := HA.out (by omega)
      have c0 := hA j hlt
      clear hA
      have HH := fun y => HK.out (l.getD j 0) (HW.out _ (int_mem hlt)) y
      generalize l.getD j 0 = q at *
      cases hh : rstBad clks q
      · have HD : Hid (idxP (rstBad clks) (l.drop (j + 1)) (j + 1) = idxP (rstBad clks) l 0) := Lib.hid (by rw [← hd]; simp only [idxP, hh]; rfl)
        rw [hh] at HH
        replace HH := Lib.hid HH
        clear hd hh
        go_wp2_with (first | (go_at_call 50; (with_reducible refine (HH.out _).mono ?_); rintro e w2 ⟨rfl, hb2⟩; obtain ⟨x, rfl⟩ : ∃ x : Ext w, w2 = x.w := ext_of (hb2.after (by (repeat (first | exact Ext.bel _ | exact Bel.refl | refine Bel.alloc ?_ _ | refine Bel.drew ?_ | refine Bel.drewN ?_ _)))); clear hb2))
        go_roundw
        case rel => exact ⟨j + 1, x, by omega, by go_num, rfl, HD.out⟩
        case measure => simp [intOf]; omega
      · have HD : Hid (idxP (rstBad clks) l 0 = (j : Int)) := Lib.hid (by rw [← hd]; simp only [idxP, hh]; rfl)
        rw [hh] at HH
        replace HH := Lib.hid HH
        clear hd hh
        go_wp2_with (first | (go_at_call 50; (with_reducible refine (HH.out _).mono ?_); rintro e w2 ⟨rfl, hb2⟩; obtain ⟨x, rfl⟩ : ∃ x : Ext w, w2 = x.w := ext_of (hb2.after (by (repeat (first | exact Ext.bel _ | exact Bel.refl | refine Bel.alloc ?_ _ | refine Bel.drew ?_ | refine Bel.drewN ?_ _)))); clear hb2))
        go_ret
        exact ⟨ret_int HD.out.symm, x.bel⟩
    · obtain rfl : j = l.length := by omega
      have HD : Hid (idxP (rstBad clks) l 0 = -1) := Lib.hid (by rw [← hd]; simp [idxP])
      clear hd
      go_wp2
      go_ret
      exact ⟨ret_int HD.out.symm, x.bel⟩
set_option maxHeartbeats 1000000 in
theorem hasInt_any (sv : Value) (l : List Int) (b : Nat) (clks : Int) (w : World) (h : IntsAt w w.heap.size sv l) (hl : l.length ≤ 1000000) (hw : ∀ c ∈ l, i64 c) (hk : i64 clks) (hb : b < w.heap.size) (h1 : w.cell? ⟨b, 1, none⟩ = some (.int .i64 clks)) :
    Calls Try.prog 49 #[sv, .func (.func 50) #[] #[.pointer (some ⟨b, 0, none⟩)]] w fun e w' => e = .returned (.bool (anyP (rstBad clks) l)) ∧ Bel w w' := by
  have HK := Lib.hid (idxInt_any sv l b clks w h hl hw hk hb h1)
  have HR := Lib.hid (idxP_any (rstBad clks) l 0)
  generalize idxP (rstBad clks) l 0 = n at *
  clear h hw hk h1
  go_enter Try.func49, Try.ntmps49
  go_wp2_with (first | (go_at_call 54; (with_reducible refine (HK.out).mono ?_); rintro e w2 ⟨rfl, hb2⟩; obtain ⟨x, rfl⟩ : ∃ x : Ext w, w2 = x.w := ext_of (hb2.after (by (repeat (first | exact Ext.bel _ | exact Bel.refl | refine Bel.alloc ?_ _ | refine Bel.drew ?_ | refine Bel.drewN ?_ _)))); clear hb2))
  go_ret
  exact ⟨ret_bool HR.out, x.bel⟩
end Go.Proofs.Ythidbmeocifkcaa
