import Derived.Test.YthcdemmamggboaaHmod
import Derived.Test.YthcdemmamggboaaSsecs
import Derived.Test.YthcdemmamggboaaTceil
namespace Go.Proofs.Ythcdemmamggboaa
open Go.RowKit
set_option maxHeartbeats 1000000 in
theorem isnan_any (x : Int) (w : World) : Calls Try.prog 51 #[.int .i64 x] w fun e w' => e = .returned (.bool false) ∧ w = w' := by
  go_enter Try.func51, Try.ntmps51
  go_wp2
  go_ret
  exact ⟨by simp, rfl⟩
set_option maxHeartbeats 1000000 in
theorem cmpc_any (x y : Int) (w : World) : Calls Try.prog 45 #[.int .i64 x, .int .i64 y] w fun e w' => e = .returned (.int .i64 (cmpI x y)) ∧ w = w' := by
  have HN := Lib.hid fun z => isnan_any z w
  rcases Int.lt_trichotomy x y with h | h | h
  · have hd : decide (x < y) = true := by simpa using h
    have HR : Hid (cmpI x y = -1) := Lib.hid (by unfold cmpI; rw [if_pos h])
    go_enter Try.func45, Try.ntmps45
    go_wp2_with (first | (go_at_call 51; (with_reducible refine (HN.out _).mono ?_); rintro e w2 ⟨rfl, rfl⟩))
    go_ret
    exact ⟨ret_int HR.out.symm, rfl⟩
  · subst h
    have HR : Hid (cmpI x x = 0) := Lib.hid (by unfold cmpI; simp)
    go_enter Try.func45, Try.ntmps45
    go_wp2_with (first | (go_at_call 51; (with_reducible refine (HN.out _).mono ?_); rintro e w2 ⟨rfl, rfl⟩))
    go_ret
    exact ⟨ret_int HR.out.symm, rfl⟩
  · have hd : decide (x < y) = false := by simp; omega
    have hd2 : decide (y < x) = true := by simpa using h
    have HR : Hid (cmpI x y = 1) := Lib.hid (by unfold cmpI; rw [if_neg (by omega), if_pos h])
    go_enter Try.func45, Try.ntmps45
    go_wp2_with (first | (go_at_call 51; (with_reducible refine (HN.out _).mono ?_); rintro e w2 ⟨rfl, rfl⟩))
    go_ret
    exact ⟨ret_int HR.out.symm, rfl⟩
theorem cmpL_drop {xs ys : List Int} {i : Nat} (h1 : i < xs.length) (h2 : i < ys.length) :
    cmpL (xs.drop i) (ys.drop i) = if cmpI (xs.getD i 0) (ys.getD i 0) = 0 then cmpL (xs.drop (i + 1)) (ys.drop (i + 1)) else cmpI (xs.getD i 0) (ys.getD i 0) := by
  rw [ints_drop h1, ints_drop h2]; rfl
set_option maxRecDepth 100000 in
set_option maxHeartbeats 4000000 in
theorem compare_any (xs ys : List Int) (b1 b2 n : Nat) (w : World) (hx : xs.length = n) (hy : ys.length = n) (h0 : 0 < n) (hn : n ≤ 1000000) (hb1 : b1 < w.heap.size) (hb2 : b2 < w.heap.size)
    (h1 : ∀ i, i < n → w.cell? ⟨b1, i, none⟩ = some (.int .i64 (xs.getD i 0))) (h2 : ∀ i, i < n → w.cell? ⟨b2, i, none⟩ = some (.int .i64 (ys.getD i 0))) :
    Calls Try.prog 38 #[.slice (some ⟨b1, 0, none⟩) n n, .slice (some ⟨b2, 0, none⟩) n n] w fun e w' => e = .returned (.int .i64 (cmpL xs ys)) ∧ w = w' := by
  have H1 := Lib.hid h1
  have H2 := Lib.hid h2
  have HC := Lib.hid fun x y => cmpc_any x y w
  clear h1 h2
  go_enter Try.func38, Try.ntmps38
  go_wp2
  go_loopg [11] n (fun gk s11 wr => ∃ (i : Nat), i + gk = n ∧ s11 = .int .i64 i ∧ wr = w ∧ cmpL (xs.drop i) (ys.drop i) = cmpL xs ys)
  case atStart => exact ⟨0, by omega, rfl, rfl, by simp⟩
  case round =>
    obtain ⟨i, hi, rfl, rfl, hd⟩ := hrel
    by_cases hlt : i < n
    · have hdl : decide ((i : Int) < (n : Int)) = true := by simp; omega
      have hdm : decide ((n : Int) ≤ (i : Int)) = false := by simp; omega
      have c1 := H1.out i hlt
      have c2 := H2.out i hlt
      rw [cmpL_drop (by omega) (by omega)] at hd
      generalize xs.getD i 0 = x at *
      generalize ys.getD i 0 = y at *
      by_cases hz : cmpI x y = 0
      · rw [if_pos hz] at hd
        have HCC := HC.out x y
        rw [hz] at HCC
        have HX := Lib.hid HCC
        have HD := Lib.hid hd
        clear hd HCC hz
        go_wp2_with (first | (go_at_call 45; (with_reducible refine (HX.out).mono ?_); rintro e w2 ⟨rfl, rfl⟩))
        go_roundg (gk - 1)
        case measure => omega
        case rel => exact ⟨i + 1, by omega, by go_num, rfl, HD.out⟩
      · rw [if_neg hz] at hd
        have HCC := HC.out x y
        have HX := Lib.hid HCC
        have HD := Lib.hid hd
        have hne : (cmpI x y == 0) = false := by simpa using hz
        generalize cmpI x y = q at *
        clear hd HCC
        go_wp2_with (first | (go_at_call 45; (with_reducible refine (HX.out).mono ?_); rintro e w2 ⟨rfl, rfl⟩))
        go_ret
        exact ⟨ret_int HD.out, rfl⟩
    · obtain rfl : i = n := by omega
      have hdl : decide ((i : Int) < (i : Int)) = false := by simp
      have HD : Hid (cmpL xs ys = 0) := Lib.hid (by rw [← hd, List.drop_eq_nil_of_le (by omega), List.drop_eq_nil_of_le (by omega)]; rfl)
      clear hd
      go_wp2
      go_ret
      exact ⟨ret_int HD.out.symm, rfl⟩
theorem okAll_at {c : Int} : ∀ {ss : List Sec}, okAll c ss = true → ∀ s ∈ ss, secBad c s = false
  | [], _, s, h => by simp at h
  | x :: xs, h, s, hs => by
    simp only [okAll] at h
    cases hb : secBad c x
    · rw [hb] at h
      rcases List.mem_cons.mp hs with rfl | hs
      · exact hb
      · exact okAll_at (by simpa using h) s hs
    · rw [hb] at h; simp at h
structure SecOk (s : Sec) : Prop where
  r0 : 0 ≤ s.res
  r1 : s.res < 8
  f0 : 0 ≤ s.frm
  f1 : s.frm ≤ 1000
  l0 : 1 ≤ s.len
  l1 : s.len ≤ 1000
theorem sec_ok {l : List Tsk} (h : rchk l = 0) {k : Nat} (hk : k < l.length) {i : Nat} (hi : i < (tskAt l k).secs.length) : SecOk (secAt (tskAt l k).secs i) := by
  obtain ⟨b1, b2⟩ := (rchk_ok h).2 k hk
  obtain ⟨a1, a2, a3, a4⟩ := sec_len_bd b1 b2 i hi
  have hok := tok_of b1
  have hc : (tskAt l k).cost ≤ 1000 := by have := hok.c2; have := hok.d2; have := hok.p2; omega
  have h3 : okAll (tskAt l k).cost (tskAt l k).secs = true := by
    unfold rsecsOk at b2
    simp only [Bool.and_eq_true] at b2
    exact b2.1
  have h4 := okAll_at h3 (secAt (tskAt l k).secs i) (by simp [secAt, List.getD, hi])
  simp only [secBad, Bool.or_eq_false_iff, decide_eq_false_iff_not] at h4
  exact ⟨a1, a2, by omega, by omega, a3, a4⟩
set_option maxRecDepth 100000 in
set_option maxHeartbeats 4000000 in
theorem inside_any (s : Sec) (d : Int) (w : World) (h : SecOk s) (hd0 : 0 ≤ d) (hd1 : d ≤ 1000000) :
    Calls Try.prog 46 #[.agg #[.int .i64 s.res, .int .i64 s.frm, .int .i64 s.len], .int .i64 d] w fun e w' => e = .returned (.bool (insideB s d)) ∧ Bel w w' := by
  obtain ⟨r0, r1, f0, f1, l0, l1⟩ := h
  have hw1 : IntKind.i64.wrap (s.frm + s.len) = s.frm + s.len := IntWalk.i64_in _ (by omega)
  have HR : Hid (insideB s d = (decide (s.frm < d) && decide (d < s.frm + s.len))) := Lib.hid rfl
  generalize s.frm = f at *
  generalize s.len = n at *
  go_enter Try.func46, Try.ntmps46
  by_cases h1 : f < d
  · have d1 : decide (f < d) = true := by simpa using h1
    go_wp2
    go_ret
    exact ⟨ret_bool (by rw [HR.out, d1]; simp), Bel.refl.alloc _⟩
  · have d1 : decide (f < d) = false := by simpa using h1
    go_wp2
    go_ret
    exact ⟨ret_bool (by rw [HR.out, d1]; simp), Bel.refl.alloc _⟩
end Go.Proofs.Ythcdemmamggboaa
