import Derived.Test.YtehifcgfgejjcaaRnum
namespace Go.Proofs.Ytehifcgfgejjcaa
open Go.RowKit
set_option maxRecDepth 100000 in
set_option maxHeartbeats 8000000 in
theorem rnum_any (s : ByteArray) (w : World) (hs : s.size ≤ 1000000) : Calls Try.prog 44 #[.string s] w fun e w' => e = .returned (numV (numL (bl s))) ∧ Bel w w' := by
  by_cases h0 : s.size = 0
  · have HR : Hid (numL (bl s) = (0, false, false)) := Lib.hid (by rw [bl_zero h0]; rfl)
    obtain ⟨e2, e1⟩ := empty_of h0
    go_enter Try.func44, Try.ntmps44
    go_wp2
    go_ret3
    exact ⟨by rw [HR.out]; rfl, Bel.refl⟩
  have hpos : 0 < s.size := by omega
  obtain ⟨e2, e1⟩ := nonempty_of hpos
  have hq45 := byte45 s[0]
  by_cases hneg : s[0] = 45
  · have hq0 : ((s[0].toNat : Int) == 45) = true := by rw [hq45]; simpa using hneg
    have HS : Hid (numL (bl s) = numT true (bl (s.extract 1 s.size))) := Lib.hid (by unfold numL; rw [bl_head hpos, hneg, if_pos rfl, bl_tail])
    have htl : (s.extract 1 s.size).size ≤ 1000000 := by simp; omega
    clear hneg hq45
    go_enter Try.func44, Try.ntmps44
    go_upto_region 4 with (fail)
    generalize s.extract 1 s.size = t at *
    by_cases ht0 : t.size = 0
    · have HR : Hid (numT true (bl t) = (0, false, false)) := Lib.hid (numT_bad (.inl ht0))
      obtain ⟨t1, t2⟩ := empty_of ht0
      go_wp2
      go_ret3
      exact ⟨by rw [HS.out, HR.out]; rfl, Bel.refl⟩
    have htp : 0 < t.size := by omega
    clear ht0
    obtain ⟨t1, t2⟩ := nonempty_of htp
    have hq := byte48 t[0]
    by_cases h48 : t[0] = 48 ∧ (1 < t.size ∨ true = true)
    · have HR : Hid (numT true (bl t) = (0, false, false)) := Lib.hid (numT_bad (.inr ⟨htp, h48⟩))
      have hq2 : ((t[0].toNat : Int) == 48) = true := by rw [hq]; simpa using h48.1
      skip
      clear hq h48
      go_wp2
      all_goals first
        | (go_ret3
           exact ⟨by rw [HS.out, HR.out]; rfl, Bel.refl⟩)
        | (exfalso; omega)
    have HT : Hid (numT true (bl t) = match numF (bl t) 0 false with
        | none => (0, false, false)
        | some (n, g) => (if true then -n else n, g, true)) := Lib.hid (numT_ok htp h48)
    have hcase : ((t[0].toNat : Int) == 48) = false ∨ (((t[0].toNat : Int) == 48) = true ∧ ¬ 1 < t.size ∧ true = false) := by
      rw [hq]
      by_cases h1 : t[0] = 48
      · right; simp [h1] at h48 ⊢ <;> omega
      · left; simpa using h1
    clear hq h48
    rcases hcase with hz | ⟨hz, hsz, hnn⟩
    · go_wp2
      go_loop [6, 3, 7] (fun un ug ui => ∃ (k : Nat) (n : Int) (g : Bool), k ≤ t.size ∧ un = .int .i64 n ∧ ug = .bool g ∧ ui = .int .i64 k ∧ 0 ≤ n ∧ n ≤ 9223372036854775807 ∧ numF ((bl t).drop k) n g = numF (bl t) 0 false) (fun _ _ ui => t.size - (intOf ui).toNat)
      case atStart => exact ⟨0, 0, false, by omega, rfl, rfl, rfl, by omega, by omega, rfl⟩
      case round =>
        obtain ⟨k, n, g, hk, rfl, rfl, rfl, hn1, hn2, hd⟩ := hrel
        by_cases hlt : k < t.size
        · rw [bl_drop hlt] at hd
          have hb := UInt8.toNat_lt t[k]
          by_cases hdig : (t[k].toNat : Int) < 48 ∨ 57 < (t[k].toNat : Int)
          · have HN : Hid (numF (bl t) 0 false = none) := Lib.hid (by rw [← hd, numF_bad hdig])
            clear hd
            go_wp2
            all_goals first
              | (go_ret3
                 exact ⟨by rw [HS.out, HT.out, HN.out]; rfl, Bel.refl⟩)
              | (exfalso; omega)
          · have hdig1 : 48 ≤ (t[k].toNat : Int) := by omega
            have hdig2 : (t[k].toNat : Int) ≤ 57 := by omega
            skip
            cases g
            · by_cases hgr : (9223372036854775807 - ((t[k].toNat : Int) - 48)) / 10 < n
              · have HD : Hid (numF ((bl t).drop (k + 1)) n true = numF (bl t) 0 false) := Lib.hid (by rw [← hd, numF_great hdig (.inr hgr)])
                clear hd hdig
                go_wp2
                go_round
                case rel => exact ⟨k + 1, n, true, by omega, rfl, rfl, by go_num, by omega, by omega, HD.out⟩
                case measure => simp [intOf]; omega
              · have HD : Hid (numF ((bl t).drop (k + 1)) (10 * n + ((t[k].toNat : Int) - 48)) false = numF (bl t) 0 false) := Lib.hid (by rw [← hd, numF_more hdig hgr])
                have hr1 : 0 ≤ 10 * n + ((t[k].toNat : Int) - 48) := by omega
                have hr2 : 10 * n + ((t[k].toNat : Int) - 48) ≤ 9223372036854775807 := by omega
                have hr3 : n * 10 ≤ 9223372036854775807 := by omega
                clear hd hdig
                go_wp2
                go_round
                case rel => exact ⟨k + 1, _, false, by omega, rfl, rfl, by go_num, by omega, by omega, by first | exact HD.out | (have h9 := HD.out; rw [Int.mul_comm 10 n] at h9; exact h9)⟩
                case measure => simp [intOf]; omega
            · have HD : Hid (numF ((bl t).drop (k + 1)) n true = numF (bl t) 0 false) := Lib.hid (by rw [← hd, numF_great hdig (.inl rfl)])
              clear hd hdig
              go_wp2
              go_round
              case rel => exact ⟨k + 1, n, true, by omega, rfl, rfl, by go_num, by omega, by omega, HD.out⟩
              case measure => simp [intOf]; omega
        · obtain rfl : k = t.size := by omega
          have HN : Hid (numF (bl t) 0 false = some (n, g)) := Lib.hid (by rw [← hd, List.drop_eq_nil_of_le (by rw [bl_len]; exact Nat.le_refl _)]; rfl)
          clear hd
          go_wp2
          go_ret3
          exact ⟨by rw [HS.out, HT.out, HN.out]; rfl, Bel.refl⟩
    · cases hnn
  · have hq0 : ((s[0].toNat : Int) == 45) = false := by rw [hq45]; simpa using hneg
    have HS : Hid (numL (bl s) = numT false (bl s)) := Lib.hid (by unfold numL; rw [bl_head hpos, if_neg (by simpa using hneg)])
    clear hneg hq45
    go_enter Try.func44, Try.ntmps44
    go_upto_region 4 with (fail)
    have htp : 0 < s.size := hpos
    obtain ⟨t1, t2⟩ := nonempty_of htp
    have hq := byte48 s[0]
    by_cases h48 : s[0] = 48 ∧ (1 < s.size ∨ false = true)
    · have HR : Hid (numT false (bl s) = (0, false, false)) := Lib.hid (numT_bad (.inr ⟨htp, h48⟩))
      have hq2 : ((s[0].toNat : Int) == 48) = true := by rw [hq]; simpa using h48.1
      have hs1 : 1 < s.size := by have := h48.2; simpa using this
      clear hq h48
      go_wp2
      all_goals first
        | (go_ret3
           exact ⟨by rw [HS.out, HR.out]; rfl, Bel.refl⟩)
        | (exfalso; omega)
    have HT : Hid (numT false (bl s) = match numF (bl s) 0 false with
        | none => (0, false, false)
        | some (n, g) => (if false then -n else n, g, true)) := Lib.hid (numT_ok htp h48)
    have hcase : ((s[0].toNat : Int) == 48) = false ∨ (((s[0].toNat : Int) == 48) = true ∧ ¬ 1 < s.size ∧ false = false) := by
      rw [hq]
      by_cases h1 : s[0] = 48
      · right; simp [h1] at h48 ⊢ <;> omega
      · left; simpa using h1
    clear hq h48
    rcases hcase with hz | ⟨hz, hsz, _⟩
    all_goals
      go_wp2
      go_loop [6, 3, 7] (fun un ug ui => ∃ (k : Nat) (n : Int) (g : Bool), k ≤ s.size ∧ un = .int .i64 n ∧ ug = .bool g ∧ ui = .int .i64 k ∧ 0 ≤ n ∧ n ≤ 9223372036854775807 ∧ numF ((bl s).drop k) n g = numF (bl s) 0 false) (fun _ _ ui => s.size - (intOf ui).toNat)
      case atStart => exact ⟨0, 0, false, by omega, rfl, rfl, rfl, by omega, by omega, rfl⟩
      case round =>
        obtain ⟨k, n, g, hk, rfl, rfl, rfl, hn1, hn2, hd⟩ := hrel
        by_cases hlt : k < s.size
        · rw [bl_drop hlt] at hd
          have hb := UInt8.toNat_lt s[k]
          by_cases hdig : (s[k].toNat : Int) < 48 ∨ 57 < (s[k].toNat : Int)
          · have HN : Hid (numF (bl s) 0 false = none) := Lib.hid (by rw [← hd, numF_bad hdig])
            clear hd
            go_wp2
            all_goals first
              | (go_ret3
                 exact ⟨by rw [HS.out, HT.out, HN.out]; rfl, Bel.refl⟩)
              | (exfalso; omega)
          · have hdig1 : 48 ≤ (s[k].toNat : Int) := by omega
            have hdig2 : (s[k].toNat : Int) ≤ 57 := by omega
            skip
            cases g
            · by_cases hgr : (9223372036854775807 - ((s[k].toNat : Int) - 48)) / 10 < n
              · have HD : Hid (numF ((bl s).drop (k + 1)) n true = numF (bl s) 0 false) := Lib.hid (by rw [← hd, numF_great hdig (.inr hgr)])
                clear hd hdig
                go_wp2
                go_round
                case rel => exact ⟨k + 1, n, true, by omega, rfl, rfl, by go_num, by omega, by omega, HD.out⟩
                case measure => simp [intOf]; omega
              · have HD : Hid (numF ((bl s).drop (k + 1)) (10 * n + ((s[k].toNat : Int) - 48)) false = numF (bl s) 0 false) := Lib.hid (by rw [← hd, numF_more hdig hgr])
                have hr1 : 0 ≤ 10 * n + ((s[k].toNat : Int) - 48) := by omega
                have hr2 : 10 * n + ((s[k].toNat : Int) - 48) ≤ 9223372036854775807 := by omega
                have hr3 : n * 10 ≤ 9223372036854775807 := by omega
                clear hd hdig
                go_wp2
                go_round
                case rel => exact ⟨k + 1, _, false, by omega, rfl, rfl, by go_num, by omega, by omega, by first | exact HD.out | (have h9 := HD.out; rw [Int.mul_comm 10 n] at h9; exact h9)⟩
                case measure => simp [intOf]; omega
            · have HD : Hid (numF ((bl s).drop (k + 1)) n true = numF (bl s) 0 false) := Lib.hid (by rw [← hd, numF_great hdig (.inl rfl)])
              clear hd hdig
              go_wp2
              go_round
              case rel => exact ⟨k + 1, n, true, by omega, rfl, rfl, by go_num, by omega, by omega, HD.out⟩
              case measure => simp [intOf]; omega
        · obtain rfl : k = s.size := by omega
          have HN : Hid (numF (bl s) 0 false = some (n, g)) := Lib.hid (by rw [← hd, List.drop_eq_nil_of_le (by rw [bl_len]; exact Nat.le_refl _)]; rfl)
          clear hd
          go_wp2
          go_ret3
          exact ⟨by rw [HS.out, HT.out, HN.out]; rfl, Bel.refl⟩
end Go.Proofs.Ytehifcgfgejjcaa
