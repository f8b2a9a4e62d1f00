import Derived.Test.YtehifcgfgejjcaaRmidp
import Derived.Lib.Strings
import Derived.Lib.IndexBytes
namespace Go.Proofs.Ytehifcgfgejjcaa
open Go.RowKit
def bl (s : ByteArray) : List UInt8 := s.data.toList
/-- the digits of a number, read on -/
def numF : List UInt8 → Int → Bool → Option (Int × Bool)
  | [], n, g => some (n, g)
  | c :: cs, n, g => if (c.toNat : Int) < 48 ∨ 57 < (c.toNat : Int) then none else
      (if g || decide ((9223372036854775807 - ((c.toNat : Int) - 48)) / 10 < n) then numF cs n true else numF cs (10 * n + ((c.toNat : Int) - 48)) false)
def numT (neg : Bool) (t : List UInt8) : Int × Bool × Bool :=
  if t = [] ∨ (t.head? = some 48 ∧ (1 < t.length ∨ neg = true)) then (0, false, false) else
    match numF t 0 false with
    | none => (0, false, false)
    | some (n, g) => (if neg then -n else n, g, true)
def numL (l : List UInt8) : Int × Bool × Bool := if l.head? = some 45 then numT true l.tail else numT false l
def numV (p : Int × Bool × Bool) : Value := .tuple #[.int .i64 p.1, .bool p.2.1, .bool p.2.2]
theorem bl_len (s : ByteArray) : (bl s).length = s.size := by rw [bl, Array.length_toList]; rfl
theorem bl_zero {s : ByteArray} (h : s.size = 0) : bl s = [] := List.eq_nil_of_length_eq_zero (by rw [bl_len]; exact h)
theorem bl_drop {s : ByteArray} {k : Nat} (h : k < s.size) : (bl s).drop k = s[k] :: (bl s).drop (k + 1) := by
  rw [List.drop_eq_getElem_cons (by rw [bl_len]; exact h)]; rfl
theorem bl_head {s : ByteArray} (h : 0 < s.size) : (bl s).head? = some s[0] := by
  have := bl_drop h
  rw [List.drop_zero] at this
  rw [this]; rfl
theorem bl_tail (s : ByteArray) : bl (s.extract 1 s.size) = (bl s).tail := by
  unfold bl
  rw [Lib.extract_data]
  have : s.size = s.data.toList.length := by rw [Array.length_toList]; rfl
  rw [this, List.drop_one]
  simp
  exact List.take_of_length_le (by rw [List.length_tail, Array.length_toList]; exact Nat.le_refl _)
theorem byte_eq {c : UInt8} {n : Nat} (hn : n < 256) : ((c.toNat : Int) == (n : Int)) = decide (c = UInt8.ofNat n) := by
  rw [Bool.eq_iff_iff]
  simp only [beq_iff_eq, decide_eq_true_eq]
  constructor
  · intro h
    have : c.toNat = n := by omega
    rw [← this]; simp
  · intro h; subst h; rw [UInt8.toNat_ofNat']; omega
theorem byte48 (c : UInt8) : ((c.toNat : Int) == 48) = decide (c = 48) := byte_eq (c := c) (n := 48) (by omega)
theorem byte45 (c : UInt8) : ((c.toNat : Int) == 45) = decide (c = 45) := byte_eq (c := c) (n := 45) (by omega)
theorem empty_of {t : ByteArray} (h : t.size = 0) : t.toList.isEmpty = true ∧ t.toList = [] := by
  have e : t.toList = [] := by rw [ByteArray.toList_eq]; exact bl_zero h
  rw [e]; exact ⟨rfl, rfl⟩
theorem nonempty_of {t : ByteArray} (h : 0 < t.size) : t.toList.isEmpty = false ∧ ¬ t.toList = [] := by
  have e : ¬ t.toList = [] := by
    rw [ByteArray.toList_eq]; intro h2
    have := bl_len t
    rw [bl, h2] at this
    simp at this; omega
  exact ⟨by simpa using e, e⟩
theorem numT_bad {neg : Bool} {t : ByteArray} (h : t.size = 0 ∨ ∃ h : 0 < t.size, t[0] = 48 ∧ (1 < t.size ∨ neg = true)) : numT neg (bl t) = (0, false, false) := by
  unfold numT
  rw [if_pos]
  rcases h with h | ⟨h, h1, h2⟩
  · exact .inl (bl_zero h)
  · exact .inr ⟨by rw [bl_head h, h1], by rw [bl_len]; exact h2⟩
theorem numT_ok {neg : Bool} {t : ByteArray} (h : 0 < t.size) (h2 : ¬ (t[0] = 48 ∧ (1 < t.size ∨ neg = true))) : numT neg (bl t) = match numF (bl t) 0 false with
    | none => (0, false, false)
    | some (n, g) => (if neg then -n else n, g, true) := by
  unfold numT
  rw [if_neg]
  rintro (h3 | ⟨h3, h4⟩)
  · have := bl_len t; rw [h3] at this; simp at this; omega
  · rw [bl_head h] at h3
    rw [bl_len] at h4
    exact h2 ⟨by simpa using h3, h4⟩
theorem numF_bad {c : UInt8} {cs : List UInt8} {n : Int} {g : Bool} (h : (c.toNat : Int) < 48 ∨ 57 < (c.toNat : Int)) : numF (c :: cs) n g = none := by simp only [numF, if_pos h]
theorem numF_great {c : UInt8} {cs : List UInt8} {n : Int} {g : Bool} (h : ¬ ((c.toNat : Int) < 48 ∨ 57 < (c.toNat : Int))) (hg : g = true ∨ (9223372036854775807 - ((c.toNat : Int) - 48)) / 10 < n) : numF (c :: cs) n g = numF cs n true := by
  simp only [numF, if_neg h]
  rw [if_pos]
  rcases hg with rfl | hg
  · rfl
  · simp [hg]
theorem numF_more {c : UInt8} {cs : List UInt8} {n : Int} (h : ¬ ((c.toNat : Int) < 48 ∨ 57 < (c.toNat : Int))) (hg : ¬ (9223372036854775807 - ((c.toNat : Int) - 48)) / 10 < n) : numF (c :: cs) n false = numF cs (10 * n + ((c.toNat : Int) - 48)) false := by
  simp only [numF, if_neg h]
  rw [if_neg]
  simp only [Bool.false_or, decide_eq_true_eq]
  exact hg
set_option maxRecDepth 100000 in
set_option maxHeartbeats 8000000 in
theorem pnum_any (s : ByteArray) (w : World) (hs : s.size ≤ 1000000) : Calls Try.prog 43 #[.string s] w fun e w' => e = .returned (numV (numL (bl s))) ∧ Bel w w' := by
  by_cases h0 : s.size = 0
  · have HR : Hid (numL (bl s) = (0, false, false)) := Lib.hid (by rw [bl_zero h0]; rfl)
    obtain ⟨e2, e1⟩ := empty_of h0
    go_enter Try.func43, Try.ntmps43
    go_wp2
    go_ret3
    exact ⟨by rw [HR.out]; rfl, Bel.refl⟩
  have hpos : 0 < s.size := by omega
  obtain ⟨e2, e1⟩ := nonempty_of hpos
  have hq45 := byte45 s[0]
  by_cases hneg : s[0] = 45
  · have hq0 : ((s[0].toNat : Int) == 45) = true := by rw [hq45]; simpa using hneg
    have HS : Hid (numL (bl s) = numT true (bl (s.extract 1 s.size))) := Lib.hid (by unfold numL; rw [bl_head hpos, hneg, if_pos rfl, bl_tail])
    have htl : (s.extract 1 s.size).size ≤ 1000000 := by simp; omega
    clear hneg hq45
    go_enter Try.func43, Try.ntmps43
    go_upto_region 3 with (fail)
    (refine wp_region_ext (wb := w) (by (repeat (first | exact Ext.bel _ | exact Bel.refl | refine Bel.alloc ?_ _ | refine Bel.drew ?_ | refine Bel.drewN ?_ _))) (by kernel_rfl) (by kernel_rfl) ?_; (repeat (any_goals (first | go_big_quiet_step (fail) | quiet_step (fail) | (refine wpQuiet_step (fun K hK => ?_); go_simp; split <;> (refine hK _ ?_; clear hK K))))); all_goals (refine wpQuiet_nil ?_; intro _ hw'; obtain ⟨y, hw''⟩ := hw'; subst hw''))
    generalize s.extract 1 s.size = t at *
    by_cases ht0 : t.size = 0
    · have HR : Hid (numT true (bl t) = (0, false, false)) := Lib.hid (numT_bad (.inl ht0))
      obtain ⟨t1, t2⟩ := empty_of ht0
      go_wp2
      go_ret3
      exact ⟨by rw [HS.out, HR.out]; rfl, y.bel⟩
    have htp : 0 < t.size := by omega
    clear ht0
    obtain ⟨t1, t2⟩ := nonempty_of htp
    have hq := byte48 t[0]
    by_cases h48 : t[0] = 48 ∧ (1 < t.size ∨ true = true)
    · have HR : Hid (numT true (bl t) = (0, false, false)) := Lib.hid (numT_bad (.inr ⟨htp, h48⟩))
      have hq2 : ((t[0].toNat : Int) == 48) = true := by rw [hq]; simpa using h48.1
      skip
      clear hq h48
      go_wp2
      all_goals first
        | (go_ret3
           exact ⟨by rw [HS.out, HR.out]; rfl, y.bel⟩)
        | (exfalso; omega)
    have HT : Hid (numT true (bl t) = match numF (bl t) 0 false with
        | none => (0, false, false)
        | some (n, g) => (if true then -n else n, g, true)) := Lib.hid (numT_ok htp h48)
    have hcase : ((t[0].toNat : Int) == 48) = false ∨ (((t[0].toNat : Int) == 48) = true ∧ ¬ 1 < t.size ∧ true = false) := by
      rw [hq]
      by_cases h1 : t[0] = 48
      · right; simp [h1] at h48 ⊢ <;> omega
      · left; simpa using h1
    clear hq h48
    rcases hcase with hz | ⟨hz, hsz, hnn⟩
    · go_wp2
      go_loop [2, 3, 35] (fun un ug ui => ∃ (k : Nat) (n : Int) (g : Bool), k ≤ t.size ∧ un = .int .i64 n ∧ ug = .bool g ∧ ui = .int .i64 k ∧ 0 ≤ n ∧ n ≤ 9223372036854775807 ∧ numF ((bl t).drop k) n g = numF (bl t) 0 false) (fun _ _ ui => t.size - (intOf ui).toNat)
      case atStart => exact ⟨0, 0, false, by omega, rfl, rfl, rfl, by omega, by omega, rfl⟩
      case round =>
        obtain ⟨k, n, g, hk, rfl, rfl, rfl, hn1, hn2, hd⟩ := hrel
        by_cases hlt : k < t.size
        · rw [bl_drop hlt] at hd
          have hb := UInt8.toNat_lt t[k]
          by_cases hdig : (t[k].toNat : Int) < 48 ∨ 57 < (t[k].toNat : Int)
          · have HN : Hid (numF (bl t) 0 false = none) := Lib.hid (by rw [← hd, numF_bad hdig])
            clear hd
            go_wp2
            all_goals first
              | (go_ret3
                 exact ⟨by rw [HS.out, HT.out, HN.out]; rfl, y.bel⟩)
              | (exfalso; omega)
          · have hdig1 : 48 ≤ (t[k].toNat : Int) := by omega
            have hdig2 : (t[k].toNat : Int) ≤ 57 := by omega
            skip
            cases g
            · by_cases hgr : (9223372036854775807 - ((t[k].toNat : Int) - 48)) / 10 < n
              · have HD : Hid (numF ((bl t).drop (k + 1)) n true = numF (bl t) 0 false) := Lib.hid (by rw [← hd, numF_great hdig (.inr hgr)])
                clear hd hdig
                go_wp2
                go_round
                case rel => exact ⟨k + 1, n, true, by omega, rfl, rfl, by go_num, by omega, by omega, HD.out⟩
                case measure => simp [intOf]; omega
              · have HD : Hid (numF ((bl t).drop (k + 1)) (10 * n + ((t[k].toNat : Int) - 48)) false = numF (bl t) 0 false) := Lib.hid (by rw [← hd, numF_more hdig hgr])
                have hr1 : 0 ≤ 10 * n + ((t[k].toNat : Int) - 48) := by omega
                have hr2 : 10 * n + ((t[k].toNat : Int) - 48) ≤ 9223372036854775807 := by omega
                have hr3 : n * 10 ≤ 9223372036854775807 := by omega
                clear hd hdig
                go_wp2
                go_round
                case rel => exact ⟨k + 1, _, false, by omega, rfl, rfl, by go_num, by omega, by omega, by first | exact HD.out | (have h9 := HD.out; rw [Int.mul_comm 10 n] at h9; exact h9)⟩
                case measure => simp [intOf]; omega
            · have HD : Hid (numF ((bl t).drop (k + 1)) n true = numF (bl t) 0 false) := Lib.hid (by rw [← hd, numF_great hdig (.inl rfl)])
              clear hd hdig
              go_wp2
              go_round
              case rel => exact ⟨k + 1, n, true, by omega, rfl, rfl, by go_num, by omega, by omega, HD.out⟩
              case measure => simp [intOf]; omega
        · obtain rfl : k = t.size := by omega
          have HN : Hid (numF (bl t) 0 false = some (n, g)) := Lib.hid (by rw [← hd, List.drop_eq_nil_of_le (by rw [bl_len]; exact Nat.le_refl _)]; rfl)
          clear hd
          go_wp2
          go_ret3
          exact ⟨by rw [HS.out, HT.out, HN.out]; rfl, y.bel⟩
    · cases hnn
  · have hq0 : ((s[0].toNat : Int) == 45) = false := by rw [hq45]; simpa using hneg
    have HS : Hid (numL (bl s) = numT false (bl s)) := Lib.hid (by unfold numL; rw [bl_head hpos, if_neg (by simpa using hneg)])
    clear hneg hq45
    go_enter Try.func43, Try.ntmps43
    go_upto_region 4 with (fail)
    have htp : 0 < s.size := hpos
    obtain ⟨t1, t2⟩ := nonempty_of htp
    have hq := byte48 s[0]
    by_cases h48 : s[0] = 48 ∧ (1 < s.size ∨ false = true)
    · have HR : Hid (numT false (bl s) = (0, false, false)) := Lib.hid (numT_bad (.inr ⟨htp, h48⟩))
      have hq2 : ((s[0].toNat : Int) == 48) = true := by rw [hq]; simpa using h48.1
      have hs1 : 1 < s.size := by have := h48.2; simpa using this
      clear hq h48
      go_wp2
      all_goals first
        | (go_ret3
           exact ⟨by rw [HS.out, HR.out]; rfl, Bel.refl⟩)
        | (exfalso; omega)
    have HT : Hid (numT false (bl s) = match numF (bl s) 0 false with
        | none => (0, false, false)
        | some (n, g) => (if false then -n else n, g, true)) := Lib.hid (numT_ok htp h48)
    have hcase : ((s[0].toNat : Int) == 48) = false ∨ (((s[0].toNat : Int) == 48) = true ∧ ¬ 1 < s.size ∧ false = false) := by
      rw [hq]
      by_cases h1 : s[0] = 48
      · right; simp [h1] at h48 ⊢ <;> omega
      · left; simpa using h1
    clear hq h48
    rcases hcase with hz | ⟨hz, hsz, _⟩
    all_goals
      go_wp2
      go_loop [2, 3, 35] (fun un ug ui => ∃ (k : Nat) (n : Int) (g : Bool), k ≤ s.size ∧ un = .int .i64 n ∧ ug = .bool g ∧ ui = .int .i64 k ∧ 0 ≤ n ∧ n ≤ 9223372036854775807 ∧ numF ((bl s).drop k) n g = numF (bl s) 0 false) (fun _ _ ui => s.size - (intOf ui).toNat)
      case atStart => exact ⟨0, 0, false, by omega, rfl, rfl, rfl, by omega, by omega, rfl⟩
      case round =>
        obtain ⟨k, n, g, hk, rfl, rfl, rfl, hn1, hn2, hd⟩ := hrel
        by_cases hlt : k < s.size
        · rw [bl_drop hlt] at hd
          have hb := UInt8.toNat_lt s[k]
          by_cases hdig : (s[k].toNat : Int) < 48 ∨ 57 < (s[k].toNat : Int)
          · have HN : Hid (numF (bl s) 0 false = none) := Lib.hid (by rw [← hd, numF_bad hdig])
            clear hd
            go_wp2
            all_goals first
              | (go_ret3
                 exact ⟨by rw [HS.out, HT.out, HN.out]; rfl, Bel.refl⟩)
              | (exfalso; omega)
          · have hdig1 : 48 ≤ (s[k].toNat : Int) := by omega
            have hdig2 : (s[k].toNat : Int) ≤ 57 := by omega
            skip
            cases g
            · by_cases hgr : (9223372036854775807 - ((s[k].toNat : Int) - 48)) / 10 < n
              · have HD : Hid (numF ((bl s).drop (k + 1)) n true = numF (bl s) 0 false) := Lib.hid (by rw [← hd, numF_great hdig (.inr hgr)])
                clear hd hdig
                go_wp2
                go_round
                case rel => exact ⟨k + 1, n, true, by omega, rfl, rfl, by go_num, by omega, by omega, HD.out⟩
                case measure => simp [intOf]; omega
              · have HD : Hid (numF ((bl s).drop (k + 1)) (10 * n + ((s[k].toNat : Int) - 48)) false = numF (bl s) 0 false) := Lib.hid (by rw [← hd, numF_more hdig hgr])
                have hr1 : 0 ≤ 10 * n + ((s[k].toNat : Int) - 48) := by omega
                have hr2 : 10 * n + ((s[k].toNat : Int) - 48) ≤ 9223372036854775807 := by omega
                have hr3 : n * 10 ≤ 9223372036854775807 := by omega
                clear hd hdig
                go_wp2
                go_round
                case rel => exact ⟨k + 1, _, false, by omega, rfl, rfl, by go_num, by omega, by omega, by first | exact HD.out | (have h9 := HD.out; rw [Int.mul_comm 10 n] at h9; exact h9)⟩
                case measure => simp [intOf]; omega
            · have HD : Hid (numF ((bl s).drop (k + 1)) n true = numF (bl s) 0 false) := Lib.hid (by rw [← hd, numF_great hdig (.inl rfl)])
              clear hd hdig
              go_wp2
              go_round
              case rel => exact ⟨k + 1, n, true, by omega, rfl, rfl, by go_num, by omega, by omega, HD.out⟩
              case measure => simp [intOf]; omega
        · obtain rfl : k = s.size := by omega
          have HN : Hid (numF (bl s) 0 false = some (n, g)) := Lib.hid (by rw [← hd, List.drop_eq_nil_of_le (by rw [bl_len]; exact Nat.le_refl _)]; rfl)
          clear hd
          go_wp2
          go_ret3
          exact ⟨by rw [HS.out, HT.out, HN.out]; rfl, Bel.refl⟩
end Go.Proofs.Ytehifcgfgejjcaa
