import Derived.Test.YtehifcgfgejjcaaRread
import Derived.Test.YtehifcgfgejjcaaRtext
namespace Go.Proofs.Ytehifcgfgejjcaa
open Go.RowKit
/-- a rational number as a ratio, if it fits -/
def ofQ (q : Rat) : Rt × Int := if 2147483647 < absU q.num ∨ 2147483647 < (q.den : Int) then (⟨0, 0⟩, 7) else (⟨q.num, q.den⟩, 0)
def Rt.q (a : Rt) : Rat := Rat.divInt a.num a.den
theorem gcd_abs (n d : Int) : gcdU (absU n) (absU d) = ((d.gcd n : Nat) : Int) := by
  unfold gcdU absU
  rw [Int.toNat_natCast, Int.toNat_natCast, Nat.gcd_comm]; rfl
theorem tdiv_abs (n : Int) (g : Nat) (h : (g : Int) ∣ n) : (if n < 0 then -(absU n / g) else absU n / g) = n / g := by
  obtain ⟨k, rfl⟩ := h
  unfold absU
  by_cases hg : g = 0
  · subst hg; simp
  have hg2 : (g : Int) ≠ 0 := by omega
  have hgp : (0 : Int) < g := by omega
  have e : (((g : Int) * k).natAbs : Int) = g * (k.natAbs : Nat) := by rw [Int.natAbs_mul]; simp
  rw [e, Int.mul_ediv_cancel_left _ hg2, Int.mul_ediv_cancel_left _ hg2]
  have hk : ((g : Int) * k < 0) ↔ k < 0 := by
    constructor
    · intro h
      rcases Int.lt_or_le k 0 with h1 | h1
      · exact h1
      · have := Int.mul_nonneg (Int.le_of_lt hgp) h1; omega
    · intro h; exact Int.mul_neg_of_pos_of_neg hgp h
  by_cases h1 : k < 0
  · rw [if_pos (hk.mpr h1)]; omega
  · rw [if_neg (fun h => h1 (hk.mp h))]; omega
theorem rmake_q (n d : Int) (h : d ≠ 0) : rmake n d = ofQ (Rat.divInt n d) := by
  unfold rmake ofQ
  rw [if_neg h, gcd_abs]
  have hg : (0 : Int) < (d.gcd n : Nat) := by have := Int.gcd_pos_of_ne_zero_left n h; omega
  have hdn : ((d.gcd n : Nat) : Int) ∣ n := Int.gcd_dvd_right ..
  have hdd : ((d.gcd n : Nat) : Int) ∣ d := Int.gcd_dvd_left ..
  have e1 : ((Rat.divInt n d).den : Int) = absU d / (d.gcd n : Nat) := by
    rw [Rat.den_divInt, if_neg h]; unfold absU; simp
  have e2 : (Rat.divInt n d).num = if (n < 0) ≠ (d < 0) then -(absU n / (d.gcd n : Nat)) else absU n / (d.gcd n : Nat) := by
    rw [Rat.num_divInt]
    have hs := tdiv_abs n (d.gcd n) hdn
    have hq : d.sign * n / ((d.gcd n : Nat) : Int) = d.sign * (n / (d.gcd n : Nat)) := Int.mul_ediv_assoc _ hdn
    rw [hq]
    rcases Int.lt_trichotomy d 0 with h1 | h1 | h1
    · rw [Int.sign_eq_neg_one_of_neg h1, ← hs]
      by_cases h2 : n < 0 <;> simp [h1, h2]
    · exact absurd h1 h
    · rw [Int.sign_eq_one_of_pos h1, ← hs]
      have h3 : ¬ d < 0 := by omega
      by_cases h2 : n < 0 <;> simp [h3, h2]
  have e3 : absU (Rat.divInt n d).num = absU n / (d.gcd n : Nat) := by
    rw [e2]
    have : 0 ≤ absU n / (d.gcd n : Nat) := Int.ediv_nonneg (by unfold absU; omega) (by omega)
    generalize absU n / (d.gcd n : Nat) = t at *
    unfold absU
    split <;> omega
  rw [e3, ← e2, e1]
theorem val_q {a : Rt} (h : rval a = true) : a.q.num = a.num ∧ (a.q.den : Int) = a.den ∧ 0 < a.den ∧ ofQ a.q = (a, 0) := by
  unfold rval at h
  simp only [Bool.and_eq_true, decide_eq_true_eq] at h
  obtain ⟨⟨⟨h1, h2⟩, h3⟩, h4⟩ := h
  have h5 : a.den ≠ 0 := by omega
  have h6 : absU a.den = a.den := by unfold absU; omega
  have hg : a.den.gcd a.num = 1 := by rw [← h6, gcd_abs] at h4; omega
  have e1 : a.q.num = a.num := by unfold Rt.q; rw [Rat.num_divInt, hg, Int.sign_eq_one_of_pos h1]; simp
  have e2 : (a.q.den : Int) = a.den := by unfold Rt.q; rw [Rat.den_divInt, hg, if_neg h5]; simp; omega
  refine ⟨e1, e2, h1, ?_⟩
  unfold ofQ
  rw [e1, e2, if_neg (by omega)]
theorem q_inj {a b : Rt} (ha : rval a = true) (hb : rval b = true) (h : a.q = b.q) : a = b := by
  have h1 := (val_q ha).2.2.2
  have h2 := (val_q hb).2.2.2
  rw [h, h2] at h1
  exact (congrArg Prod.fst h1).symm
theorem ofQ_ok {q : Rat} {a : Rt} (h : ofQ q = (a, 0)) : rval a = true ∧ a.q = q := by
  unfold ofQ at h
  split at h
  · cases h
  · rename_i hb
    obtain rfl : (⟨q.num, q.den⟩ : Rt) = a := congrArg Prod.fst h
    have hd := q.den_pos
    have hr : Nat.gcd q.num.natAbs q.den = 1 := q.reduced
    constructor
    · unfold rval
      simp only [Bool.and_eq_true, decide_eq_true_eq]
      refine ⟨⟨⟨by omega, by omega⟩, by omega⟩, ?_⟩
      unfold gcdU absU
      rw [Int.toNat_natCast, Int.toNat_natCast, hr]; rfl
    · unfold Rt.q; exact Rat.num_divInt_den q
theorem ofQ_cases (q : Rat) : (∃ a, ofQ q = (a, 0) ∧ rval a = true ∧ a.q = q) ∨ ofQ q = (⟨0, 0⟩, 7) := by
  by_cases hb : 2147483647 < absU q.num ∨ 2147483647 < (q.den : Int)
  · right; unfold ofQ; rw [if_pos hb]
  · left
    have : ofQ q = (⟨q.num, q.den⟩, 0) := by unfold ofQ; rw [if_neg hb]
    exact ⟨_, this, ofQ_ok this⟩
section
variable {a b : Rt} (ha : rval a = true) (hb : rval b = true)
include ha hb
theorem radd_q : radd a b = ofQ (a.q + b.q) := by
  have h1 := (val_q ha).2.2.1
  have h2 := (val_q hb).2.2.1
  unfold radd Rt.q
  rw [ha, hb, Rat.divInt_add_divInt _ _ (by omega) (by omega), ← rmake_q]
  · rfl
  · exact Int.mul_ne_zero (by omega) (by omega)
theorem rsub_q : rsub a b = ofQ (a.q - b.q) := by
  have h1 := (val_q ha).2.2.1
  have h2 := (val_q hb).2.2.1
  unfold rsub Rt.q
  rw [ha, hb, Rat.divInt_sub_divInt _ _ (by omega) (by omega), ← rmake_q]
  · rfl
  · exact Int.mul_ne_zero (by omega) (by omega)
theorem rmul_q : rmul a b = ofQ (a.q * b.q) := by
  have h1 := (val_q ha).2.2.1
  have h2 := (val_q hb).2.2.1
  unfold rmul Rt.q
  rw [ha, hb, Rat.divInt_mul_divInt, ← rmake_q]
  · rfl
  · exact Int.mul_ne_zero (by omega) (by omega)
theorem rquo_q (h0 : b.num ≠ 0) : rquo a b = ofQ (a.q / b.q) := by
  have h1 := (val_q ha).2.2.1
  have h2 := (val_q hb).2.2.1
  unfold rquo Rt.q
  rw [ha, hb, Rat.div_def, Rat.inv_divInt, Rat.divInt_mul_divInt, ← rmake_q]
  · rfl
  · exact Int.mul_ne_zero (by omega) h0
theorem q_lt : a.q < b.q ↔ a.num * b.den < b.num * a.den := by
  obtain ⟨h1, h2, _⟩ := val_q ha
  obtain ⟨h3, h4, _⟩ := val_q hb
  rw [Rat.lt_iff, h1, h2, h3, h4]
theorem rcmp_q : rcmp a b = (if a.q < b.q then -1 else if b.q < a.q then 1 else 0, 0) := by
  have h1 := q_lt ha hb
  have h2 := q_lt hb ha
  unfold rcmp
  rw [ha, hb]
  simp only [h1, h2, Bool.and_self, if_true]
end
theorem dig_nat (k : Nat) : ((UInt8.ofNat (48 + k % 10)).toNat : Int) = 48 + (k : Int) % 10 := by
  rw [UInt8.toNat_ofNat']; omega
theorem dig_ne (k : Nat) {c : UInt8} (h : c.toNat < 48) : UInt8.ofNat (48 + k % 10) ≠ c := by
  intro e
  have := dig_nat k
  rw [e] at this; omega
theorem pow_dig {k f : Nat} (h : k < 10 ^ (f + 1)) : k / 10 < 10 ^ f := by rw [Nat.pow_succ] at h; omega
theorem numF_dig : ∀ (f k : Nat) (acc : List UInt8), acc ≠ [] → k < 10 ^ f → (k : Int) ≤ 9223372036854775807 → numF (digF f k acc) 0 false = numF acc k false
  | 0, k, acc, h, hk, _ => by
    obtain rfl : k = 0 := by simpa using hk
    rfl
  | f + 1, k, acc, h, hk, hb => by
    by_cases h0 : k = 0
    · subst h0; unfold digF; rw [if_pos ⟨rfl, h⟩]; rfl
    · unfold digF
      rw [if_neg (fun h => h0 h.1), numF_dig f _ _ (by simp) (pow_dig hk) (by omega)]
      have hd := dig_nat k
      simp only [numF]
      rw [hd, if_neg (by omega), if_neg (by simp; omega)]
      congr 1
      omega
theorem digF_head : ∀ (f k : Nat) (acc : List UInt8), k ≠ 0 → k < 10 ^ f → (digF f k acc).head? ≠ some 48
  | 0, k, acc, h, hk => by exfalso; simp at hk; omega
  | f + 1, k, acc, h, hk => by
    unfold digF
    rw [if_neg (fun h2 => h h2.1)]
    by_cases h1 : k / 10 = 0
    · have e : digF f (k / 10) (UInt8.ofNat (48 + k % 10) :: acc) = UInt8.ofNat (48 + k % 10) :: acc := by
        rw [h1]; cases f <;> simp [digF]
      rw [e]
      intro h2
      have h3 := dig_nat k
      have h4 : UInt8.ofNat (48 + k % 10) = 48 := by simpa using h2
      rw [h4] at h3
      have : ((48 : UInt8).toNat : Int) = 48 := by decide
      omega
    · exact digF_head f _ _ h1 (pow_dig hk)
theorem digF_mem : ∀ (f k : Nat) (acc : List UInt8) (c : UInt8), c.toNat < 48 → c ∈ digF f k acc → c ∈ acc
  | 0, k, acc, c, _, h => h
  | f + 1, k, acc, c, hc, h => by
    unfold digF at h
    split at h
    · exact h
    · have := digF_mem f _ _ c hc h
      rcases List.mem_cons.mp this with h1 | h1
      · exact absurd h1.symm (dig_ne k hc)
      · exact h1
theorem digs_mem {k : Nat} {c : UInt8} (hc : c.toNat < 48) : c ∉ digs k := fun h => by
  have := digF_mem 20 k [] c hc h
  cases this
theorem digs_val (k : Nat) (hk : (k : Int) ≤ 9223372036854775807) : numF (digs k) 0 false = some ((k : Int), false) := by
  have e : digs k = digF 19 (k / 10) [UInt8.ofNat (48 + k % 10)] := by
    show digF 20 k [] = _
    rw [digF, if_neg (by simp)]
  rw [e, numF_dig 19 _ _ (by simp) (by omega) (by omega)]
  have hd := dig_nat k
  simp only [numF]
  rw [hd, if_neg (by omega), if_neg (by simp; omega)]
  congr 2
  omega
theorem digF_ne : ∀ (f k : Nat) (acc : List UInt8), acc ≠ [] → digF f k acc ≠ []
  | 0, _, _, h => h
  | f + 1, k, acc, h => by
    unfold digF
    split
    · exact h
    · exact digF_ne f _ _ (by simp)
theorem digs_ne (k : Nat) : digs k ≠ [] := by
  show digF 20 k [] ≠ []
  rw [digF, if_neg (by simp)]
  exact digF_ne _ _ _ (by simp)
theorem digs_zero : digs 0 = [48] := by decide
theorem head_mem {l : List UInt8} {c : UInt8} (h : l.head? = some c) : c ∈ l := by
  cases l with
  | nil => cases h
  | cons a l => simp at h; simp [h]
theorem numT_digs (neg : Bool) (k : Nat) (hk : (k : Int) ≤ 9223372036854775807) (hn : neg = true → k ≠ 0) : numT neg (digs k) = (if neg then -(k : Int) else k, false, true) := by
  unfold numT
  rw [if_neg, digs_val k hk]
  rintro (h | ⟨h1, h2⟩)
  · exact digs_ne k h
  · by_cases h0 : k = 0
    · subst h0
      rw [digs_zero] at h2
      rcases h2 with h2 | h2
      · simp at h2
      · exact hn h2 rfl
    · exact digF_head 20 k [] h0 (by omega) h1
theorem numL_dec (n : Int) (h : -9223372036854775807 ≤ n ∧ n ≤ 9223372036854775807) : numL (decL n) = (n, false, true) := by
  unfold numL decL
  by_cases h0 : n < 0
  · rw [if_pos h0]
    show (if some (45 : UInt8) = some 45 then numT true (digs n.natAbs) else _) = _
    rw [if_pos rfl, numT_digs true _ (by omega) (by omega)]
    simp; omega
  · rw [if_neg h0, List.nil_append, if_neg, numT_digs false _ (by omega) (by simp)]
    · simp; omega
    · intro h1
      exact digs_mem (by decide) (head_mem h1)
theorem idxS_none : ∀ l : List UInt8, (47 : UInt8) ∉ l → idxS l = l.length
  | [], _ => rfl
  | c :: cs, h => by
    rw [idxS_miss (fun e => h (by simp [e])), idxS_none cs (fun e => h (by simp [e]))]; rfl
theorem idxS_slash : ∀ l r : List UInt8, (47 : UInt8) ∉ l → idxS (l ++ 47 :: r) = l.length
  | [], r, _ => idxS_hit rfl
  | c :: cs, r, h => by
    rw [List.cons_append, idxS_miss (fun e => h (by simp [e])), idxS_slash cs r (fun e => h (by simp [e]))]; rfl
theorem dec_slash (n : Int) : (47 : UInt8) ∉ decL n := by
  unfold decL
  intro h
  rcases List.mem_append.mp h with h | h
  · split at h
    · simp at h
    · cases h
  · exact digs_mem (by decide) h
/-- the text of a ratio reads as the ratio -/
theorem read_text {a : Rt} (h : rval a = true) : readL (rtext a).1 = (a, 0) := by
  obtain ⟨h1, h2, h3, h4⟩ := val_q h
  have hm : rmake a.num a.den = (a, 0) := by rw [rmake_q _ _ (by omega)]; exact h4
  unfold rval at h
  simp only [Bool.and_eq_true, decide_eq_true_eq] at h
  obtain ⟨⟨⟨_, b1⟩, b2⟩, _⟩ := h
  unfold absU at b2
  have hr : (rtext a).1 = decL a.num ++ (if 1 < a.den then 47 :: decL a.den else []) := by
    unfold rtext
    rw [if_pos]
    unfold rval absU
    simp only [Bool.and_eq_true, decide_eq_true_eq]
    exact ⟨⟨⟨h3, b1⟩, b2⟩, by assumption⟩
  rw [hr]
  by_cases hd : 1 < a.den
  · rw [if_pos hd]
    unfold readL
    rw [idxS_slash _ _ (dec_slash _), if_pos (by simp), List.take_left' rfl, show decL a.num ++ 47 :: decL a.den = (decL a.num ++ [47]) ++ decL a.den by simp, List.drop_left' (by simp), numL_dec _ (by omega), numL_dec _ (by omega)]
    unfold readF
    rw [if_neg (by simp; omega), if_neg (by simp)]
    exact hm
  · obtain hd1 : a.den = 1 := by omega
    rw [if_neg hd, List.append_nil]
    unfold readL
    rw [idxS_none _ (dec_slash _), if_neg (by omega), List.take_length, numL_dec _ (by omega)]
    unfold readF
    rw [if_neg (by simp), if_neg (by simp), ← hm, hd1]
end Go.Proofs.Ytehifcgfgejjcaa
