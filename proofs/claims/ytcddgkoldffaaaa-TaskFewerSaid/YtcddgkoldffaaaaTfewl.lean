import Derived.Test.YtcddgkoldffaaaaTrblk
import Derived.Test.YtcddgkoldffaaaaThyp
namespace Go.Proofs.Ytcddgkoldffaaaa
open Go.RowKit
theorem twinAny_mono {t : Tsk} {a b : List Tsk} (h : ∀ x ∈ a, x ∈ b) (hb : twinAny t b = false) : twinAny t a = false := by
  have e : ∀ l, twinAny t l = l.any fun o => twin t o := by
    intro l
    induction l with
    | nil => rfl
    | cons o os ih => simp only [twinAny, List.any_cons, ih]; cases twin t o <;> rfl
  rw [e] at *
  rw [List.any_eq_false] at *
  exact fun x hx => hb x (h x hx)
theorem rchkT_cons {pre ts : List Tsk} {t : Tsk} : rchkT pre (t :: ts) = 0 ↔ (tskBad t = false ∧ rsecsOk t = true ∧ twinAny t pre = false ∧ rchkT (pre ++ [t]) ts = 0) := by
  simp only [rchkT]
  cases tskBad t <;> cases rsecsOk t <;> cases twinAny t pre <;> simp
theorem rchkT_mono : ∀ (ts a b : List Tsk), (∀ x ∈ a, x ∈ b) → rchkT b ts = 0 → rchkT a ts = 0
  | [], _, _, _, _ => rfl
  | t :: ts, a, b, h, hb => by
    rw [rchkT_cons] at *
    obtain ⟨h1, h2, h3, h4⟩ := hb
    refine ⟨h1, h2, twinAny_mono h h3, rchkT_mono ts _ _ ?_ h4⟩
    intro x hx
    rcases List.mem_append.mp hx with h5 | h5
    · exact List.mem_append.mpr (.inl (h x h5))
    · exact List.mem_append.mpr (.inr h5)
theorem rchkT_erase : ∀ (ts pre : List Tsk) (i : Nat), rchkT pre ts = 0 → rchkT pre (ts.eraseIdx i) = 0
  | [], _, _, _ => by simp [rchkT]
  | t :: ts, pre, 0, h => by
    rw [rchkT_cons] at h
    exact rchkT_mono ts _ _ (fun x hx => List.mem_append.mpr (.inl hx)) h.2.2.2
  | t :: ts, pre, i + 1, h => by
    rw [List.eraseIdx_cons_succ]
    rw [rchkT_cons] at *
    exact ⟨h.1, h.2.1, h.2.2.1, rchkT_erase ts _ i h.2.2.2⟩
theorem manySecs_erase : ∀ (ts : List Tsk) (i : Nat), manySecs ts = false → manySecs (ts.eraseIdx i) = false
  | [], _, _ => by simp [manySecs]
  | t :: ts, 0, h => by
    simp only [manySecs] at h
    split at h
    · cases h
    · exact h
  | t :: ts, i + 1, h => by
    rw [List.eraseIdx_cons_succ]
    simp only [manySecs] at *
    split at h
    · cases h
    · rename_i h1; rw [if_neg h1]; exact manySecs_erase ts i h
/-- without one of its tasks a task set of at least two is right -/
theorem rchk_erase {l : List Tsk} (h : rchk l = 0) (h2 : 2 ≤ l.length) (i : Nat) : rchk (l.eraseIdx i) = 0 := by
  unfold rchk at *
  have hl : (l.eraseIdx i).length ≤ l.length := List.length_eraseIdx_le ..
  have hl2 : l.length ≤ (l.eraseIdx i).length + 1 := by rw [List.length_eraseIdx]; split <;> omega
  by_cases h8 : 8 < l.length
  · rw [if_pos h8] at h; cases h
  rw [if_neg h8] at h
  rw [if_neg (by omega)]
  cases hm : manySecs l
  · rw [hm, if_neg (by simp), if_neg (by omega)] at h
    rw [manySecs_erase l i hm, if_neg (by simp), if_neg (by omega)]
    exact rchkT_erase l [] i h
  · rw [hm] at h; cases h
-- ceilings
theorem ceilS_mono (r p : Int) : ∀ (ss : List Sec) (a b : Int), a ≤ b → ceilS r p ss a ≤ ceilS r p ss b
  | [], _, _, h => h
  | s :: ss, a, b, h => by
    simp only [ceilS]
    apply ceilS_mono
    split
    · split <;> split <;> omega
    · exact h
theorem ceilS_le (r p : Int) : ∀ (ss : List Sec) (a : Int), a ≤ ceilS r p ss a
  | [], _ => Int.le_refl _
  | s :: ss, a => by
    simp only [ceilS]
    refine Int.le_trans ?_ (ceilS_le r p ss _)
    split
    · split <;> omega
    · omega
theorem ceilT_mono (r : Int) : ∀ (ts : List Tsk) (a b : Int), a ≤ b → ceilT r ts a ≤ ceilT r ts b
  | [], _, _, h => h
  | t :: ts, a, b, h => ceilT_mono r ts _ _ (ceilS_mono r t.prio t.secs a b h)
theorem ceilT_erase (r : Int) : ∀ (ts : List Tsk) (i : Nat) (a : Int), ceilT r (ts.eraseIdx i) a ≤ ceilT r ts a
  | [], _, _ => by simp
  | t :: ts, 0, a => ceilT_mono r ts _ _ (ceilS_le r t.prio t.secs a)
  | t :: ts, i + 1, a => by
    rw [List.eraseIdx_cons_succ]
    exact ceilT_erase r ts i _
-- blocking
theorem blkS_mono {l l' : List Tsk} (hl : ∀ r, ceilT r l' 0 ≤ ceilT r l 0) (pi pk : Int) : ∀ (ss : List Sec) (a b : Int), a ≤ b → blkS l' pi pk ss a ≤ blkS l pi pk ss b
  | [], _, _, h => h
  | s :: ss, a, b, h => by
    simp only [blkS]
    apply blkS_mono hl
    have := hl s.res
    by_cases h1 : pk < pi
    · by_cases h2 : pi ≤ ceilT s.res l' 0
      · have h3 : pi ≤ ceilT s.res l 0 := by omega
        simp only [h1, h2, h3, decide_true, Bool.and_self, if_true]
        split <;> split <;> omega
      · simp only [h2, decide_false, Bool.and_false, Bool.false_eq_true, if_false]
        split
        · split <;> omega
        · exact h
    · simp only [h1, decide_false, Bool.false_and, Bool.false_eq_true, if_false]
      exact h
theorem blkS_le (l : List Tsk) (pi pk : Int) : ∀ (ss : List Sec) (a : Int), a ≤ blkS l pi pk ss a
  | [], _ => Int.le_refl _
  | s :: ss, a => by
    simp only [blkS]
    refine Int.le_trans ?_ (blkS_le l pi pk ss _)
    split
    · split <;> omega
    · omega
theorem blkT_mono {l l' : List Tsk} (hl : ∀ r, ceilT r l' 0 ≤ ceilT r l 0) (pi : Int) : ∀ (ts : List Tsk) (a b : Int), a ≤ b → blkT l' pi ts a ≤ blkT l pi ts b
  | [], _, _, h => h
  | t :: ts, a, b, h => blkT_mono hl pi ts _ _ (blkS_mono hl pi t.prio t.secs a b h)
theorem blkT_le (l : List Tsk) (pi : Int) : ∀ (ts : List Tsk) (a : Int), a ≤ blkT l pi ts a
  | [], _ => Int.le_refl _
  | t :: ts, a => Int.le_trans (blkS_le l pi t.prio t.secs a) (blkT_le l pi ts _)
theorem blkT_erase {l l' : List Tsk} (hl : ∀ r, ceilT r l' 0 ≤ ceilT r l 0) (pi : Int) : ∀ (ts : List Tsk) (i : Nat) (a : Int), blkT l' pi (ts.eraseIdx i) a ≤ blkT l pi ts a
  | [], _, _ => by simp [blkT]
  | t :: ts, 0, a => blkT_mono hl pi ts _ _ (blkS_le l pi t.prio t.secs a)
  | t :: ts, i + 1, a => by
    rw [List.eraseIdx_cons_succ]
    show blkT l' pi (ts.eraseIdx i) (blkS l' pi t.prio t.secs a) ≤ blkT l pi ts (blkS l pi t.prio t.secs a)
    exact Int.le_trans (blkT_mono (fun r => Int.le_refl _) pi _ _ _ (blkS_mono hl pi t.prio t.secs a a (Int.le_refl _))) (blkT_erase hl pi ts i _)
theorem blkS_bd (l : List Tsk) (pi pk B : Int) : ∀ (ss : List Sec) (a : Int), a ≤ B → (∀ s ∈ ss, s.len ≤ B + 1) → blkS l pi pk ss a ≤ B
  | [], _, h, _ => h
  | s :: ss, a, h, hs => by
    simp only [blkS]
    apply blkS_bd l pi pk B ss _ _ (fun x hx => hs x (by simp [hx]))
    have := hs s (by simp)
    split
    · split <;> omega
    · exact h
theorem blkT_bd (l : List Tsk) (pi B : Int) : ∀ (ts : List Tsk) (a : Int), a ≤ B → (∀ t ∈ ts, ∀ s ∈ t.secs, s.len ≤ B + 1) → blkT l pi ts a ≤ B
  | [], _, h, _ => h
  | t :: ts, a, h, hs => blkT_bd l pi B ts _ (blkS_bd l pi t.prio B t.secs a h (hs t (by simp))) (fun x hx => hs x (by simp [hx]))
theorem blkS_none (l : List Tsk) (pi pk : Int) (h : ¬ pk < pi) : ∀ (ss : List Sec) (a : Int), blkS l pi pk ss a = a
  | [], _ => rfl
  | s :: ss, a => by simp only [blkS, h, decide_false, Bool.false_and, Bool.false_eq_true, if_false]; exact blkS_none l pi pk h ss a
theorem blkT_none (l : List Tsk) (pi : Int) : ∀ (ts : List Tsk) (a : Int), (∀ t ∈ ts, pi ≤ t.prio) → blkT l pi ts a = a
  | [], _, _ => rfl
  | t :: ts, a, h => by
    simp only [blkT]
    rw [blkS_none l pi t.prio (by have := h t (by simp); omega)]
    exact blkT_none l pi ts a (fun x hx => h x (by simp [hx]))
theorem blocks_len (l : List Tsk) : (blocks l).length = l.length := by simp [blocks]
theorem blocks_at (l : List Tsk) {k : Nat} (h : k < l.length) : (blocks l).getD k 0 = blkT l (tskAt l k).prio l 0 := by
  simp [blocks, List.getD, tskAt, h]
theorem tsk_mem {l : List Tsk} {t : Tsk} (h : t ∈ l) : ∃ i, i < l.length ∧ tskAt l i = t := by
  obtain ⟨i, hi, e⟩ := List.getElem_of_mem h
  exact ⟨i, hi, by simp [tskAt, List.getD, hi, e]⟩
theorem sec_mem {l : List Sec} {s : Sec} (h : s ∈ l) : ∃ i, i < l.length ∧ secAt l i = s := by
  obtain ⟨i, hi, e⟩ := List.getElem_of_mem h
  exact ⟨i, hi, by simp [secAt, List.getD, hi, e]⟩
theorem blocks_bd {l : List Tsk} (h : rchk l = 0) {k : Nat} (hk : k < l.length) : 0 ≤ (blocks l).getD k 0 ∧ (blocks l).getD k 0 < 1000 := by
  rw [blocks_at l hk]
  refine ⟨blkT_le _ _ _ _, ?_⟩
  have := blkT_bd l (tskAt l k).prio 999 l 0 (by omega) (fun t ht s hs => by
    obtain ⟨i, hi, rfl⟩ := tsk_mem ht
    obtain ⟨j, hj, rfl⟩ := sec_mem hs
    obtain ⟨_, h2⟩ := rchk_ok h
    have := sec_len_bd (h2 i hi).1 (h2 i hi).2 j hj
    omega)
  omega
theorem blocks_low {l : List Tsk} {k : Nat} (hk : k < l.length) (h : ∀ j, j < l.length → (tskAt l k).prio ≤ (tskAt l j).prio) : (blocks l).getD k 0 = 0 := by
  rw [blocks_at l hk]
  exact blkT_none _ _ _ _ (fun t ht => by obtain ⟨i, hi, rfl⟩ := tsk_mem ht; exact h i hi)
theorem tskAt_erase (l : List Tsk) (i n : Nat) : tskAt (l.eraseIdx i) n = tskAt l (if n < i then n else n + 1) := by
  simp only [tskAt, List.getD, List.getElem?_eraseIdx]
  split <;> rfl
theorem blocks_less {l : List Tsk} {i n : Nat} (hi : i < l.length) (hn : n < (l.eraseIdx i).length) : (blocks (l.eraseIdx i)).getD n 0 ≤ (blocks l).getD (if n < i then n else n + 1) 0 := by
  have hl : (l.eraseIdx i).length = l.length - 1 := by rw [List.length_eraseIdx, if_pos hi]
  rw [blocks_at _ hn, blocks_at l (by split <;> omega), tskAt_erase]
  exact blkT_erase (fun r => ceilT_erase r l i 0) _ l i 0
-- the hyperperiod
theorem lcm_eq (x y : Int) (hx : 1 ≤ x) (hy : 1 ≤ y) : x / (Int.gcd x y : Int) * y = (Nat.lcm x.toNat y.toNat : Nat) := by
  obtain ⟨a, rfl⟩ := Int.eq_ofNat_of_zero_le (show 0 ≤ x by omega)
  obtain ⟨b, rfl⟩ := Int.eq_ofNat_of_zero_le (show 0 ≤ y by omega)
  rw [Int.gcd_natCast_natCast, Int.toNat_natCast, Int.toNat_natCast, Nat.lcm]
  have h : Nat.gcd a b ∣ a := Nat.gcd_dvd_left ..
  rw [Nat.mul_comm a b, Nat.mul_div_assoc b h, Nat.mul_comm]
  simp
theorem hypT_dvd : ∀ (ts : List Tsk) (a a' h : Int), (∀ t ∈ ts, 1 ≤ t.per) → 1 ≤ a → 1 ≤ a' → a' ∣ a → hypT ts a = (h, 0) → ∃ k, hypT ts a' = (k, 0) ∧ 1 ≤ k ∧ k ∣ h
  | [], a, a', h, _, h1, h2, h3, e => by
    simp only [hypT, Prod.mk.injEq] at e
    exact ⟨a', rfl, h2, by rw [← e.1]; exact h3⟩
  | t :: ts, a, a', h, hp, h1, h2, h3, e => by
    have hy := hp t (by simp)
    simp only [hypT] at *
    rw [lcm_eq a t.per h1 hy] at e
    rw [lcm_eq a' t.per h2 hy]
    have hd : Nat.lcm a'.toNat t.per.toNat ∣ Nat.lcm a.toNat t.per.toNat := by
      apply Nat.lcm_dvd
      · refine Nat.dvd_trans ?_ (Nat.dvd_lcm_left _ _)
        have := Int.natAbs_dvd_natAbs.mpr h3
        rwa [show a'.natAbs = a'.toNat by omega, show a.natAbs = a.toNat by omega] at this
      · exact Nat.dvd_lcm_right _ _
    have hp1 : 0 < Nat.lcm a.toNat t.per.toNat := Nat.lcm_pos (by omega) (by omega)
    have hp2 : 0 < Nat.lcm a'.toNat t.per.toNat := Nat.lcm_pos (by omega) (by omega)
    have hle := Nat.le_of_dvd hp1 hd
    split at e
    · cases e
    · rw [if_neg (by omega)]
      exact hypT_dvd ts _ _ h (fun x hx => hp x (by simp [hx])) (by omega) (by omega) (Int.natCast_dvd_natCast.mpr hd) e
theorem hypT_erase : ∀ (ts : List Tsk) (i : Nat) (a h : Int), (∀ t ∈ ts, 1 ≤ t.per) → 1 ≤ a → hypT ts a = (h, 0) → ∃ k, hypT (ts.eraseIdx i) a = (k, 0) ∧ 1 ≤ k ∧ k ∣ h
  | [], _, a, h, hp, h1, e => hypT_dvd [] a a h hp h1 h1 (Int.dvd_refl _) e
  | t :: ts, i, a, h, hp, h1, e => by
    have hy := hp t (by simp)
    simp only [hypT] at e
    rw [lcm_eq a t.per h1 hy] at e
    have hp1 : 0 < Nat.lcm a.toNat t.per.toNat := Nat.lcm_pos (by omega) (by omega)
    split at e
    · cases e
    · rename_i hn
      cases i with
      | zero =>
        refine hypT_dvd ts _ a h (fun x hx => hp x (by simp [hx])) (by omega) h1 ?_ e
        have := Nat.dvd_lcm_left a.toNat t.per.toNat
        have h2 := Int.natCast_dvd_natCast.mpr this
        rwa [show ((a.toNat : Nat) : Int) = a by omega] at h2
      | succ i =>
        rw [List.eraseIdx_cons_succ]
        simp only [hypT]
        rw [lcm_eq a t.per h1 hy, if_neg hn]
        exact hypT_erase ts i _ h (fun x hx => hp x (by simp [hx])) (by omega) e
theorem hyp_less {l : List Tsk} (h : rchk l = 0) (h2 : 2 ≤ l.length) (i : Nat) (ho : (hyp l).2 = 0) :
    ∃ k, hyp (l.eraseIdx i) = (k, 0) ∧ 1 ≤ k ∧ k ∣ (hyp l).1 := by
  have hper : ∀ t ∈ l, 1 ≤ t.per := fun t ht => by
    obtain ⟨j, hj, rfl⟩ := tsk_mem ht
    obtain ⟨_, h3⟩ := rchk_ok h
    obtain ⟨_, _, _, h4, _⟩ := tskBad_false.1 (h3 j hj).1
    exact h4
  unfold hyp at *
  rw [if_pos h] at *
  rw [if_pos (rchk_erase h h2 i)]
  exact hypT_erase l i 1 _ hper (by omega) (Prod.ext rfl ho)
end Go.Proofs.Ytcddgkoldffaaaa
