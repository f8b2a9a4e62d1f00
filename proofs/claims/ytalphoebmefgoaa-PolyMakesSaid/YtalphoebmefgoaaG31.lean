import Derived.Test.YtalphoebmefgoaaRows
import Derived.Test.YtalphoebmefgoaaG1
import Derived.Deep.CutRange
import Derived.Laws.StructEq
import Derived.ChangeKeysEq
import Derived.Lib.SliceRun
/- Sorting in place, in plain Lean: a row is a function of places. -/
namespace Go.Proofs.Ytalphoebmefgoaa
section
variable {α : Type}
def swp (d : Nat → α) (i j : Nat) : Nat → α := fun k => if k = i then d j else if k = j then d i else d k
/-- x = d i is moved down to j -/
def insD (d : Nat → α) (i j : Nat) : Nat → α := fun k => if k < j then d k else if k = j then d i else if k ≤ i then d (k - 1) else d k
/-- x = d i is moved up to j -/
def insU (d : Nat → α) (i j : Nat) : Nat → α := fun k => if k < i then d k else if k < j then d (k + 1) else if k = j then d i else d k
/-- two rows of n, at a and at b, change places -/
def swr (d : Nat → α) (a b n : Nat) : Nat → α := fun k => if a ≤ k ∧ k < a + n then d (k - a + b) else if b ≤ k ∧ k < b + n then d (k - b + a) else d k
/-- a row from a to m behind that from m to b -/
def rotF (d : Nat → α) (a m b : Nat) : Nat → α := fun k => if a ≤ k ∧ k < a + (b - m) then d (k + (m - a)) else if a + (b - m) ≤ k ∧ k < b then d (k - (b - m)) else d k
theorem insD_self (d : Nat → α) (i : Nat) : insD d i i = d := by
  funext k; unfold insD
  repeat' split
  all_goals first | rfl | (congr 1; omega) | (exfalso; omega)
theorem insD_step (d : Nat → α) {i j : Nat} (h : j + 1 ≤ i) : swp (insD d i (j + 1)) (j + 1) j = insD d i j := by
  funext k; unfold swp insD
  repeat' split
  all_goals first | rfl | (congr 1; omega) | (exfalso; omega)
theorem insU_self (d : Nat → α) (i : Nat) : insU d i i = d := by
  funext k; unfold insU
  repeat' split
  all_goals first | rfl | (congr 1; omega) | (exfalso; omega)
theorem insU_step (d : Nat → α) {i j : Nat} (h : i ≤ j) : swp (insU d i j) j (j + 1) = insU d i (j + 1) := by
  funext k; unfold swp insU
  repeat' split
  all_goals first | rfl | (congr 1; omega) | (exfalso; omega)
theorem swr_zero (d : Nat → α) (a b : Nat) : swr d a b 0 = d := by
  funext k; unfold swr
  repeat' split
  all_goals first | rfl | (exfalso; omega)
theorem swr_step (d : Nat → α) {a b n i : Nat} (h : a + n ≤ b) (hi : i < n) : swp (swr d a b i) (a + i) (b + i) = swr d a b (i + 1) := by
  funext k; unfold swp swr
  repeat' split
  all_goals first | rfl | (congr 1; omega) | (exfalso; omega)
theorem rot_more (d : Nat → α) {m i j : Nat} (hi : i ≤ m) (h : j < i) : rotF (swr d (m - i) m j) (m - (i - j)) m (m + j) = rotF d (m - i) m (m + j) := by
  funext k; unfold rotF swr
  repeat' split
  all_goals first | rfl | (congr 1; omega) | (exfalso; omega)
theorem rot_less (d : Nat → α) {m i j : Nat} (hi : i ≤ m) (h : i < j) : rotF (swr d (m - i) (m + j - i) i) (m - i) m (m + (j - i)) = rotF d (m - i) m (m + j) := by
  funext k; unfold rotF swr
  repeat' split
  all_goals first | rfl | (congr 1; omega) | (exfalso; omega)
theorem rot_same (d : Nat → α) {m i : Nat} (hi : i ≤ m) : swr d (m - i) m i = rotF d (m - i) m (m + i) := by
  funext k; unfold rotF swr
  repeat' split
  all_goals first | rfl | (congr 1; omega) | (exfalso; omega)
/-- the same elements within a row, and the same places outside it -/
structure Sam (d e : Nat → α) (a b : Nat) : Prop where
  out : ∀ k, (k < a ∨ b ≤ k) → e k = d k
  fw : ∀ i, a ≤ i → i < b → ∃ j, a ≤ j ∧ j < b ∧ e i = d j
  bw : ∀ i, a ≤ i → i < b → ∃ j, a ≤ j ∧ j < b ∧ d i = e j
theorem Sam.refl (d : Nat → α) (a b : Nat) : Sam d d a b := ⟨fun _ _ => rfl, fun i h1 h2 => ⟨i, h1, h2, rfl⟩, fun i h1 h2 => ⟨i, h1, h2, rfl⟩⟩
theorem Sam.trans {d e f : Nat → α} {a b : Nat} (h : Sam d e a b) (g : Sam e f a b) : Sam d f a b :=
  ⟨fun k hk => (g.out k hk).trans (h.out k hk), fun i h1 h2 => by
    obtain ⟨j, h3, h4, h5⟩ := g.fw i h1 h2
    obtain ⟨l, h6, h7, h8⟩ := h.fw j h3 h4
    exact ⟨l, h6, h7, h5.trans h8⟩, fun i h1 h2 => by
    obtain ⟨j, h3, h4, h5⟩ := h.bw i h1 h2
    obtain ⟨l, h6, h7, h8⟩ := g.bw j h3 h4
    exact ⟨l, h6, h7, h5.trans h8⟩⟩
theorem Sam.wide {d e : Nat → α} {a b a' b' : Nat} (h : Sam d e a b) (ha : a' ≤ a) (hb : b ≤ b') : Sam d e a' b' :=
  ⟨fun k hk => h.out k (by omega), fun i h1 h2 => by
    by_cases c : a ≤ i ∧ i < b
    · obtain ⟨j, h3, h4, h5⟩ := h.fw i c.1 c.2
      exact ⟨j, by omega, by omega, h5⟩
    · exact ⟨i, h1, h2, h.out i (by omega)⟩, fun i h1 h2 => by
    by_cases c : a ≤ i ∧ i < b
    · obtain ⟨j, h3, h4, h5⟩ := h.bw i c.1 c.2
      exact ⟨j, by omega, by omega, h5⟩
    · exact ⟨i, h1, h2, (h.out i (by omega)).symm⟩⟩
theorem sam_map {d : Nat → α} {a b : Nat} (f g : Nat → Nat) (hf : ∀ k, a ≤ k → k < b → a ≤ f k ∧ f k < b ∧ a ≤ g k ∧ g k < b ∧ f (g k) = k) (ho : ∀ k, (k < a ∨ b ≤ k) → f k = k) : Sam d (fun k => d (f k)) a b :=
  ⟨fun k hk => by simp only [ho k hk], fun i h1 h2 => ⟨f i, (hf i h1 h2).1, (hf i h1 h2).2.1, rfl⟩, fun i h1 h2 => ⟨g i, (hf i h1 h2).2.2.1, (hf i h1 h2).2.2.2.1, by simp only [(hf i h1 h2).2.2.2.2]⟩⟩
theorem sam_insD (d : Nat → α) {i j : Nat} (h : j ≤ i) : Sam d (insD d i j) j (i + 1) := by
  have e : insD d i j = fun k => d (if k < j then k else if k = j then i else if k ≤ i then k - 1 else k) := by
    funext k; unfold insD
    repeat' split
    all_goals rfl
  rw [e]
  refine sam_map _ (fun k => if k < j then k else if k = i then j else if k < i then k + 1 else k) (fun k h1 h2 => ?_) (fun k hk => ?_)
  · refine ⟨?_, ?_, ?_, ?_, ?_⟩ <;> (repeat' split) <;> omega
  · (repeat' split) <;> omega
theorem sam_insU (d : Nat → α) {i j : Nat} (h : i ≤ j) : Sam d (insU d i j) i (j + 1) := by
  have e : insU d i j = fun k => d (if k < i then k else if k < j then k + 1 else if k = j then i else k) := by
    funext k; unfold insU
    repeat' split
    all_goals rfl
  rw [e]
  refine sam_map _ (fun k => if k < i then k else if k = i then j else if k ≤ j then k - 1 else k) (fun k h1 h2 => ?_) (fun k hk => ?_)
  · refine ⟨?_, ?_, ?_, ?_, ?_⟩ <;> (repeat' split) <;> omega
  · (repeat' split) <;> omega
theorem sam_rot (d : Nat → α) {a m b : Nat} (h1 : a ≤ m) (h2 : m ≤ b) : Sam d (rotF d a m b) a b := by
  have e : rotF d a m b = fun k => d (if a ≤ k ∧ k < a + (b - m) then k + (m - a) else if a + (b - m) ≤ k ∧ k < b then k - (b - m) else k) := by
    funext k; unfold rotF
    repeat' split
    all_goals rfl
  rw [e]
  refine sam_map _ (fun k => if a ≤ k ∧ k < m then k + (b - m) else if m ≤ k ∧ k < b then k - (m - a) else k) (fun k h1 h2 => ?_) (fun k hk => ?_)
  · refine ⟨?_, ?_, ?_, ?_, ?_⟩ <;> (repeat' split) <;> omega
  · (repeat' split) <;> omega
/-- sorted from a up to b -/
def Srt (le : α → α → Prop) (d : Nat → α) (a b : Nat) : Prop := ∀ i j, a ≤ i → i ≤ j → j < b → le (d i) (d j)
variable {le : α → α → Prop}
theorem Srt.part {d : Nat → α} {a b a' b' : Nat} (h : Srt le d a b) (h1 : a ≤ a') (h2 : b' ≤ b) : Srt le d a' b' := fun i j h3 h4 h5 => h i j (by omega) h4 (by omega)
theorem Srt.keep {d e : Nat → α} {a b : Nat} (h : Srt le d a b) (he : ∀ k, a ≤ k → k < b → e k = d k) : Srt le e a b := fun i j h1 h2 h3 => by
  rw [he i h1 (by omega), he j (by omega) h3]; exact h i j h1 h2 h3
theorem srt_one (hr : ∀ x, le x x) (d : Nat → α) (a b : Nat) (h : b ≤ a + 1) : Srt le d a b := fun i j h1 h2 h3 => by
  obtain rfl : i = j := by omega
  exact hr _
/-- an element goes down to its place -/
theorem srt_insD (ht : ∀ x y z, le x y → le y z → le x z) (hr : ∀ x, le x x) {d : Nat → α} {a i j : Nat} (h : Srt le d a i) (h1 : a ≤ j) (h2 : j ≤ i) (hl : a < j → le (d (j - 1)) (d i)) (hu : j < i → le (d i) (d j)) : Srt le (insD d i j) a (i + 1) := by
  intro p q h3 h4 h5
  unfold insD
  by_cases hp : p < j
  · rw [if_pos hp]
    by_cases hq : q < j
    · rw [if_pos hq]; exact h p q h3 h4 (by omega)
    · rw [if_neg hq]
      by_cases hqj : q = j
      · rw [if_pos hqj]; exact ht _ _ _ (h p (j - 1) h3 (by omega) (by omega)) (hl (by omega))
      · rw [if_neg hqj, if_pos (by omega)]; exact h p (q - 1) h3 (by omega) (by omega)
  · rw [if_neg hp, if_neg (show ¬ q < j by omega)]
    by_cases hpj : p = j
    · rw [if_pos hpj]
      by_cases hqj : q = j
      · rw [if_pos hqj]; exact hr _
      · rw [if_neg hqj, if_pos (by omega)]; exact ht _ _ _ (hu (by omega)) (h j (q - 1) h1 (by omega) (by omega))
    · rw [if_neg hpj, if_pos (by omega), if_neg (show ¬ q = j by omega), if_pos (by omega)]; exact h (p - 1) (q - 1) (by omega) (by omega) (by omega)
/-- an element goes up to its place -/
theorem srt_insU (ht : ∀ x y z, le x y → le y z → le x z) (hr : ∀ x, le x x) {d : Nat → α} {a j b : Nat} (h : Srt le d (a + 1) b) (h1 : a ≤ j) (h2 : j < b) (hl : a < j → le (d j) (d a)) (hu : j + 1 < b → le (d a) (d (j + 1))) : Srt le (insU d a j) a b := by
  intro p q h3 h4 h5
  unfold insU
  rw [if_neg (show ¬ p < a by omega), if_neg (show ¬ q < a by omega)]
  by_cases hp : p < j
  · rw [if_pos hp]
    by_cases hq : q < j
    · rw [if_pos hq]; exact h _ _ (by omega) (by omega) (by omega)
    · rw [if_neg hq]
      by_cases hqj : q = j
      · rw [if_pos hqj]; exact ht _ _ _ (h (p + 1) j (by omega) (by omega) (by omega)) (hl (by omega))
      · rw [if_neg hqj]; exact h _ _ (by omega) (by omega) (by omega)
  · rw [if_neg hp, if_neg (show ¬ q < j by omega)]
    by_cases hpj : p = j
    · rw [if_pos hpj]
      by_cases hqj : q = j
      · rw [if_pos hqj]; exact hr _
      · rw [if_neg hqj]; exact ht _ _ _ (hu (by omega)) (h (j + 1) q (by omega) (by omega) (by omega))
    · rw [if_neg hpj, if_neg (show ¬ q = j by omega)]; exact h _ _ (by omega) (by omega) (by omega)
/-- two sorted halves with the first one's elements before the second one's -/
theorem srt_join {d : Nat → α} {a m b : Nat} (h1 : Srt le d a m) (h2 : Srt le d m b) (h : ∀ i j, a ≤ i → i < m → m ≤ j → j < b → le (d i) (d j)) : Srt le d a b := fun i j h3 h4 h5 => by
  by_cases hi : i < m
  · by_cases hj : j < m
    · exact h1 i j h3 h4 hj
    · exact h i j h3 hi (by omega) h5
  · exact h2 i j (by omega) h4 h5
theorem all_sam {d e : Nat → α} {a m b : Nat} (hl : Sam d e a m) (h : ∀ i j, a ≤ i → i < m → m ≤ j → j < b → le (d i) (d j)) : ∀ i j, a ≤ i → i < m → m ≤ j → j < b → le (e i) (e j) := fun i j h1 h2 h3 h4 => by
  obtain ⟨k, h5, h6, h7⟩ := hl.fw i h1 h2
  rw [h7, hl.out j (.inr h3)]; exact h k j h5 h6 h3 h4
theorem all_sam2 {d e : Nat → α} {a m b : Nat} (hl : Sam d e m b) (h : ∀ i j, a ≤ i → i < m → m ≤ j → j < b → le (d i) (d j)) : ∀ i j, a ≤ i → i < m → m ≤ j → j < b → le (e i) (e j) := fun i j h1 h2 h3 h4 => by
  obtain ⟨k, h5, h6, h7⟩ := hl.fw j h3 h4
  rw [h7, hl.out i (.inl h2)]; exact h i k h1 h2 h5 h6
/-- what the search of the merge's middle finds -/
structure Cutt (le : α → α → Prop) (d : Nat → α) (a m b mid s : Nat) : Prop where
  lo : a ≤ s
  sm : s ≤ m
  smid : s ≤ mid
  eb : mid + m - s ≤ b
  l : a < s → mid + m - s < b → le (d (s - 1)) (d (mid + m - s))
  u : s < m → m < mid + m - s → le (d (mid + m - s - 1)) (d s)
theorem cut_rot (ht : ∀ x y z, le x y → le y z → le x z) {d : Nat → α} {a m b mid s : Nat} (h1 : Srt le d a m) (h2 : Srt le d m b) (c : Cutt le d a m b mid s) :
    Srt le (rotF d s m (mid + m - s)) a s ∧ Srt le (rotF d s m (mid + m - s)) s mid ∧ Srt le (rotF d s m (mid + m - s)) mid (mid + m - s) ∧ Srt le (rotF d s m (mid + m - s)) (mid + m - s) b ∧
    ∀ i j, a ≤ i → i < mid → mid ≤ j → j < b → le (rotF d s m (mid + m - s) i) (rotF d s m (mid + m - s) j) := by
  have ca := c.lo; have csm := c.sm; have csmid := c.smid; have ceb := c.eb
  have r1 : ∀ k, k < s → rotF d s m (mid + m - s) k = d k := fun k hk => by unfold rotF; rw [if_neg (by omega), if_neg (by omega)]
  have r2 : ∀ k, s ≤ k → k < mid → rotF d s m (mid + m - s) k = d (k + (m - s)) := fun k h3 h4 => by unfold rotF; rw [if_pos (by omega)]
  have r3 : ∀ k, mid ≤ k → k < mid + m - s → rotF d s m (mid + m - s) k = d (k - (mid - s)) := fun k h3 h4 => by
    unfold rotF; rw [if_neg (by omega), if_pos (by omega)]; congr 1; omega
  have r4 : ∀ k, mid + m - s ≤ k → rotF d s m (mid + m - s) k = d k := fun k h3 => by unfold rotF; rw [if_neg (by omega), if_neg (by omega)]
  refine ⟨(h1.part (Nat.le_refl _) csm).keep (fun k _ h => r1 k h), fun i j h3 h4 h5 => ?_, fun i j h3 h4 h5 => ?_, (h2.part (by omega) (Nat.le_refl _)).keep (fun k h _ => r4 k h), fun i j h3 h4 h5 h6 => ?_⟩
  · rw [r2 i h3 (by omega), r2 j (by omega) h5]; exact h2 _ _ (by omega) (by omega) (by omega)
  · rw [r3 i h3 (by omega), r3 j (by omega) h5]; exact h1 _ _ (by omega) (by omega) (by omega)
  · by_cases hi : i < s
    · rw [r1 i hi]
      by_cases hj : j < mid + m - s
      · rw [r3 j h5 hj]; exact h1 _ _ h3 (by omega) (by omega)
      · rw [r4 j (by omega)]
        exact ht _ _ _ (h1 i (s - 1) h3 (by omega) (by omega)) (ht _ _ _ (c.l (by omega) (by omega)) (h2 (mid + m - s) j (by omega) (by omega) h6))
    · rw [r2 i (by omega) h4]
      by_cases hj : j < mid + m - s
      · rw [r3 j h5 hj]
        exact ht _ _ _ (h2 _ (mid + m - s - 1) (by omega) (by omega) (by omega)) (ht _ _ _ (c.u (by omega) (by omega)) (h1 s _ (by omega) (by omega) (by omega)))
      · rw [r4 j (by omega)]; exact h2 _ _ (by omega) (by omega) h6
end
end Go.Proofs.Ytalphoebmefgoaa
/- any seat: a drawn region with several stores: reads that may come behind a store are taken first, each for the worlds that it may meet. -/
namespace Go.Proofs.Ytalphoebmefgoaa
open Go Region Go.RowKit
section
variable {P : Program} {md : Region.Mode} {ops : Array Oper} {T : Nat → World → Prop} {S : World → Prop} {n : Nat} {init : Array Bool} {Q : Exit → Act → World → Prop}
/-- whatever order is drawn from here on; T i holds behind operation i -/
def wpAnyT (P : Program) (md : Region.Mode) (ops : Array Oper) (Q : Exit → Act → World → Prop) (T : Nat → World → Prop) : Nat → Array Bool → Act → World → Prop
  | 0, done, a, w => ready md ops done = [] ∧ Q .normal a w
  | f + 1, done, a, w =>
    (ready md ops done = [] → Q .normal a w) ∧
    ∀ i ∈ ready md ops done, wpOp P ops Q i (fun a' w' => T i w' ∧ wpAnyT P md ops Q T f (done.setIfInBounds i true) a' w') a w
theorem wpAny_of_anyT : ∀ (f : Nat) (done : Array Bool) (a : Act) (w : World), wpAnyT P md ops Q T f done a w → wpAny P md ops Q f done a w
  | 0, _, _, _, h => h
  | f + 1, _, _, _, h => ⟨h.1, fun i hi => wpOp_mono (fun a' w' h' => wpAny_of_anyT f _ a' w' h'.2) (h.2 i hi)⟩
theorem anyT_first {i : Nat} {oi : Oper} {v : Value} (hT : ∀ j w, j < n → init.getD j true = false → T j w → S w) (hTi : ∀ w, S w → T i w) (hi : ops[i]? = some oi) (hsel : ∀ (j : Nat) (o : Oper) cs b, ops[j]? = some o → o.op ≠ .select cs b)
    (hQ : ∀ c a d v w, Q (.panic c) (a.put d v) w → Q (.panic c) a w) (hs : sinkI md ops init n = true) (hc : chainB md ops n = true) (hn : n < ops.size) (hin : i < n) (f : Nat) :
    ∀ (done : Array Bool) (a : Act) (w : World), Grown md ops n init done → Apart md ops i oi done → i ∈ ready md ops done → YieldsIf P ops S oi v a → S w →
      wpAnyT P md ops Q T f (done.setIfInBounds i true) (a.put oi.dst v) w → wpAnyT P md ops Q T (f + 1) done a w := by
  induction f with
  | zero =>
    intro done a w _ _ hr hy hS H
    refine ⟨fun h => (by rw [h] at hr; cases hr), fun j hj => ?_⟩
    by_cases hji : j = i
    · subst hji; exact hy.wpOp hi hS ⟨hTi w hS, H⟩
    · have := ready_mono hj hji
      rw [H.1] at this
      cases this
  | succ f ih =>
    intro done a w inv hap hr hy hS H
    have early := late_all hc inv.inv (tail_late hs hc hn inv _ i (Nat.le_refl _) hin (mem_ready.1 hr).1)
    refine ⟨fun h => (by rw [h] at hr; cases hr), fun j hj => ?_⟩
    by_cases hji : j = i
    · subst hji; exact hy.wpOp hi hS ⟨hTi w hS, H⟩
    · have hjn : j < n := Nat.lt_of_not_le fun h => early j h hj
      have h1 := H.2 j (ready_mono hj hji)
      obtain ⟨hju, oj, hoj, hall⟩ := mem_ready.1 hj
      have hno : ∀ e ∈ oj.after, binds md e = true → e.on ≠ i := fun e he hb heq => by
        have h1 := hall e he hb
        rw [heq, getD_both (mem_ready.1 hr).1] at h1
        cases h1
      have h2 := wpOp_putIf hoj (hap j oj hoj hji hju hno) (fun cs b => hsel i oi cs b hi) (fun cs b => hsel j oj cs b hoj) (fun c a w h => hQ c a _ _ w h) hy h1
      refine wpOp_mono (fun a' w' h3 => ⟨h3.2.1, ih (done.setIfInBounds j true) a' w' (inv.set hj hjn) (fun k ok hk hki hku => hap k ok hk hki ?_) (ready_mono hr (Ne.symm hji)) h3.1 (hT j w' hjn (inv.up j hju) h3.2.1) ?_⟩) h2
      · rcases Decidable.em (j = k) with rfl | hjk
        · exact hju
        · rwa [getD_set_ne true hjk] at hku
      · rw [Array.setIfInBounds_comm _ _ hji]
        exact h3.2.2
theorem anyT_lex (hT : ∀ j w, j < n → init.getD j true = false → T j w → S w) (hQ : ∀ c a d v w, Q (.panic c) (a.put d v) w → Q (.panic c) a w) (hsel : noSelect ops = true) (hs : sinkI md ops init n = true) (hc : chainB md ops n = true) (hn : n < ops.size) {g : Nat} {w : World} (hS : S w) :
    ∀ (r : List Nat) (done : Array Bool) (a : Act), (∀ i ∈ r, ∀ w, S w → T i w) → Grown md ops n init done → lexP md ops n r done = true →
      wpQuiet P ops S (fun a' => wpAnyT P md ops Q T g (r.foldl (fun d i => d.setIfInBounds i true) done) a' w) (opsOf ops r) a → wpAnyT P md ops Q T (g + r.length) done a w
  | [], done, a, _, _, _, h => h
  | k :: r, done, a, hTi, inv, hB, h => by
    simp only [lexP, Bool.and_eq_true, decide_eq_true_eq] at hB
    obtain ⟨⟨⟨⟨hkn, hr⟩, hf⟩, hp⟩, hB⟩ := hB
    have hr' : k ∈ ready md ops done := by simpa using hr
    obtain ⟨_, o, h0, _⟩ := mem_ready.1 hr'
    rw [h0] at hp
    have e : opsOf ops (k :: r) = o :: opsOf ops r := by simp [opsOf, h0]
    rw [e] at h
    obtain ⟨v, hy, hK⟩ := yieldsIn_of_qOp (C := S) (K := wpQuiet P ops S (fun a' => wpAnyT P md ops Q T g ((k :: r).foldl (fun d i => d.setIfInBounds i true) done) a' w) (opsOf ops r)) h0 (by unfold qOp; simp only [h0]; exact h)
    refine anyT_first hT (hTi k (by simp)) h0 (noSelect_spec hsel) hQ hs hc hn hkn (g + r.length) done a w inv (free_spec h0 hf) hr' (yieldsIf_of hp hy) hS ?_
    exact anyT_lex hT hQ hsel hs hc hn hS r _ _ (fun i hi => hTi i (by simp [hi])) (inv.set hr' hkn) hB hK
/-- the operations r are taken first: they read, and what they read does not change till operation n -/
theorem anyT_takes {a : Act} {w : World} {done : Array Bool} {m g : Nat} (S : World → Prop) (n : Nat) (r : List Nat) (hT : ∀ j w, j < n → done.getD j true = false → T j w → S w) (hTi : ∀ i ∈ r, ∀ w, S w → T i w) (hQ : ∀ c a d v w, Q (.panic c) (a.put d v) w → Q (.panic c) a w) (hS : S w)
    (hI : decide (n < ops.size) && noSelect ops && sinkI md ops done n && chainB md ops n && lexP md ops n r done && decide (done.size = ops.size)
      && ((List.range ops.size).all fun j => !(done.getD j false) || (match ops[j]? with | some o => o.after.all (fun e => !(binds md e) || done.getD e.on false) | none => true))
      && ((List.range ops.size).all fun t => decide (t < n) || !(done.getD t true)) = true)
    (hm : m = g + r.length)
    (h : wpQuiet P ops S (fun a' => wpAnyT P md ops Q T g (r.foldl (fun d i => d.setIfInBounds i true) done) a' w) (opsOf ops r) a) : wpAnyT P md ops Q T m done a w := by
  simp only [Bool.and_eq_true, decide_eq_true_eq] at hI
  obtain ⟨⟨⟨⟨⟨⟨⟨hn, hsel⟩, hs⟩, hc⟩, hlex⟩, hsz⟩, hcl⟩, htl⟩ := hI
  have inv : Grown md ops n done done := by
    refine ⟨⟨hsz, fun j oj hoj hl e he hb => ?_, fun t ht ht2 => ?_⟩, fun _ h => h⟩
    · have hj : j < ops.size := (Array.getElem?_eq_some_iff.1 hoj).1
      have := List.all_eq_true.1 hcl j (List.mem_range.2 hj)
      rw [hl, hoj] at this
      simp only [Bool.not_true, Bool.false_or] at this
      have := Array.all_eq_true'.1 this e he
      rw [hb] at this
      simpa using this
    · have := List.all_eq_true.1 htl t (List.mem_range.2 ht2)
      simp only [Bool.or_eq_true, decide_eq_true_eq] at this
      simpa using this.resolve_left (by omega)
  subst hm
  exact anyT_lex hT hQ hsel hs hc hn hS r done a hTi inv hlex h
/-- one operation comes next, and no other can -/
theorem anyT_one {a : Act} {w : World} {done : Array Bool} {f : Nat} (i : Nat) (o : Oper) (hr : ready md ops done = [i]) (ho : ops[i]? = some o)
    (h : ∀ K : Act → World → Prop, (∀ a' w', T i w' → wpAnyT P md ops Q T f (done.setIfInBounds i true) a' w' → K a' w') → if Region.wanted o (yielded ops a.tmps) = true then o.wp P a w K Q else K (a.put o.dst undef) w) :
    wpAnyT P md ops Q T (f + 1) done a w := by
  refine ⟨fun h0 => (by rw [hr] at h0; cases h0), fun j hj => ?_⟩
  rw [hr] at hj
  obtain rfl : j = i := by simpa using hj
  unfold wpOp
  simp only [ho]
  have := h (fun a' w' => T j w' ∧ wpAnyT P md ops Q T f (done.setIfInBounds j true) a' w') (fun a' w' h1 h2 => ⟨h1, h2⟩)
  split
  · next hw => rw [if_pos hw] at this; exact .inl this
  · next hw => rw [if_neg hw] at this; exact this
theorem anyT_done {a : Act} {w : World} {done : Array Bool} (hr : ready md ops done = []) (h : Q .normal a w) : ∀ f, wpAnyT P md ops Q T f done a w
  | 0 => ⟨hr, h⟩
  | _ + 1 => ⟨fun _ => h, by rw [hr]; simp⟩
end
/-- a world that has grown out of wc: of the blocks of wc only those of rs may have changed -/
structure GrsOk (wc : World) (rs : List Nat) (w : World) : Prop where
  os : w.os = wc.os
  tape : w.tape = wc.tape
  output : w.output = wc.output
  size : wc.heap.size ≤ w.heap.size
  block : ∀ k, k < wc.heap.size → k ∉ rs → w.heap[k]? = wc.heap[k]?
def Grs (wc : World) (rs : List Nat) : Type := { w : World // GrsOk wc rs w }
section
variable {wc : World} {rs : List Nat}
def Grs.w (y : Grs wc rs) : World := y.1
theorem grs_refl (w : World) (rs : List Nat) : GrsOk w rs w := ⟨rfl, rfl, rfl, Nat.le_refl _, fun _ _ _ => rfl⟩
theorem grs_drew (w : World) (rs : List Nat) : GrsOk w rs w.drew := ⟨rfl, rfl, rfl, Nat.le_refl _, fun _ _ _ => rfl⟩
instance grsSome : Nonempty (Grs wc rs) := ⟨⟨wc, grs_refl wc rs⟩⟩
theorem grs_set {w : World} (h : GrsOk wc rs w) (g : Nat) (hg : g ∈ rs) (j : Nat) (v : Value) : GrsOk wc rs (w.setCell ⟨g, j, none⟩ v) :=
  ⟨h.os, h.tape, h.output, by simp [World.setCell]; exact h.size, fun k hk hr => (Below.heap_setCell w ⟨g, j, none⟩ v k (fun e => hr (by rw [e]; exact hg))).trans (h.block k hk hr)⟩
theorem grs_weak {w : World} (h : GrsOk wc [] w) (rs : List Nat) : GrsOk wc rs w := ⟨h.os, h.tape, h.output, h.size, fun k hk _ => h.block k hk (by simp)⟩
theorem grs_cell {w : World} (h : GrsOk wc rs w) (b o : Nat) (hb : b < wc.heap.size) (hr : b ∉ rs) : w.cell? ⟨b, o, none⟩ = wc.cell? ⟨b, o, none⟩ := by
  unfold World.cell?
  simp only
  rw [h.block b hb hr]
theorem grs_froz {w : World} (h : GrsOk wc rs w) (b o : Nat) (hb : b < wc.heap.size) (hr : b ∉ rs) : w.frozen? ⟨b, o, none⟩ = wc.frozen? ⟨b, o, none⟩ := by
  unfold World.frozen?
  simp only
  rw [h.block b hb hr]
@[go_sem] theorem grs_cells (y : Grs wc rs) (b o : Nat) (h : b < wc.heap.size) (h2 : b ∉ rs) : y.w.cell? ⟨b, o, none⟩ = wc.cell? ⟨b, o, none⟩ := grs_cell y.2 b o h h2
@[go_sem] theorem grs_frozen (y : Grs wc rs) (b o : Nat) (h : b < wc.heap.size) (h2 : b ∉ rs) : y.w.frozen? ⟨b, o, none⟩ = wc.frozen? ⟨b, o, none⟩ := grs_froz y.2 b o h h2
@[go_sem] theorem grs_lt (y : Grs wc rs) {b : Nat} (h : b < wc.heap.size) : b < y.w.heap.size := Nat.lt_of_lt_of_le h y.2.size
end
/-- behind the operations of l1 nothing has changed, behind those before n2 only the blocks rs -/
def TT (wc : World) (rs : List Nat) (l1 : List Nat) (n2 : Nat) (i : Nat) (w : World) : Prop := (l1.contains i = true → ∃ y : Grs wc [], w = y.w) ∧ (i < n2 → ∃ y : Grs wc rs, w = y.w)
theorem tt_1 {wc : World} {rs l1 : List Nat} {n n2 : Nat} {done : Array Bool} (h : ((List.range n).all fun j => done.getD j true || l1.contains j) = true) : ∀ j w, j < n → done.getD j true = false → TT wc rs l1 n2 j w → ∃ y : Grs wc [], w = y.w :=
  fun j _ hj hd t => t.1 (by have := List.all_eq_true.1 h j (List.mem_range.2 hj); rw [hd] at this; simpa using this)
theorem tt_2 {wc : World} {rs l1 : List Nat} {n2 : Nat} {done : Array Bool} : ∀ j w, j < n2 → done.getD j true = false → TT wc rs l1 n2 j w → ∃ y : Grs wc rs, w = y.w := fun _ _ h _ t => t.2 h
theorem tt_i1 {wc : World} {rs l1 r : List Nat} {n2 : Nat} : ∀ i ∈ r, ∀ w, (∃ y : Grs wc [], w = y.w) → TT wc rs l1 n2 i w := fun _ _ _ h => ⟨fun _ => h, fun _ => by obtain ⟨y, rfl⟩ := h; exact ⟨⟨y.w, grs_weak y.2 rs⟩, rfl⟩⟩
theorem tt_i2 {wc : World} {rs l1 r : List Nat} {n2 : Nat} (h : (r.all fun i => !(l1.contains i)) = true) : ∀ i ∈ r, ∀ w, (∃ y : Grs wc rs, w = y.w) → TT wc rs l1 n2 i w :=
  fun i hi _ hw => ⟨fun hc => by have := List.all_eq_true.1 h i hi; rw [hc] at this; simp at this, fun _ => hw⟩
section
variable {P : Program} {Q : Exit → Act → World → Prop}
/-- the beginning -/
theorem wp_region_T {id : Nat} {a : Act} {w : World} {l : List Oper} (T : Nat → World → Prop) (hm : P.follows .mixedOrders = true)
    (h : wpAnyT P .any l.toArray (NoPanic Q) T l.toArray.size (Array.replicate l.toArray.size false) a w.drew) : (Code.region id l.toArray true).wp P Q a w :=
  wp_region_noPanic (wp_region_any hm (wpAny_of_anyT (T := T) _ _ _ _ h))
end
end Go.Proofs.Ytalphoebmefgoaa
/- any seat: a drawn region where blocks of a list may change (as Xkmem has it for the executive). -/
namespace Go.Proofs.Ytalphoebmefgoaa
open Go Region Go.RowKit
theorem grs_alloc {wc w : World} {rs : List Nat} (h : GrsOk wc rs w) (o : Obj) : GrsOk wc rs (w.alloc o) :=
  ⟨h.os, h.tape, h.output, Nat.le_trans h.size (by simp [go_sem]), fun k hk hr => (Below.heap_alloc w o k (Nat.lt_of_lt_of_le hk h.size)).trans (h.block k hk hr)⟩
theorem grs_grown {wc w w' : World} {rs : List Nat} {row : Option Nat} (h : GrsOk wc rs w) (g : w.grownBy w' row) (hr : ∀ k, row = some k → k < wc.heap.size → k ∈ rs) : GrsOk wc rs w' :=
  ⟨g.os.trans h.os, g.tape.trans h.tape, g.output.trans h.output, Nat.le_trans h.size g.size, fun k hk hn => (g.block k (Nat.lt_of_lt_of_le hk h.size) (fun e => hn (hr k e.symm hk))).trans (h.block k hk hn)⟩
section
variable {P : Program} {Q : Exit → Act → World → Prop}
theorem wp_region_ES {id : Nat} {a : Act} {w : World} {l : List Oper} (n : Nat) (rs : List Nat) (hm : P.follows .mixedOrders = true)
    (h : wpAnyE P .any l.toArray (NoPanic Q) (fun w' => ∃ y : Grs w rs, w' = y.w) n l.toArray.size (Array.replicate l.toArray.size false) a w.drew) : (Code.region id l.toArray true).wp P Q a w :=
  wp_region_noPanic (wp_region_any hm (wpAny_of_anyE (n := n) (S := fun w' => ∃ y : Grs w rs, w' = y.w) _ _ _ _ h))
end
end Go.Proofs.Ytalphoebmefgoaa
/- poly: a row of lines in memory. -/
namespace Go.Proofs.Ytalphoebmefgoaa
open Go.RowKit
/-- a line of the program, with six coefficients -/
structure Ln where
  a0 : Int
  a1 : Int
  a2 : Int
  a3 : Int
  a4 : Int
  a5 : Int
  b : Int
  s : Bool
deriving DecidableEq
def Ln.c (x : Ln) : Nat → Value
  | 0 => .int .i64 x.a0
  | 1 => .int .i64 x.a1
  | 2 => .int .i64 x.a2
  | 3 => .int .i64 x.a3
  | 4 => .int .i64 x.a4
  | 5 => .int .i64 x.a5
  | 6 => .int .i64 x.b
  | _ => .bool x.s
def Ln.V (x : Ln) : Value := .agg #[.int .i64 x.a0, .int .i64 x.a1, .int .i64 x.a2, .int .i64 x.a3, .int .i64 x.a4, .int .i64 x.a5, .int .i64 x.b, .bool x.s]
/-- the cells of C lines -/
def rowL (d : Nat → Ln) (C : Nat) : List Value := (List.range (C * 8)).map fun k => (d (k / 8)).c (k % 8)
theorem rowL_len (d : Nat → Ln) (C : Nat) : (rowL d C).length = C * 8 := by simp [rowL]
theorem rowL_get (d : Nat → Ln) {C k : Nat} (h : k < C * 8) : (rowL d C)[k]? = some ((d (k / 8)).c (k % 8)) := by
  simp [rowL, h]
/-- the eight cells of a line -/
structure LnC (w : World) (b o : Nat) (x : Ln) : Prop where
  c0 : w.cell? ⟨b, o, none⟩ = some (.int .i64 x.a0)
  c1 : w.cell? ⟨b, o + 1, none⟩ = some (.int .i64 x.a1)
  c2 : w.cell? ⟨b, o + 2, none⟩ = some (.int .i64 x.a2)
  c3 : w.cell? ⟨b, o + 3, none⟩ = some (.int .i64 x.a3)
  c4 : w.cell? ⟨b, o + 4, none⟩ = some (.int .i64 x.a4)
  c5 : w.cell? ⟨b, o + 5, none⟩ = some (.int .i64 x.a5)
  c6 : w.cell? ⟨b, o + 6, none⟩ = some (.int .i64 x.b)
  c7 : w.cell? ⟨b, o + 7, none⟩ = some (.bool x.s)
theorem row_line {w : World} {b : Nat} {e : TypeId} {d : Nat → Ln} {C i : Nat} (h : RowAt w b e (rowL d C)) (hi : i < C) : LnC w b (i * 8) (d i) := by
  have g : ∀ k, k < 8 → w.cell? ⟨b, i * 8 + k, none⟩ = some ((d i).c k) := fun k hk => by
    rw [h.cell?, rowL_get d (by omega), show (i * 8 + k) / 8 = i by omega, show (i * 8 + k) % 8 = k by omega]
  exact ⟨g 0 (by decide), g 1 (by decide), g 2 (by decide), g 3 (by decide), g 4 (by decide), g 5 (by decide), g 6 (by decide), g 7 (by decide)⟩
/-- one line is written -/
def putL (d : Nat → Ln) (i : Nat) (x : Ln) : Nat → Ln := fun k => if k = i then x else d k
def setL (w : World) (b o : Nat) (x : Ln) : World :=
  (((((((w.setCell ⟨b, o, none⟩ (.int .i64 x.a0)).setCell ⟨b, o + 1, none⟩ (.int .i64 x.a1)).setCell ⟨b, o + 2, none⟩ (.int .i64 x.a2)).setCell ⟨b, o + 3, none⟩ (.int .i64 x.a3)).setCell ⟨b, o + 4, none⟩ (.int .i64 x.a4)).setCell ⟨b, o + 5, none⟩ (.int .i64 x.a5)).setCell ⟨b, o + 6, none⟩ (.int .i64 x.b)).setCell ⟨b, o + 7, none⟩ (.bool x.s)
theorem rowL_put (d : Nat → Ln) {C i : Nat} (x : Ln) (hi : i < C) :
    (((((((((rowL d C).set (i * 8) (.int .i64 x.a0)).set (i * 8 + 1) (.int .i64 x.a1)).set (i * 8 + 2) (.int .i64 x.a2)).set (i * 8 + 3) (.int .i64 x.a3)).set (i * 8 + 4) (.int .i64 x.a4)).set (i * 8 + 5) (.int .i64 x.a5)).set (i * 8 + 6) (.int .i64 x.b)).set (i * 8 + 7) (.bool x.s)) = rowL (putL d i x) C := by
  apply List.ext_getElem?
  intro k
  by_cases hk : k < C * 8
  · rw [rowL_get _ hk]
    simp only [List.getElem?_set, List.length_set, rowL_len]
    unfold putL
    by_cases hki : k / 8 = i
    · rw [if_pos hki]
      have h8 : k % 8 < 8 := Nat.mod_lt _ (by decide)
      have hk2 : k = i * 8 + k % 8 := by omega
      generalize k % 8 = r at *
      subst hk2
      have : r = 0 ∨ r = 1 ∨ r = 2 ∨ r = 3 ∨ r = 4 ∨ r = 5 ∨ r = 6 ∨ r = 7 := by omega
      rcases this with rfl | rfl | rfl | rfl | rfl | rfl | rfl | rfl <;> simp [Ln.c, hi] <;> omega
    · rw [if_neg hki, if_neg (by omega), if_neg (by omega), if_neg (by omega), if_neg (by omega), if_neg (by omega), if_neg (by omega), if_neg (by omega), if_neg (by omega), rowL_get _ hk]
  · rw [List.getElem?_eq_none (by simp [rowL_len]; omega), List.getElem?_eq_none (by simp [rowL_len]; omega)]
theorem row_put {w : World} {b : Nat} {e : TypeId} {d : Nat → Ln} {C i : Nat} (h : RowAt w b e (rowL d C)) (hi : i < C) (x : Ln) : RowAt (setL w b (i * 8) x) b e (rowL (putL d i x) C) := by
  rw [← rowL_put d x hi]
  exact (((((((h.set _ _).set _ _).set _ _).set _ _).set _ _).set _ _).set _ _).set _ _
theorem grs_setL {w0 w : World} {rs : List Nat} (h : GrsOk w0 rs w) {b : Nat} (hb : b ∈ rs) (o : Nat) (x : Ln) : GrsOk w0 rs (setL w b o x) :=
  grs_set (grs_set (grs_set (grs_set (grs_set (grs_set (grs_set (grs_set h _ hb _ _) _ hb _ _) _ hb _ _) _ hb _ _) _ hb _ _) _ hb _ _) _ hb _ _) _ hb _ _
theorem grs_drewN {w0 w : World} {rs : List Nat} (h : GrsOk w0 rs w) (n : Nat) : GrsOk w0 rs (w.drewN n) := ⟨h.os, h.tape, h.output, h.size, h.block⟩
theorem putL_swp (d : Nat → Ln) (i j : Nat) : putL (putL d i (d j)) j (d i) = swp d i j := by
  funext k; unfold putL swp
  repeat' split
  all_goals first | rfl | (congr 1; omega) | (exfalso; omega)
theorem grs_trans2 {w0 w1 w2 : World} {rs : List Nat} (h : GrsOk w0 rs w1) (g : GrsOk w1 rs w2) : GrsOk w0 rs w2 :=
  ⟨g.os.trans h.os, g.tape.trans h.tape, g.output.trans h.output, Nat.le_trans h.size g.size, fun k hk hn => (g.block k (Nat.lt_of_lt_of_le hk h.size) hn).trans (h.block k hk hn)⟩
end Go.Proofs.Ytalphoebmefgoaa
/- poly: how two lines are compared. -/
namespace Go.Proofs.Ytalphoebmefgoaa
open Go.RowKit
def cmpI (x y : Int) : Int := if x < y then -1 else if y < x then 1 else 0
def lexL : List Int → List Int → Int
  | x :: xs, y :: ys => if cmpI x y = 0 then lexL xs ys else cmpI x y
  | _, _ => 0
def Ln.a (x : Ln) : List Int := [x.a0, x.a1, x.a2, x.a3, x.a4, x.a5]
def cmpL (x y : Ln) : Int := if lexL x.a y.a ≠ 0 then lexL x.a y.a else if cmpI x.b y.b ≠ 0 ∨ x.s = y.s then cmpI x.b y.b else if x.s then -1 else 1
set_option maxHeartbeats 1000000 in
theorem isnan_any (x : Int) (w : World) : Calls Try.prog 103 #[.int .i64 x] w fun e w' => e = .returned (.bool false) ∧ Bel w w' := by
  have hx : (x != x) = false := by simp
  go_enter Try.func103, Try.ntmps103
  go_wp2
  go_ret
  exact ⟨rfl, Bel.refl⟩
set_option maxHeartbeats 2000000 in
theorem cmpi_any (x y : Int) (w : World) : Calls Try.prog 81 #[.int .i64 x, .int .i64 y] w fun e w' => e = .returned (.int .i64 (cmpI x y)) ∧ Bel w w' := by
  have HA := fun W => isnan_any x W
  have HB := fun W => isnan_any y W
  go_enter Try.func81, Try.ntmps81
  go_wp2_with fail
  refine (HA _).mono ?_
  rintro e w1 ⟨rfl, hb1⟩
  have HB1 := Lib.hid hb1
  clear hb1
  go_wp2_with fail
  refine (HB _).mono ?_
  rintro e w2 ⟨rfl, hb2⟩
  have HB2 := Lib.hid (HB1.out.trans hb2)
  clear hb2
  by_cases h1 : x < y
  · have d1 : decide (x < y) = true := by simp [h1]
    have HC : Hid (cmpI x y = -1) := Lib.hid (by unfold cmpI; rw [if_pos h1])
    clear h1
    go_wp2
    go_ret
    exact ⟨by rw [HC.out]; rfl, HB2.out⟩
  · have d1 : decide (x < y) = false := by simp [h1]
    by_cases h2 : y < x
    · have d2 : decide (y < x) = true := by simp [h2]
      have HC : Hid (cmpI x y = 1) := Lib.hid (by unfold cmpI; rw [if_neg h1, if_pos h2])
      clear h1 h2
      go_wp2
      go_ret
      exact ⟨by rw [HC.out]; rfl, HB2.out⟩
    · have d2 : decide (y < x) = false := by simp [h2]
      have HC : Hid (cmpI x y = 0) := Lib.hid (by unfold cmpI; rw [if_neg h1, if_neg h2])
      clear h1 h2
      go_wp2
      go_ret
      exact ⟨by rw [HC.out]; rfl, HB2.out⟩
theorem lex_drop {l1 l2 : List Int} (h : l1.length = l2.length) {i : Nat} (hi : i < l1.length) : lexL (l1.drop i) (l2.drop i) = if cmpI (l1.getD i 0) (l2.getD i 0) = 0 then lexL (l1.drop (i + 1)) (l2.drop (i + 1)) else cmpI (l1.getD i 0) (l2.getD i 0) := by
  have hi2 : i < l2.length := h ▸ hi
  have e1 : l1.drop i = l1.getD i 0 :: l1.drop (i + 1) := by rw [List.drop_eq_getElem_cons hi]; simp [List.getD_eq_getElem?_getD, List.getElem?_eq_getElem hi]
  have e2 : l2.drop i = l2.getD i 0 :: l2.drop (i + 1) := by rw [List.drop_eq_getElem_cons hi2]; simp [List.getD_eq_getElem?_getD, List.getElem?_eq_getElem hi2]
  rw [e1, e2, lexL]
set_option maxRecDepth 100000 in
set_option maxHeartbeats 4000000 in
theorem cmps_any (v1 v2 : Value) (l1 l2 : List Int) (w : World) (h1 : IntsAt w w.heap.size v1 l1) (h2 : IntsAt w w.heap.size v2 l2) (hj : l1.length ≤ 1000000) (hl : l1.length = l2.length) :
    Calls Try.prog 80 #[v1, v2] w fun e w' => e = .returned (.int .i64 (lexL l1 l2)) ∧ Bel w w' := by
  have H1 := Lib.hid h1
  have H2 := Lib.hid h2
  obtain ⟨A1, c1, rfl, _⟩ := h1.form
  obtain ⟨A2, c2, rfl, _⟩ := h2.form
  clear h1 h2
  go_enter Try.func80, Try.ntmps80
  go_wp2
  go_loopg [11] l1.length (fun gk s11 wr => ∃ (i : Nat) (y : Ext w), i + gk = l1.length ∧ s11 = .int .i64 i ∧ wr = y.w ∧ lexL l1 l2 = lexL (l1.drop i) (l2.drop i))
  case atStart => exact ⟨0, ⟨w, Bel.refl⟩, by omega, rfl, rfl, rfl⟩
  case round =>
    obtain ⟨i, y1, hi, rfl, rfl, hx⟩ := hrel
    by_cases hlt : i < l1.length
    · have hdl : decide ((i : Int) < (l1.length : Int)) = true := by simp; omega
      have hil : (i : Int) < (l1.length : Int) := by omega
      have hil2 : (i : Int) < (l2.length : Int) := by omega
      have hdg : decide ((l2.length : Int) ≤ (i : Int)) = false := by simp; omega
      rw [lex_drop hl hlt] at hx
      have HX := Lib.hid hx
      have HL := Lib.hid hl
      obtain ⟨b1, o1, rfl, hb1, k1⟩ := H1.out.at_ (by omega)
      obtain ⟨b3, o3, rfl, hb3, k3⟩ := H2.out.at_ (by omega)
      have x0 := k1 i hlt
      have z0 := k3 i (by omega)
      clear k1 k3 hx hl
      generalize l1.getD i 0 = p1 at *
      generalize l2.getD i 0 = p2 at *
      have HP := fun W => cmpi_any p1 p2 W
      go_wp2_with fail
      refine (HP _).mono ?_
      rintro e w1 ⟨rfl, hb⟩
      have HB := Lib.hid (y1.bel.trans hb)
      clear hb x0 z0
      by_cases hc : cmpI p1 p2 = 0
      · have hq : (cmpI p1 p2 != 0) = false := by simp [hc]
        have HQ : Hid (lexL l1 l2 = lexL (l1.drop (i + 1)) (l2.drop (i + 1))) := Lib.hid (by rw [HX.out, if_pos hc])
        clear hc
        go_wp2
        go_roundg (gk - 1)
        case measure => omega
        case rel => exact ⟨i + 1, ⟨_, HB.out⟩, by omega, by go_num, rfl, HQ.out⟩
      · have hq : (cmpI p1 p2 != 0) = true := by simp [hc]
        have HQ : Hid (lexL l1 l2 = cmpI p1 p2) := Lib.hid (by rw [HX.out, if_neg hc])
        clear hc
        go_wp2
        go_ret
        exact ⟨by rw [HQ.out]; rfl, HB.out⟩
    · obtain rfl : i = l1.length := by omega
      have hdl : decide ((l1.length : Int) < (l1.length : Int)) = false := by simp
      have hd2 : decide ((l1.length : Int) < (l2.length : Int)) = false := by simp; omega
      have HX := Lib.hid (show lexL l1 l2 = 0 by rw [hx, List.drop_length]; rfl)
      clear hx
      go_wp2
      go_ret
      exact ⟨by rw [HX.out]; rfl, y1.bel⟩
theorem ints6 {w : World} {b : Nat} {e : TypeId} {x : Ln} (h : RowAt w b e [.int .i64 x.a0, .int .i64 x.a1, .int .i64 x.a2, .int .i64 x.a3, .int .i64 x.a4, .int .i64 x.a5, .int .i64 x.b, .bool x.s]) {c : Nat} (hc : 6 ≤ c) : IntsAt w w.heap.size (.slice (some ⟨b, 0, none⟩) 6 c) x.a :=
  ⟨_, c, rfl, hc, fun _ => ⟨b, 0, rfl, h.lt, fun i hi => by
    have hi6 : i < 6 := hi
    have : i = 0 ∨ i = 1 ∨ i = 2 ∨ i = 3 ∨ i = 4 ∨ i = 5 := by omega
    rcases this with rfl | rfl | rfl | rfl | rfl | rfl <;> exact h.cell rfl⟩⟩
theorem size_alV (V : World) (o : Obj) : (V.alloc o).heap.size = V.heap.size + 1 := by simp [go_sem]
set_option maxRecDepth 100000 in
set_option maxHeartbeats 4000000 in
theorem less_any (x y0 : Ln) (w : World) : Calls Try.prog 79 #[x.V, y0.V] w fun e w' => e = .returned (.int .i64 (cmpL x y0)) ∧ Bel w w' := by
  unfold Ln.V
  go_enter Try.func79, Try.ntmps79
  go_upto_region 1 with (fail)
  generalize hW : World.alloc (World.alloc w _) _ = w1 at *
  have hb : Bel w w1 := by rw [← hW]; exact (Bel.refl.alloc _).alloc _
  have r1 : RowAt w1 w.heap.size 72 [.int .i64 x.a0, .int .i64 x.a1, .int .i64 x.a2, .int .i64 x.a3, .int .i64 x.a4, .int .i64 x.a5, .int .i64 x.b, .bool x.s] := by rw [← hW]; exact (RowAt.new _ _ _).alloc _
  have r2 : RowAt w1 (w.heap.size + 1) 72 [.int .i64 y0.a0, .int .i64 y0.a1, .int .i64 y0.a2, .int .i64 y0.a3, .int .i64 y0.a4, .int .i64 y0.a5, .int .i64 y0.b, .bool y0.s] := by
    rw [← hW, ← size_alV w (.cells #[.int .i64 x.a0, .int .i64 x.a1, .int .i64 x.a2, .int .i64 x.a3, .int .i64 x.a4, .int .i64 x.a5, .int .i64 x.b, .bool x.s] 72)]; exact RowAt.new _ _ _
  clear hW
  have HB := Lib.hid hb
  have HCP := Lib.hid (fun W (h : Bel w1 W) => cmps_any _ _ x.a y0.a W ((ints6 r1 (Nat.le_refl _)).keep h.keeps h.le) ((ints6 r2 (Nat.le_refl _)).keep h.keeps h.le) (by show 6 ≤ 1000000; omega) rfl)
  obtain ⟨b2, hb2⟩ : ∃ b2, b2 = w.heap.size + 1 := ⟨_, rfl⟩
  rw [← hb2] at r2 HCP ⊢
  obtain ⟨b1, hb1⟩ : ∃ b1, b1 = w.heap.size := ⟨_, rfl⟩
  rw [← hb1] at r1 HCP ⊢
  have x6 := r1.cell (i := 6) rfl
  have x7 := r1.cell (i := 7) rfl
  have y6 := r2.cell (i := 6) rfl
  have y7 := r2.cell (i := 7) rfl
  have l1 := r1.lt
  have l2 := r2.lt
  clear hb hb1 hb2 r1 r2
  have HL : Hid (∀ c, c = lexL x.a y0.a → cmpL x y0 = if c ≠ 0 then c else if cmpI x.b y0.b ≠ 0 ∨ x.s = y0.s then cmpI x.b y0.b else if x.s then -1 else 1) := Lib.hid (fun c hc => by rw [hc]; rfl)
  (refine wp_region_ext (wb := w1) (by (repeat (first | exact Ext.bel _ | exact Bel.refl | refine Bel.alloc ?_ _ | refine Bel.drew ?_ | refine Bel.drewN ?_ _))) (by kernel_rfl) (by kernel_rfl) ?_; (repeat (any_goals (first | go_big_quiet_step ((go_at_call 80; with_reducible exact ext_call (HCP.out _ (Ext.bel _)))) | quiet_step ((go_at_call 80; with_reducible exact ext_call (HCP.out _ (Ext.bel _)))) | (refine wpQuiet_step (fun K hK => ?_); go_simp; split <;> (refine hK _ ?_; clear hK K))))); all_goals (refine wpQuiet_nil ?_; intro _ hw'; obtain ⟨y, hw''⟩ := hw'; subst hw''))
  clear HCP
  replace HL := Lib.hid (HL.out _ rfl)
  generalize lexL x.a y0.a = lx at *
  by_cases h0 : lx = 0
  · have d0 : (lx != 0) = false := by simp [h0]
    replace HL := Lib.hid (show cmpL x y0 = if cmpI x.b y0.b ≠ 0 ∨ x.s = y0.s then cmpI x.b y0.b else if x.s then -1 else 1 by rw [HL.out, if_neg (by omega)])
    have HP := fun W => cmpi_any x.b y0.b W
    clear h0
    go_wp2_with fail
    refine (HP _).mono ?_
    rintro e w2 ⟨rfl, hb2⟩
    obtain ⟨y2, rfl⟩ := ext_of (y.bel.trans hb2)
    clear hb2 HP x6 y6
    obtain ⟨ci, hci⟩ : ∃ c, c = cmpI x.b y0.b := ⟨_, rfl⟩
    rw [← hci] at HL ⊢
    clear hci
    by_cases h1 : ci = 0
    · have d1 : (ci != 0) = false := by simp [h1]
      obtain ⟨sx, hsx⟩ : ∃ s, x.s = s := ⟨_, rfl⟩
      obtain ⟨sy, hsy⟩ : ∃ s, y0.s = s := ⟨_, rfl⟩
      rw [hsx] at x7 HL
      rw [hsy] at y7 HL
      clear hsx hsy
      cases sx <;> cases sy
      · replace HL := Lib.hid (show cmpL x y0 = ci by rw [HL.out, if_pos (.inr rfl)])
        clear h1
        go_wp2
        go_ret
        exact ⟨by rw [HL.out]; rfl, HB.out.trans y2.bel⟩
      · replace HL := Lib.hid (show cmpL x y0 = 1 by rw [HL.out, if_neg (by simp [h1])]; rfl)
        clear h1
        go_wp2
        go_ret
        exact ⟨by rw [HL.out]; rfl, HB.out.trans y2.bel⟩
      · replace HL := Lib.hid (show cmpL x y0 = -1 by rw [HL.out, if_neg (by simp [h1])]; rfl)
        clear h1
        go_wp2
        go_ret
        exact ⟨by rw [HL.out]; rfl, HB.out.trans y2.bel⟩
      · replace HL := Lib.hid (show cmpL x y0 = ci by rw [HL.out, if_pos (.inr rfl)])
        clear h1
        go_wp2
        go_ret
        exact ⟨by rw [HL.out]; rfl, HB.out.trans y2.bel⟩
    · have d1 : (ci != 0) = true := by simp [h1]
      replace HL := Lib.hid (show cmpL x y0 = ci by rw [HL.out, if_pos (.inl h1)])
      clear h1
      go_wp2
      go_ret
      exact ⟨by rw [HL.out]; rfl, HB.out.trans y2.bel⟩
  · have d0 : (lx != 0) = true := by simp [h0]
    replace HL := Lib.hid (show cmpL x y0 = lx by rw [HL.out, if_pos h0])
    clear h0
    go_wp2
    go_ret
    exact ⟨by rw [HL.out]; rfl, HB.out.trans y.bel⟩
end Go.Proofs.Ytalphoebmefgoaa
/- poly: when two lines have the same coefficients. -/
namespace Go.Proofs.Ytalphoebmefgoaa
open Go.RowKit
theorem Try.infoI64r : (Try.prog.info? 2).isSome = true := by kernel_rfl
theorem row_eql (x y : Ln) (w : World) : (binOp .eql 70 (.agg #[.int .i64 x.a0, .int .i64 x.a1, .int .i64 x.a2, .int .i64 x.a3, .int .i64 x.a4, .int .i64 x.a5]) (.agg #[.int .i64 y.a0, .int .i64 y.a1, .int .i64 y.a2, .int .i64 y.a3, .int .i64 y.a4, .int .i64 y.a5])).run Try.prog w = .ok (.bool (decide (x.a = y.a))) w := by
  obtain ⟨i, hi⟩ := Option.isSome_iff_exists.1 Try.infoI64r
  have hc : Try.prog.cellsOf 2 = 1 := by kernel_rfl
  have u2 := Try.underlying2
  rw [run_eql_struct, show (10000 : Nat) = 9999 + 1 from rfl, run_equalIn_array w 9999 _ _ Try.underlying70 hi, hc]
  simp only [show List.range 6 = [0, 1, 2, 3, 4, 5] from rfl, Op.eqItems]
  go_simp
  unfold Ln.a
  repeat' split
  all_goals simp_all
set_option maxRecDepth 100000 in
set_option maxHeartbeats 4000000 in
theorem same_any (x y : Ln) (w : World) : Calls Try.prog 83 #[.agg #[.int .i64 x.a0, .int .i64 x.a1, .int .i64 x.a2, .int .i64 x.a3, .int .i64 x.a4, .int .i64 x.a5, .int .i64 x.b, .bool x.s], .agg #[.int .i64 y.a0, .int .i64 y.a1, .int .i64 y.a2, .int .i64 y.a3, .int .i64 y.a4, .int .i64 y.a5, .int .i64 y.b, .bool y.s]] w fun e w' => e = .returned (.bool (decide (x.a = y.a))) ∧ Bel w w' := by
  have HE := fun W => row_eql x y W
  go_enter Try.func83, Try.ntmps83
  go_upto_region 1 with (fail)
  generalize hW : World.alloc (World.alloc w _) _ = w1 at *
  have hb : Bel w w1 := by rw [← hW]; exact (Bel.refl.alloc _).alloc _
  have r1 : RowAt w1 w.heap.size 72 [.int .i64 x.a0, .int .i64 x.a1, .int .i64 x.a2, .int .i64 x.a3, .int .i64 x.a4, .int .i64 x.a5, .int .i64 x.b, .bool x.s] := by rw [← hW]; exact (RowAt.new _ _ _).alloc _
  have r2 : RowAt w1 (w.heap.size + 1) 72 [.int .i64 y.a0, .int .i64 y.a1, .int .i64 y.a2, .int .i64 y.a3, .int .i64 y.a4, .int .i64 y.a5, .int .i64 y.b, .bool y.s] := by
    rw [← hW, ← size_alV w (.cells #[.int .i64 x.a0, .int .i64 x.a1, .int .i64 x.a2, .int .i64 x.a3, .int .i64 x.a4, .int .i64 x.a5, .int .i64 x.b, .bool x.s] 72)]; exact RowAt.new _ _ _
  clear hW
  have HB := Lib.hid hb
  obtain ⟨b2, hb2⟩ : ∃ b2, b2 = w.heap.size + 1 := ⟨_, rfl⟩
  rw [← hb2] at r2 ⊢
  obtain ⟨b1, hb1⟩ : ∃ b1, b1 = w.heap.size := ⟨_, rfl⟩
  rw [← hb1] at r1 ⊢
  have x0 := r1.cell (i := 0) rfl
  have x1 := r1.cell (i := 1) rfl
  have x2 := r1.cell (i := 2) rfl
  have x3 := r1.cell (i := 3) rfl
  have x4 := r1.cell (i := 4) rfl
  have x5 := r1.cell (i := 5) rfl
  have y0 := r2.cell (i := 0) rfl
  have y1 := r2.cell (i := 1) rfl
  have y2 := r2.cell (i := 2) rfl
  have y3 := r2.cell (i := 3) rfl
  have y4 := r2.cell (i := 4) rfl
  have y5 := r2.cell (i := 5) rfl
  have l1 := r1.lt
  have l2 := r2.lt
  clear hb hb1 hb2 r1 r2
  obtain ⟨r, hr⟩ : ∃ r, decide (x.a = y.a) = r := ⟨_, rfl⟩
  rw [hr] at HE
  have HR := Lib.hid hr
  clear hr
  go_wp2
  go_ret
  exact ⟨by rw [HR.out]; rfl, HB.out⟩
end Go.Proofs.Ytalphoebmefgoaa
/- poly: builtin clear over lines. -/
namespace Go.Proofs.Ytalphoebmefgoaa
open Go.RowKit
def zeroLn : Ln := ⟨0, 0, 0, 0, 0, 0, 0, false⟩
theorem row_setCells {b : Nat} {e : TypeId} : ∀ (vs : List Value) (o : Nat) {w : World} {xs : List Value}, RowAt w b e xs → ∃ ys, RowAt (w.setCells b o vs) b e ys ∧ ys.length = xs.length ∧ ∀ k, k < o → ys[k]? = xs[k]?
  | [], _, _, xs, h => ⟨xs, h, rfl, fun _ _ => rfl⟩
  | v :: vs, o, w, xs, h => by
    obtain ⟨ys, h1, h2, h3⟩ := row_setCells vs (o + 1) (h.set o v)
    refine ⟨ys, h1, by rw [h2, List.length_set], fun k hk => ?_⟩
    rw [h3 k (by omega), List.getElem?_set_ne (by omega)]
theorem grs_setCells {w0 : World} {rs : List Nat} {b : Nat} (hb : b ∈ rs) : ∀ (vs : List Value) (o : Nat) {w : World}, GrsOk w0 rs w → GrsOk w0 rs (w.setCells b o vs)
  | [], _, _, h => h
  | v :: vs, o, _, h => grs_setCells hb vs (o + 1) (grs_set h b hb o v)
set_option maxRecDepth 100000 in
theorem zero_line (u : World) : (zeroValue 72).run Try.prog u = .ok zeroLn.V u := rfl
theorem clear_lines {w : World} {b : Nat} {e : TypeId} {d : Nat → Ln} {C i m c : Nat} (h : RowAt w b e (rowL d C)) (hm : 0 < m) (hi : i + m ≤ C) :
    ∃ vs, ∀ ty, (Builtin.clear_ #[61] ty #[.slice (some ⟨b, i * 8, none⟩) m c]).run Try.prog w = .ok (.tuple #[]) (w.setCells b (i * 8) vs) := by
  refine ⟨(Builtin.zeroCells zeroLn.V.cells m).toList, fun ty => ?_⟩
  have hl : (Builtin.zeroCells zeroLn.V.cells m).toList.length = m * 8 := by simp [Builtin.zeroCells, zeroLn, Ln.V, Value.cells]
  have hst := run_storeCells_cells (P := Try.prog) b (i * 8) (Builtin.zeroCells zeroLn.V.cells m).toList 0 w (fun j hj => by
      rw [hl] at hj
      rw [h.cell?, rowL_get d (by omega)]; rfl) (fun j hj => h.frozen _) (fun v hv => by
      simp [Builtin.zeroCells, zeroLn, Ln.V, Value.cells] at hv
      obtain ⟨a, ha⟩ := hv
      have h8 : a % 8 < 8 := Nat.mod_lt _ (by decide)
      obtain ⟨_, hv2⟩ := ha
      subst hv2
      generalize a % 8 = r at *
      have : r = 0 ∨ r = 1 ∨ r = 2 ∨ r = 3 ∨ r = 4 ∨ r = 5 ∨ r = 6 ∨ r = 7 := by omega
      rcases this with rfl | rfl | rfl | rfl | rfl | rfl | rfl | rfl <;> rfl)
  simp only [Nat.add_zero] at hst
  have hz := zero_line
  generalize zeroLn.V = Z at *
  clear hl
  obtain ⟨q, rfl⟩ : ∃ q, m = q + 1 := ⟨m - 1, by omega⟩
  simp [Builtin.clear_, run_underlying Try.underlying61, hz, hst]
end Go.Proofs.Ytalphoebmefgoaa
/- poly: what CompactFunc keeps (plain). -/
namespace Go.Proofs.Ytalphoebmefgoaa
/-- the first n lines without those whose coefficients are those of the line before -/
def kept (d : Nat → Ln) : Nat → List Ln
  | 0 => []
  | n + 1 => if 0 < n ∧ (d n).a = (d (n - 1)).a then kept d n else kept d n ++ [d n]
theorem kept_le (d : Nat → Ln) : ∀ n, (kept d n).length ≤ n
  | 0 => Nat.le_refl _
  | n + 1 => by
    have := kept_le d n
    unfold kept
    split
    · omega
    · rw [List.length_append]; simp; omega
theorem kept_all {d : Nat → Ln} : ∀ {n : Nat}, (∀ j, 0 < j → j < n → (d j).a ≠ (d (j - 1)).a) → kept d n = (List.range n).map d
  | 0, _ => rfl
  | n + 1, h => by
    unfold kept
    rw [if_neg (fun hc => h n hc.1 (Nat.lt_succ_self n) hc.2), kept_all (fun j h1 h2 => h j h1 (by omega)), List.range_succ, List.map_append]
    rfl
end Go.Proofs.Ytalphoebmefgoaa
/- slices.insertionSortCmpFunc over lines. -/
namespace Go.Proofs.Ytalphoebmefgoaa
open Go.RowKit
def leL (x y : Ln) : Prop := cmpL x y ≤ 0
theorem cmpI_r (x y : Int) : (cmpI x y = -1 ∧ x < y) ∨ (cmpI x y = 0 ∧ x = y) ∨ (cmpI x y = 1 ∧ y < x) := by
  unfold cmpI
  by_cases h : x < y
  · rw [if_pos h]; omega
  · by_cases h2 : y < x
    · rw [if_neg h, if_pos h2]; omega
    · rw [if_neg h, if_neg h2]; omega
def Ln.key (x : Ln) : List Int := x.a ++ [x.b, if x.s then 0 else 1]
theorem lex_app : ∀ (l1 l2 : List Int), l1.length = l2.length → ∀ r1 r2 : List Int, (lexL l1 l2 = 0 → lexL (l1 ++ r1) (l2 ++ r2) = lexL r1 r2) ∧ (lexL l1 l2 ≠ 0 → lexL (l1 ++ r1) (l2 ++ r2) = lexL l1 l2)
  | [], [], _, r1, r2 => ⟨fun _ => rfl, fun h => absurd rfl h⟩
  | [], _ :: _, h, _, _ => by simp at h
  | _ :: _, [], h, _, _ => by simp at h
  | p :: l1, q :: l2, h, r1, r2 => by
    obtain ⟨i1, i2⟩ := lex_app l1 l2 (by simpa using h) r1 r2
    simp only [List.cons_append, lexL]
    by_cases hc : cmpI p q = 0
    · rw [if_pos hc, if_pos hc]; exact ⟨i1, i2⟩
    · rw [if_neg hc, if_neg hc]; exact ⟨fun g => absurd g hc, fun _ => rfl⟩
theorem cmpL_key (x y : Ln) : cmpL x y = lexL x.key y.key := by
  obtain ⟨h0, h1⟩ := lex_app x.a y.a rfl [x.b, if x.s then 0 else 1] [y.b, if y.s then 0 else 1]
  unfold cmpL Ln.key
  by_cases hc : lexL x.a y.a = 0
  · rw [h0 hc, if_neg (by simp [hc])]
    obtain ⟨a0, a1, a2, a3, a4, a5, b, s⟩ := x
    obtain ⟨c0, c1, c2, c3, c4, c5, d, t⟩ := y
    simp only [lexL]
    rcases cmpI_r b d with ⟨e, _⟩ | ⟨e, _⟩ | ⟨e, _⟩ <;> rw [e] <;> cases s <;> cases t <;> simp [cmpI]
  · rw [h1 hc, if_pos hc]
theorem lex_r : ∀ (l1 l2 : List Int), l1.length = l2.length → (lexL l1 l2 = 0 → l1 = l2) ∧ (lexL l1 l2 ≤ 0 ∨ lexL l2 l1 ≤ 0) ∧ (lexL l1 l2 < 0 → lexL l2 l1 > 0) ∧ (lexL l1 l2 > 0 → lexL l2 l1 < 0)
  | [], [], _ => ⟨fun _ => rfl, .inl (Int.le_refl 0), fun h => absurd h (by decide), fun h => absurd h (by decide)⟩
  | [], _ :: _, h => by simp at h
  | _ :: _, [], h => by simp at h
  | p :: l1, q :: l2, h => by
    obtain ⟨i1, i2, i3, i4⟩ := lex_r l1 l2 (by simpa using h)
    simp only [lexL]
    rcases cmpI_r p q with ⟨e, h1⟩ | ⟨e, h1⟩ | ⟨e, h1⟩
    · have e2 : cmpI q p = 1 := by rcases cmpI_r q p with ⟨_, _⟩ | ⟨_, _⟩ | ⟨g, _⟩ <;> omega
      rw [e, e2]; simp
    · subst h1
      rw [e]; simp only [if_true]
      exact ⟨fun g => by rw [i1 g], i2, i3, i4⟩
    · have e2 : cmpI q p = -1 := by rcases cmpI_r q p with ⟨g, _⟩ | ⟨_, _⟩ | ⟨_, _⟩ <;> omega
      rw [e, e2]; simp
theorem lex_trans : ∀ (l1 l2 l3 : List Int), l1.length = l2.length → l2.length = l3.length → lexL l1 l2 ≤ 0 → lexL l2 l3 ≤ 0 → lexL l1 l3 ≤ 0
  | [], [], [], _, _, _, _ => Int.le_refl 0
  | [], _ :: _, _, h, _, _, _ => by simp at h
  | _ :: _, [], _, h, _, _, _ => by simp at h
  | _, [], _ :: _, _, h, _, _ => by simp at h
  | _, _ :: _, [], _, h, _, _ => by simp at h
  | p :: l1, q :: l2, r :: l3, h, h', g1, g2 => by
    simp only [lexL] at g1 g2 ⊢
    rcases cmpI_r p q with ⟨e, k1⟩ | ⟨e, k1⟩ | ⟨e, k1⟩
    · rcases cmpI_r q r with ⟨f, k2⟩ | ⟨f, k2⟩ | ⟨f, k2⟩
      · have : cmpI p r = -1 := by rcases cmpI_r p r with ⟨g, _⟩ | ⟨_, _⟩ | ⟨_, _⟩ <;> omega
        rw [this]; simp
      · have : cmpI p r = -1 := by rcases cmpI_r p r with ⟨g, _⟩ | ⟨_, _⟩ | ⟨_, _⟩ <;> omega
        rw [this]; simp
      · rw [f] at g2; simp at g2
    · subst k1
      rcases cmpI_r p r with ⟨f, k2⟩ | ⟨f, k2⟩ | ⟨f, k2⟩
      · rw [f]; simp
      · rw [f]; rw [e] at g1; rw [f] at g2; simp only [if_true] at *
        exact lex_trans l1 l2 l3 (by simpa using h) (by simpa using h') g1 g2
      · rw [f] at g2; simp at g2
    · rw [e] at g1; simp at g1
theorem key_len (x : Ln) : x.key.length = 8 := rfl
theorem leL_refl (x : Ln) : leL x x := by
  unfold leL; rw [cmpL_key]
  have := (lex_r x.key x.key rfl).2.1
  omega
theorem leL_trans (x y z : Ln) (h : leL x y) (g : leL y z) : leL x z := by
  unfold leL at *; rw [cmpL_key] at *
  exact lex_trans x.key y.key z.key rfl rfl h g
theorem leL_of_lt {x y : Ln} (h : cmpL x y < 0) : leL x y := Int.le_of_lt h
theorem leL_of_nlt {x y : Ln} (h : ¬ cmpL x y < 0) : leL y x := by
  unfold leL; rw [cmpL_key] at *
  have := (lex_r x.key y.key rfl).2.1
  have := (lex_r y.key x.key rfl).2.2.2
  omega
theorem leL_anti {x y : Ln} (h : leL x y) (g : leL y x) : x = y := by
  unfold leL at *; rw [cmpL_key] at *
  have h0 : lexL x.key y.key = 0 := by
    have := (lex_r x.key y.key rfl).2.2.1
    omega
  have := (lex_r x.key y.key rfl).1 h0
  obtain ⟨a0, a1, a2, a3, a4, a5, b, s⟩ := x
  obtain ⟨c0, c1, c2, c3, c4, c5, d, t⟩ := y
  simp only [Ln.key, Ln.a, List.cons_append, List.nil_append, List.cons.injEq] at this
  obtain ⟨rfl, rfl, rfl, rfl, rfl, rfl, rfl, hs, _⟩ := this
  cases s <;> cases t <;> simp at hs ⊢
theorem less_at (x y : Ln) (w : World) : Calls Try.prog 79 #[.agg #[.int .i64 x.a0, .int .i64 x.a1, .int .i64 x.a2, .int .i64 x.a3, .int .i64 x.a4, .int .i64 x.a5, .int .i64 x.b, .bool x.s], .agg #[.int .i64 y.a0, .int .i64 y.a1, .int .i64 y.a2, .int .i64 y.a3, .int .i64 y.a4, .int .i64 y.a5, .int .i64 y.b, .bool y.s]] w fun e w' => e = .returned (.int .i64 (cmpL x y)) ∧ Bel w w' := less_any x y w
theorem grs_bel {w0 w w' : World} {rs : List Nat} (h : GrsOk w0 rs w) (hb : Bel w w') : GrsOk w0 rs w' :=
  ⟨hb.os.trans h.os, hb.tape.trans h.tape, hb.output.trans h.output, Nat.le_trans h.size hb.size, fun k hk hn => (hb.block k (Nat.lt_of_lt_of_le hk h.size)).trans (h.block k hk hn)⟩
/-- the function value by which lines are compared -/
def lessV : Value := .func (.func 79) #[] #[]
set_option maxRecDepth 100000 in
set_option maxHeartbeats 4000000 in
theorem insR_any (b C len cap a t : Nat) (d : Nat → Ln) (w : World) (h : RowAt w b 72 (rowL d C)) (hl : len ≤ C) (hC : C ≤ 4000) (h1 : a ≤ t) (h2 : t ≤ len) :
    Calls Try.prog 107 #[.slice (some ⟨b, 0, none⟩) len cap, .int .i64 a, .int .i64 t, .func (.func 79) #[] #[]] w fun e w' => e = .returned (.tuple #[]) ∧ GrsOk w [b] w' ∧ ∃ e, RowAt w' b 72 (rowL e C) ∧ Sam d e a t ∧ Srt leL e a t := by
  have H := Lib.hid h
  clear h
  have wi : ∀ x : Nat, x ≤ 5000 → IntKind.i64.wrap (x : Int) = x := fun x hx => IntWalk.i64_in _ (by omega)
  have k1 : IntKind.i64.wrap ((a : Int) + 1) = ((a + 1 : Nat) : Int) := wi (a + 1) (by omega)
  go_enter Try.func107, Try.ntmps107
  go_wp2
  clear k1
  go_loopw [8] (fun s8 wq => ∃ (i : Nat) (z : Grs w [b]) (e : Nat → Ln), a < i ∧ i ≤ len + 1 ∧ s8 = .int .i64 i ∧ wq = z.w ∧ RowAt z.w b 72 (rowL e C) ∧ Sam d e a t ∧ Srt leL e a (min i t)) (fun s8 _ => len + 1 - (intOf s8).toNat)
  case atStart => exact ⟨a + 1, ⟨w, grs_refl w _⟩, d, by omega, by omega, by go_num, rfl, H.out, Sam.refl _ _ _, srt_one leL_refl _ _ _ (by omega)⟩
  case round =>
    obtain ⟨i, z, e, hi0, hi, rfl, rfl, hz, hs, ho⟩ := hrel
    have HZ := Lib.hid hz
    have HS := Lib.hid hs
    have HO := Lib.hid ho
    clear hz hs ho
    by_cases hlt : i < t
    · have hdl : decide ((i : Int) < (t : Int)) = true := by simp; omega
      have hi2 : IntKind.i64.wrap ((i : Int) + 1) = ((i + 1 : Nat) : Int) := wi (i + 1) (by omega)
      go_wp2
      go_loopw [9] (fun s9 wq => ∃ (j : Nat) (y : Grs w [b]), a ≤ j ∧ j ≤ i ∧ s9 = .int .i64 j ∧ wq = y.w ∧ RowAt y.w b 72 (rowL (insD e i j) C) ∧ (j < i → leL (e i) (e j))) (fun s9 _ => (intOf s9).toNat)
      case atStart => exact ⟨i, z, by omega, Nat.le_refl _, rfl, rfl, by rw [insD_self]; exact HZ.out, fun h => absurd h (Nat.lt_irrefl _)⟩
      case round =>
        obtain ⟨j, y0, hj1, hj2, rfl, rfl, hr, hu⟩ := hrel
        have HR := Lib.hid hr
        have HU := Lib.hid hu
        clear hu
        by_cases hja : a < j
        · have hd2 : decide ((a : Int) < (j : Int)) = true := by simp; omega
          have hw1 : IntKind.i64.wrap ((j : Int) - 1) = ((j - 1 : Nat) : Int) := by rw [show (j : Int) - 1 = ((j - 1 : Nat) : Int) by omega]; exact wi _ (by omega)
          have hL1 : (j : Int) < (len : Int) := by omega
          have hL2 : ((j - 1 : Nat) : Int) < (len : Int) := by omega
          have hC1 : j < C := by omega
          have hC2 : j - 1 < C := by omega
          have e1 : insD e i j j = e i := by unfold insD; rw [if_neg (by omega), if_pos rfl]
          have e2 : insD e i j (j - 1) = e (j - 1) := by unfold insD; rw [if_pos (by omega)]
          obtain ⟨x0, x1, x2, x3, x4, x5, x6, x7⟩ := row_line hr hC1
          obtain ⟨y0', y1', y2', y3', y4', y5', y6', y7'⟩ := row_line hr hC2
          rw [e1] at x0 x1 x2 x3 x4 x5 x6 x7
          rw [e2] at y0' y1' y2' y3' y4' y5' y6' y7'
          have HLS := Lib.hid (fun W => less_at (e i) (e (j - 1)) W)
          have HE1 := Lib.hid e1
          have HE2 := Lib.hid e2
          have hbl := hr.lt
          clear e1 e2 hr
          have hjk : j ≠ j - 1 := by omega
          generalize hk : j - 1 = k at *
          have HK := Lib.hid hk
          clear hk
          generalize hX : e i = X at *
          generalize hY : e k = Y at *
          have HX := Lib.hid hX
          have HY := Lib.hid hY
          clear hX hY
          go_upto_region 4 with (fail)
          by_cases hlss : cmpL X Y < 0
          · have hd3 : decide (cmpL X Y < 0) = true := by simp [hlss]
            (refine wp_region_ext (wb := y0.w) (by (repeat (first | exact Ext.bel _ | exact Bel.refl | refine Bel.alloc ?_ _ | refine Bel.drew ?_ | refine Bel.drewN ?_ _))) (by kernel_rfl) (by kernel_rfl) ?_; (repeat (any_goals (first | go_big_quiet_step ((go_at_call 79; with_reducible exact ext_call (HLS.out _))) | quiet_step ((go_at_call 79; with_reducible exact ext_call (HLS.out _))) | (refine wpQuiet_step (fun K hK => ?_); go_simp; split <;> (refine hK _ ?_; clear hK K))))); all_goals (refine wpQuiet_nil ?_; intro _ hw'; obtain ⟨y, hw''⟩ := hw'; subst hw''))
            have hr1 := HR.out.bel y.bel
            have HR1 := Lib.hid hr1
            have HG1 := Lib.hid (grs_bel y0.2 y.bel)
            clear hbl HR x0 x1 x2 x3 x4 x5 x6 x7 y0' y1' y2' y3' y4' y5' y6' y7' HLS
            generalize y.w = W at *
            obtain ⟨x0, x1, x2, x3, x4, x5, x6, x7⟩ := row_line hr1 hC1
            obtain ⟨y0', y1', y2', y3', y4', y5', y6', y7'⟩ := row_line hr1 hC2
            rw [HE1.out] at x0 x1 x2 x3 x4 x5 x6 x7
            rw [HE2.out] at y0' y1' y2' y3' y4' y5' y6' y7'
            have fz := fun k => hr1.frozen k
            clear hr1
            go_upto_region 6 with (fail)
            have HSW : Hid (swp (insD e i j) j k = insD e i k) := Lib.hid (by
              have := insD_step e (i := i) (j := k) (by have := HK.out; omega)
              rwa [show k + 1 = j by have := HK.out; omega] at this)
            go_region
            have hr : RowAt (setL (setL W b (j * 8) Y) b (k * 8) X) b 72 (rowL (insD e i k) C) := by
              have := row_put (row_put HR1.out hC1 (insD e i j k)) hC2 (insD e i j j)
              rwa [putL_swp, HSW.out, HE1.out, HE2.out] at this
            have hg : GrsOk w [b] (setL (setL W b (j * 8) Y) b (k * 8) X) := grs_setL (grs_setL HG1.out (by simp) _ _) (by simp) _ _
            unfold setL at hr hg
            generalize World.setCell (World.setCell _ _ _) _ _ = W9 at *
            have HR9 := Lib.hid hr
            have HG9 := Lib.hid hg
            have HL9 : Hid (leL X (e k)) := Lib.hid (by rw [HY.out]; exact leL_of_lt hlss)
            clear hr hg x0 x1 x2 x3 x4 x5 x6 x7 y0' y1' y2' y3' y4' y5' y6' y7' fz hlss
            go_wp2
            go_roundw
            case rel => exact ⟨k, ⟨_, grs_drewN HG9.out 1⟩, by have := HK.out; omega, by have := HK.out; omega, by go_num, rfl, HR9.out, fun _ => HL9.out⟩
            case measure => have := HK.out; simp [intOf]; omega
          · have hd3 : decide (cmpL X Y < 0) = false := by simp [hlss]
            (refine wp_region_ext (wb := y0.w) (by (repeat (first | exact Ext.bel _ | exact Bel.refl | refine Bel.alloc ?_ _ | refine Bel.drew ?_ | refine Bel.drewN ?_ _))) (by kernel_rfl) (by kernel_rfl) ?_; (repeat (any_goals (first | go_big_quiet_step ((go_at_call 79; with_reducible exact ext_call (HLS.out _))) | quiet_step ((go_at_call 79; with_reducible exact ext_call (HLS.out _))) | (refine wpQuiet_step (fun K hK => ?_); go_simp; split <;> (refine hK _ ?_; clear hK K))))); all_goals (refine wpQuiet_nil ?_; intro _ hw'; obtain ⟨y, hw''⟩ := hw'; subst hw''))
            have HR1 := Lib.hid (HR.out.bel y.bel)
            have HG1 := Lib.hid (grs_bel y0.2 y.bel)
            have HD : Hid (Sam d (insD e i j) a t ∧ Srt leL (insD e i j) a (i + 1)) := Lib.hid ⟨HS.out.trans ((sam_insD e hj2).wide hj1 (by omega)), srt_insD leL_trans leL_refl (HO.out.part (Nat.le_refl _) (by omega)) hj1 hj2 (fun _ => by rw [HK.out, HX.out, HY.out]; exact leL_of_nlt hlss) (fun h => by rw [HX.out]; exact HU.out h)⟩
            clear hbl HR x0 x1 x2 x3 x4 x5 x6 x7 y0' y1' y2' y3' y4' y5' y6' y7' HLS hlss
            go_wp2
            go_roundw
            case rel => exact ⟨i + 1, ⟨_, HG1.out⟩, _, by omega, by omega, by go_num, rfl, HR1.out, HD.out.1, HD.out.2.part (Nat.le_refl _) (by omega)⟩
            case measure => simp [intOf]; omega
        · have hd2 : decide ((a : Int) < (j : Int)) = false := by simp; omega
          obtain rfl : j = a := by omega
          have HD : Hid (Sam d (insD e i j) j t ∧ Srt leL (insD e i j) j (i + 1)) := Lib.hid ⟨HS.out.trans ((sam_insD e hj2).wide hj1 (by omega)), srt_insD leL_trans leL_refl (HO.out.part (Nat.le_refl _) (by omega)) hj1 hj2 (fun h => absurd h (Nat.lt_irrefl _)) HU.out⟩
          clear hr
          go_upto_region 4 with (fail)
          (refine wp_region_ext (wb := y0.w) (by (repeat (first | exact Ext.bel _ | exact Bel.refl | refine Bel.alloc ?_ _ | refine Bel.drew ?_ | refine Bel.drewN ?_ _))) (by kernel_rfl) (by kernel_rfl) ?_; (repeat (any_goals (first | go_big_quiet_step (fail) | quiet_step (fail) | (refine wpQuiet_step (fun K hK => ?_); go_simp; split <;> (refine hK _ ?_; clear hK K))))); all_goals (refine wpQuiet_nil ?_; intro _ hw'; obtain ⟨y, hw''⟩ := hw'; subst hw''))
          have HR1 := Lib.hid (HR.out.bel y.bel)
          have HG1 := Lib.hid (grs_bel y0.2 y.bel)
          go_wp2
          go_roundw
          case rel => exact ⟨i + 1, ⟨_, HG1.out⟩, _, by omega, by omega, by go_num, rfl, HR1.out, HD.out.1, HD.out.2.part (Nat.le_refl _) (by omega)⟩
          case measure => simp [intOf]; omega
    · have hdl : decide ((i : Int) < (t : Int)) = false := by simp; omega
      go_wp2
      go_end0
      exact ⟨rfl, z.2, e, HZ.out, HS.out, HO.out.part (Nat.le_refl _) (by omega)⟩
end Go.Proofs.Ytalphoebmefgoaa
/- poly: slices.CompactFunc over lines: the walk (UNDER WAY). -/
namespace Go.Proofs.Ytalphoebmefgoaa
open Go.RowKit
def CptPost (b C cap n : Nat) (d : Nat → Ln) (w : World) (e : Ending) (w' : World) : Prop :=
  e = .returned (.slice (some ⟨b, 0, none⟩) (kept d n).length cap) ∧ GrsOk w [b] w' ∧ ∃ xs, RowAt w' b 72 xs ∧ xs.length = C * 8 ∧ ∀ k, k < (kept d n).length → ∀ j, j < 8 → xs[k * 8 + j]? = some (((kept d n).getD k zeroLn).c j)
theorem cpt_row {e : Nat → Ln} {C : Nat} {l : List Ln} (hl : l.length ≤ C) (he : ∀ k, k < l.length → e k = l.getD k zeroLn) : ∀ k, k < l.length → ∀ j, j < 8 → (rowL e C)[k * 8 + j]? = some ((l.getD k zeroLn).c j) := fun k hk j hj => by
  rw [rowL_get e (by omega), show (k * 8 + j) / 8 = k by omega, show (k * 8 + j) % 8 = j by omega, he k hk]
theorem kept_get {d : Nat → Ln} {n : Nat} (h : kept d n = (List.range n).map d) : (kept d n).length = n ∧ ∀ k, k < (kept d n).length → d k = (kept d n).getD k zeroLn := by
  rw [h]
  refine ⟨by simp, fun k hk => ?_⟩
  have hk2 : k < n := by simpa using hk
  simp [List.getD_eq_getElem?_getD, List.getElem?_range hk2]
set_option maxRecDepth 100000 in
set_option maxHeartbeats 4000000 in
theorem compact_any (b C n cap : Nat) (d : Nat → Ln) (w : World) (h : RowAt w b 72 (rowL d C)) (hl : n ≤ C) (hcp : n ≤ cap) (hC : C ≤ 4000) :
    Calls Try.prog 82 #[.slice (some ⟨b, 0, none⟩) n cap, .func (.func 83) #[] #[]] w (CptPost b C cap n d w) := by
  have H := Lib.hid h
  clear h
  go_enter Try.func82, Try.ntmps82
  by_cases h2 : n < 2
  · have hd : decide ((n : Int) < 2) = true := by simp; omega
    have HK := Lib.hid (kept_get (d := d) (n := n) (kept_all (fun j h1 h3 => by omega)))
    go_wp2
    go_ret
    exact ⟨by rw [HK.out.1]; rfl, grs_refl _ _, _, H.out, rowL_len _ _, cpt_row (by rw [HK.out.1]; exact hl) HK.out.2⟩
  · have hd : decide ((n : Int) < 2) = false := by simp; omega
    go_wp2
    go_loopw [5] (fun s5 wq => ∃ (i : Nat) (y : Ext w), 1 ≤ i ∧ i ≤ n ∧ s5 = .int .i64 i ∧ wq = y.w ∧ ∀ j, 0 < j → j < i → (d j).a ≠ (d (j - 1)).a) (fun s5 _ => n - (intOf s5).toNat)
    case atStart => exact ⟨1, ⟨w, Bel.refl⟩, Nat.le_refl _, by omega, rfl, rfl, fun j h1 h3 => by omega⟩
    case round =>
      obtain ⟨i, y0, hi1, hi2, rfl, rfl, hne⟩ := hrel
      have HNE := Lib.hid hne
      clear hne
      by_cases hlt : i < n
      · have hd2 : decide ((i : Int) < (n : Int)) = true := by simp; omega
        have hw1 : IntKind.i64.wrap ((i : Int) - 1) = ((i - 1 : Nat) : Int) := by rw [show (i : Int) - 1 = ((i - 1 : Nat) : Int) by omega]; exact IntWalk.i64_in _ (by omega)
        have hw2 : IntKind.i64.wrap ((i : Int) + 1) = ((i + 1 : Nat) : Int) := by rw [show (i : Int) + 1 = ((i + 1 : Nat) : Int) by omega]; exact IntWalk.i64_in _ (by omega)
        have hL1 : (i : Int) < (n : Int) := by omega
        have hL2 : ((i - 1 : Nat) : Int) < (n : Int) := by omega
        have hr := H.out.bel y0.bel
        have hbl := hr.lt
        obtain ⟨x0, x1, x2, x3, x4, x5, x6, x7⟩ := row_line hr (show i < C by omega)
        obtain ⟨y0', y1', y2', y3', y4', y5', y6', y7'⟩ := row_line hr (show i - 1 < C by omega)
        have HSM := Lib.hid (fun W => same_any (d i) (d (i - 1)) W)
        clear hr
        have hik : i ≠ i - 1 := by omega
        obtain ⟨i1, hi1e⟩ : ∃ i1, i1 = i - 1 := ⟨_, rfl⟩
        rw [← hi1e] at hw1 hL2 y0' y1' y2' y3' y4' y5' y6' y7' HSM hik
        have HI1 := Lib.hid hi1e
        clear hi1e
        generalize hX : d i = X at *
        generalize hY : d i1 = Y at *
        have HX := Lib.hid hX
        have HY := Lib.hid hY
        clear hX hY
        go_upto_region 6 with (fail)
        obtain ⟨r, hr⟩ : ∃ r, decide (X.a = Y.a) = r := ⟨_, rfl⟩
        rw [hr] at HSM
        cases r
        rotate_left
        · have heq : X.a = Y.a := of_decide_eq_true hr
          clear hr
          (refine wp_region_ext (wb := y0.w) (by (repeat (first | exact Ext.bel _ | exact Bel.refl | refine Bel.alloc ?_ _ | refine Bel.drew ?_ | refine Bel.drewN ?_ _))) (by kernel_rfl) (by kernel_rfl) ?_; (repeat (any_goals (first | go_big_quiet_step ((go_at_call 83; with_reducible exact ext_call (HSM.out _))) | quiet_step ((go_at_call 83; with_reducible exact ext_call (HSM.out _))) | (refine wpQuiet_step (fun K hK => ?_); go_simp; split <;> (refine hK _ ?_; clear hK K))))); all_goals (refine wpQuiet_nil ?_; intro _ hw'; obtain ⟨y, hw''⟩ := hw'; subst hw''))
          have HB1 := Lib.hid (y0.bel.trans y.bel)
          have HR1 := Lib.hid (H.out.bel HB1.out)
          have HG1 := Lib.hid (grs_bel (grs_refl w [b]) HB1.out)
          have HK := Lib.hid (kept_get (d := d) (n := i) (kept_all HNE.out))
          have HK1 : Hid (kept d (i + 1) = kept d i) := Lib.hid (by rw [kept, if_pos ⟨by omega, by rw [← HI1.out, HX.out, HY.out]; exact heq⟩])
          clear x0 x1 x2 x3 x4 x5 x6 x7 y0' y1' y2' y3' y4' y5' y6' y7' HSM heq HNE hbl hd2 hw1 hw2 hL2 HI1 HX HY hik
          generalize y.w = W1 at *
          go_wp2
          go_loopw [5, 7] (fun s5 s7 wq => ∃ (k t : Nat) (z : Grs w [b]) (e : Nat → Ln), 1 ≤ t ∧ i + t ≤ n ∧ k + 1 ≤ i + t ∧ i ≤ k ∧ s5 = .int .i64 k ∧ s7 = .int .i64 t ∧ wq = z.w ∧ RowAt z.w b 72 (rowL e C) ∧ (kept d (i + t)).length = k ∧ (∀ j, j < k → e j = (kept d (i + t)).getD j zeroLn) ∧ ∀ j, i + t ≤ j + 1 → e j = d j) (fun s5 s7 _ => n + 1 - (intOf s7).toNat)
          case atStart => exact ⟨i, 1, ⟨_, HG1.out⟩, d, by omega, by omega, by omega, by omega, rfl, rfl, rfl, HR1.out, by rw [HK1.out, HK.out.1], fun j hj => by rw [HK1.out]; exact HK.out.2 j (by rw [HK.out.1]; exact hj), fun j _ => rfl⟩
          case round =>
            obtain ⟨k, t, z, e, ht1, ht2, hk1, hk2, rfl, rfl, rfl, hz, hkl, hke, hed⟩ := hrel
            have HZ := Lib.hid hz
            have HKE := Lib.hid (And.intro hkl (And.intro hke hed))
            clear hkl hke hed
            have hbl := hz.lt
            have hLk : (k : Int) < (n : Int) := by omega
            have wkp : IntKind.i64.wrap ((k : Int) + 1) = ((k + 1 : Nat) : Int) := IntWalk.i64_in _ (by omega)
            by_cases hlt2 : t < n - i
            · have hd3 : decide ((t : Int) < ((n - i : Nat) : Int)) = true := by simp; omega
              obtain ⟨t1, ht1e⟩ : ∃ t1, t1 = t - 1 := ⟨_, rfl⟩
              have wt1 : IntKind.i64.wrap ((t : Int) - 1) = ((t1 : Nat) : Int) := by rw [show (t : Int) - 1 = ((t1 : Nat) : Int) by omega]; exact IntWalk.i64_in _ (by omega)
              have wt2 : IntKind.i64.wrap ((t : Int) + 1) = ((t + 1 : Nat) : Int) := IntWalk.i64_in _ (by omega)
              have hL3 : (t : Int) < ((n - i : Nat) : Int) := by omega
              have hL4 : (t1 : Int) < ((n - i : Nat) : Int) := by omega
              have HT1 := Lib.hid ht1e
              have lt_ : LnC z.w b (i * 8 + t * 8) (d (i + t)) := by rw [← Nat.add_mul, ← HKE.out.2.2 (i + t) (by omega)]; exact row_line hz (by omega)
              have lt1_ : LnC z.w b (i * 8 + t1 * 8) (d (i + t1)) := by rw [← Nat.add_mul, ← HKE.out.2.2 (i + t1) (by omega)]; exact row_line hz (by omega)
              have HLT := Lib.hid lt_
              clear hz ht1e
              generalize hX : d (i + t) = X at *
              generalize hY : d (i + t1) = Y at *
              have HX := Lib.hid hX
              have HY := Lib.hid hY
              clear hX hY
              have HSM := Lib.hid (fun W => same_any X Y W)
              obtain ⟨x0, x1, x2, x3, x4, x5, x6, x7⟩ := lt_
              obtain ⟨y0', y1', y2', y3', y4', y5', y6', y7'⟩ := lt1_
              go_upto_region 11 with (fail)
              obtain ⟨r, hr⟩ : ∃ r, decide (X.a = Y.a) = r := ⟨_, rfl⟩
              rw [hr] at HSM
              cases r
              rotate_left
              · have heq2 : X.a = Y.a := of_decide_eq_true hr
                clear hr
                (refine wp_region_ext (wb := z.w) (by (repeat (first | exact Ext.bel _ | exact Bel.refl | refine Bel.alloc ?_ _ | refine Bel.drew ?_ | refine Bel.drewN ?_ _))) (by kernel_rfl) (by kernel_rfl) ?_; (repeat (any_goals (first | go_big_quiet_step ((go_at_call 83; with_reducible exact ext_call (HSM.out _))) | quiet_step ((go_at_call 83; with_reducible exact ext_call (HSM.out _))) | (refine wpQuiet_step (fun K hK => ?_); go_simp; split <;> (refine hK _ ?_; clear hK K))))); all_goals (refine wpQuiet_nil ?_; intro _ hw'; obtain ⟨y, hw''⟩ := hw'; subst hw''))
                have HR2 := Lib.hid (HZ.out.bel y.bel)
                have HG2 := Lib.hid (grs_bel z.2 y.bel)
                have HK2 : Hid (kept d (i + (t + 1)) = kept d (i + t)) := Lib.hid (by rw [show i + (t + 1) = (i + t) + 1 by omega, kept, if_pos ⟨by omega, by rw [show i + t - 1 = i + t1 by have := HT1.out; omega, HX.out, HY.out]; exact heq2⟩])
                clear x0 x1 x2 x3 x4 x5 x6 x7 y0' y1' y2' y3' y4' y5' y6' y7' HSM heq2 hbl HLT HX HY HT1 wt1 hL4 HZ wkp
                go_wp2
                go_roundw
                case rel => exact ⟨k, t + 1, ⟨_, HG2.out⟩, e, by omega, by omega, by omega, hk2, rfl, by go_num, rfl, HR2.out, by rw [HK2.out]; exact HKE.out.1, fun j hj => by rw [HK2.out]; exact HKE.out.2.1 j hj, fun j hj => HKE.out.2.2 j (by omega)⟩
                case measure => simp [intOf]; omega
              · have heq2 : X.a ≠ Y.a := of_decide_eq_false hr
                clear hr
                (refine wp_region_ext (wb := z.w) (by (repeat (first | exact Ext.bel _ | exact Bel.refl | refine Bel.alloc ?_ _ | refine Bel.drew ?_ | refine Bel.drewN ?_ _))) (by kernel_rfl) (by kernel_rfl) ?_; (repeat (any_goals (first | go_big_quiet_step ((go_at_call 83; with_reducible exact ext_call (HSM.out _))) | quiet_step ((go_at_call 83; with_reducible exact ext_call (HSM.out _))) | (refine wpQuiet_step (fun K hK => ?_); go_simp; split <;> (refine hK _ ?_; clear hK K))))); all_goals (refine wpQuiet_nil ?_; intro _ hw'; obtain ⟨y, hw''⟩ := hw'; subst hw''))
                have HR2 := Lib.hid (HZ.out.bel y.bel)
                have HG2 := Lib.hid (grs_bel z.2 y.bel)
                have HK2 : Hid (kept d (i + (t + 1)) = kept d (i + t) ++ [X]) := Lib.hid (by rw [show i + (t + 1) = (i + t) + 1 by omega, kept, if_neg (fun hc => heq2 (by have := hc.2; rwa [show i + t - 1 = i + t1 by have := HT1.out; omega, HX.out, HY.out] at this))]; rw [HX.out])
                clear x0 x1 x2 x3 x4 x5 x6 x7 y0' y1' y2' y3' y4' y5' y6' y7' HSM heq2 hbl HY HT1 wt1 hL4 HZ
                generalize y.w = W2 at *
                have lt_ : LnC W2 b (i * 8 + t * 8) X := by
                  have := row_line HR2.out (show i + t < C by omega)
                  rw [HKE.out.2.2 (i + t) (by omega), HX.out, Nat.add_mul] at this; exact this
                obtain ⟨x0, x1, x2, x3, x4, x5, x6, x7⟩ := lt_
                have fz := fun q => HR2.out.frozen q
                have hbl := HR2.out.lt
                obtain ⟨z0, z1, z2, z3, z4, z5, z6, z7⟩ := row_line HR2.out (show k < C by omega)
                go_upto_region 13 with (fail)
                have hr : RowAt (setL W2 b (k * 8) X) b 72 (rowL (putL e k X) C) := row_put HR2.out (by omega) X
                have hg : GrsOk w [b] (setL W2 b (k * 8) X) := grs_setL HG2.out (by simp) _ _
                unfold setL at hr hg
                generalize World.setCell (World.setCell _ _ _) _ _ = W9 at *
                have HR9 := Lib.hid hr
                have HG9 := Lib.hid hg
                clear hr hg x0 x1 x2 x3 x4 x5 x6 x7 z0 z1 z2 z3 z4 z5 z6 z7 fz hbl HR2 HG2 HLT
                go_wp2
                go_roundw
                case rel => exact ⟨k + 1, t + 1, ⟨_, HG9.out⟩, putL e k X, by omega, by omega, by omega, by omega, by go_num, by go_num, rfl, HR9.out, by rw [HK2.out, List.length_append, HKE.out.1]; rfl, fun j hj => by
                    rw [HK2.out]; unfold putL
                    by_cases hjk : j = k
                    · rw [if_pos hjk, hjk, List.getD_eq_getElem?_getD, List.getElem?_append_right (by rw [HKE.out.1]; exact Nat.le_refl _), HKE.out.1, Nat.sub_self]; rfl
                    · rw [if_neg hjk, HKE.out.2.1 j (by omega), List.getD_eq_getElem?_getD, List.getD_eq_getElem?_getD, List.getElem?_append_left (by rw [HKE.out.1]; omega)], fun j hj => by
                    unfold putL
                    rw [if_neg (by omega)]; exact HKE.out.2.2 j (by omega)⟩
                case measure => simp [intOf]; omega
            · obtain rfl : n = i + t := by omega
              have hd3 : decide ((t : Int) < ((i + t - i : Nat) : Int)) = false := by simp
              have hck : cap ≠ k := by omega
              have hkn : ¬ (i + t < k) := by omega
              obtain ⟨vs, hcl⟩ := clear_lines (i := k) (m := i + t - k) (c := cap - k) hz (by omega) (by omega)
              obtain ⟨ys, hr, hyl, hyk⟩ := row_setCells vs (k * 8) hz
              have HG9 : Hid (GrsOk w [b] (z.w.setCells b (k * 8) vs)) := Lib.hid (grs_setCells (rs := [b]) (b := b) (by simp) vs (k * 8) z.2)
              have HR9 := Lib.hid hr
              have HY9 : Hid (∀ q, q < k → ∀ j, j < 8 → ys[q * 8 + j]? = some (((kept d (i + t)).getD q zeroLn).c j)) := Lib.hid (fun q hq j hj => by
                rw [hyk _ (by omega), rowL_get e (by omega), show (q * 8 + j) / 8 = q by omega, show (q * 8 + j) % 8 = j by omega, HKE.out.2.1 q hq])
              have HYL := Lib.hid hyl
              clear hr hyl hyk hbl hz
              generalize hU : z.w.setCells b (k * 8) vs = U at *
              clear hU
              go_wp2
              go_ret
              exact ⟨by rw [HKE.out.1]; rfl, HG9.out, ys, HR9.out, by rw [HYL.out, rowL_len], by rw [HKE.out.1]; exact HY9.out⟩
        · have heq : X.a ≠ Y.a := of_decide_eq_false hr
          clear hr
          (refine wp_region_ext (wb := y0.w) (by (repeat (first | exact Ext.bel _ | exact Bel.refl | refine Bel.alloc ?_ _ | refine Bel.drew ?_ | refine Bel.drewN ?_ _))) (by kernel_rfl) (by kernel_rfl) ?_; (repeat (any_goals (first | go_big_quiet_step ((go_at_call 83; with_reducible exact ext_call (HSM.out _))) | quiet_step ((go_at_call 83; with_reducible exact ext_call (HSM.out _))) | (refine wpQuiet_step (fun K hK => ?_); go_simp; split <;> (refine hK _ ?_; clear hK K))))); all_goals (refine wpQuiet_nil ?_; intro _ hw'; obtain ⟨y, hw''⟩ := hw'; subst hw''))
          have HB1 := Lib.hid (y0.bel.trans y.bel)
          have HN1 : Hid (∀ j, 0 < j → j < i + 1 → (d j).a ≠ (d (j - 1)).a) := Lib.hid (fun j h1 h3 => by
            rcases Nat.lt_or_ge j i with g | g
            · exact HNE.out j h1 g
            · obtain rfl : j = i := by omega
              rw [← HI1.out, HX.out, HY.out]; exact heq)
          clear x0 x1 x2 x3 x4 x5 x6 x7 y0' y1' y2' y3' y4' y5' y6' y7' HSM heq HNE
          go_wp2
          go_roundw
          case rel => exact ⟨i + 1, ⟨_, HB1.out⟩, by omega, by omega, by go_num, rfl, HN1.out⟩
          case measure => simp [intOf]; omega
      · obtain rfl : i = n := by omega
        have hd2 : decide ((i : Int) < (i : Int)) = false := by simp
        have HK := Lib.hid (kept_get (d := d) (n := i) (kept_all HNE.out))
        have HR := Lib.hid (H.out.bel y0.bel)
        have HG := Lib.hid (grs_bel (grs_refl w [b]) y0.bel)
        go_wp2
        go_ret
        exact ⟨by rw [HK.out.1]; rfl, HG.out, _, HR.out, rowL_len _ _, cpt_row (by rw [HK.out.1]; exact hl) HK.out.2⟩
end Go.Proofs.Ytalphoebmefgoaa
/- poly: the greatest common divisor, of the program and of the reference. -/
namespace Go.Proofs.Ytalphoebmefgoaa
open Go.RowKit
theorem gcd_step (a b : Int) : Int.gcd b (a.tmod b) = Int.gcd a b := by
  unfold Int.gcd
  rw [Int.natAbs_tmod, Nat.gcd_comm a.natAbs, Nat.gcd_rec b.natAbs a.natAbs, Nat.gcd_comm]
theorem tmod_bound (a b : Int) (hb : b ≠ 0) : (a.tmod b).natAbs < b.natAbs := by
  rw [Int.natAbs_tmod]; exact Nat.mod_lt _ (Int.natAbs_pos.mpr hb)
set_option maxHeartbeats 2000000 in
theorem gcdp_any (a b : Int) (w : World) (ha : a.natAbs < 9223372036854775808) (hb : b.natAbs < 9223372036854775808) :
    Calls Try.prog 71 #[.int .i64 a, .int .i64 b] w fun e w' => e = .returned (.int .i64 ((Int.gcd a b : Nat) : Int)) ∧ Bel w w' := by
  go_enter Try.func71, Try.ntmps71
  go_wp2
  go_loopw [0, 1] (fun s0 s1 wq => ∃ (x y : Int) (z : Ext w), x.natAbs < 9223372036854775808 ∧ y.natAbs < 9223372036854775808 ∧ s0 = .int .i64 x ∧ s1 = .int .i64 y ∧ wq = z.w ∧ Int.gcd x y = Int.gcd a b) (fun s0 s1 _ => (intOf s1).natAbs)
  case atStart => exact ⟨a, b, ⟨w, Bel.refl⟩, ha, hb, rfl, rfl, rfl, rfl⟩
  case round =>
    obtain ⟨x, y, z, hx, hy, rfl, rfl, rfl, hg⟩ := hrel
    have HG := Lib.hid hg
    by_cases h0 : y = 0
    · subst h0
      have hd : ((0 : Int) != 0) = false := by decide
      have HA : Hid (((Int.gcd a b : Nat) : Int) = if x < -x then -x else x) := Lib.hid (by rw [← HG.out, Int.gcd_zero_right]; split <;> omega)
      clear hg
      have hw : IntKind.i64.wrap (-x) = -x := IntWalk.i64_in _ (by omega)
      by_cases hc : x < -x
      · have hc2 : decide (x < -x) = true := by simp; omega
        have hc3 : decide (-x < x) = false := by simp; omega
        rw [if_pos hc] at HA
        go_wp2
        go_ret
        exact ⟨by rw [HA.out]; rfl, z.bel⟩
      · have hc2 : decide (x < -x) = false := by simp; omega
        rw [if_neg hc] at HA
        go_wp2
        all_goals (go_ret; exact ⟨by rw [HA.out]; first | rfl | (congr 2; omega), z.bel⟩)
    · have hd : (y != 0) = true := by simp [h0]
      have hd0 : (y == 0) = false := by simp [h0]
      have hlt := tmod_bound x y h0
      have hw : IntKind.i64.wrap (x.tmod y) = x.tmod y := IntWalk.i64_in _ (by omega)
      have HS := Lib.hid (gcd_step x y)
      clear hg
      go_upto_region 2 with (fail)
      go_region
      go_wp2
      go_roundw
      case rel => exact ⟨y, x.tmod y, ⟨_, z.bel.drew⟩, hy, by omega, rfl, rfl, rfl, HS.out.trans HG.out⟩
      case measure => simpa [intOf] using hlt
end Go.Proofs.Ytalphoebmefgoaa
/- poly: a line in lowest terms. -/
namespace Go.Proofs.Ytalphoebmefgoaa
open Go.RowKit
/-- the greatest common divisor of b and the first k coefficients -/
def gk (x : Ln) (k : Nat) : Nat := (x.a.take k).foldl (fun g c => Int.gcd (g : Int) c) (Int.gcd 0 x.b)
/-- a line whose first k coefficients are divided by g -/
def dk (x : Ln) (g : Int) (k : Nat) : Ln :=
  ⟨if 0 < k then x.a0.tdiv g else x.a0, if 1 < k then x.a1.tdiv g else x.a1, if 2 < k then x.a2.tdiv g else x.a2, if 3 < k then x.a3.tdiv g else x.a3, if 4 < k then x.a4.tdiv g else x.a4, if 5 < k then x.a5.tdiv g else x.a5, x.b, x.s⟩
def lowL (x : Ln) : Ln := if 1 < gk x 6 then { dk x (gk x 6) 6 with b := x.b.tdiv (gk x 6) } else x
def Ln.cells (x : Ln) : List Value := [.int .i64 x.a0, .int .i64 x.a1, .int .i64 x.a2, .int .i64 x.a3, .int .i64 x.a4, .int .i64 x.a5, .int .i64 x.b, .bool x.s]
/-- numbers of a machine word, but the least -/
def Ln.wf (x : Ln) : Prop := ∀ c, c ∈ x.a ++ [x.b] → c.natAbs < 9223372036854775808
theorem gcd_lt (a b : Int) (ha : a.natAbs < 9223372036854775808) (hb : b.natAbs < 9223372036854775808) : Int.gcd a b < 9223372036854775808 := by
  unfold Int.gcd
  rcases Nat.eq_zero_or_pos a.natAbs with h | h
  · rw [h, Nat.gcd_zero_left]; exact hb
  · exact Nat.lt_of_le_of_lt (Nat.gcd_le_left _ h) ha
theorem gk_lt (x : Ln) (h : x.wf) : ∀ k, gk x k < 9223372036854775808 := by
  have : ∀ (l : List Int) (g : Nat), g < 9223372036854775808 → (∀ c ∈ l, c.natAbs < 9223372036854775808) → l.foldl (fun (g : Nat) c => Int.gcd (g : Int) c) g < 9223372036854775808 := by
    intro l
    induction l with
    | nil => intro g hg _; exact hg
    | cons c l ih => intro g hg hl; exact ih _ (gcd_lt _ _ (by simpa using hg) (hl c (by simp))) (fun c hc => hl c (by simp [hc]))
  intro k
  exact this _ _ (gcd_lt _ _ (by decide) (h _ (by simp))) (fun c hc => h c (by simp [List.mem_of_mem_take hc]))
set_option maxRecDepth 100000 in
set_option maxHeartbeats 4000000 in
theorem lowest_any (x : Ln) (w : World) (hx : x.wf) : Calls Try.prog 72 #[.agg #[.int .i64 x.a0, .int .i64 x.a1, .int .i64 x.a2, .int .i64 x.a3, .int .i64 x.a4, .int .i64 x.a5, .int .i64 x.b, .bool x.s]] w fun e w' => e = .returned (lowL x).V ∧ Bel w w' := by
  have HX := Lib.hid hx
  have HGL := Lib.hid (gk_lt x hx)
  clear hx
  go_enter Try.func72, Try.ntmps72
  go_upto_region 1 with (fail)
  generalize hW : World.alloc (World.alloc w _) _ = w1 at *
  have hb : Bel w w1 := by rw [← hW]; exact (Bel.refl.alloc _).alloc _
  have r1 : RowAt w1 w.heap.size 72 [.int .i64 x.a0, .int .i64 x.a1, .int .i64 x.a2, .int .i64 x.a3, .int .i64 x.a4, .int .i64 x.a5, .int .i64 x.b, .bool x.s] := by rw [← hW]; exact (RowAt.new _ _ _).alloc _
  have r2 : RowAt w1 (w.heap.size + 1) 72 [.int .i64 0, .int .i64 0, .int .i64 0, .int .i64 0, .int .i64 0, .int .i64 0, .int .i64 0, .bool false] := by
    rw [← hW, ← size_alV w (.cells #[.int .i64 x.a0, .int .i64 x.a1, .int .i64 x.a2, .int .i64 x.a3, .int .i64 x.a4, .int .i64 x.a5, .int .i64 x.b, .bool x.s] 72)]; exact RowAt.new _ _ _
  clear hW
  have HB := Lib.hid hb
  have HR1 := Lib.hid r1
  have HR2 := Lib.hid r2
  have hbs1 : w.heap.size ≤ w.heap.size := Nat.le_refl _
  obtain ⟨b2, hb2⟩ : ∃ b2, b2 = w.heap.size + 1 := ⟨_, rfl⟩
  rw [← hb2] at r2 HR2 ⊢
  obtain ⟨b1, hb1⟩ : ∃ b1, b1 = w.heap.size := ⟨_, rfl⟩
  rw [← hb1] at r1 HR1 ⊢
  have HN : Hid (w.heap.size ≤ b1 ∧ w.heap.size ≤ b2 ∧ b1 ≠ b2) := Lib.hid (by omega)
  clear hb hb1 hb2 hbs1 r2
  have x0 := r1.cell (i := 0) rfl
  have x1 := r1.cell (i := 1) rfl
  have x2 := r1.cell (i := 2) rfl
  have x3 := r1.cell (i := 3) rfl
  have x4 := r1.cell (i := 4) rfl
  have x5 := r1.cell (i := 5) rfl
  have x6 := r1.cell (i := 6) rfl
  have x7 := r1.cell (i := 7) rfl
  have lz := r1.lt
  clear r1
  have HG0 := Lib.hid (fun W => gcdp_any 0 x.b W (by decide) (HX.out _ (by simp)))
  go_wp2_with fail
  refine (HG0.out _).mono ?_
  rintro e w2 ⟨rfl, hb2⟩
  obtain ⟨y1, rfl⟩ := ext_of hb2
  clear hb2
  go_wp2
  go_loopw [3, 12] (fun s3 s12 wq => ∃ (k : Nat) (z : Ext w1), k ≤ 6 ∧ s3 = .int .i64 (gk x k) ∧ s12 = .int .i64 k ∧ wq = z.w) (fun _ s12 _ => 6 - (intOf s12).toNat)
  case atStart => exact ⟨0, y1, by omega, by simp [gk, Int.gcd], rfl, rfl⟩
  case round =>
    obtain ⟨k, z, hk, rfl, rfl, rfl⟩ := hrel
    by_cases h6 : k < 6
    · have hd : decide ((k : Int) < 6) = true := by simp; omega
      have hkc : k = 0 ∨ k = 1 ∨ k = 2 ∨ k = 3 ∨ k = 4 ∨ k = 5 := by omega
      have hw : IntKind.i64.wrap ((k : Int) + 1) = ((k + 1 : Nat) : Int) := by rw [show (k : Int) + 1 = ((k + 1 : Nat) : Int) by omega]; exact IntWalk.i64_in _ (by omega)
      have hix : ∀ W, (Instr.index 70 (.agg #[.int .i64 x.a0, .int .i64 x.a1, .int .i64 x.a2, .int .i64 x.a3, .int .i64 x.a4, .int .i64 x.a5]) (.int .i64 k)).run Try.prog W = .ok (.int .i64 (x.a.getD k 0)) W := by
        rcases hkc with rfl | rfl | rfl | rfl | rfl | rfl <;> (intro W; kernel_rfl)
      have HGC := Lib.hid (fun W => gcdp_any (gk x k : Int) (x.a.getD k 0) W (by simpa using HGL.out k) (HX.out _ (by rcases hkc with rfl | rfl | rfl | rfl | rfl | rfl <;> simp [Ln.a])))
      have HST : Hid (((Int.gcd (gk x k : Int) (x.a.getD k 0) : Nat) : Int) = (gk x (k + 1) : Nat)) := Lib.hid (by
        rcases hkc with rfl | rfl | rfl | rfl | rfl | rfl <;> rfl)
      clear hkc
      generalize x.a.getD k 0 = c at *
      go_wp2_with fail
      refine (HGC.out _).mono ?_
      rintro e w3 ⟨rfl, hb3⟩
      have HB3 := Lib.hid (z.bel.trans hb3)
      clear hb3
      rw [HST.out]
      go_wp2
      go_roundw
      case rel => exact ⟨k + 1, ⟨_, HB3.out⟩, by omega, rfl, by go_num, rfl⟩
      case measure => simp [intOf]; omega
    · obtain rfl : k = 6 := by omega
      have hd : decide (((6 : Nat) : Int) < 6) = false := by decide
      have HR1W := Lib.hid (HR1.out.bel z.bel)
      have HR2W := Lib.hid (HR2.out.bel z.bel)
      have HBW := Lib.hid (HB.out.trans z.bel)
      clear x0 x1 x2 x3 x4 x5 x6 x7 lz HR1 HR2 HB HG0
      obtain ⟨g, hg⟩ : ∃ g, gk x 6 = g := ⟨_, rfl⟩
      have HGG := Lib.hid hg
      have hgl : g < 9223372036854775808 := by rw [← hg]; exact HGL.out 6
      rw [hg]
      clear hg hk
      generalize z.w = W at *
      by_cases h1 : 1 < g
      · have hd1 : decide ((1 : Int) < (g : Int)) = true := by simp; omega
        have hg0 : ((g : Int) == 0) = false := by simp; omega
        have HLOW : Hid (lowL x = { dk x g 6 with b := x.b.tdiv g }) := Lib.hid (by unfold lowL; rw [HGG.out, if_pos h1])
        go_wp2
        go_loopw [21] (fun s21 wq => ∃ (k : Nat) (U : World), k ≤ 6 ∧ s21 = .int .i64 k ∧ U = wq ∧ RowAt U b1 72 (dk x g k).cells ∧ RowAt U b2 72 [.int .i64 0, .int .i64 0, .int .i64 0, .int .i64 0, .int .i64 0, .int .i64 0, .int .i64 0, .bool false] ∧ Bel w U) (fun s21 _ => 6 - (intOf s21).toNat)
        case atStart => exact ⟨0, W, by omega, rfl, rfl, HR1W.out, HR2W.out, HBW.out⟩
        case round =>
          clear HR1W HR2W HBW
          obtain ⟨k, U, hk, rfl, rfl, hr1, hr2, hbu⟩ := hrel
          have HR1 := Lib.hid hr1
          have HR2 := Lib.hid hr2
          have HBU := Lib.hid hbu
          by_cases h6 : k < 6
          · have hd : decide ((k : Int) < 6) = true := by simp; omega
            have hk6 : (k : Int) < 6 := by omega
            have hkc : k = 0 ∨ k = 1 ∨ k = 2 ∨ k = 3 ∨ k = 4 ∨ k = 5 := by omega
            have hw : IntKind.i64.wrap ((k : Int) + 1) = ((k + 1 : Nat) : Int) := by rw [show (k : Int) + 1 = ((k + 1 : Nat) : Int) by omega]; exact IntWalk.i64_in _ (by omega)
            have c1 : U.cell? ⟨b1, k, none⟩ = some (.int .i64 (x.a.getD k 0)) := by
              rcases hkc with rfl | rfl | rfl | rfl | rfl | rfl <;> exact hr1.cell rfl
            have f1 := hr1.frozen k
            have l1 := hr1.lt
            have hq : ((x.a.getD k 0).tdiv (g : Int)).natAbs < 9223372036854775808 := by
              rw [Int.natAbs_tdiv]
              exact Nat.lt_of_le_of_lt (Nat.div_le_self _ _) (HX.out _ (by rcases hkc with rfl | rfl | rfl | rfl | rfl | rfl <;> simp [Ln.a]))
            have hwq : IntKind.i64.wrap ((x.a.getD k 0).tdiv (g : Int)) = (x.a.getD k 0).tdiv (g : Int) := IntWalk.i64_in _ (by omega)
            have r9 : RowAt (U.setCell ⟨b1, k, none⟩ (.int .i64 ((x.a.getD k 0).tdiv (g : Int)))) b1 72 (dk x g (k + 1)).cells := by
              have := hr1.set k (.int .i64 ((x.a.getD k 0).tdiv (g : Int)))
              rcases hkc with rfl | rfl | rfl | rfl | rfl | rfl <;> exact this
            have r10 := hr2.far (a := ⟨b1, k, none⟩) (fun h => HN.out.2.2 h.symm) (.int .i64 ((x.a.getD k 0).tdiv (g : Int)))
            have HB9 := Lib.hid (hbu.set (p := ⟨b1, k, none⟩) HN.out.1 (.int .i64 ((x.a.getD k 0).tdiv (g : Int))))
            have HR9 := Lib.hid r9
            have HR10 := Lib.hid r10
            clear hkc hr1 hr2 hbu r9 r10 hq
            generalize x.a.getD k 0 = c at *
            go_wp2
            go_roundw
            case rel => exact ⟨k + 1, _, by omega, by go_num, rfl, HR9.out, HR10.out, HB9.out⟩
            case measure => simp [intOf]; omega
          · obtain rfl : k = 6 := by omega
            have hd : decide (((6 : Nat) : Int) < 6) = false := by decide
            have c6 := hr1.cell (i := 6) rfl
            have f6 := hr1.frozen 6
            have l1 := hr1.lt
            have hq : (x.b.tdiv (g : Int)).natAbs < 9223372036854775808 := by
              rw [Int.natAbs_tdiv]
              exact Nat.lt_of_le_of_lt (Nat.div_le_self _ _) (HX.out _ (by simp))
            have hwq : IntKind.i64.wrap (x.b.tdiv (g : Int)) = x.b.tdiv (g : Int) := IntWalk.i64_in _ (by omega)
            have ec6 : (dk x g 6).b = x.b := rfl
            rw [ec6] at c6
            clear ec6
            have r9 : RowAt (U.setCell ⟨b1, 6, none⟩ (.int .i64 (x.b.tdiv (g : Int)))) b1 72 ({ dk x g 6 with b := x.b.tdiv g } : Ln).cells := hr1.set 6 (.int .i64 (x.b.tdiv (g : Int)))
            have r10 := hr2.far (a := ⟨b1, 6, none⟩) (fun h => HN.out.2.2 h.symm) (.int .i64 (x.b.tdiv (g : Int)))
            have HB9 := Lib.hid (hbu.set (p := ⟨b1, 6, none⟩) HN.out.1 (.int .i64 (x.b.tdiv (g : Int))))
            have HR9 := Lib.hid r9
            have HR10 := Lib.hid r10
            clear hr1 hr2 hbu r9 r10 hq
            go_upto_region 14 with (fail)
            clear c6 f6
            generalize World.setCell U _ _ = V at *
            generalize ({ dk x g 6 with b := x.b.tdiv g } : Ln) = Y at *
            have x0 := HR9.out.cell (i := 0) rfl
            have x1 := HR9.out.cell (i := 1) rfl
            have x2 := HR9.out.cell (i := 2) rfl
            have x3 := HR9.out.cell (i := 3) rfl
            have x4 := HR9.out.cell (i := 4) rfl
            have x5 := HR9.out.cell (i := 5) rfl
            have x6 := HR9.out.cell (i := 6) rfl
            have x7 := HR9.out.cell (i := 7) rfl
            have z0 := HR10.out.cell (i := 0) rfl
            have z1 := HR10.out.cell (i := 1) rfl
            have z2 := HR10.out.cell (i := 2) rfl
            have z3 := HR10.out.cell (i := 3) rfl
            have z4 := HR10.out.cell (i := 4) rfl
            have z5 := HR10.out.cell (i := 5) rfl
            have z6 := HR10.out.cell (i := 6) rfl
            have z7 := HR10.out.cell (i := 7) rfl
            have fz := fun k => HR10.out.frozen k
            go_wp2
            have r8 : RowAt (setL V b2 0 (Y)) b2 72 (Y).cells := (((((((HR10.out.set 0 _).set 1 _).set 2 _).set 3 _).set 4 _).set 5 _).set 6 _).set 7 _
            have hb8 : Bel w (setL V b2 0 (Y)) := (((((((HB9.out.set HN.out.2.1 _).set HN.out.2.1 _).set HN.out.2.1 _).set HN.out.2.1 _).set HN.out.2.1 _).set HN.out.2.1 _).set HN.out.2.1 _).set HN.out.2.1 _
            unfold setL at r8 hb8
            simp only [Nat.zero_add] at r8 hb8
            generalize World.setCell (World.setCell _ _ _) _ _ = W9 at *
            have q0 := r8.cell (i := 0) rfl
            have q1 := r8.cell (i := 1) rfl
            have q2 := r8.cell (i := 2) rfl
            have q3 := r8.cell (i := 3) rfl
            have q4 := r8.cell (i := 4) rfl
            have q5 := r8.cell (i := 5) rfl
            have q6 := r8.cell (i := 6) rfl
            have q7 := r8.cell (i := 7) rfl
            exact bodyPost_ret (v := (Y).V) (by simp [results, Try.results72, go_sem, q0, q1, q2, q3, q4, q5, q6, q7]; rfl) rfl ⟨by rw [HLOW.out], hb8⟩
      · have hd1 : decide ((1 : Int) < (g : Int)) = false := by simp; omega
        have HLOW : Hid (lowL x = x) := Lib.hid (by unfold lowL; rw [HGG.out, if_neg h1])
        have x0 := HR1W.out.cell (i := 0) rfl
        have x1 := HR1W.out.cell (i := 1) rfl
        have x2 := HR1W.out.cell (i := 2) rfl
        have x3 := HR1W.out.cell (i := 3) rfl
        have x4 := HR1W.out.cell (i := 4) rfl
        have x5 := HR1W.out.cell (i := 5) rfl
        have x6 := HR1W.out.cell (i := 6) rfl
        have x7 := HR1W.out.cell (i := 7) rfl
        have z0 := HR2W.out.cell (i := 0) rfl
        have z1 := HR2W.out.cell (i := 1) rfl
        have z2 := HR2W.out.cell (i := 2) rfl
        have z3 := HR2W.out.cell (i := 3) rfl
        have z4 := HR2W.out.cell (i := 4) rfl
        have z5 := HR2W.out.cell (i := 5) rfl
        have z6 := HR2W.out.cell (i := 6) rfl
        have z7 := HR2W.out.cell (i := 7) rfl
        have fz := fun k => HR2W.out.frozen k
        go_wp2
        have r8 : RowAt (setL W b2 0 (x)) b2 72 (x).cells := (((((((HR2W.out.set 0 _).set 1 _).set 2 _).set 3 _).set 4 _).set 5 _).set 6 _).set 7 _
        have hb8 : Bel w (setL W b2 0 (x)) := (((((((HBW.out.set HN.out.2.1 _).set HN.out.2.1 _).set HN.out.2.1 _).set HN.out.2.1 _).set HN.out.2.1 _).set HN.out.2.1 _).set HN.out.2.1 _).set HN.out.2.1 _
        unfold setL at r8 hb8
        simp only [Nat.zero_add] at r8 hb8
        generalize World.setCell (World.setCell _ _ _) _ _ = W9 at *
        have q0 := r8.cell (i := 0) rfl
        have q1 := r8.cell (i := 1) rfl
        have q2 := r8.cell (i := 2) rfl
        have q3 := r8.cell (i := 3) rfl
        have q4 := r8.cell (i := 4) rfl
        have q5 := r8.cell (i := 5) rfl
        have q6 := r8.cell (i := 6) rfl
        have q7 := r8.cell (i := 7) rfl
        exact bodyPost_ret (v := (x).V) (by simp [results, Try.results72, go_sem, q0, q1, q2, q3, q4, q5, q6, q7]; rfl) rfl ⟨by rw [HLOW.out], hb8⟩
end Go.Proofs.Ytalphoebmefgoaa
/- poly: the tidy list (plain): to sort and to compact is to insert. -/
namespace Go.Proofs.Ytalphoebmefgoaa
theorem lex_lt1 {a b c : List Int} (h1 : a.length = b.length) (h2 : b.length = c.length) (h : lexL a b < 0) (g : lexL b c ≤ 0) : lexL a c < 0 := by
  have k1 := (lex_r a b h1).2.2.1 h
  rcases Int.lt_trichotomy (lexL a c) 0 with k | k | k
  · exact k
  · exfalso
    have := (lex_r a c (h1.trans h2)).1 k
    subst this
    omega
  · exfalso
    have k2 := (lex_r a c (h1.trans h2)).2.2.2 k
    have := lex_trans b c a h2 (h1.trans h2).symm g (by omega)
    omega
theorem lex_lt2 {a b c : List Int} (h1 : a.length = b.length) (h2 : b.length = c.length) (h : lexL a b ≤ 0) (g : lexL b c < 0) : lexL a c < 0 := by
  have k1 := (lex_r b c h2).2.2.1 g
  rcases Int.lt_trichotomy (lexL a c) 0 with k | k | k
  · exact k
  · exfalso
    have := (lex_r a c (h1.trans h2)).1 k
    subst this
    omega
  · exfalso
    have k2 := (lex_r a c (h1.trans h2)).2.2.2 k
    have := lex_trans c a b (h1.trans h2).symm h1 (by omega) h
    omega
theorem lex_self (a : List Int) : lexL a a = 0 := by
  have := (lex_r a a rfl).2.2.1
  have := (lex_r a a rfl).2.2.2
  omega
/-- the coefficients of the one come before those of the other -/
def ltA (x y : Ln) : Prop := lexL x.a y.a < 0
theorem ltA_irr (x : Ln) : ¬ ltA x x := by unfold ltA; rw [lex_self]; omega
theorem ltA_asym {x y : Ln} (h : ltA x y) (g : ltA y x) : False := ltA_irr x (lex_lt1 (a := x.a) (b := y.a) (c := x.a) rfl rfl h (Int.le_of_lt g))
theorem leL_of_ltA {x y : Ln} (h : ltA x y) : leL x y := by
  unfold leL cmpL; unfold ltA at h
  rw [if_pos (by omega)]; omega
theorem leL_lex {x y : Ln} (h : leL x y) : lexL x.a y.a ≤ 0 := by
  unfold leL cmpL at h
  by_cases c : lexL x.a y.a = 0
  · omega
  · rw [if_pos c] at h; exact h
theorem ltA_of {x y : Ln} (h : leL x y) (g : x.a ≠ y.a) : ltA x y := by
  have := leL_lex h
  have := (lex_r x.a y.a rfl).1
  unfold ltA
  rcases Int.lt_or_eq_of_le (leL_lex h) with k | k
  · exact k
  · exact absurd (this k) g
theorem leL_same {x y : Ln} (h : x.a = y.a) (g : x.b < y.b ∨ x.b = y.b ∧ x.s = true) : leL x y := by
  unfold leL cmpL
  rw [h, lex_self]
  simp only [ne_eq, not_true, if_false]
  rcases g with g | ⟨g, e⟩
  · have : cmpI x.b y.b = -1 := by rcases cmpI_r x.b y.b with ⟨e, _⟩ | ⟨_, _⟩ | ⟨_, _⟩ <;> omega
    rw [this]; simp
  · have : cmpI x.b y.b = 0 := by rcases cmpI_r x.b y.b with ⟨_, _⟩ | ⟨e, _⟩ | ⟨_, _⟩ <;> omega
    rw [this, e]; split <;> simp
theorem leL_nsame {x y : Ln} (h : x.a = y.a) (g : ¬ (x.b < y.b ∨ x.b = y.b ∧ x.s = true)) : leL y x := by
  unfold leL cmpL
  rw [h, lex_self]
  simp only [ne_eq, not_true, if_false]
  rcases cmpI_r y.b x.b with ⟨e, _⟩ | ⟨e, f⟩ | ⟨e, f⟩
  · rw [e]; simp
  · rw [e]
    have hs : x.s = false := by
      cases hx : x.s
      · rfl
      · exact absurd (.inr ⟨f.symm, hx⟩) g
    rw [hs]; cases y.s <;> simp
  · exact absurd (.inl f) g
/-- one line is inserted where it belongs -/
def insL : List Ln → Ln → List Ln
  | [], x => [x]
  | y :: t, x => if lexL y.a x.a < 0 then y :: insL t x else if lexL y.a x.a = 0 then (if x.b < y.b ∨ x.b = y.b ∧ x.s = true then x else y) :: t else x :: y :: t
/-- what a tidy list of lines is -/
structure Tdy (c out : List Ln) : Prop where
  srt : out.Pairwise ltA
  sub : ∀ z, z ∈ out → z ∈ c
  rep : ∀ y, y ∈ c → ∃ m, m ∈ out ∧ m.a = y.a ∧ leL m y
theorem strict_ext : ∀ {l1 l2 : List Ln}, l1.Pairwise ltA → l2.Pairwise ltA → (∀ x, x ∈ l1 ↔ x ∈ l2) → l1 = l2
  | [], [], _, _, _ => rfl
  | [], y :: u, _, _, h => by have := (h y).2 (List.mem_cons_self ..); simp at this
  | x :: t, [], _, _, h => by have := (h x).1 (List.mem_cons_self ..); simp at this
  | x :: t, y :: u, h1, h2, h => by
    rw [List.pairwise_cons] at h1 h2
    have e : x = y := by
      rcases List.mem_cons.1 ((h x).1 (List.mem_cons_self ..)) with e | e
      · exact e
      · rcases List.mem_cons.1 ((h y).2 (List.mem_cons_self ..)) with f | f
        · exact f.symm
        · exact (ltA_asym (h1.1 y f) (h2.1 x e)).elim
    subst e
    rw [strict_ext h1.2 h2.2 (fun z => ⟨fun hz => ?_, fun hz => ?_⟩)]
    · rcases List.mem_cons.1 ((h z).1 (List.mem_cons_of_mem _ hz)) with e | e
      · exact (ltA_irr x (e ▸ h1.1 z hz)).elim
      · exact e
    · rcases List.mem_cons.1 ((h z).2 (List.mem_cons_of_mem _ hz)) with e | e
      · exact (ltA_irr x (e ▸ h2.1 z hz)).elim
      · exact e
theorem pw_same {l : List Ln} (h : l.Pairwise ltA) {x y : Ln} (hx : x ∈ l) (hy : y ∈ l) (e : x.a = y.a) : x = y := by
  induction l with
  | nil => simp at hx
  | cons z t ih =>
    rw [List.pairwise_cons] at h
    rcases List.mem_cons.1 hx with rfl | hx2 <;> rcases List.mem_cons.1 hy with rfl | hy2
    · rfl
    · exact (ltA_irr y (by have := h.1 y hy2; unfold ltA at *; rwa [e] at this)).elim
    · exact (ltA_irr x (by have := h.1 x hx2; unfold ltA at *; rwa [← e] at this)).elim
    · exact ih h.2 hx2 hy2
theorem Tdy.le {c o1 o2 : List Ln} (h : Tdy c o1) (g : Tdy c o2) {z : Ln} (hz : z ∈ o1) : z ∈ o2 := by
  obtain ⟨m', hm', ea, hl⟩ := g.rep z (h.sub z hz)
  obtain ⟨m, hm, eb, hk⟩ := h.rep m' (g.sub m' hm')
  obtain rfl := pw_same h.srt hm hz (eb.trans ea)
  rwa [leL_anti hk hl]
theorem Tdy.uniq {c o1 o2 : List Ln} (h : Tdy c o1) (g : Tdy c o2) : o1 = o2 := strict_ext h.srt g.srt fun _ => ⟨h.le g, g.le h⟩
theorem ins_mem {x z : Ln} : ∀ {out : List Ln}, z ∈ insL out x → z ∈ out ∨ z = x
  | [], h => by simp [insL] at h; exact .inr h
  | y :: t, h => by
    unfold insL at h
    split at h
    · rcases List.mem_cons.1 h with rfl | h2
      · exact .inl (List.mem_cons_self ..)
      · rcases ins_mem h2 with k | k
        · exact .inl (List.mem_cons_of_mem _ k)
        · exact .inr k
    · split at h
      · rcases List.mem_cons.1 h with rfl | h2
        · split
          · exact .inr rfl
          · exact .inl (List.mem_cons_self ..)
        · exact .inl (List.mem_cons_of_mem _ h2)
      · rcases List.mem_cons.1 h with rfl | h2
        · exact .inr rfl
        · exact .inl h2
theorem ins_rep {x : Ln} : ∀ {out : List Ln} {y : Ln}, (y ∈ out ∨ y = x) → ∃ m, m ∈ insL out x ∧ m.a = y.a ∧ leL m y
  | [], y, h => by
    rcases h with h | rfl
    · simp at h
    · exact ⟨y, by simp [insL], rfl, leL_refl y⟩
  | v :: t, y, h => by
    unfold insL
    split
    · rcases h with h | rfl
      · rcases List.mem_cons.1 h with rfl | h2
        · exact ⟨y, List.mem_cons_self .., rfl, leL_refl y⟩
        · obtain ⟨m, h3, h4, h5⟩ := ins_rep (x := x) (.inl h2)
          exact ⟨m, List.mem_cons_of_mem _ h3, h4, h5⟩
      · obtain ⟨m, h3, h4, h5⟩ := ins_rep (x := y) (out := t) (.inr rfl)
        exact ⟨m, List.mem_cons_of_mem _ h3, h4, h5⟩
    · split
      · rename_i _ he
        have ha : v.a = x.a := (lex_r v.a x.a rfl).1 he
        rcases h with h | rfl
        · rcases List.mem_cons.1 h with rfl | h2
          · refine ⟨_, List.mem_cons_self .., ?_, ?_⟩
            · split
              · exact ha.symm
              · rfl
            · split
              · rename_i hb; exact leL_same ha.symm hb
              · exact leL_refl _
          · exact ⟨y, List.mem_cons_of_mem _ h2, rfl, leL_refl y⟩
        · refine ⟨_, List.mem_cons_self .., ?_, ?_⟩
          · split
            · rfl
            · exact ha
          · split
            · exact leL_refl _
            · rename_i hb; exact leL_nsame ha.symm hb
      · rcases h with h | rfl
        · exact ⟨y, List.mem_cons_of_mem _ h, rfl, leL_refl y⟩
        · exact ⟨y, List.mem_cons_self .., rfl, leL_refl y⟩
theorem ins_srt {x : Ln} : ∀ {out : List Ln}, out.Pairwise ltA → (insL out x).Pairwise ltA
  | [], _ => by simp [insL]
  | y :: t, h => by
    rw [List.pairwise_cons] at h
    unfold insL
    split
    · rename_i hl
      rw [List.pairwise_cons]
      refine ⟨fun z hz => ?_, ins_srt h.2⟩
      rcases ins_mem hz with k | rfl
      · exact h.1 z k
      · exact hl
    · rename_i hl
      split
      · rename_i he
        have ha : y.a = x.a := (lex_r y.a x.a rfl).1 he
        rw [List.pairwise_cons]
        refine ⟨fun z hz => ?_, h.2⟩
        split
        · have := h.1 z hz; unfold ltA at *; rwa [← ha]
        · exact h.1 z hz
      · rename_i he
        have hx : ltA x y := (lex_r y.a x.a rfl).2.2.2 (by omega)
        rw [List.pairwise_cons, List.pairwise_cons]
        refine ⟨fun z hz => ?_, h.1, h.2⟩
        rcases List.mem_cons.1 hz with rfl | h2
        · exact hx
        · exact lex_lt1 (a := x.a) (b := y.a) (c := z.a) rfl rfl hx (Int.le_of_lt (h.1 z h2))
theorem Tdy.ins {c out : List Ln} (h : Tdy c out) (x : Ln) : Tdy (c ++ [x]) (insL out x) := by
  refine ⟨ins_srt h.srt, fun z hz => ?_, fun y hy => ?_⟩
  · rcases ins_mem hz with k | rfl
    · exact List.mem_append_left _ (h.sub z k)
    · simp
  · rcases List.mem_append.1 hy with k | k
    · obtain ⟨m, h1, h2, h3⟩ := h.rep y k
      obtain ⟨m2, h4, h5, h6⟩ := ins_rep (x := x) (.inl h1)
      exact ⟨m2, h4, h5.trans h2, leL_trans _ _ _ h6 h3⟩
    · have : y = x := by simpa using k
      exact ins_rep (.inr this)
theorem tdy_fold : ∀ (t : List Ln) {c out : List Ln}, Tdy c out → Tdy (c ++ t) (t.foldl insL out)
  | [], c, out, h => by simpa using h
  | x :: t, c, out, h => by
    have := tdy_fold t (h.ins x)
    simpa using this
theorem tdy_all (c : List Ln) : Tdy c (c.foldl insL []) := by
  have := tdy_fold c (c := []) (out := []) ⟨List.Pairwise.nil, by simp, by simp⟩
  simpa using this
/-- what a sorted row keeps is tidy -/
theorem tdy_kept {e : Nat → Ln} {N : Nat} (hs : Srt leL e 0 N) : ∀ n, n ≤ N → (kept e n).Pairwise ltA ∧ (∀ z, z ∈ kept e n → ∃ j, j < n ∧ z = e j) ∧ ∀ j, j < n → ∃ m, m ∈ kept e n ∧ m.a = (e j).a ∧ leL m (e j)
  | 0, _ => ⟨List.Pairwise.nil, by simp [kept], by simp⟩
  | n + 1, hn => by
    obtain ⟨h1, h2, h3⟩ := tdy_kept hs n (by omega)
    unfold kept
    split
    · rename_i hc
      refine ⟨h1, fun z hz => ?_, fun j hj => ?_⟩
      · obtain ⟨j, h4, h5⟩ := h2 z hz
        exact ⟨j, by omega, h5⟩
      · rcases Nat.lt_or_ge j n with g | g
        · exact h3 j g
        · obtain rfl : j = n := by omega
          obtain ⟨m, h4, h5, h6⟩ := h3 (j - 1) (by omega)
          exact ⟨m, h4, h5.trans hc.2.symm, leL_trans _ _ _ h6 (hs _ _ (Nat.zero_le _) (by omega) (by omega))⟩
    · rename_i hc
      refine ⟨?_, fun z hz => ?_, fun j hj => ?_⟩
      · rw [List.pairwise_append]
        refine ⟨h1, by simp, fun z hz y hy => ?_⟩
        obtain rfl : y = e n := by simpa using hy
        obtain ⟨j, h4, rfl⟩ := h2 z hz
        have hlt : ltA (e (n - 1)) (e n) := ltA_of (hs _ _ (Nat.zero_le _) (by omega) (by omega)) (fun g => hc ⟨by omega, g.symm⟩)
        exact lex_lt2 (a := (e j).a) (b := (e (n - 1)).a) (c := (e n).a) rfl rfl (leL_lex (hs j (n - 1) (Nat.zero_le _) (by omega) (by omega))) hlt
      · rcases List.mem_append.1 hz with k | k
        · obtain ⟨j, h4, h5⟩ := h2 z k
          exact ⟨j, by omega, h5⟩
        · exact ⟨n, by omega, by simpa using k⟩
      · rcases Nat.lt_or_ge j n with g | g
        · obtain ⟨m, h4, h5, h6⟩ := h3 j g
          exact ⟨m, List.mem_append_left _ h4, h5, h6⟩
        · obtain rfl : j = n := by omega
          exact ⟨e j, by simp, rfl, leL_refl _⟩
def lnAt (l : List Ln) (i : Nat) : Ln := l.getD i zeroLn
theorem lnAt_mem {l : List Ln} {i : Nat} (h : i < l.length) : lnAt l i ∈ l := by
  unfold lnAt
  rw [List.getD_eq_getElem?_getD, List.getElem?_eq_getElem h]; exact List.getElem_mem h
theorem mem_lnAt {l : List Ln} {x : Ln} (h : x ∈ l) : ∃ i, i < l.length ∧ x = lnAt l i := by
  obtain ⟨i, hi, e⟩ := List.mem_iff_getElem.1 h
  refine ⟨i, hi, ?_⟩
  unfold lnAt
  rw [List.getD_eq_getElem?_getD, List.getElem?_eq_getElem hi]; exact e.symm
theorem kept_tidy {c : List Ln} {d e : Nat → Ln} (hd : ∀ i, i < c.length → d i = lnAt c i) (hm : Sam d e 0 c.length) (hs : Srt leL e 0 c.length) : kept e c.length = c.foldl insL [] := by
  refine Tdy.uniq ?_ (tdy_all c)
  obtain ⟨h1, h2, h3⟩ := tdy_kept hs c.length (Nat.le_refl _)
  refine ⟨h1, fun z hz => ?_, fun y hy => ?_⟩
  · obtain ⟨j, h4, rfl⟩ := h2 z hz
    obtain ⟨k, _, h5, h6⟩ := hm.fw j (Nat.zero_le _) h4
    rw [h6, hd k h5]; exact lnAt_mem h5
  · obtain ⟨i, h4, rfl⟩ := mem_lnAt hy
    obtain ⟨k, _, h5, h6⟩ := hm.bw i (Nat.zero_le _) h4
    rw [← hd i h4, h6]; exact h3 k h5
/-- the lines in lowest terms that are not of zeros alone; none: one of those says that there is no point -/
def colL : List Ln → List Ln → Option (List Ln)
  | out, [] => some out
  | out, x :: t => if (lowL x).a ≠ [0, 0, 0, 0, 0, 0] then colL (out ++ [lowL x]) t else if (lowL x).b < 0 ∨ (lowL x).b = 0 ∧ (lowL x).s = true then none else colL out t
def falseLn : Ln := ⟨0, 0, 0, 0, 0, 0, 0, true⟩
def tidyL (l : List Ln) : List Ln := match colL [] l with
  | none => [falseLn]
  | some c => c.foldl insL []
theorem kept_len_le (e : Nat → Ln) (n : Nat) : (kept e n).length ≤ n := kept_le e n
end Go.Proofs.Ytalphoebmefgoaa
