import Derived.Test.YthcdemmamggboaaTrblk
import Derived.Test.YthcdemmamggboaaTpchk
/- response: the model of Fixed and Busy, and the plain law of the iteration. -/
namespace Go.Proofs.Ythcdemmamggboaa
open Go.RowKit
def jobsF (t p : Int) : Int := (t + p - 1) / p
def sumB (f : Tsk → Bool) (r : Int) : Int → List Tsk → Int
  | s, [] => s
  | s, h :: hs => sumB f r (if f h then s + jobsF r h.per * h.cost else s) hs
def aboveB (p : Int) (h : Tsk) : Bool := decide (p < h.prio)
def respF (l : List Tsk) (c p : Int) (r : Int) : Int := sumB (aboveB p) r c l
def busyF (l : List Tsk) (r : Int) : Int := sumB (fun _ => true) r 0 l
/-- the first fixed point from r on, among n numbers; 0: none -/
def fixN (f : Int → Int) : Nat → Int → Int
  | 0, _ => 0
  | n + 1, r => if f r = r then r else fixN f n (r + 1)
theorem fixN_t {f : Int → Int} {n : Nat} {r : Int} (h : f r = r) : fixN f (n + 1) r = r := by simp only [fixN, if_pos h]
theorem fixN_f {f : Int → Int} {n : Nat} {r : Int} (h : f r ≠ r) : fixN f (n + 1) r = fixN f n (r + 1) := by simp only [fixN, if_neg h]
/-- no fixed point among the first k -/
theorem fixN_skip {f : Int → Int} : ∀ (k n : Nat) (r : Int), (∀ j : Nat, j < k → f (r + j) ≠ r + j) → k ≤ n → fixN f n r = fixN f (n - k) (r + k)
  | 0, n, r, _, _ => by simp
  | k + 1, 0, r, _, h => by omega
  | k + 1, n + 1, r, h, hk => by
    have h0 := h 0 (by omega)
    simp at h0
    rw [fixN_f h0, fixN_skip k n (r + 1) (fun j hj => by have := h (j + 1) (by omega); intro he; apply this; push_cast; rw [show r + (↑j + 1) = r + 1 + ↑j by omega]; exact he) (by omega)]
    rw [show n + 1 - (k + 1) = n - k by omega, show r + 1 + (k : Int) = r + ((k + 1 : Nat) : Int) by omega]
theorem fixN_none {f : Int → Int} : ∀ (n : Nat) (r : Int), (∀ j : Nat, j < n → f (r + j) ≠ r + j) → fixN f n r = 0
  | 0, r, _ => rfl
  | n + 1, r, h => by
    have h0 := h 0 (by omega)
    simp at h0
    rw [fixN_f h0, fixN_none n (r + 1) (fun j hj => by have := h (j + 1) (by omega); intro he; apply this; push_cast; rw [show r + (↑j + 1) = r + 1 + ↑j by omega]; exact he)]
/-- a step of the iteration: from r to f r -/
theorem fix_step {f : Int → Int} {most r : Int} (hm : ∀ a b, 1 ≤ a → a ≤ b → f a ≤ f b) (h1 : 1 ≤ r) (hr : r ≤ most) (hf : r < f r) :
    (f r ≤ most → fixN f (most + 1 - r).toNat r = fixN f (most + 1 - f r).toNat (f r)) ∧ (most < f r → fixN f (most + 1 - r).toNat r = 0) := by
  have hne : ∀ j : Nat, (j : Int) < f r - r → f (r + j) ≠ r + j := fun j hj he => by
    have := hm r (r + j) h1 (by omega)
    omega
  constructor
  · intro h
    have := fixN_skip (f := f) (f r - r).toNat (most + 1 - r).toNat r (fun j hj => hne j (by omega)) (by omega)
    rw [this, show (most + 1 - r).toNat - (f r - r).toNat = (most + 1 - f r).toNat by omega, show r + ((f r - r).toNat : Int) = f r by omega]
  · intro h
    exact fixN_none _ _ (fun j hj => hne j (by omega))
theorem fixN_out {f : Int → Int} {most r : Int} (h : most < r) : fixN f (most + 1 - r).toNat r = 0 := by
  rw [show (most + 1 - r).toNat = 0 by omega]; rfl
theorem fixN_at {f : Int → Int} {most r : Int} (hr : r ≤ most) (h : f r = r) : fixN f (most + 1 - r).toNat r = r := by
  rw [show (most + 1 - r).toNat = (most - r).toNat + 1 by omega]; exact fixN_t h
theorem fixN_on {f : Int → Int} {most r : Int} (hr : r ≤ most) (h : f r ≠ r) : fixN f (most + 1 - r).toNat r = fixN f (most + 1 - (r + 1)).toNat (r + 1) := by
  rw [show (most + 1 - r).toNat = (most + 1 - (r + 1)).toNat + 1 by omega]; exact fixN_f h
theorem fixN_bd {f : Int → Int} : ∀ (n : Nat) (r : Int), 1 ≤ r → fixN f n r = 0 ∨ (r ≤ fixN f n r ∧ fixN f n r < r + n ∧ f (fixN f n r) = fixN f n r)
  | 0, r, _ => .inl rfl
  | n + 1, r, h => by
    by_cases e : f r = r
    · rw [fixN_t e]; exact .inr ⟨Int.le_refl _, by omega, e⟩
    · rw [fixN_f e]
      rcases fixN_bd n (r + 1) (by omega) with h1 | ⟨h1, h2, h3⟩
      · exact .inl h1
      · exact .inr ⟨by omega, by omega, h3⟩
/-! bounds -/
structure TOk (t : Tsk) : Prop where
  p1 : 1 ≤ t.per
  p2 : t.per ≤ 1000
  d1 : 1 ≤ t.dl
  d2 : t.dl ≤ t.per
  c1 : 1 ≤ t.cost
  c2 : t.cost ≤ t.dl
theorem tok_of {t : Tsk} (h : tskBad t = false) : TOk t := by
  obtain ⟨_, _, _, h3, h4, _, _, h7, h8, h9, h10⟩ := tskBad_false.1 h
  exact ⟨h3, h4, h7, h8, h9, h10⟩
theorem jobs_bd {r p : Int} (hr : 1 ≤ r) (hp : 1 ≤ p) : 1 ≤ jobsF r p ∧ jobsF r p ≤ r := by
  unfold jobsF
  constructor
  · exact (Int.le_ediv_iff_mul_le (by omega)).mpr (by omega)
  · have h1 : (r + p - 1) / p * p ≤ r + p - 1 := Int.ediv_mul_le _ (by omega)
    have h2 : (r + p - 1) / p ≤ r := by
      rcases Int.lt_or_le r ((r + p - 1) / p) with h | h
      · have : (r + 1) * p ≤ (r + p - 1) / p * p := Int.mul_le_mul_of_nonneg_right (by omega) (by omega)
        have e : (r + 1) * p = r * p + p := by rw [Int.add_mul, Int.one_mul]
        have h3 : r * 1 ≤ r * p := Int.mul_le_mul_of_nonneg_left hp (by omega)
        omega
      · exact h
    exact h2
theorem jobs_mono {a b p : Int} (h : a ≤ b) (hp : 1 ≤ p) : jobsF a p ≤ jobsF b p := Int.ediv_le_ediv (by omega) (by omega)
theorem prod_bd {a b m n : Int} (ha : 0 ≤ a) (ha2 : a ≤ m) (hb : 0 ≤ b) (hb2 : b ≤ n) : 0 ≤ a * b ∧ a * b ≤ m * n :=
  ⟨Int.mul_nonneg ha hb, Int.mul_le_mul ha2 hb2 hb (by omega)⟩
theorem job_cost {r : Int} {t : Tsk} (h : TOk t) (hr : 1 ≤ r) (hr2 : r ≤ 20000) : 1 ≤ jobsF r t.per * t.cost ∧ jobsF r t.per * t.cost ≤ 20000000 := by
  obtain ⟨h1, h2⟩ := jobs_bd (p := t.per) hr h.p1
  have h3 := h.c1; have h4 := h.c2; have h5 := h.d2; have h6 := h.p2
  have a := Int.mul_le_mul (show 1 ≤ jobsF r t.per from h1) (show 1 ≤ t.cost from h3) (by omega) (by omega)
  have b := Int.mul_le_mul (show jobsF r t.per ≤ 20000 by omega) (show t.cost ≤ 1000 by omega) (by omega) (by omega)
  omega
theorem sumB_mono {f : Tsk → Bool} {a b : Int} (ha : 1 ≤ a) (h : a ≤ b) : ∀ (l : List Tsk) (s u : Int), s ≤ u → (∀ t ∈ l, TOk t) → sumB f a s l ≤ sumB f b u l
  | [], s, u, hs, _ => hs
  | t :: ts, s, u, hs, hl => by
    have ht := hl t (by simp)
    have := jobs_mono h ht.p1
    have h2 : jobsF a t.per * t.cost ≤ jobsF b t.per * t.cost := Int.mul_le_mul_of_nonneg_right this (by have := ht.c1; omega)
    refine sumB_mono ha h ts _ _ ?_ (fun x hx => hl x (by simp [hx]))
    split <;> omega
theorem sumB_ge {f : Tsk → Bool} {r : Int} (hr : 1 ≤ r) : ∀ (l : List Tsk) (s : Int), (∀ t ∈ l, TOk t) → s ≤ sumB f r s l
  | [], s, _ => Int.le_refl _
  | t :: ts, s, hl => by
    have ht := hl t (by simp)
    have h1 := (jobs_bd (p := t.per) hr ht.p1).1
    have h2 : 0 ≤ jobsF r t.per * t.cost := Int.mul_nonneg (by omega) (by have := ht.c1; omega)
    have := sumB_ge (f := f) hr ts (if f t then s + jobsF r t.per * t.cost else s) (fun x hx => hl x (by simp [hx]))
    simp only [sumB]
    split at this <;> rename_i hf <;> simp only [hf] at * <;> simp at * <;> omega
/-- the response time of a task; -1: none -/
def respM (l : List Tsk) (blk : List Int) (i : Nat) : Int :=
  if fixN (respF l ((tskAt l i).cost + blk.getD i 0) (tskAt l i).prio) (tskAt l i).dl.toNat 1 = 0 then -1 else fixN (respF l ((tskAt l i).cost + blk.getD i 0) (tskAt l i).prio) (tskAt l i).dl.toNat 1
def busyM (l : List Tsk) : Int := fixN (busyF l) 20000 1
def fixedL (l : List Tsk) : List Int := (List.range l.length).map (respM l (blocks l))
def fixedM (l : List Tsk) : List Int × Bool × Int := if rchk l = 0 then (fixedL l, (fixedL l).all (fun r => decide (0 ≤ r)), 0) else ([], false, rchk l)
def busyR (l : List Tsk) : Int × Int := if rchk l = 0 then (if busyM l = 0 then (0, 3) else (busyM l, 0)) else (0, rchk l)
theorem toks_of {l : List Tsk} (h : rchk l = 0) : ∀ t ∈ l, TOk t := fun t ht => by
  obtain ⟨i, hi, rfl⟩ := List.mem_iff_getElem.mp ht
  have := tok_of ((rchk_ok h).2 i hi).1
  simpa [tskAt, List.getD, hi] using this
theorem tok_at {l : List Tsk} (h : rchk l = 0) {i : Nat} (hi : i < l.length) : TOk (tskAt l i) := tok_of ((rchk_ok h).2 i hi).1
theorem blkS_bd (l : List Tsk) (pi pk : Int) : ∀ (ss : List Sec) (m : Int), 0 ≤ m → m ≤ 1000 → (∀ s ∈ ss, s.len ≤ 1000) → 0 ≤ blkS l pi pk ss m ∧ blkS l pi pk ss m ≤ 1000
  | [], m, h1, h2, _ => ⟨h1, h2⟩
  | s :: ss, m, h1, h2, h3 => by
    have hs := h3 s (by simp)
    simp only [blkS]
    refine blkS_bd l pi pk ss _ ?_ ?_ (fun x hx => h3 x (by simp [hx]))
    · split
      · split <;> omega
      · exact h1
    · split
      · split <;> omega
      · exact h2
theorem blkT_bd (l : List Tsk) (pi : Int) : ∀ (ts : List Tsk) (m : Int), 0 ≤ m → m ≤ 1000 → (∀ t ∈ ts, ∀ s ∈ t.secs, s.len ≤ 1000) → 0 ≤ blkT l pi ts m ∧ blkT l pi ts m ≤ 1000
  | [], m, h1, h2, _ => ⟨h1, h2⟩
  | t :: ts, m, h1, h2, h3 => by
    obtain ⟨a, b⟩ := blkS_bd l pi t.prio t.secs m h1 h2 (h3 t (by simp))
    exact blkT_bd l pi ts _ a b (fun x hx => h3 x (by simp [hx]))
theorem blocks_bd {l : List Tsk} (h : rchk l = 0) {i : Nat} (hi : i < l.length) : 0 ≤ (blocks l).getD i 0 ∧ (blocks l).getD i 0 ≤ 1000 := by
  have h2 : ∀ t ∈ l, ∀ s ∈ t.secs, s.len ≤ 1000 := fun t ht s hs => by
    obtain ⟨k, hk, rfl⟩ := List.mem_iff_getElem.mp ht
    obtain ⟨j, hj, rfl⟩ := List.mem_iff_getElem.mp hs
    obtain ⟨a, b⟩ := (rchk_ok h).2 k hk
    have e : tskAt l k = l[k] := by simp [tskAt, List.getD, hk]
    rw [e] at a b
    have := (sec_len_bd a b j hj).2.2.2
    simpa [secAt, List.getD, hj] using this
  have e : (blocks l).getD i 0 = blkT l (tskAt l i).prio l 0 := by simp [blocks, List.getD, hi, tskAt]
  rw [e]
  exact blkT_bd l _ l 0 (by omega) (by omega) h2
theorem blocks_len (l : List Tsk) : (blocks l).length = l.length := by simp [blocks]
end Go.Proofs.Ythcdemmamggboaa
