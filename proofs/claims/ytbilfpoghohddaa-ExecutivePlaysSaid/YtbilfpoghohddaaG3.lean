import Derived.Test.YtbilfpoghohddaaZTrblk
import Derived.Test.YtbilfpoghohddaaZTpchk
import Derived.Test.YtbilfpoghohddaaG6
import Derived.Test.YtbilfpoghohddaaG2
/- response: the model of Fixed and Busy, and the plain law of the iteration. -/
namespace Go.Proofs.Ytbilfpoghohddaa
open Go.RowKit
def jobsF (t p : Int) : Int := (t + p - 1) / p
def sumB (f : Tsk → Bool) (r : Int) : Int → List Tsk → Int
  | s, [] => s
  | s, h :: hs => sumB f r (if f h then s + jobsF r h.per * h.cost else s) hs
def aboveB (p : Int) (h : Tsk) : Bool := decide (p < h.prio)
def respF (l : List Tsk) (c p : Int) (r : Int) : Int := sumB (aboveB p) r c l
def busyF (l : List Tsk) (r : Int) : Int := sumB (fun _ => true) r 0 l
/-- the first fixed point from r on, among n numbers; 0: none -/
def fixN (f : Int → Int) : Nat → Int → Int
  | 0, _ => 0
  | n + 1, r => if f r = r then r else fixN f n (r + 1)
theorem fixN_t {f : Int → Int} {n : Nat} {r : Int} (h : f r = r) : fixN f (n + 1) r = r := by simp only [fixN, if_pos h]
theorem fixN_f {f : Int → Int} {n : Nat} {r : Int} (h : f r ≠ r) : fixN f (n + 1) r = fixN f n (r + 1) := by simp only [fixN, if_neg h]
/-- no fixed point among the first k -/
theorem fixN_skip {f : Int → Int} : ∀ (k n : Nat) (r : Int), (∀ j : Nat, j < k → f (r + j) ≠ r + j) → k ≤ n → fixN f n r = fixN f (n - k) (r + k)
  | 0, n, r, _, _ => by simp
  | k + 1, 0, r, _, h => by omega
  | k + 1, n + 1, r, h, hk => by
    have h0 := h 0 (by omega)
    simp at h0
    rw [fixN_f h0, fixN_skip k n (r + 1) (fun j hj => by have := h (j + 1) (by omega); intro he; apply this; push_cast; rw [show r + (↑j + 1) = r + 1 + ↑j by omega]; exact he) (by omega)]
    rw [show n + 1 - (k + 1) = n - k by omega, show r + 1 + (k : Int) = r + ((k + 1 : Nat) : Int) by omega]
theorem fixN_none {f : Int → Int} : ∀ (n : Nat) (r : Int), (∀ j : Nat, j < n → f (r + j) ≠ r + j) → fixN f n r = 0
  | 0, r, _ => rfl
  | n + 1, r, h => by
    have h0 := h 0 (by omega)
    simp at h0
    rw [fixN_f h0, fixN_none n (r + 1) (fun j hj => by have := h (j + 1) (by omega); intro he; apply this; push_cast; rw [show r + (↑j + 1) = r + 1 + ↑j by omega]; exact he)]
/-- a step of the iteration: from r to f r -/
theorem fix_step {f : Int → Int} {most r : Int} (hm : ∀ a b, 1 ≤ a → a ≤ b → f a ≤ f b) (h1 : 1 ≤ r) (hr : r ≤ most) (hf : r < f r) :
    (f r ≤ most → fixN f (most + 1 - r).toNat r = fixN f (most + 1 - f r).toNat (f r)) ∧ (most < f r → fixN f (most + 1 - r).toNat r = 0) := by
  have hne : ∀ j : Nat, (j : Int) < f r - r → f (r + j) ≠ r + j := fun j hj he => by
    have := hm r (r + j) h1 (by omega)
    omega
  constructor
  · intro h
    have := fixN_skip (f := f) (f r - r).toNat (most + 1 - r).toNat r (fun j hj => hne j (by omega)) (by omega)
    rw [this, show (most + 1 - r).toNat - (f r - r).toNat = (most + 1 - f r).toNat by omega, show r + ((f r - r).toNat : Int) = f r by omega]
  · intro h
    exact fixN_none _ _ (fun j hj => hne j (by omega))
theorem fixN_out {f : Int → Int} {most r : Int} (h : most < r) : fixN f (most + 1 - r).toNat r = 0 := by
  rw [show (most + 1 - r).toNat = 0 by omega]; rfl
theorem fixN_at {f : Int → Int} {most r : Int} (hr : r ≤ most) (h : f r = r) : fixN f (most + 1 - r).toNat r = r := by
  rw [show (most + 1 - r).toNat = (most - r).toNat + 1 by omega]; exact fixN_t h
theorem fixN_on {f : Int → Int} {most r : Int} (hr : r ≤ most) (h : f r ≠ r) : fixN f (most + 1 - r).toNat r = fixN f (most + 1 - (r + 1)).toNat (r + 1) := by
  rw [show (most + 1 - r).toNat = (most + 1 - (r + 1)).toNat + 1 by omega]; exact fixN_f h
theorem fixN_bd {f : Int → Int} : ∀ (n : Nat) (r : Int), 1 ≤ r → fixN f n r = 0 ∨ (r ≤ fixN f n r ∧ fixN f n r < r + n ∧ f (fixN f n r) = fixN f n r)
  | 0, r, _ => .inl rfl
  | n + 1, r, h => by
    by_cases e : f r = r
    · rw [fixN_t e]; exact .inr ⟨Int.le_refl _, by omega, e⟩
    · rw [fixN_f e]
      rcases fixN_bd n (r + 1) (by omega) with h1 | ⟨h1, h2, h3⟩
      · exact .inl h1
      · exact .inr ⟨by omega, by omega, h3⟩
/-! bounds -/
structure TOk (t : Tsk) : Prop where
  p1 : 1 ≤ t.per
  p2 : t.per ≤ 1000
  d1 : 1 ≤ t.dl
  d2 : t.dl ≤ t.per
  c1 : 1 ≤ t.cost
  c2 : t.cost ≤ t.dl
theorem tok_of {t : Tsk} (h : tskBad t = false) : TOk t := by
  obtain ⟨_, _, _, h3, h4, _, _, h7, h8, h9, h10⟩ := tskBad_false.1 h
  exact ⟨h3, h4, h7, h8, h9, h10⟩
theorem jobs_bd {r p : Int} (hr : 1 ≤ r) (hp : 1 ≤ p) : 1 ≤ jobsF r p ∧ jobsF r p ≤ r := by
  unfold jobsF
  constructor
  · exact (Int.le_ediv_iff_mul_le (by omega)).mpr (by omega)
  · have h1 : (r + p - 1) / p * p ≤ r + p - 1 := Int.ediv_mul_le _ (by omega)
    have h2 : (r + p - 1) / p ≤ r := by
      rcases Int.lt_or_le r ((r + p - 1) / p) with h | h
      · have : (r + 1) * p ≤ (r + p - 1) / p * p := Int.mul_le_mul_of_nonneg_right (by omega) (by omega)
        have e : (r + 1) * p = r * p + p := by rw [Int.add_mul, Int.one_mul]
        have h3 : r * 1 ≤ r * p := Int.mul_le_mul_of_nonneg_left hp (by omega)
        omega
      · exact h
    exact h2
theorem jobs_mono {a b p : Int} (h : a ≤ b) (hp : 1 ≤ p) : jobsF a p ≤ jobsF b p := Int.ediv_le_ediv (by omega) (by omega)
theorem prod_bd {a b m n : Int} (ha : 0 ≤ a) (ha2 : a ≤ m) (hb : 0 ≤ b) (hb2 : b ≤ n) : 0 ≤ a * b ∧ a * b ≤ m * n :=
  ⟨Int.mul_nonneg ha hb, Int.mul_le_mul ha2 hb2 hb (by omega)⟩
theorem job_cost {r : Int} {t : Tsk} (h : TOk t) (hr : 1 ≤ r) (hr2 : r ≤ 20000) : 1 ≤ jobsF r t.per * t.cost ∧ jobsF r t.per * t.cost ≤ 20000000 := by
  obtain ⟨h1, h2⟩ := jobs_bd (p := t.per) hr h.p1
  have h3 := h.c1; have h4 := h.c2; have h5 := h.d2; have h6 := h.p2
  have a := Int.mul_le_mul (show 1 ≤ jobsF r t.per from h1) (show 1 ≤ t.cost from h3) (by omega) (by omega)
  have b := Int.mul_le_mul (show jobsF r t.per ≤ 20000 by omega) (show t.cost ≤ 1000 by omega) (by omega) (by omega)
  omega
theorem sumB_mono {f : Tsk → Bool} {a b : Int} (ha : 1 ≤ a) (h : a ≤ b) : ∀ (l : List Tsk) (s u : Int), s ≤ u → (∀ t ∈ l, TOk t) → sumB f a s l ≤ sumB f b u l
  | [], s, u, hs, _ => hs
  | t :: ts, s, u, hs, hl => by
    have ht := hl t (by simp)
    have := jobs_mono h ht.p1
    have h2 : jobsF a t.per * t.cost ≤ jobsF b t.per * t.cost := Int.mul_le_mul_of_nonneg_right this (by have := ht.c1; omega)
    refine sumB_mono ha h ts _ _ ?_ (fun x hx => hl x (by simp [hx]))
    split <;> omega
theorem sumB_ge {f : Tsk → Bool} {r : Int} (hr : 1 ≤ r) : ∀ (l : List Tsk) (s : Int), (∀ t ∈ l, TOk t) → s ≤ sumB f r s l
  | [], s, _ => Int.le_refl _
  | t :: ts, s, hl => by
    have ht := hl t (by simp)
    have h1 := (jobs_bd (p := t.per) hr ht.p1).1
    have h2 : 0 ≤ jobsF r t.per * t.cost := Int.mul_nonneg (by omega) (by have := ht.c1; omega)
    have := sumB_ge (f := f) hr ts (if f t then s + jobsF r t.per * t.cost else s) (fun x hx => hl x (by simp [hx]))
    simp only [sumB]
    split at this <;> rename_i hf <;> simp only [hf] at * <;> simp at * <;> omega
/-- the response time of a task; -1: none -/
def respM (l : List Tsk) (blk : List Int) (i : Nat) : Int :=
  if fixN (respF l ((tskAt l i).cost + blk.getD i 0) (tskAt l i).prio) (tskAt l i).dl.toNat 1 = 0 then -1 else fixN (respF l ((tskAt l i).cost + blk.getD i 0) (tskAt l i).prio) (tskAt l i).dl.toNat 1
def busyM (l : List Tsk) : Int := fixN (busyF l) 20000 1
def fixedL (l : List Tsk) : List Int := (List.range l.length).map (respM l (blocks l))
def fixedM (l : List Tsk) : List Int × Bool × Int := if rchk l = 0 then (fixedL l, (fixedL l).all (fun r => decide (0 ≤ r)), 0) else ([], false, rchk l)
def busyR (l : List Tsk) : Int × Int := if rchk l = 0 then (if busyM l = 0 then (0, 3) else (busyM l, 0)) else (0, rchk l)
theorem toks_of {l : List Tsk} (h : rchk l = 0) : ∀ t ∈ l, TOk t := fun t ht => by
  obtain ⟨i, hi, rfl⟩ := List.mem_iff_getElem.mp ht
  have := tok_of ((rchk_ok h).2 i hi).1
  simpa [tskAt, List.getD, hi] using this
theorem tok_at {l : List Tsk} (h : rchk l = 0) {i : Nat} (hi : i < l.length) : TOk (tskAt l i) := tok_of ((rchk_ok h).2 i hi).1
theorem blkS_bd (l : List Tsk) (pi pk : Int) : ∀ (ss : List Sec) (m : Int), 0 ≤ m → m ≤ 1000 → (∀ s ∈ ss, s.len ≤ 1000) → 0 ≤ blkS l pi pk ss m ∧ blkS l pi pk ss m ≤ 1000
  | [], m, h1, h2, _ => ⟨h1, h2⟩
  | s :: ss, m, h1, h2, h3 => by
    have hs := h3 s (by simp)
    simp only [blkS]
    refine blkS_bd l pi pk ss _ ?_ ?_ (fun x hx => h3 x (by simp [hx]))
    · split
      · split <;> omega
      · exact h1
    · split
      · split <;> omega
      · exact h2
theorem blkT_bd (l : List Tsk) (pi : Int) : ∀ (ts : List Tsk) (m : Int), 0 ≤ m → m ≤ 1000 → (∀ t ∈ ts, ∀ s ∈ t.secs, s.len ≤ 1000) → 0 ≤ blkT l pi ts m ∧ blkT l pi ts m ≤ 1000
  | [], m, h1, h2, _ => ⟨h1, h2⟩
  | t :: ts, m, h1, h2, h3 => by
    obtain ⟨a, b⟩ := blkS_bd l pi t.prio t.secs m h1 h2 (h3 t (by simp))
    exact blkT_bd l pi ts _ a b (fun x hx => h3 x (by simp [hx]))
theorem blocks_bd {l : List Tsk} (h : rchk l = 0) {i : Nat} (hi : i < l.length) : 0 ≤ (blocks l).getD i 0 ∧ (blocks l).getD i 0 ≤ 1000 := by
  have h2 : ∀ t ∈ l, ∀ s ∈ t.secs, s.len ≤ 1000 := fun t ht s hs => by
    obtain ⟨k, hk, rfl⟩ := List.mem_iff_getElem.mp ht
    obtain ⟨j, hj, rfl⟩ := List.mem_iff_getElem.mp hs
    obtain ⟨a, b⟩ := (rchk_ok h).2 k hk
    have e : tskAt l k = l[k] := by simp [tskAt, List.getD, hk]
    rw [e] at a b
    have := (sec_len_bd a b j hj).2.2.2
    simpa [secAt, List.getD, hj] using this
  have e : (blocks l).getD i 0 = blkT l (tskAt l i).prio l 0 := by simp [blocks, List.getD, hi, tskAt]
  rw [e]
  exact blkT_bd l _ l 0 (by omega) (by omega) h2
theorem blocks_len (l : List Tsk) : (blocks l).length = l.length := by simp [blocks]
end Go.Proofs.Ytbilfpoghohddaa
/- response: the model of Demand, and the plain law of the walk from deadline to deadline. -/
namespace Go.Proofs.Ytbilfpoghohddaa
open Go.RowKit
theorem rchk_pos {l : List Tsk} (h : rchk l = 0) : 0 < l.length := by
  unfold rchk at h
  by_cases h8 : 8 < l.length
  · omega
  · rw [if_neg h8] at h
    cases hm : manySecs l
    · rw [hm] at h
      by_cases h0 : l.length = 0
      · simp [h0] at h
      · omega
    · simp [hm] at h
/-- how many deadlines of a task lie at or before t -/
def cntU (x : Tsk) (t : Int) : Int := if x.dl ≤ t then (t - x.dl) / x.per + 1 else 0
/-- the first deadline behind t -/
def nxU (x : Tsk) (t : Int) : Int := x.dl + cntU x t * x.per
def dueT (t : Int) (x : Tsk) : Bool := decide (x.dl ≤ t) && decide ((t - x.dl) % x.per = 0)
def dueB (l : List Tsk) (t : Int) : Bool := l.any (dueT t)
def demL (t : Int) : Int → List Tsk → Int
  | s, [] => s
  | s, x :: xs => demL t (s + cntU x t * x.cost) xs
def badB (l : List Tsk) (t : Int) : Bool := dueB l t && decide (t < demL t 0 l)
def secsB (l : List Tsk) : Bool := l.any fun x => decide (0 < x.secs.length)
/-- the first number from t on, among n, of which g holds; 0: none -/
def firstN (g : Int → Bool) : Nat → Int → Int
  | 0, _ => 0
  | n + 1, t => if g t then t else firstN g n (t + 1)
def lastM (l : List Tsk) : Int := if busyM l = 0 then 20000 else busyM l
def dmM (l : List Tsk) : Int := firstN (badB l) (lastM l).toNat 1
def demandM (l : List Tsk) : Bool × Int × Int :=
  if rchk l = 0 then (if secsB l then (false, 0, 2) else if dmM l ≠ 0 then (false, dmM l, 0) else if busyM l = 0 then (false, 0, 3) else (true, 0, 0)) else (false, 0, rchk l)
theorem firstN_t {g : Int → Bool} {n : Nat} {t : Int} (h : g t = true) : firstN g (n + 1) t = t := by simp only [firstN, h, if_true]
theorem firstN_f {g : Int → Bool} {n : Nat} {t : Int} (h : g t = false) : firstN g (n + 1) t = firstN g n (t + 1) := by simp [firstN, h]
theorem first_at {g : Int → Bool} {last t : Int} (ht : t ≤ last) (h : g t = true) : firstN g (last + 1 - t).toNat t = t := by
  rw [show (last + 1 - t).toNat = (last - t).toNat + 1 by omega]; exact firstN_t h
theorem first_on {g : Int → Bool} {last t : Int} (ht : t ≤ last) (h : g t = false) : firstN g (last + 1 - t).toNat t = firstN g (last + 1 - (t + 1)).toNat (t + 1) := by
  rw [show (last + 1 - t).toNat = (last + 1 - (t + 1)).toNat + 1 by omega]; exact firstN_f h
theorem first_out {g : Int → Bool} {last t : Int} (h : last < t) : firstN g (last + 1 - t).toNat t = 0 := by
  rw [show (last + 1 - t).toNat = 0 by omega]; rfl
theorem first_skip {g : Int → Bool} {last : Int} : ∀ (k : Nat) (t u : Int), u = t + k → u ≤ last + 1 → (∀ v, t ≤ v → v < u → g v = false) → firstN g (last + 1 - t).toNat t = firstN g (last + 1 - u).toNat u
  | 0, t, u, h, _, _ => by
    have : u = t := by omega
    rw [this]
  | k + 1, t, u, h, hu, hg => by
    rw [first_on (by omega) (hg t (by omega) (by omega))]
    exact first_skip k (t + 1) u (by omega) hu fun v h1 h2 => hg v (by omega) h2
theorem firstN_bd {g : Int → Bool} : ∀ (n : Nat) (t : Int), 1 ≤ t → firstN g n t = 0 ∨ (t ≤ firstN g n t ∧ firstN g n t < t + n ∧ g (firstN g n t) = true)
  | 0, t, _ => .inl rfl
  | n + 1, t, h => by
    by_cases e : g t = true
    · rw [firstN_t e]; exact .inr ⟨Int.le_refl _, by omega, e⟩
    · rw [firstN_f (by simpa using e)]
      rcases firstN_bd (g := g) n (t + 1) (by omega) with h1 | ⟨h1, h2, h3⟩
      · exact .inl h1
      · exact .inr ⟨by omega, by omega, h3⟩
/-! one task -/
theorem dueT_iff {t : Int} {x : Tsk} : dueT t x = true ↔ x.dl ≤ t ∧ (t - x.dl) % x.per = 0 := by simp [dueT]
theorem nx_gt {x : Tsk} (h : TOk x) (t : Int) : t < nxU x t := by
  unfold nxU cntU
  split
  · have h1 := Int.emod_lt_of_pos (t - x.dl) (show 0 < x.per by have := h.p1; omega)
    have h2 := Int.mul_ediv_add_emod (t - x.dl) x.per
    rw [Int.add_mul, Int.one_mul, Int.mul_comm]
    omega
  · omega
theorem div_sub_one {a p : Int} (hp : 1 ≤ p) (ha : 0 ≤ a) : (a % p = 0 → 1 ≤ a → (a - 1) / p + 1 = a / p) ∧ (a % p ≠ 0 → (a - 1) / p = a / p) := by
  have h1 := Int.mul_ediv_add_emod a p
  have h2 := Int.emod_nonneg a (show p ≠ 0 by omega)
  have h3 := Int.emod_lt_of_pos a (show 0 < p by omega)
  constructor
  · intro he h0
    have : (a - 1) / p = a / p - 1 := by
      rw [Int.ediv_eq_iff_of_pos (by omega)]
      rw [he] at h1
      rw [Int.sub_mul, Int.one_mul, Int.mul_comm (a / p) p]
      omega
    omega
  · intro he
    rw [Int.ediv_eq_iff_of_pos (by omega)]
    rw [Int.mul_comm (a / p) p]
    omega
theorem cnt_due {x : Tsk} (h : TOk x) {t : Int} (hd : dueT t x = true) : cntU x t = cntU x (t - 1) + 1 ∧ nxU x (t - 1) = t := by
  obtain ⟨h1, h2⟩ := dueT_iff.mp hd
  have hp := h.p1
  have h3 := Int.mul_ediv_add_emod (t - x.dl) x.per
  rw [h2] at h3
  unfold nxU cntU
  rw [if_pos h1]
  by_cases h4 : x.dl ≤ t - 1
  · rw [if_pos h4]
    have h5 := (div_sub_one hp (show 0 ≤ t - x.dl by omega)).1 h2 (by omega)
    rw [show t - 1 - x.dl = t - x.dl - 1 by omega]
    refine ⟨by omega, ?_⟩
    rw [h5, Int.mul_comm]; omega
  · rw [if_neg h4]
    have : t - x.dl = 0 := by omega
    rw [this]
    simp
    omega
theorem cnt_not {x : Tsk} (h : TOk x) {t : Int} (hd : dueT t x = false) : cntU x t = cntU x (t - 1) := by
  have hp := h.p1
  unfold cntU
  by_cases h1 : x.dl ≤ t
  · have h2 : (t - x.dl) % x.per ≠ 0 := fun e => by rw [dueT_iff.mpr ⟨h1, e⟩] at hd; cases hd
    have h4 : x.dl ≤ t - 1 := by
      rcases Int.lt_or_le (t - 1) x.dl with h | h
      · exfalso; apply h2; rw [show t - x.dl = 0 by omega]; simp
      · exact h
    rw [if_pos h1, if_pos h4, show t - 1 - x.dl = t - x.dl - 1 by omega, (div_sub_one hp (show 0 ≤ t - x.dl by omega)).2 h2]
  · rw [if_neg h1, if_neg (by omega)]
theorem due_iff {x : Tsk} (h : TOk x) {t : Int} : nxU x (t - 1) = t ↔ dueT t x = true := by
  constructor
  · intro he
    cases hd : dueT t x with
    | true => rfl
    | false =>
      have := nx_gt h t
      unfold nxU at this he
      rw [cnt_not h hd] at this
      omega
  · exact fun hd => (cnt_due h hd).2
/-- no deadline lies between s and the next one -/
theorem cnt_stay {x : Tsk} (h : TOk x) {s : Int} : ∀ (k : Nat), s + k < nxU x s → cntU x (s + k) = cntU x s
  | 0, _ => by simp
  | k + 1, hk => by
    have ih := cnt_stay h (s := s) k (by omega)
    have e : s + ((k + 1 : Nat) : Int) - 1 = s + k := by omega
    cases hd : dueT (s + ((k + 1 : Nat) : Int)) x with
    | true =>
      have h2 := (cnt_due h hd).2
      rw [e] at h2
      unfold nxU at h2 hk
      rw [ih] at h2
      omega
    | false => rw [cnt_not h hd, e, ih]
theorem cnt_stay' {x : Tsk} (h : TOk x) {s t : Int} (h1 : s ≤ t) (h2 : t < nxU x s) : cntU x t = cntU x s := by
  have := cnt_stay h (s := s) (t - s).toNat (by omega)
  rwa [show s + ((t - s).toNat : Int) = t by omega] at this
theorem due_not {x : Tsk} (h : TOk x) {s t : Int} (h1 : s < t) (h2 : t < nxU x s) : dueT t x = false := by
  cases hd : dueT t x with
  | false => rfl
  | true =>
    have h3 := (cnt_due h hd).2
    unfold nxU at h3 h2
    rw [cnt_stay' h (s := s) (t := t - 1) (by omega) (by unfold nxU; omega)] at h3
    omega
theorem cnt_zero {x : Tsk} (h : TOk x) : cntU x 0 = 0 ∧ nxU x 0 = x.dl := by
  have := h.d1
  unfold nxU cntU
  rw [if_neg (by omega)]
  simp
theorem cnt_bd {x : Tsk} (h : TOk x) {t : Int} (h0 : 0 ≤ t) (h1 : t ≤ 20000) : 0 ≤ cntU x t ∧ cntU x t ≤ 20000 := by
  unfold cntU
  have hp := h.p1
  have hd := h.d1
  split
  · have h2 : 0 ≤ (t - x.dl) / x.per := Int.ediv_nonneg (by omega) (by omega)
    have h3 : (t - x.dl) / x.per ≤ t - x.dl := by
      rcases Int.lt_or_le (t - x.dl) ((t - x.dl) / x.per) with h | h
      · have h4 := Int.ediv_mul_le (t - x.dl) (show x.per ≠ 0 by omega)
        have h5 : (t - x.dl) / x.per * 1 ≤ (t - x.dl) / x.per * x.per := Int.mul_le_mul_of_nonneg_left hp h2
        omega
      · exact h
    omega
  · omega
theorem cnt_cost {x : Tsk} (h : TOk x) {t : Int} (h0 : 0 ≤ t) (h1 : t ≤ 20000) : 0 ≤ cntU x t * x.cost ∧ cntU x t * x.cost ≤ 20000000 := by
  obtain ⟨a, b⟩ := cnt_bd h h0 h1
  have h2 := h.c1
  have h3 : x.cost ≤ 1000 := by have := h.c2; have := h.d2; have := h.p2; omega
  exact prod_bd a b (by omega) h3
/-! all tasks -/
theorem dem_add {t : Int} : ∀ (l : List Tsk) (s c : Int), demL t (s + c) l = demL t s l + c
  | [], s, c => rfl
  | x :: xs, s, c => by
    simp only [demL]
    rw [show s + c + cntU x t * x.cost = s + cntU x t * x.cost + c by omega, dem_add xs]
/-- what the jobs due at t add -/
def incs (t : Int) : List Tsk → Int
  | [] => 0
  | x :: xs => (if dueT t x then x.cost else 0) + incs t xs
theorem incs_nn {t : Int} : ∀ (l : List Tsk), (∀ x ∈ l, TOk x) → 0 ≤ incs t l
  | [], _ => Int.le_refl _
  | x :: xs, h => by
    have h1 := incs_nn (t := t) xs fun y hy => h y (by simp [hy])
    have h2 := (h x (by simp)).c1
    simp only [incs]; split <;> omega
theorem dem_step {t : Int} : ∀ (l : List Tsk) (s : Int), (∀ x ∈ l, TOk x) → demL t s l = demL (t - 1) s l + incs t l
  | [], s, _ => by simp [demL, incs]
  | x :: xs, s, h => by
    simp only [demL, incs]
    rw [dem_step xs _ fun y hy => h y (by simp [hy])]
    have hx := h x (by simp)
    by_cases hd : dueT t x = true
    · rw [(cnt_due hx hd).1, if_pos hd, Int.add_mul, Int.one_mul, show s + (cntU x (t - 1) * x.cost + x.cost) = s + cntU x (t - 1) * x.cost + x.cost by omega, dem_add]
      omega
    · rw [cnt_not hx (by simpa using hd), if_neg hd]; omega
theorem dem_same {s t : Int} : ∀ (l : List Tsk) (q : Int), (∀ x ∈ l, cntU x t = cntU x s) → demL t q l = demL s q l
  | [], q, _ => rfl
  | x :: xs, q, h => by
    simp only [demL]
    rw [h x (by simp)]
    exact dem_same xs _ fun y hy => h y (by simp [hy])
theorem dem_zero : ∀ (l : List Tsk) (q : Int), (∀ x ∈ l, TOk x) → demL 0 q l = q
  | [], q, _ => rfl
  | x :: xs, q, h => by
    simp only [demL]
    rw [(cnt_zero (h x (by simp))).1]
    simp only [Int.zero_mul, Int.add_zero]
    exact dem_zero xs _ fun y hy => h y (by simp [hy])
theorem dem_bd {t : Int} (h0 : 0 ≤ t) (h1 : t ≤ 20000) : ∀ (l : List Tsk) (s : Int), (∀ x ∈ l, TOk x) → s ≤ demL t s l ∧ demL t s l ≤ s + l.length * 20000000
  | [], s, _ => by simp [demL]
  | x :: xs, s, h => by
    obtain ⟨a, b⟩ := cnt_cost (h x (by simp)) h0 h1
    obtain ⟨c, d⟩ := dem_bd h0 h1 xs (s + cntU x t * x.cost) fun y hy => h y (by simp [hy])
    simp only [demL, List.length_cons]
    push_cast
    omega
/-- from the deadlines up to s on to the next one, m -/
theorem next_law {l : List Tsk} (hl : ∀ x ∈ l, TOk x) {s m : Int} (hm : ∀ x ∈ l, m ≤ nxU x s) (hs : s < m) :
    (∀ x ∈ l, cntU x (m - 1) = cntU x s) ∧ ∀ v, s < v → v < m → badB l v = false := by
  refine ⟨fun x hx => cnt_stay' (hl x hx) (by omega) (by have := hm x hx; omega), fun v h1 h2 => ?_⟩
  have : dueB l v = false := by
    rw [dueB, List.any_eq_false]
    intro x hx
    rw [due_not (hl x hx) h1 (by have := hm x hx; omega)]
    simp
  simp [badB, this]
theorem busyM_bd (l : List Tsk) : 0 ≤ busyM l ∧ busyM l ≤ 20000 := by
  rcases fixN_bd (f := busyF l) 20000 1 (by omega) with h | ⟨h1, h2, _⟩
  · unfold busyM; omega
  · unfold busyM; omega
theorem lastM_bd (l : List Tsk) : 1 ≤ lastM l ∧ lastM l ≤ 20000 := by
  have := busyM_bd l
  unfold lastM; split <;> omega
/-- the least of the numbers -/
def minF : Int → List Int → Int
  | m, [] => m
  | m, x :: xs => minF (if x < m then x else m) xs
theorem minF_le : ∀ (xs : List Int) (m : Int), minF m xs ≤ m ∧ (∀ x ∈ xs, minF m xs ≤ x) ∧ (minF m xs = m ∨ minF m xs ∈ xs)
  | [], m => ⟨Int.le_refl _, fun x h => by simp at h, .inl rfl⟩
  | x :: xs, m => by
    obtain ⟨a, b, c⟩ := minF_le xs (if x < m then x else m)
    simp only [minF]
    by_cases h : x < m
    · rw [if_pos h] at a b c ⊢
      refine ⟨by omega, fun y hy => ?_, ?_⟩
      · rcases List.mem_cons.mp hy with rfl | hy
        · exact a
        · exact b y hy
      · rcases c with c | c
        · exact .inr (by rw [c]; simp)
        · exact .inr (List.mem_cons_of_mem _ c)
    · rw [if_neg h] at a b c ⊢
      refine ⟨a, fun y hy => ?_, ?_⟩
      · rcases List.mem_cons.mp hy with rfl | hy
        · omega
        · exact b y hy
      · rcases c with c | c
        · exact .inl c
        · exact .inr (List.mem_cons_of_mem _ c)
def minL (xs : List Int) : Int := minF (xs.getD 0 0) (xs.drop 1)
theorem minL_le {xs : List Int} (h : 0 < xs.length) : (∀ x ∈ xs, minL xs ≤ x) ∧ minL xs ∈ xs := by
  cases xs with
  | nil => simp at h
  | cons y ys =>
    obtain ⟨a, b, c⟩ := minF_le ys y
    unfold minL
    simp
    refine ⟨⟨a, b⟩, c⟩
end Go.Proofs.Ytbilfpoghohddaa
/- schedule: the model of Run. -/
namespace Go.Proofs.Ytbilfpoghohddaa
open Go.RowKit
structure Job where
  tk : Nat
  num : Int
  rel : Int
  dn : Int
  pos : Nat
structure Stn where
  tk : Int
  job : Int
  frm : Int
  to : Int
abbrev stTo (s : Stn) (v : Int) : Stn := { s with to := v }
structure Don where
  tk : Nat
  job : Int
  rel : Int
  resp : Int
  miss : Bool
structure St where
  ready : List Job
  stints : List Stn
  jobs : List Don
def insideB (s : Sec) (d : Int) : Bool := decide (s.frm < d) && decide (d < s.frm + s.len)
def mx (a b : Int) : Int := if a < b then b else a
def rankS (l : List Tsk) (d : Int) : Int × Bool → List Sec → Int × Bool
  | p, [] => p
  | p, s :: ss => rankS l d (if insideB s d then (mx p.1 (ceilT s.res l 0), true) else p) ss
def rankM (l : List Tsk) (j : Job) : Int × Bool := rankS l j.dn ((tskAt l j.tk).prio, false) (tskAt l j.tk).secs
def dlJ (l : List Tsk) (j : Job) : Int := j.rel + (tskAt l j.tk).dl
def beforeM (l : List Tsk) (pol : Int) (a b : Job) : Bool :=
  if pol = 2 then
    if dlJ l a = dlJ l b then decide (a.tk < b.tk) || (decide (a.tk = b.tk) && decide (a.num < b.num)) else decide (dlJ l a < dlJ l b)
  else if (rankM l a).1 = (rankM l b).1 then
    if (rankM l a).2 = (rankM l b).2 then
      if a.rel = b.rel then decide (a.tk < b.tk) else decide (a.rel < b.rel)
    else (rankM l a).2
  else decide ((rankM l b).1 < (rankM l a).1)
/-- the program's key -/
def keyM (l : List Tsk) (pol : Int) (j : Job) : List Int :=
  if pol = 2 then [dlJ l j, j.tk, j.num, 0, 0] else [-(rankM l j).1, if (rankM l j).2 then 0 else 1, j.rel, j.tk, 0]
theorem keyM_len (l : List Tsk) (pol : Int) (j : Job) : (keyM l pol j).length = 5 := by unfold keyM; split <;> rfl
def cmpI (x y : Int) : Int := if x < y then -1 else if y < x then 1 else 0
def cmpL : List Int → List Int → Int
  | [], [] => 0
  | [], _ :: _ => -1
  | _ :: _, [] => 1
  | x :: xs, y :: ys => if cmpI x y = 0 then cmpL xs ys else cmpI x y
theorem cmp_cons (x y : Int) (xs ys : List Int) : decide (cmpL (x :: xs) (y :: ys) < 0) = if x = y then decide (cmpL xs ys < 0) else decide (x < y) := by
  simp only [cmpL, cmpI]
  by_cases h : x = y
  · subst h; simp
  · by_cases h2 : x < y
    · simp [h, h2]
    · have h3 : y < x := by omega
      simp [h, h2, h3]
/-- the array tells what 'before' tells -/
theorem cmp_before (l : List Tsk) (pol : Int) (a b : Job) : decide (cmpL (keyM l pol a) (keyM l pol b) < 0) = beforeM l pol a b := by
  unfold keyM beforeM
  by_cases hp : pol = 2
  · rw [if_pos hp, if_pos hp, if_pos hp]
    simp only [cmp_cons]
    by_cases h1 : dlJ l a = dlJ l b
    · rw [if_pos h1, if_pos h1]
      by_cases h2 : (a.tk : Int) = b.tk
      · rw [if_pos h2]
        have h2' : a.tk = b.tk := by omega
        by_cases h3 : a.num = b.num
        · simp [h2', h3, cmpL]
        · simp [h2', h3]
      · rw [if_neg h2]
        have h2' : ¬ a.tk = b.tk := by omega
        simp [h2']
    · rw [if_neg h1, if_neg h1]
  · rw [if_neg hp, if_neg hp, if_neg hp]
    simp only [cmp_cons]
    by_cases h1 : (rankM l a).1 = (rankM l b).1
    · rw [if_pos h1, if_pos (by omega)]
      by_cases h2 : (rankM l a).2 = (rankM l b).2
      · rw [if_pos h2, if_pos (by rw [h2])]
        by_cases h3 : a.rel = b.rel
        · rw [if_pos h3, if_pos h3]
          by_cases h4 : (a.tk : Int) = b.tk
          · rw [if_pos h4]
            have h4' : a.tk = b.tk := by omega
            simp [h4', cmpL]
          · rw [if_neg h4]; simp
        · rw [if_neg h3, if_neg h3]
      · rw [if_neg h2]
        cases ha : (rankM l a).2 <;> cases hb : (rankM l b).2 <;> simp_all
    · rw [if_neg h1, if_neg (by omega)]
      exact decide_eq_decide.mpr (by omega)
/-! a tick -/
def dueJ (t : Int) (x : Tsk) : Bool := decide (x.off ≤ t) && decide ((t - x.off) % x.per = 0)
def numJ (t : Int) (x : Tsk) : Int := (t - x.off) / x.per
def relJ (t : Int) : Nat → List Tsk → St → St
  | _, [], s => s
  | i, x :: xs, s => relJ t (i + 1) xs (if dueJ t x then { s with ready := s.ready ++ [⟨i, numJ t x, t, 0, s.jobs.length⟩], jobs := s.jobs ++ [⟨i, numJ t x, t, -1, false⟩] } else s)
def jbAt (l : List Job) (i : Nat) : Job := l.getD i ⟨0, 0, 0, 0, 0⟩
def stAt (l : List Stn) (i : Nat) : Stn := l.getD i ⟨0, 0, 0, 0⟩
def dnAt (l : List Don) (i : Nat) : Don := l.getD i ⟨0, 0, 0, 0, false⟩
/-- the index of the job that is executed -/
def bestF (l : List Tsk) (pol : Int) : Nat → Job → Nat → List Job → Nat
  | b, _, _, [] => b
  | b, c, i, j :: js => if beforeM l pol j c then bestF l pol i j (i + 1) js else bestF l pol b c (i + 1) js
def bestM (l : List Tsk) (pol : Int) (r : List Job) : Nat := bestF l pol 0 (jbAt r 0) 1 (r.drop 1)
def stintsM (t : Int) (j : Job) (ss : List Stn) : List Stn :=
  if 0 < ss.length ∧ (stAt ss (ss.length - 1)).tk = j.tk ∧ (stAt ss (ss.length - 1)).job = j.num ∧ (stAt ss (ss.length - 1)).to = t then
    ss.set (ss.length - 1) { stAt ss (ss.length - 1) with to := t + 1 }
  else ss ++ [⟨j.tk, j.num, t, t + 1⟩]
def runOne (l : List Tsk) (t : Int) (b : Nat) (s : St) : St :=
  let j := jbAt s.ready b
  if j.dn + 1 = (tskAt l j.tk).cost then
    { ready := s.ready.eraseIdx b, stints := stintsM t j s.stints, jobs := s.jobs.set j.pos { dnAt s.jobs j.pos with resp := t + 1 - j.rel } }
  else { ready := s.ready.set b { j with dn := j.dn + 1 }, stints := stintsM t j s.stints, jobs := s.jobs }
def exeM (l : List Tsk) (pol t : Int) (s : St) : St := if s.ready.length = 0 then s else runOne l t (bestM l pol s.ready) s
def tickM (l : List Tsk) (pol t : Int) (s : St) : St := exeM l pol t (relJ t 0 l s)
def runS (l : List Tsk) (pol : Int) : Nat → Int → St → St
  | 0, _, s => s
  | n + 1, t, s => runS l pol n (t + 1) (tickM l pol t s)
def missM (l : List Tsk) (ticks : Int) (d : Don) : Don := { d with miss := decide (d.rel + (tskAt l d.tk).dl ≤ ticks) && (decide (d.resp < 0) || decide ((tskAt l d.tk).dl < d.resp)) }
def endS (l : List Tsk) (pol ticks : Int) : St := runS l pol ticks.toNat 0 ⟨[], [], []⟩
def scheduleM (l : List Tsk) (pol ticks : Int) : List Stn × List Don × Int :=
  if rchk l = 0 then
    if (pol ≠ 1 ∧ (pol ≠ 2 ∨ secsB l = true)) ∨ ticks < 0 then ([], [], 2)
    else if 20000 < ticks then ([], [], 3)
    else ((endS l pol ticks).stints, (endS l pol ticks).jobs.map (missM l ticks), 0)
  else ([], [], rchk l)
/-! what holds of every state -/
structure JobOk (l : List Tsk) (t : Int) (n : Nat) (j : Job) : Prop where
  tk : j.tk < l.length
  n0 : 0 ≤ j.num
  n1 : j.num ≤ t
  r0 : 0 ≤ j.rel
  r1 : j.rel ≤ t
  d0 : 0 ≤ j.dn
  d1 : j.dn < (tskAt l j.tk).cost
  ps : j.pos < n
structure Inv (l : List Tsk) (t : Int) (s : St) : Prop where
  rd : ∀ j ∈ s.ready, JobOk l t s.jobs.length j
  rl : s.ready.length ≤ s.jobs.length
  jl : (s.jobs.length : Int) ≤ l.length * (t + 1)
  sl : (s.stints.length : Int) ≤ t + 1
  dt : ∀ d ∈ s.jobs, d.tk < l.length ∧ 0 ≤ d.rel ∧ d.rel ≤ t
end Go.Proofs.Ytbilfpoghohddaa
namespace Go.Proofs.Ytbilfpoghohddaa
open Go.RowKit
theorem okAll_at {c : Int} : ∀ {ss : List Sec}, okAll c ss = true → ∀ s ∈ ss, secBad c s = false
  | [], _, s, h => by simp at h
  | x :: xs, h, s, hs => by
    simp only [okAll] at h
    cases hb : secBad c x
    · rw [hb] at h
      rcases List.mem_cons.mp hs with rfl | hs
      · exact hb
      · exact okAll_at (by simpa using h) s hs
    · rw [hb] at h; simp at h
structure SecOk (s : Sec) : Prop where
  r0 : 0 ≤ s.res
  r1 : s.res < 8
  f0 : 0 ≤ s.frm
  f1 : s.frm ≤ 1000
  l0 : 1 ≤ s.len
  l1 : s.len ≤ 1000
theorem sec_ok {l : List Tsk} (h : rchk l = 0) {k : Nat} (hk : k < l.length) {i : Nat} (hi : i < (tskAt l k).secs.length) : SecOk (secAt (tskAt l k).secs i) := by
  obtain ⟨b1, b2⟩ := (rchk_ok h).2 k hk
  obtain ⟨a1, a2, a3, a4⟩ := sec_len_bd b1 b2 i hi
  have hok := tok_of b1
  have hc : (tskAt l k).cost ≤ 1000 := by have := hok.c2; have := hok.d2; have := hok.p2; omega
  have h3 : okAll (tskAt l k).cost (tskAt l k).secs = true := by
    unfold rsecsOk at b2
    simp only [Bool.and_eq_true] at b2
    exact b2.1
  have h4 := okAll_at h3 (secAt (tskAt l k).secs i) (by simp [secAt, List.getD, hi])
  simp only [secBad, Bool.or_eq_false_iff, decide_eq_false_iff_not] at h4
  exact ⟨a1, a2, by omega, by omega, a3, a4⟩
structure SecFit (c : Int) (s : Sec) : Prop where
  r0 : 0 ≤ s.res
  r1 : s.res < 8
  f0 : 0 ≤ s.frm
  l1 : 1 ≤ s.len
  fl : s.frm + s.len ≤ c
  c1 : c ≤ 1000
theorem sec_fit {l : List Tsk} (h : rchk l = 0) {k : Nat} (hk : k < l.length) {s : Sec} (hs : s ∈ (tskAt l k).secs) : SecFit (tskAt l k).cost s := by
  obtain ⟨i, hi, e⟩ := List.mem_iff_getElem.mp hs
  have h1 := sec_ok h hk hi
  have es : secAt (tskAt l k).secs i = s := by simp [secAt, List.getD, hi, e]
  rw [es] at h1
  obtain ⟨b1, b2⟩ := (rchk_ok h).2 k hk
  have hok := tok_of b1
  have hc : (tskAt l k).cost ≤ 1000 := by have := hok.c2; have := hok.d2; have := hok.p2; omega
  have hc1 := hok.c1
  have h3 : okAll (tskAt l k).cost (tskAt l k).secs = true := by
    unfold rsecsOk at b2
    simp only [Bool.and_eq_true] at b2
    exact b2.1
  have h4 := okAll_at h3 s hs
  simp only [secBad, Bool.or_eq_false_iff, decide_eq_false_iff_not] at h4
  have hw : wrap64 ((tskAt l k).cost - s.frm) = (tskAt l k).cost - s.frm := wrap_small _ (by have := h1.f0; have := h1.f1; omega) (by have := h1.f0; have := h1.f1; omega)
  rw [hw] at h4
  exact ⟨h1.r0, h1.r1, h1.f0, h1.l0, by omega, hc⟩
theorem manySecs_four : ∀ {L : List Tsk}, manySecs L = false → ∀ t ∈ L, t.secs.length ≤ 4
  | [], _, t, h => by simp at h
  | x :: xs, h, t, ht => by
    unfold manySecs at h
    split at h
    · cases h
    · rcases List.mem_cons.mp ht with rfl | ht
      · omega
      · exact manySecs_four h t ht
theorem sec_four {l : List Tsk} (h : rchk l = 0) {k : Nat} (hk : k < l.length) : (tskAt l k).secs.length ≤ 4 := by
  unfold rchk at h
  split at h
  · omega
  · split at h
    · omega
    · next hm =>
      exact manySecs_four (by simpa using hm) _ (by simp [tskAt, List.getD, hk])
end Go.Proofs.Ytbilfpoghohddaa
/- tables: the model. -/
namespace Go.Proofs.Ytbilfpoghohddaa
open Go.RowKit
def hypO (l : List Tsk) : Int × Int := if (hyp l).2 = 0 ∧ offsB l = true then ((hyp l).1, 2) else hyp l
/-- where i stands in a list; the first place is k -/
def posL (i : Int) : Int → List Int → List Int
  | _, [] => []
  | k, x :: xs => if x = i then k :: posL i (k + 1) xs else posL i (k + 1) xs
def usesB (t : Tsk) (r : Int) : Bool := t.secs.any fun s => decide (s.res = r)
/-- a tick of a table does not disturb a section of task i with resource r -/
def freeB (l : List Tsk) (i r k : Int) : Bool := !(decide (0 ≤ k) && !decide (k = i) && usesB (tskAt l k.toNat) r)
def inAt (l : List Int) (k : Int) : Int := l.getD k.toNat 0
def cutL (l : List Int) (a b : Int) : List Int := (l.drop a.toNat).take (b.toNat - a.toNat)
def secFree (l : List Tsk) (i : Int) (part at_ : List Int) (s : Sec) : Bool := (cutL part (inAt at_ s.frm) (inAt at_ (s.frm + s.len - 1))).all (freeB l i s.res)
def serveB (l : List Tsk) (i : Nat) (part : List Int) : Bool :=
  decide (((posL i 0 part).length : Int) = (tskAt l i).cost) && decide (inAt (posL i 0 part) ((tskAt l i).cost - 1) < (tskAt l i).dl) && (tskAt l i).secs.all (secFree l i part (posL i 0 part))
def partN (xs : List Int) (p c : Nat) : List Int := (xs.drop (c * p)).take p
def servesI (l : List Tsk) (xs : List Int) (i : Nat) : Nat → Nat → Bool
  | 0, _ => true
  | f + 1, c => if serveB l i (partN xs (tskAt l i).per.toNat c) then servesI l xs i f (c + 1) else false
def servesL (l : List Tsk) (xs : List Int) : Nat → List Tsk → Bool
  | _, [] => true
  | i, x :: ts => if servesI l xs i (xs.length / x.per.toNat) 0 then servesL l xs (i + 1) ts else false
def badK (l : List Tsk) (k : Int) : Bool := decide (k < -1) || decide ((l.length : Int) ≤ k)
def chkT (l : List Tsk) (xs : List Int) : Int :=
  if (hypO l).2 = 0 then
    if (xs.length : Int) ≠ (hypO l).1 then 2 else if xs.any (badK l) then 2 else if servesL l xs 0 l then 0 else 370
  else (hypO l).2
/-! positions -/
theorem posL_len (i : Int) : ∀ (xs : List Int) (k : Int), (posL i k xs).length ≤ xs.length
  | [], _ => Nat.le_refl _
  | x :: xs, k => by have := posL_len i xs (k + 1); unfold posL; split <;> simp <;> omega
theorem posL_bd (i : Int) : ∀ (xs : List Int) (k : Int), ∀ p ∈ posL i k xs, k ≤ p ∧ p < k + xs.length
  | [], k, p, h => by simp [posL] at h
  | x :: xs, k, p, h => by
    simp only [List.length_cons]
    unfold posL at h
    split at h
    · rcases List.mem_cons.mp h with rfl | h
      · omega
      · have := posL_bd i xs (k + 1) p h; omega
    · have := posL_bd i xs (k + 1) p h; omega
theorem posL_append (i : Int) : ∀ (xs ys : List Int) (k : Int), posL i k (xs ++ ys) = posL i k xs ++ posL i (k + xs.length) ys
  | [], ys, k => by simp [posL]
  | x :: xs, ys, k => by
    simp only [List.cons_append, posL, List.length_cons]
    rw [posL_append i xs ys (k + 1), show k + 1 + (xs.length : Int) = k + ((xs.length + 1 : Nat) : Int) by push_cast; omega]
    split <;> simp
theorem posL_shift (i : Int) (d : Int) : ∀ (xs : List Int) (k : Int), posL i (k + d) xs = (posL i k xs).map (· + d)
  | [], k => rfl
  | x :: xs, k => by
    simp only [posL]
    rw [show k + d + 1 = k + 1 + d by omega, posL_shift i d xs (k + 1)]
    split <;> simp
/-- the places ascend -/
theorem posL_sorted (i : Int) : ∀ (xs : List Int) (k : Int), (posL i k xs).Pairwise (· < ·)
  | [], _ => .nil
  | x :: xs, k => by
    unfold posL
    split
    · refine .cons (fun p hp => ?_) (posL_sorted i xs (k + 1))
      have := posL_bd i xs (k + 1) p hp; omega
    · exact posL_sorted i xs (k + 1)
theorem posL_at (i : Int) : ∀ (xs : List Int) (k : Int), ∀ p ∈ posL i k xs, xs.getD (p - k).toNat 0 = i
  | [], k, p, h => by simp [posL] at h
  | x :: xs, k, p, h => by
    unfold posL at h
    split at h
    · next e =>
      rcases List.mem_cons.mp h with rfl | h
      · simp [e]
      · have hb := posL_bd i xs (k + 1) p h
        have := posL_at i xs (k + 1) p h
        rw [show (p - k).toNat = (p - (k + 1)).toNat + 1 by omega]
        simpa using this
    · have hb := posL_bd i xs (k + 1) p h
      have := posL_at i xs (k + 1) p h
      rw [show (p - k).toNat = (p - (k + 1)).toNat + 1 by omega]
      simpa using this
end Go.Proofs.Ytbilfpoghohddaa
/- tables: laws of the model (plain). -/
namespace Go.Proofs.Ytbilfpoghohddaa
open Go.RowKit
theorem inAt_mem {l : List Int} {k : Int} (h0 : 0 ≤ k) (h : k < l.length) : inAt l k ∈ l := by
  have : k.toNat < l.length := by omega
  simp [inAt, List.getD, this]
theorem inAt_ge {l : List Int} {k : Int} (h : (l.length : Int) ≤ k) : inAt l k = 0 := by
  have : l.length ≤ k.toNat := by omega
  simp [inAt, List.getD, this]
theorem sorted_at {l : List Int} (h : l.Pairwise (· < ·)) {a b : Int} (ha : 0 ≤ a) (hab : a ≤ b) (hb : b < l.length) : inAt l a ≤ inAt l b ∧ (a < b → inAt l a < inAt l b) := by
  have h1 : a.toNat < l.length := by omega
  have h2 : b.toNat < l.length := by omega
  have ea : inAt l a = l[a.toNat] := by simp [inAt, List.getD, h1]
  have eb : inAt l b = l[b.toNat] := by simp [inAt, List.getD, h2]
  rw [ea, eb]
  have hp := List.pairwise_iff_getElem.mp h
  rcases Int.lt_or_eq_of_le hab with hl | hl
  · have := hp a.toNat b.toNat h1 h2 (by omega); omega
  · subst hl; omega
theorem posL_in (i : Int) (part : List Int) {q : Int} (h0 : 0 ≤ q) (h : q < (posL i 0 part).length) : 0 ≤ inAt (posL i 0 part) q ∧ inAt (posL i 0 part) q < part.length ∧ inAt part (inAt (posL i 0 part) q) = i := by
  have hm := inAt_mem h0 h
  have hb := posL_bd i part 0 _ hm
  have ha := posL_at i part 0 _ hm
  rw [Int.sub_zero] at ha
  exact ⟨by omega, by omega, ha⟩
/-- a place that is too late is seen at the last one -/
theorem serve_late {l : List Tsk} {i : Nat} {part : List Int} {p : Int} (hp : p ∈ posL i 0 part) (hd : (tskAt l i).dl ≤ p) (hc : 1 ≤ (tskAt l i).cost) : serveB l i part = false := by
  unfold serveB
  by_cases hl : ((posL i 0 part).length : Int) = (tskAt l i).cost
  · obtain ⟨k, hk, e⟩ := List.mem_iff_getElem.mp hp
    have hs := sorted_at (posL_sorted i part 0) (a := (k : Int)) (b := (tskAt l i).cost - 1) (by omega) (by omega) (by omega)
    have ek : inAt (posL i 0 part) (k : Int) = p := by simp [inAt, List.getD, hk, e]
    have : decide (inAt (posL i 0 part) ((tskAt l i).cost - 1) < (tskAt l i).dl) = false := by simp; omega
    rw [this]; simp
  · have : decide (((posL i 0 part).length : Int) = (tskAt l i).cost) = false := by simpa using hl
    rw [this]; simp
theorem serve_len {l : List Tsk} {i : Nat} {part : List Int} (h : ((posL i 0 part).length : Int) ≠ (tskAt l i).cost) : serveB l i part = false := by
  have : decide (((posL i 0 part).length : Int) = (tskAt l i).cost) = false := by simpa using h
  unfold serveB
  rw [this]; simp
theorem serve_in {l : List Tsk} {i : Nat} {part : List Int} (h : ((posL i 0 part).length : Int) = (tskAt l i).cost) (hd : inAt (posL i 0 part) ((tskAt l i).cost - 1) < (tskAt l i).dl) : serveB l i part = (tskAt l i).secs.all (secFree l i part (posL i 0 part)) := by
  have h1 : decide (((posL i 0 part).length : Int) = (tskAt l i).cost) = true := by simpa using h
  have h2 : decide (inAt (posL i 0 part) ((tskAt l i).cost - 1) < (tskAt l i).dl) = true := by simpa using hd
  unfold serveB
  rw [h1, h2]; simp
theorem cut_cons {xs : List Int} {a b : Int} (h0 : 0 ≤ a) (hab : a < b) (hb : b ≤ xs.length) : cutL xs a b = inAt xs a :: cutL xs (a + 1) b := by
  unfold cutL
  have h1 : a.toNat < xs.length := by omega
  rw [List.drop_eq_getElem_cons h1, show b.toNat - a.toNat = (b.toNat - (a + 1).toNat) + 1 by omega, List.take_succ_cons, show (a + 1).toNat = a.toNat + 1 by omega]
  congr 1
  simp [inAt, List.getD, h1]
theorem cut_nil {xs : List Int} {a b : Int} (h : b ≤ a) : cutL xs a b = [] := by
  unfold cutL
  rw [show b.toNat - a.toNat = 0 by omega, List.take_zero]
theorem cut_snoc {xs : List Int} : ∀ (n : Nat) {a b : Int}, (n : Int) = b - a → 0 ≤ a → b < xs.length → cutL xs a (b + 1) = cutL xs a b ++ [inAt xs b]
  | 0, a, b, hn, h0, hb => by
    obtain rfl : a = b := by omega
    rw [cut_cons h0 (by omega) (by omega), cut_nil (Int.le_refl (a + 1)), cut_nil (Int.le_refl a)]
    rfl
  | n + 1, a, b, hn, h0, hb => by
    rw [cut_cons h0 (by omega) (by omega), cut_cons (b := b) h0 (by omega) (by omega), cut_snoc n (by omega) (by omega) hb]
    rfl
theorem free_self (l : List Tsk) (i : Nat) (r : Int) : freeB l i r i = true := by simp [freeB]
/-- the last tick of a section is the task's own -/
theorem secFree_incl {l : List Tsk} {i : Nat} {part : List Int} {s : Sec} {c : Int} (hl : ((posL i 0 part).length : Int) = c) (hf : SecFit c s) :
    (cutL part (inAt (posL i 0 part) s.frm) (inAt (posL i 0 part) (s.frm + s.len - 1) + 1)).all (freeB l i s.res) = secFree l i part (posL i 0 part) s := by
  obtain ⟨r0, r1, f0, l1, fl, c1⟩ := hf
  obtain ⟨a1, a2, a3⟩ := posL_in i part (q := s.frm) f0 (by omega)
  obtain ⟨b1, b2, b3⟩ := posL_in i part (q := s.frm + s.len - 1) (by omega) (by omega)
  have hs := (sorted_at (posL_sorted i part 0) (a := s.frm) (b := s.frm + s.len - 1) f0 (by omega) (by omega)).1
  rw [cut_snoc (inAt (posL i 0 part) (s.frm + s.len - 1) - inAt (posL i 0 part) s.frm).toNat (by omega) a1 b2, List.all_append, b3]
  unfold secFree
  simp [free_self]
end Go.Proofs.Ytbilfpoghohddaa
