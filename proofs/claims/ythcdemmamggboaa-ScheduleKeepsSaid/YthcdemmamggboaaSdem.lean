import Derived.Test.YthcdemmamggboaaSmod
/- response: the model of Demand, and the plain law of the walk from deadline to deadline. -/
namespace Go.Proofs.Ythcdemmamggboaa
open Go.RowKit
theorem rchk_pos {l : List Tsk} (h : rchk l = 0) : 0 < l.length := by
  unfold rchk at h
  by_cases h8 : 8 < l.length
  · omega
  · rw [if_neg h8] at h
    cases hm : manySecs l
    · rw [hm] at h
      by_cases h0 : l.length = 0
      · simp [h0] at h
      · omega
    · simp [hm] at h
/-- how many deadlines of a task lie at or before t -/
def cntU (x : Tsk) (t : Int) : Int := if x.dl ≤ t then (t - x.dl) / x.per + 1 else 0
/-- the first deadline behind t -/
def nxU (x : Tsk) (t : Int) : Int := x.dl + cntU x t * x.per
def dueT (t : Int) (x : Tsk) : Bool := decide (x.dl ≤ t) && decide ((t - x.dl) % x.per = 0)
def dueB (l : List Tsk) (t : Int) : Bool := l.any (dueT t)
def demL (t : Int) : Int → List Tsk → Int
  | s, [] => s
  | s, x :: xs => demL t (s + cntU x t * x.cost) xs
def badB (l : List Tsk) (t : Int) : Bool := dueB l t && decide (t < demL t 0 l)
def secsB (l : List Tsk) : Bool := l.any fun x => decide (0 < x.secs.length)
/-- the first number from t on, among n, of which g holds; 0: none -/
def firstN (g : Int → Bool) : Nat → Int → Int
  | 0, _ => 0
  | n + 1, t => if g t then t else firstN g n (t + 1)
def lastM (l : List Tsk) : Int := if busyM l = 0 then 20000 else busyM l
def dmM (l : List Tsk) : Int := firstN (badB l) (lastM l).toNat 1
def demandM (l : List Tsk) : Bool × Int × Int :=
  if rchk l = 0 then (if secsB l then (false, 0, 2) else if dmM l ≠ 0 then (false, dmM l, 0) else if busyM l = 0 then (false, 0, 3) else (true, 0, 0)) else (false, 0, rchk l)
theorem firstN_t {g : Int → Bool} {n : Nat} {t : Int} (h : g t = true) : firstN g (n + 1) t = t := by simp only [firstN, h, if_true]
theorem firstN_f {g : Int → Bool} {n : Nat} {t : Int} (h : g t = false) : firstN g (n + 1) t = firstN g n (t + 1) := by simp [firstN, h]
theorem first_at {g : Int → Bool} {last t : Int} (ht : t ≤ last) (h : g t = true) : firstN g (last + 1 - t).toNat t = t := by
  rw [show (last + 1 - t).toNat = (last - t).toNat + 1 by omega]; exact firstN_t h
theorem first_on {g : Int → Bool} {last t : Int} (ht : t ≤ last) (h : g t = false) : firstN g (last + 1 - t).toNat t = firstN g (last + 1 - (t + 1)).toNat (t + 1) := by
  rw [show (last + 1 - t).toNat = (last + 1 - (t + 1)).toNat + 1 by omega]; exact firstN_f h
theorem first_out {g : Int → Bool} {last t : Int} (h : last < t) : firstN g (last + 1 - t).toNat t = 0 := by
  rw [show (last + 1 - t).toNat = 0 by omega]; rfl
theorem first_skip {g : Int → Bool} {last : Int} : ∀ (k : Nat) (t u : Int), u = t + k → u ≤ last + 1 → (∀ v, t ≤ v → v < u → g v = false) → firstN g (last + 1 - t).toNat t = firstN g (last + 1 - u).toNat u
  | 0, t, u, h, _, _ => by
    have : u = t := by omega
    rw [this]
  | k + 1, t, u, h, hu, hg => by
    rw [first_on (by omega) (hg t (by omega) (by omega))]
    exact first_skip k (t + 1) u (by omega) hu fun v h1 h2 => hg v (by omega) h2
theorem firstN_bd {g : Int → Bool} : ∀ (n : Nat) (t : Int), 1 ≤ t → firstN g n t = 0 ∨ (t ≤ firstN g n t ∧ firstN g n t < t + n ∧ g (firstN g n t) = true)
  | 0, t, _ => .inl rfl
  | n + 1, t, h => by
    by_cases e : g t = true
    · rw [firstN_t e]; exact .inr ⟨Int.le_refl _, by omega, e⟩
    · rw [firstN_f (by simpa using e)]
      rcases firstN_bd (g := g) n (t + 1) (by omega) with h1 | ⟨h1, h2, h3⟩
      · exact .inl h1
      · exact .inr ⟨by omega, by omega, h3⟩
/-! one task -/
theorem dueT_iff {t : Int} {x : Tsk} : dueT t x = true ↔ x.dl ≤ t ∧ (t - x.dl) % x.per = 0 := by simp [dueT]
theorem nx_gt {x : Tsk} (h : TOk x) (t : Int) : t < nxU x t := by
  unfold nxU cntU
  split
  · have h1 := Int.emod_lt_of_pos (t - x.dl) (show 0 < x.per by have := h.p1; omega)
    have h2 := Int.mul_ediv_add_emod (t - x.dl) x.per
    rw [Int.add_mul, Int.one_mul, Int.mul_comm]
    omega
  · omega
theorem div_sub_one {a p : Int} (hp : 1 ≤ p) (ha : 0 ≤ a) : (a % p = 0 → 1 ≤ a → (a - 1) / p + 1 = a / p) ∧ (a % p ≠ 0 → (a - 1) / p = a / p) := by
  have h1 := Int.mul_ediv_add_emod a p
  have h2 := Int.emod_nonneg a (show p ≠ 0 by omega)
  have h3 := Int.emod_lt_of_pos a (show 0 < p by omega)
  constructor
  · intro he h0
    have : (a - 1) / p = a / p - 1 := by
      rw [Int.ediv_eq_iff_of_pos (by omega)]
      rw [he] at h1
      rw [Int.sub_mul, Int.one_mul, Int.mul_comm (a / p) p]
      omega
    omega
  · intro he
    rw [Int.ediv_eq_iff_of_pos (by omega)]
    rw [Int.mul_comm (a / p) p]
    omega
theorem cnt_due {x : Tsk} (h : TOk x) {t : Int} (hd : dueT t x = true) : cntU x t = cntU x (t - 1) + 1 ∧ nxU x (t - 1) = t := by
  obtain ⟨h1, h2⟩ := dueT_iff.mp hd
  have hp := h.p1
  have h3 := Int.mul_ediv_add_emod (t - x.dl) x.per
  rw [h2] at h3
  unfold nxU cntU
  rw [if_pos h1]
  by_cases h4 : x.dl ≤ t - 1
  · rw [if_pos h4]
    have h5 := (div_sub_one hp (show 0 ≤ t - x.dl by omega)).1 h2 (by omega)
    rw [show t - 1 - x.dl = t - x.dl - 1 by omega]
    refine ⟨by omega, ?_⟩
    rw [h5, Int.mul_comm]; omega
  · rw [if_neg h4]
    have : t - x.dl = 0 := by omega
    rw [this]
    simp
    omega
theorem cnt_not {x : Tsk} (h : TOk x) {t : Int} (hd : dueT t x = false) : cntU x t = cntU x (t - 1) := by
  have hp := h.p1
  unfold cntU
  by_cases h1 : x.dl ≤ t
  · have h2 : (t - x.dl) % x.per ≠ 0 := fun e => by rw [dueT_iff.mpr ⟨h1, e⟩] at hd; cases hd
    have h4 : x.dl ≤ t - 1 := by
      rcases Int.lt_or_le (t - 1) x.dl with h | h
      · exfalso; apply h2; rw [show t - x.dl = 0 by omega]; simp
      · exact h
    rw [if_pos h1, if_pos h4, show t - 1 - x.dl = t - x.dl - 1 by omega, (div_sub_one hp (show 0 ≤ t - x.dl by omega)).2 h2]
  · rw [if_neg h1, if_neg (by omega)]
theorem due_iff {x : Tsk} (h : TOk x) {t : Int} : nxU x (t - 1) = t ↔ dueT t x = true := by
  constructor
  · intro he
    cases hd : dueT t x with
    | true => rfl
    | false =>
      have := nx_gt h t
      unfold nxU at this he
      rw [cnt_not h hd] at this
      omega
  · exact fun hd => (cnt_due h hd).2
/-- no deadline lies between s and the next one -/
theorem cnt_stay {x : Tsk} (h : TOk x) {s : Int} : ∀ (k : Nat), s + k < nxU x s → cntU x (s + k) = cntU x s
  | 0, _ => by simp
  | k + 1, hk => by
    have ih := cnt_stay h (s := s) k (by omega)
    have e : s + ((k + 1 : Nat) : Int) - 1 = s + k := by omega
    cases hd : dueT (s + ((k + 1 : Nat) : Int)) x with
    | true =>
      have h2 := (cnt_due h hd).2
      rw [e] at h2
      unfold nxU at h2 hk
      rw [ih] at h2
      omega
    | false => rw [cnt_not h hd, e, ih]
theorem cnt_stay' {x : Tsk} (h : TOk x) {s t : Int} (h1 : s ≤ t) (h2 : t < nxU x s) : cntU x t = cntU x s := by
  have := cnt_stay h (s := s) (t - s).toNat (by omega)
  rwa [show s + ((t - s).toNat : Int) = t by omega] at this
theorem due_not {x : Tsk} (h : TOk x) {s t : Int} (h1 : s < t) (h2 : t < nxU x s) : dueT t x = false := by
  cases hd : dueT t x with
  | false => rfl
  | true =>
    have h3 := (cnt_due h hd).2
    unfold nxU at h3 h2
    rw [cnt_stay' h (s := s) (t := t - 1) (by omega) (by unfold nxU; omega)] at h3
    omega
theorem cnt_zero {x : Tsk} (h : TOk x) : cntU x 0 = 0 ∧ nxU x 0 = x.dl := by
  have := h.d1
  unfold nxU cntU
  rw [if_neg (by omega)]
  simp
theorem cnt_bd {x : Tsk} (h : TOk x) {t : Int} (h0 : 0 ≤ t) (h1 : t ≤ 20000) : 0 ≤ cntU x t ∧ cntU x t ≤ 20000 := by
  unfold cntU
  have hp := h.p1
  have hd := h.d1
  split
  · have h2 : 0 ≤ (t - x.dl) / x.per := Int.ediv_nonneg (by omega) (by omega)
    have h3 : (t - x.dl) / x.per ≤ t - x.dl := by
      rcases Int.lt_or_le (t - x.dl) ((t - x.dl) / x.per) with h | h
      · have h4 := Int.ediv_mul_le (t - x.dl) (show x.per ≠ 0 by omega)
        have h5 : (t - x.dl) / x.per * 1 ≤ (t - x.dl) / x.per * x.per := Int.mul_le_mul_of_nonneg_left hp h2
        omega
      · exact h
    omega
  · omega
theorem cnt_cost {x : Tsk} (h : TOk x) {t : Int} (h0 : 0 ≤ t) (h1 : t ≤ 20000) : 0 ≤ cntU x t * x.cost ∧ cntU x t * x.cost ≤ 20000000 := by
  obtain ⟨a, b⟩ := cnt_bd h h0 h1
  have h2 := h.c1
  have h3 : x.cost ≤ 1000 := by have := h.c2; have := h.d2; have := h.p2; omega
  exact prod_bd a b (by omega) h3
/-! all tasks -/
theorem dem_add {t : Int} : ∀ (l : List Tsk) (s c : Int), demL t (s + c) l = demL t s l + c
  | [], s, c => rfl
  | x :: xs, s, c => by
    simp only [demL]
    rw [show s + c + cntU x t * x.cost = s + cntU x t * x.cost + c by omega, dem_add xs]
/-- what the jobs due at t add -/
def incs (t : Int) : List Tsk → Int
  | [] => 0
  | x :: xs => (if dueT t x then x.cost else 0) + incs t xs
theorem incs_nn {t : Int} : ∀ (l : List Tsk), (∀ x ∈ l, TOk x) → 0 ≤ incs t l
  | [], _ => Int.le_refl _
  | x :: xs, h => by
    have h1 := incs_nn (t := t) xs fun y hy => h y (by simp [hy])
    have h2 := (h x (by simp)).c1
    simp only [incs]; split <;> omega
theorem dem_step {t : Int} : ∀ (l : List Tsk) (s : Int), (∀ x ∈ l, TOk x) → demL t s l = demL (t - 1) s l + incs t l
  | [], s, _ => by simp [demL, incs]
  | x :: xs, s, h => by
    simp only [demL, incs]
    rw [dem_step xs _ fun y hy => h y (by simp [hy])]
    have hx := h x (by simp)
    by_cases hd : dueT t x = true
    · rw [(cnt_due hx hd).1, if_pos hd, Int.add_mul, Int.one_mul, show s + (cntU x (t - 1) * x.cost + x.cost) = s + cntU x (t - 1) * x.cost + x.cost by omega, dem_add]
      omega
    · rw [cnt_not hx (by simpa using hd), if_neg hd]; omega
theorem dem_same {s t : Int} : ∀ (l : List Tsk) (q : Int), (∀ x ∈ l, cntU x t = cntU x s) → demL t q l = demL s q l
  | [], q, _ => rfl
  | x :: xs, q, h => by
    simp only [demL]
    rw [h x (by simp)]
    exact dem_same xs _ fun y hy => h y (by simp [hy])
theorem dem_zero : ∀ (l : List Tsk) (q : Int), (∀ x ∈ l, TOk x) → demL 0 q l = q
  | [], q, _ => rfl
  | x :: xs, q, h => by
    simp only [demL]
    rw [(cnt_zero (h x (by simp))).1]
    simp only [Int.zero_mul, Int.add_zero]
    exact dem_zero xs _ fun y hy => h y (by simp [hy])
theorem dem_bd {t : Int} (h0 : 0 ≤ t) (h1 : t ≤ 20000) : ∀ (l : List Tsk) (s : Int), (∀ x ∈ l, TOk x) → s ≤ demL t s l ∧ demL t s l ≤ s + l.length * 20000000
  | [], s, _ => by simp [demL]
  | x :: xs, s, h => by
    obtain ⟨a, b⟩ := cnt_cost (h x (by simp)) h0 h1
    obtain ⟨c, d⟩ := dem_bd h0 h1 xs (s + cntU x t * x.cost) fun y hy => h y (by simp [hy])
    simp only [demL, List.length_cons]
    push_cast
    omega
/-- from the deadlines up to s on to the next one, m -/
theorem next_law {l : List Tsk} (hl : ∀ x ∈ l, TOk x) {s m : Int} (hm : ∀ x ∈ l, m ≤ nxU x s) (hs : s < m) :
    (∀ x ∈ l, cntU x (m - 1) = cntU x s) ∧ ∀ v, s < v → v < m → badB l v = false := by
  refine ⟨fun x hx => cnt_stay' (hl x hx) (by omega) (by have := hm x hx; omega), fun v h1 h2 => ?_⟩
  have : dueB l v = false := by
    rw [dueB, List.any_eq_false]
    intro x hx
    rw [due_not (hl x hx) h1 (by have := hm x hx; omega)]
    simp
  simp [badB, this]
theorem busyM_bd (l : List Tsk) : 0 ≤ busyM l ∧ busyM l ≤ 20000 := by
  rcases fixN_bd (f := busyF l) 20000 1 (by omega) with h | ⟨h1, h2, _⟩
  · unfold busyM; omega
  · unfold busyM; omega
theorem lastM_bd (l : List Tsk) : 1 ≤ lastM l ∧ lastM l ≤ 20000 := by
  have := busyM_bd l
  unfold lastM; split <;> omega
/-- the least of the numbers -/
def minF : Int → List Int → Int
  | m, [] => m
  | m, x :: xs => minF (if x < m then x else m) xs
theorem minF_le : ∀ (xs : List Int) (m : Int), minF m xs ≤ m ∧ (∀ x ∈ xs, minF m xs ≤ x) ∧ (minF m xs = m ∨ minF m xs ∈ xs)
  | [], m => ⟨Int.le_refl _, fun x h => by simp at h, .inl rfl⟩
  | x :: xs, m => by
    obtain ⟨a, b, c⟩ := minF_le xs (if x < m then x else m)
    simp only [minF]
    by_cases h : x < m
    · rw [if_pos h] at a b c ⊢
      refine ⟨by omega, fun y hy => ?_, ?_⟩
      · rcases List.mem_cons.mp hy with rfl | hy
        · exact a
        · exact b y hy
      · rcases c with c | c
        · exact .inr (by rw [c]; simp)
        · exact .inr (List.mem_cons_of_mem _ c)
    · rw [if_neg h] at a b c ⊢
      refine ⟨a, fun y hy => ?_, ?_⟩
      · rcases List.mem_cons.mp hy with rfl | hy
        · omega
        · exact b y hy
      · rcases c with c | c
        · exact .inl c
        · exact .inr (List.mem_cons_of_mem _ c)
def minL (xs : List Int) : Int := minF (xs.getD 0 0) (xs.drop 1)
theorem minL_le {xs : List Int} (h : 0 < xs.length) : (∀ x ∈ xs, minL xs ≤ x) ∧ minL xs ∈ xs := by
  cases xs with
  | nil => simp at h
  | cons y ys =>
    obtain ⟨a, b, c⟩ := minF_le ys y
    unfold minL
    simp
    refine ⟨⟨a, b⟩, c⟩
end Go.Proofs.Ythcdemmamggboaa
