/- schedule: the work that is pending (plain). -/
import Derived.Test.YthcdemmamggboaaZHap
import Derived.Test.YthcdemmamggboaaG2
import Derived.Test.YthcdemmamggboaaG5
namespace Go.Proofs.Ythcdemmamggboaa
open Go.RowKit
def wJ (l : List Tsk) (f : Nat → Int → Bool) (j : Job) : Int := if f j.tk j.rel then (tskAt l j.tk).cost - j.dn else 0
def wL (l : List Tsk) (f : Nat → Int → Bool) : List Job → Int
  | [] => 0
  | j :: js => wJ l f j + wL l f js
def relW (f : Nat → Int → Bool) (t : Int) : Nat → List Tsk → Int
  | _, [] => 0
  | i, x :: xs => (if dueJ t x && f i t then x.cost else 0) + relW f t (i + 1) xs
theorem wL_append (l : List Tsk) (f : Nat → Int → Bool) : ∀ a b : List Job, wL l f (a ++ b) = wL l f a + wL l f b
  | [], b => by simp [wL]
  | j :: a, b => by simp only [List.cons_append, wL, wL_append l f a b]; omega
theorem relJ_w (l : List Tsk) (f : Nat → Int → Bool) (t : Int) : ∀ (xs : List Tsk) (i : Nat) (s : St), xs = l.drop i → wL l f (relJ t i xs s).ready = wL l f s.ready + relW f t i xs
  | [], i, s, _ => by simp [relJ, relW]
  | x :: xs, i, s, hx => by
    have hlt : i < l.length := by
      rcases Nat.lt_or_ge i l.length with h | h
      · exact h
      · rw [List.drop_eq_nil_of_le h] at hx; cases hx
    rw [tsks_drop hlt] at hx
    injection hx with e1 e2
    subst e1
    simp only [relJ, relW]
    rw [relJ_w l f t xs (i + 1) _ e2]
    cases hd : dueJ t (tskAt l i)
    · simp
    · simp only [Bool.true_and, if_true]
      rw [wL_append]
      simp only [wL, wJ]
      split <;> omega
theorem wL_erase (l : List Tsk) (f : Nat → Int → Bool) : ∀ (r : List Job) (b : Nat), b < r.length → wL l f (r.eraseIdx b) = wL l f r - wJ l f (jbAt r b)
  | [], b, h => by simp at h
  | j :: r, 0, _ => by simp only [List.eraseIdx_cons_zero, wL]; show wL l f r = wJ l f j + wL l f r - wJ l f j; omega
  | j :: r, b + 1, h => by
    simp only [List.eraseIdx_cons_succ, wL]
    rw [wL_erase l f r b (by simpa using h)]
    show _ = wJ l f j + wL l f r - wJ l f (jbAt r b)
    omega
theorem wL_set (l : List Tsk) (f : Nat → Int → Bool) (x : Job) : ∀ (r : List Job) (b : Nat), b < r.length → wL l f (r.set b x) = wL l f r - wJ l f (jbAt r b) + wJ l f x
  | [], b, h => by simp at h
  | j :: r, 0, _ => by simp only [List.set_cons_zero, wL]; show wJ l f x + wL l f r = wJ l f j + wL l f r - wJ l f j + wJ l f x; omega
  | j :: r, b + 1, h => by
    simp only [List.set_cons_succ, wL]
    rw [wL_set l f x r b (by simpa using h)]
    show _ = wJ l f j + wL l f r - wJ l f (jbAt r b) + wJ l f x
    omega
theorem wL_nn {l : List Tsk} {f : Nat → Int → Bool} : ∀ {r : List Job}, (∀ j ∈ r, j.dn < (tskAt l j.tk).cost) → 0 ≤ wL l f r
  | [], _ => Int.le_refl _
  | j :: r, h => by
    have h1 := h j (by simp)
    have h2 := wL_nn (f := f) (r := r) (fun x hx => h x (by simp [hx]))
    simp only [wL, wJ]
    split <;> omega
theorem wL_pos {l : List Tsk} {f : Nat → Int → Bool} : ∀ {r : List Job}, (∀ j ∈ r, j.dn < (tskAt l j.tk).cost) → ∀ j ∈ r, f j.tk j.rel = true → 0 < wL l f r
  | [], _, j, hj, _ => by simp at hj
  | x :: r, h, j, hj, hf => by
    have h1 := h x (by simp)
    have h2 := wL_nn (f := f) (r := r) (fun y hy => h y (by simp [hy]))
    simp only [wL, wJ]
    rcases List.mem_cons.mp hj with rfl | hj
    · rw [if_pos hf]; omega
    · have := wL_pos (fun y hy => h y (by simp [hy])) j hj hf
      split <;> omega
theorem wL_ex {l : List Tsk} {f : Nat → Int → Bool} : ∀ {r : List Job}, 0 < wL l f r → ∃ j ∈ r, f j.tk j.rel = true
  | [], h => by simp [wL] at h
  | x :: r, h => by
    cases hf : f x.tk x.rel
    · simp only [wL, wJ, hf] at h
      obtain ⟨j, hj, e⟩ := wL_ex (r := r) (by simpa using h)
      exact ⟨j, by simp [hj], e⟩
    · exact ⟨x, by simp, hf⟩
theorem exe_w {l : List Tsk} {pol t : Int} {s : St} (f : Nat → Int → Bool) (hn : 0 < s.ready.length) :
    wL l f (exeM l pol t s).ready = wL l f s.ready - (if f (jbAt s.ready (bestM l pol s.ready)).tk (jbAt s.ready (bestM l pol s.ready)).rel then 1 else 0) := by
  have hb := bestM_lt2 l pol hn
  unfold exeM
  rw [if_neg (by omega)]
  unfold runOne
  dsimp only
  split
  · next hc =>
    rw [wL_erase l f _ _ hb]
    unfold wJ
    split <;> omega
  · next hc =>
    rw [wL_set l f _ _ _ hb]
    unfold wJ
    dsimp only
    split <;> omega
/-! how often a task is released -/
def cntF (x : Tsk) (g : Int → Bool) (m : Int) : Nat → Int
  | 0 => 0
  | r + 1 => cntF x g m r + (if dueJ (m + r) x && g (m + r) then 1 else 0)
def totL (f : Nat → Int → Bool) (m : Int) (r : Nat) : Nat → List Tsk → Int
  | _, [] => 0
  | i, x :: xs => cntF x (f i) m r * x.cost + totL f m r (i + 1) xs
theorem totL_zero (f : Nat → Int → Bool) (m : Int) : ∀ (xs : List Tsk) (i : Nat), totL f m 0 i xs = 0
  | [], i => rfl
  | x :: xs, i => by simp [totL, cntF, totL_zero f m xs]
theorem totL_succ (f : Nat → Int → Bool) (m : Int) (r : Nat) : ∀ (xs : List Tsk) (i : Nat), totL f m (r + 1) i xs = totL f m r i xs + relW f (m + r) i xs
  | [], i => rfl
  | x :: xs, i => by
    simp only [totL, relW, cntF]
    rw [totL_succ f m r xs (i + 1), Int.add_mul]
    split <;> simp <;> omega
theorem cntF_nn (x : Tsk) (g : Int → Bool) (m : Int) : ∀ r, 0 ≤ cntF x g m r
  | 0 => Int.le_refl _
  | r + 1 => by have := cntF_nn x g m r; simp only [cntF]; split <;> omega
theorem cntF_le (x : Tsk) (g : Int → Bool) (m : Int) : ∀ r, cntF x g m r ≤ cntF x (fun _ => true) m r
  | 0 => Int.le_refl _
  | r + 1 => by
    have := cntF_le x g m r
    simp only [cntF, Bool.and_true]
    cases dueJ (m + r) x <;> simp <;> (try split) <;> omega
/-- the number of releases before t -/
def cumF (x : Tsk) (t : Int) : Int := (t - x.off + x.per - 1) / x.per
theorem cum_step {x : Tsk} (hp : 1 ≤ x.per) (h0 : 0 ≤ x.off) (h1 : x.off < x.per) {t : Int} (ht : 0 ≤ t) : cumF x (t + 1) = cumF x t + (if dueJ t x then 1 else 0) := by
  unfold cumF
  have hd : dueJ t x = true ↔ (t - x.off + x.per) % x.per = 0 := by
    rw [Int.add_emod_right]
    constructor
    · intro h; exact (due_off h).2
    · intro h
      unfold dueJ
      simp only [Bool.and_eq_true, decide_eq_true_eq]
      refine ⟨?_, h⟩
      rcases Int.lt_or_le t x.off with h2 | h2
      · exfalso
        have e := Int.add_emod_right (t - x.off) x.per
        rw [h, Int.emod_eq_of_lt (by omega) (by omega)] at e
        omega
      · exact h2
  have hk := div_sub_one hp (show 0 ≤ t - x.off + x.per by omega)
  rw [show t + 1 - x.off + x.per - 1 = t - x.off + x.per by omega]
  by_cases h : dueJ t x = true
  · rw [if_pos h]
    have := hk.1 (hd.mp h) (by omega)
    omega
  · rw [if_neg h]
    have := hk.2 (fun e => h (hd.mpr e))
    omega
theorem cnt_cum {x : Tsk} (hp : 1 ≤ x.per) (h0 : 0 ≤ x.off) (h1 : x.off < x.per) {m : Int} (hm : 0 ≤ m) : ∀ r : Nat, cntF x (fun _ => true) m r = cumF x (m + r) - cumF x m
  | 0 => by simp [cntF]
  | r + 1 => by
    have := cum_step hp h0 h1 (t := m + r) (by omega)
    simp only [cntF, Bool.and_true]
    rw [cnt_cum hp h0 h1 hm r, show m + ((r + 1 : Nat) : Int) = m + r + 1 by push_cast; omega, this]
    omega
theorem cum_jobs {x : Tsk} (hp : 1 ≤ x.per) {m r : Int} (hr : 0 ≤ r) : cumF x (m + r) - cumF x m ≤ jobsF r x.per := by
  unfold cumF jobsF
  have h1 := Int.mul_ediv_add_emod (m - x.off + x.per - 1) x.per
  have h2 := Int.emod_lt_of_pos (m - x.off + x.per - 1) (show 0 < x.per by omega)
  have h3 := Int.emod_nonneg (m - x.off + x.per - 1) (show x.per ≠ 0 by omega)
  generalize (m - x.off + x.per - 1) / x.per = q at *
  generalize hs : (m - x.off + x.per - 1) % x.per = s at *
  have e : m + r - x.off + x.per - 1 = (s + r) + q * x.per := by rw [Int.mul_comm q]; omega
  rw [e, Int.add_mul_ediv_right _ _ (by omega)]
  have : (s + r) / x.per ≤ (r + x.per - 1) / x.per := Int.ediv_le_ediv (by omega) (by omega)
  omega
structure POk (x : Tsk) : Prop where
  p1 : 1 ≤ x.per
  o0 : 0 ≤ x.off
  o1 : x.off < x.per
  c1 : 1 ≤ x.cost
  d1 : x.cost ≤ x.dl
  dp : x.dl ≤ x.per
theorem pok_at {l : List Tsk} (h0 : rchk l = 0) {k : Nat} (hk : k < l.length) : POk (tskAt l k) := by
  obtain ⟨_, _, _, a1, _, a2, a3, _, a4, a5, a6⟩ := tskBad_false.1 ((rchk_ok h0).2 k hk).1
  exact ⟨a1, a2, a3, a5, a6, a4⟩
theorem cnt_jobs {x : Tsk} (h : POk x) (g : Int → Bool) {m : Int} (hm : 0 ≤ m) (r : Nat) : cntF x g m r ≤ jobsF r x.per := by
  have h1 := cntF_le x g m r
  rw [cnt_cum h.p1 h.o0 h.o1 hm r] at h1
  have := cum_jobs h.p1 (x := x) (m := m) (r := (r : Int)) (by omega)
  omega
/-! the run -/
def pW (l : List Tsk) (f : Nat → Int → Bool) (pol : Int) (n : Nat) : Int := wL l f (upTo l pol n).ready
/-- the state behind the releases of a tick -/
def mid (l : List Tsk) (pol : Int) (n : Nat) : St := relJ n 0 l (upTo l pol n)
theorem upTo_mid (l : List Tsk) (pol : Int) (n : Nat) : upTo l pol (n + 1) = exeM l pol n (mid l pol n) := upTo_succ l pol n
theorem mid_TI {l : List Tsk} (h0 : rchk l = 0) (pol : Int) (n : Nat) : TI l n l.length (mid l pol n) := (upTo_TI h0 pol n).rel h0
theorem mid_w (l : List Tsk) (f : Nat → Int → Bool) (pol : Int) (n : Nat) : wL l f (mid l pol n).ready = pW l f pol n + relW f n 0 l := relJ_w l f n l 0 _ (by simp)
theorem pW_nn {l : List Tsk} (h0 : rchk l = 0) (f : Nat → Int → Bool) (pol : Int) (n : Nat) : 0 ≤ pW l f pol n := wL_nn (fun j hj => ((upTo_TI h0 pol n).rd j hj).d1)
theorem pW_zero (l : List Tsk) (f : Nat → Int → Bool) (pol : Int) : pW l f pol 0 = 0 := rfl
theorem pW_step {l : List Tsk} (f : Nat → Int → Bool) (pol : Int) (n : Nat) (hn : 0 < (mid l pol n).ready.length) :
    pW l f pol (n + 1) = pW l f pol n + relW f n 0 l - (if f (jbAt (mid l pol n).ready (bestM l pol (mid l pol n).ready)).tk (jbAt (mid l pol n).ready (bestM l pol (mid l pol n).ready)).rel then 1 else 0) := by
  unfold pW
  rw [upTo_mid, exe_w f hn, mid_w]
  rfl
theorem pW_idle {l : List Tsk} (f : Nat → Int → Bool) (pol : Int) (n : Nat) (hn : (mid l pol n).ready.length = 0) : pW l f pol (n + 1) = pW l f pol n + relW f n 0 l := by
  rw [← mid_w]
  unfold pW
  rw [upTo_mid]
  unfold exeM
  rw [if_pos hn]
theorem pW_grow {l : List Tsk} (f : Nat → Int → Bool) (pol : Int) (n : Nat) : pW l f pol (n + 1) ≤ pW l f pol n + relW f n 0 l ∧ pW l f pol n + relW f n 0 l - 1 ≤ pW l f pol (n + 1) := by
  rcases Nat.eq_zero_or_pos (mid l pol n).ready.length with h | h
  · rw [pW_idle f pol n h]; omega
  · rw [pW_step f pol n h]; split <;> omega
theorem mid_pend {l : List Tsk} {f : Nat → Int → Bool} {pol : Int} {n : Nat} (h : 0 < pW l f pol n + relW f n 0 l) : 0 < (mid l pol n).ready.length ∧ ∃ c, c < (mid l pol n).ready.length ∧ f (jbAt (mid l pol n).ready c).tk (jbAt (mid l pol n).ready c).rel = true := by
  rw [← mid_w] at h
  obtain ⟨j, hj, hf⟩ := wL_ex h
  obtain ⟨c, hc, rfl⟩ := mem_jbAt hj
  exact ⟨by omega, c, hc, hf⟩
/-- the zeros of the pending work are not far apart -/
theorem zeros {l : List Tsk} (h0 : rchk l = 0) {f : Nat → Int → Bool} {pol : Int} {P : Nat → Int → Prop} (hb : ∀ n b, P n b → 0 ≤ b)
    (hst : ∀ n b, P n b → 0 < pW l f pol n + relW f n 0 l → ∃ b', P (n + 1) b' ∧ pW l f pol (n + 1) + b' ≤ pW l f pol n + relW f n 0 l + b - 1)
    {m R : Nat} {B : Int} (hz : pW l f pol m = 0) (hB : P m B) (hR : totL f m R 0 l + B ≤ R) (h1 : 1 ≤ R) : ∃ k : Nat, 1 ≤ k ∧ k ≤ R ∧ pW l f pol (m + k) = 0 := by
  apply Classical.byContradiction
  intro hno
  have hpos : ∀ k : Nat, 1 ≤ k → k ≤ R → 0 < pW l f pol (m + k) := fun k a b => by
    have := pW_nn h0 f pol (m + k)
    rcases Int.lt_or_eq_of_le this with h | h
    · exact h
    · exact absurd ⟨k, a, b, h.symm⟩ hno
  have key : ∀ k : Nat, k ≤ R → ∃ b, P (m + k) b ∧ pW l f pol (m + k) + b ≤ B + totL f m k 0 l - k := by
    intro k
    induction k with
    | zero => intro _; exact ⟨B, hB, by rw [totL_zero]; simp [hz]⟩
    | succ k ih =>
      intro hk
      obtain ⟨b, hP, hle⟩ := ih (by omega)
      have h2 := hpos (k + 1) (by omega) hk
      have h3 := (pW_grow f pol (l := l) (m + k)).1
      rw [Nat.add_assoc] at h3
      obtain ⟨b', hP', hle'⟩ := hst (m + k) b hP (by omega)
      rw [Nat.add_assoc] at hP' hle'
      refine ⟨b', hP', ?_⟩
      rw [totL_succ]
      rw [show ((m + k : Nat) : Int) = (m : Int) + k by push_cast; rfl] at hle'
      push_cast
      omega
  obtain ⟨b, hP, hle⟩ := key R (Nat.le_refl _)
  have := hb _ _ hP
  have := hpos R h1 (Nat.le_refl _)
  omega
theorem last_zero {l : List Tsk} (f : Nat → Int → Bool) (pol : Int) : ∀ n : Nat, ∃ m, m ≤ n ∧ pW l f pol m = 0 ∧ ∀ k, m < k → k ≤ n → pW l f pol k ≠ 0
  | 0 => ⟨0, Nat.le_refl _, rfl, fun k a b => by omega⟩
  | n + 1 => by
    by_cases h : pW l f pol (n + 1) = 0
    · exact ⟨n + 1, Nat.le_refl _, h, fun k a b => by omega⟩
    · obtain ⟨m, h1, h2, h3⟩ := last_zero (l := l) f pol n
      refine ⟨m, by omega, h2, fun k a b => ?_⟩
      rcases Nat.lt_or_ge n k with hk | hk
      · obtain rfl : k = n + 1 := by omega
        exact h
      · exact h3 k a hk
/-! jobs do not come back -/
def SameJ (a b : Job) : Prop := a.tk = b.tk ∧ a.rel = b.rel ∧ a.num = b.num ∧ a.pos = b.pos
theorem exe_mem {l : List Tsk} {pol t : Int} {s : St} {j : Job} (h : j ∈ (exeM l pol t s).ready) : ∃ q ∈ s.ready, SameJ q j := by
  unfold exeM at h
  split at h
  · exact ⟨j, h, rfl, rfl, rfl, rfl⟩
  · next hn =>
    have hb := bestM_lt2 l pol (r := s.ready) (by omega)
    generalize bestM l pol s.ready = b at *
    unfold runOne at h
    dsimp only at h
    split at h
    · exact ⟨j, List.mem_of_mem_eraseIdx h, rfl, rfl, rfl, rfl⟩
    · rcases List.mem_or_eq_of_mem_set h with h | h
      · exact ⟨j, h, rfl, rfl, rfl, rfl⟩
      · subst h; exact ⟨_, jbAt_mem hb, rfl, rfl, rfl, rfl⟩
theorem rel_mem {l : List Tsk} {t : Int} {s : St} {j : Job} (h : j ∈ (relJ t 0 l s).ready) : j ∈ s.ready ∨ (j.rel = t ∧ j.dn = 0 ∧ j.tk < l.length ∧ dueJ t (tskAt l j.tk) = true) := by
  have := rel_ind0 (l := l) (t := t) (Q := fun _ q => ∀ j ∈ q.ready, j ∈ s.ready ∨ (j.rel = t ∧ j.dn = 0 ∧ j.tk < l.length ∧ dueJ t (tskAt l j.tk) = true)) (s := s)
    (fun i q hi hd h j hj => by
      dsimp only at hj
      rcases List.mem_append.mp hj with hj | hj
      · exact h j hj
      · simp only [List.mem_singleton] at hj
        subst hj
        exact .inr ⟨rfl, rfl, hi, hd⟩) (fun i q _ _ h => h) (fun j hj => .inl hj)
  exact this j h
theorem mem_rel {l : List Tsk} {t : Int} {s : St} {j : Job} (h : j ∈ s.ready) : j ∈ (relJ t 0 l s).ready :=
  rel_ind0 (l := l) (t := t) (Q := fun _ q => j ∈ q.ready) (s := s) (fun i q _ _ h => List.mem_append_left _ h) (fun i q _ _ h => h) h
theorem back_mid {l : List Tsk} {pol : Int} {n : Nat} {j : Job} (h : j ∈ (upTo l pol (n + 1)).ready) : ∃ q ∈ (mid l pol n).ready, SameJ q j := by
  rw [upTo_mid] at h
  exact exe_mem h
theorem back {l : List Tsk} {pol : Int} {m : Nat} : ∀ (k : Nat) {j : Job}, j ∈ (upTo l pol (m + k)).ready → j.rel < m → ∃ q ∈ (upTo l pol m).ready, SameJ q j
  | 0, j, h, _ => ⟨j, h, rfl, rfl, rfl, rfl⟩
  | k + 1, j, h, hr => by
    obtain ⟨q, hq, e1, e2, e3, e4⟩ := back_mid (n := m + k) h
    rcases rel_mem hq with hq | hq
    · obtain ⟨u, hu, f1, f2, f3, f4⟩ := back k hq (by omega)
      exact ⟨u, hu, f1.trans e1, f2.trans e2, f3.trans e3, f4.trans e4⟩
    · have := hq.1
      exfalso
      omega
/-- a job of the level waits less than the zeros are apart -/
theorem wait_lt {l : List Tsk} (h0 : rchk l = 0) {f : Nat → Int → Bool} {pol : Int} {R : Nat} (hg : ∀ m, pW l f pol m = 0 → ∃ k : Nat, 1 ≤ k ∧ k ≤ R ∧ pW l f pol (m + k) = 0)
    {n : Nat} {j : Job} (hj : j ∈ (upTo l pol n).ready) (hf : f j.tk j.rel = true) : ∃ m : Nat, (m : Int) ≤ j.rel ∧ n < m + R ∧ m ≤ n ∧ pW l f pol m = 0 := by
  obtain ⟨m, h1, h2, h3⟩ := last_zero (l := l) f pol n
  have hd : ∀ q ∈ (upTo l pol m).ready, q.dn < (tskAt l q.tk).cost := fun q hq => ((upTo_TI h0 pol m).rd q hq).d1
  have hm : (m : Int) ≤ j.rel := by
    rcases Int.lt_or_le j.rel m with h | h
    · exfalso
      obtain ⟨k, rfl⟩ : ∃ k, n = m + k := ⟨n - m, by omega⟩
      obtain ⟨q, hq, e1, e2, _⟩ := back k hj h
      have := wL_pos hd q hq (by rw [e1, e2]; exact hf)
      unfold pW at h2
      omega
    · exact h
  obtain ⟨k, k1, k2, k3⟩ := hg m h2
  have : n < m + k := by
    rcases Nat.lt_or_ge n (m + k) with h | h
    · exact h
    · exact absurd k3 (h3 _ (by omega) h)
  exact ⟨m, hm, by omega, h1, h2⟩
end Go.Proofs.Ythcdemmamggboaa
/- schedule: response times are kept (plain). -/
namespace Go.Proofs.Ythcdemmamggboaa
open Go.RowKit
def lvl (l : List Tsk) (p : Int) : Nat → Int → Bool := fun i _ => decide (p ≤ (tskAt l i).prio)
theorem blkS_ge (l : List Tsk) (pi pk : Int) : ∀ (ss : List Sec) (m : Int), m ≤ blkS l pi pk ss m ∧ (∀ s ∈ ss, pk < pi → pi ≤ ceilT s.res l 0 → s.len - 1 ≤ blkS l pi pk ss m)
  | [], m => by simp [blkS]
  | s :: ss, m => by
    obtain ⟨a1, a2⟩ := blkS_ge l pi pk ss (if decide (pk < pi) && decide (pi ≤ ceilT s.res l 0) then (if m < s.len - 1 then s.len - 1 else m) else m)
    unfold blkS
    have hm : m ≤ (if decide (pk < pi) && decide (pi ≤ ceilT s.res l 0) then (if m < s.len - 1 then s.len - 1 else m) else m) := by split <;> (try split) <;> omega
    refine ⟨by omega, fun x hx h1 h2 => ?_⟩
    rcases List.mem_cons.mp hx with rfl | hx
    · have : x.len - 1 ≤ (if decide (pk < pi) && decide (pi ≤ ceilT x.res l 0) then (if m < x.len - 1 then x.len - 1 else m) else m) := by
        rw [if_pos (by simp [h1, h2])]; split <;> omega
      omega
    · exact a2 x hx h1 h2
theorem blkT_ge (l : List Tsk) (pi : Int) : ∀ (ts : List Tsk) (m : Int), m ≤ blkT l pi ts m ∧ (∀ t ∈ ts, ∀ s ∈ t.secs, t.prio < pi → pi ≤ ceilT s.res l 0 → s.len - 1 ≤ blkT l pi ts m)
  | [], m => by simp [blkT]
  | t :: ts, m => by
    obtain ⟨a1, a2⟩ := blkT_ge l pi ts (blkS l pi t.prio t.secs m)
    obtain ⟨b1, b2⟩ := blkS_ge l pi t.prio t.secs m
    unfold blkT
    refine ⟨by omega, fun x hx s hs h1 h2 => ?_⟩
    rcases List.mem_cons.mp hx with rfl | hx
    · have := b2 s hs h1 h2; omega
    · exact a2 x hx s hs h1 h2
theorem blk_at {l : List Tsk} {i : Nat} (hi : i < l.length) : (blocks l).getD i 0 = blkT l (tskAt l i).prio l 0 := by simp [blocks, List.getD, hi, tskAt]
theorem tskAt_mem {l : List Tsk} {i : Nat} (hi : i < l.length) : tskAt l i ∈ l := by simp [tskAt, List.getD, hi]
theorem twin_pre : ∀ (ts pre : List Tsk), rchkT pre ts = 0 → ∀ k, k < ts.length → (∀ o ∈ pre, o.prio ≠ (tskAt ts k).prio) ∧ (∀ i, i < k → (tskAt ts i).prio ≠ (tskAt ts k).prio)
  | [], pre, _, k, hk => by simp at hk
  | t :: ts, pre, h, k, hk => by
    unfold rchkT at h
    split at h
    · omega
    · split at h
      · omega
      · next hb ht =>
        have hall : ∀ {L : List Tsk}, twinAny t L = false → ∀ o ∈ L, o.prio ≠ t.prio := by
          intro L
          induction L with
          | nil => intro _ o ho; simp at ho
          | cons x xs ih =>
            intro hL o ho
            unfold twinAny at hL
            split at hL
            · cases hL
            · next hx =>
              rcases List.mem_cons.mp ho with rfl | ho
              · intro e; apply hx; simp [twin, e]
              · exact ih hL o ho
        have hpre := hall (L := pre) (by simpa using ht)
        cases k with
        | zero => exact ⟨hpre, fun i hi => by omega⟩
        | succ k =>
          obtain ⟨a1, a2⟩ := twin_pre ts (pre ++ [t]) h k (by simpa using hk)
          have e : ∀ i, tskAt (t :: ts) (i + 1) = tskAt ts i := fun i => by simp [tskAt, List.getD]
          rw [e]
          refine ⟨fun o ho => a1 o (by simp [ho]), fun i hi => ?_⟩
          cases i with
          | zero => exact a1 t (by simp)
          | succ i => rw [e]; exact a2 i (by omega)
theorem prio_inj {l : List Tsk} (h : rchk l = 0) {i k : Nat} (hi : i < l.length) (hk : k < l.length) (e : (tskAt l i).prio = (tskAt l k).prio) : i = k := by
  have hT : rchkT [] l = 0 := by
    unfold rchk at h
    split at h
    · omega
    · split at h
      · omega
      · split at h
        · omega
        · exact h
  rcases Nat.lt_trichotomy i k with h1 | h1 | h1
  · exact absurd e ((twin_pre l [] hT k hk).2 i h1)
  · exact h1
  · exact absurd e.symm ((twin_pre l [] hT i hi).2 k h1)
/-- sections are nested or apart -/
theorem nest {l : List Tsk} (h : rchk l = 0) {k : Nat} (hk : k < l.length) {s o : Sec} (hs : s ∈ (tskAt l k).secs) (ho : o ∈ (tskAt l k).secs) (h1 : s.frm < o.frm + o.len) (h2 : o.frm < s.frm + s.len) :
    (s.frm ≤ o.frm ∧ o.frm + o.len ≤ s.frm + s.len) ∨ (o.frm ≤ s.frm ∧ s.frm + s.len ≤ o.frm + o.len) := by
  have f1 := sec_fit h hk hs
  have f2 := sec_fit h hk ho
  have w1 : wrap64 (s.frm + s.len) = s.frm + s.len := wrap_small _ (by have := f1.f0; have := f1.l1; omega) (by have := f1.fl; have := f1.c1; omega)
  have w2 : wrap64 (o.frm + o.len) = o.frm + o.len := wrap_small _ (by have := f2.f0; have := f2.l1; omega) (by have := f2.fl; have := f2.c1; omega)
  obtain ⟨_, b2⟩ := (rchk_ok h).2 k hk
  unfold rsecsOk at b2
  simp only [Bool.and_eq_true] at b2
  have hpw := (noClash_pw b2.2).2
  rw [List.pairwise_iff_getElem] at hpw
  obtain ⟨a, ha, ea⟩ := List.mem_iff_getElem.mp hs
  obtain ⟨b, hb, eb⟩ := List.mem_iff_getElem.mp ho
  have key : ∀ x y : Sec, wrap64 (x.frm + x.len) = x.frm + x.len → wrap64 (y.frm + y.len) = y.frm + y.len → clash x y = false → x.frm < y.frm + y.len → y.frm < x.frm + x.len → (x.frm ≤ y.frm ∧ y.frm + y.len ≤ x.frm + x.len) ∨ (y.frm ≤ x.frm ∧ x.frm + x.len ≤ y.frm + y.len) := by
    intro x y e1 e2 hc g1 g2
    unfold clash secLap secIn at hc
    rw [e1, e2] at hc
    simp only [g1, g2, decide_true, Bool.true_and, Bool.or_eq_false_iff, Bool.and_eq_false_iff, Bool.not_eq_false', Bool.and_eq_true, decide_eq_true_eq] at hc
    rcases hc.1 with hc | hc
    · exact .inl hc
    · exact .inr hc
  rcases Nat.lt_trichotomy a b with hab | hab | hab
  · have := hpw a b ha hb hab
    rw [ea, eb] at this
    exact (key o s w2 w1 this h2 h1).symm
  · subst hab
    rw [ea] at eb
    subst eb
    exact .inl ⟨Int.le_refl _, Int.le_refl _⟩
  · have := hpw b a hb ha hab
    rw [ea, eb] at this
    exact key s o w1 w2 this h1 h2
theorem rank_before {l : List Tsk} {a b : Job} (h : beforeM l 1 a b = false) : (rankM l a).1 ≤ (rankM l b).1 := by
  unfold beforeM at h
  rw [if_neg (by decide)] at h
  split at h
  · omega
  · simpa using h
/-- how long the jobs below a level stay in sections that block it -/
def BrOk (l : List Tsk) (p : Int) (r : List Job) (b : Int) : Prop :=
  0 ≤ b ∧ ∀ j ∈ r, (tskAt l j.tk).prio < p → ∀ s, InSec l j s → p ≤ ceilT s.res l 0 → s.frm + s.len - j.dn ≤ b
theorem BrOk.rel {l : List Tsk} (h0 : rchk l = 0) {p b t : Int} {s : St} (h : BrOk l p s.ready b) : BrOk l p (relJ t 0 l s).ready b :=
  ⟨h.1, fun j hj hp s hin hc => by
    rcases rel_mem hj with hj | ⟨_, hd, htk, _⟩
    · exact h.2 j hj hp s hin hc
    · exfalso
      have := (sec_fit h0 htk hin.1).f0
      have h2 := inside_iff.mp hin.2
      omega⟩
theorem mid_tk {l : List Tsk} (h0 : rchk l = 0) {pol : Int} {n : Nat} {j : Job} (hj : j ∈ (mid l pol n).ready) : j.tk < l.length := by
  have hT := mid_TI h0 pol n
  have hJ := hT.rd j hj
  have := (hT.jr _ hJ.ps).tk
  rw [hJ.eq] at this
  exact this
theorem br_step {l : List Tsk} (h0 : rchk l = 0) {p : Int} {n : Nat} {b : Int} (hP : BrOk l p (upTo l 1 n).ready b) (hpend : 0 < pW l (lvl l p) 1 n + relW (lvl l p) n 0 l) :
    ∃ b', BrOk l p (upTo l 1 (n + 1)).ready b' ∧ pW l (lvl l p) 1 (n + 1) + b' ≤ pW l (lvl l p) 1 n + relW (lvl l p) n 0 l + b - 1 := by
  obtain ⟨hn, c, hc, hf⟩ := mid_pend hpend
  have hstep := pW_step (l := l) (lvl l p) 1 n hn
  have hA : AInv l (mid l 1 n) := (upTo_A h0 n).rel h0
  have hM : BrOk l p (mid l 1 n).ready b := hP.rel h0
  have htk : ∀ j ∈ (mid l 1 n).ready, j.tk < l.length := fun j hj => mid_tk h0 hj
  have hrp := (mid_TI h0 1 n).rp
  have hb := bestM_lt2 l 1 hn
  have hmin := bestM_min l 1 hn
  rw [upTo_mid]
  unfold exeM
  rw [if_neg (by omega)]
  generalize mid l 1 n = s at *
  generalize bestM l 1 s.ready = x at *
  -- who is ready behind the tick
  have hmem : ∀ j ∈ (runOne l n x s).ready, (j ∈ s.ready ∧ j.pos ≠ (jbAt s.ready x).pos) ∨ j = { jbAt s.ready x with dn := (jbAt s.ready x).dn + 1 } := by
    intro j hj
    unfold runOne at hj
    dsimp only at hj
    split at hj
    · exact .inl (mem_erase_other hrp hb hj)
    · rcases mem_set_other hrp hb hj with h | h
      · exact .inr h
      · exact .inl h
  unfold lvl at hf
  simp only [decide_eq_true_eq] at hf
  by_cases hp : p ≤ (tskAt l (jbAt s.ready x).tk).prio
  · refine ⟨b, ⟨hM.1, fun j hj hjp u hin hcl => ?_⟩, ?_⟩
    · rcases hmem j hj with ⟨hj, _⟩ | rfl
      · exact hM.2 j hj hjp u hin hcl
      · exfalso; dsimp only at hjp; omega
    · rw [hstep, if_pos (by simp [lvl, hp])]; omega
  · have hr : p ≤ (rankM l (jbAt s.ready x)).1 := by
      have h1 := rank_before (hmin c hc)
      have h2 := rank_prio l (jbAt s.ready c)
      omega
    obtain ⟨s0, hs0, hce⟩ : ∃ s0, InSec l (jbAt s.ready x) s0 ∧ p ≤ ceilT s0.res l 0 := by
      rcases rank_eq l (jbAt s.ready x) with e | ⟨s0, hs0, e⟩
      · exfalso; omega
      · exact ⟨s0, hs0, by omega⟩
    have h1 := hM.2 _ (jbAt_mem hb) (by omega) s0 hs0 hce
    have hin0 := inside_iff.mp hs0.2
    refine ⟨b - 1, ⟨by omega, fun j hj hjp u hin hcl => ?_⟩, ?_⟩
    · rcases hmem j hj with ⟨hj, hne⟩ | rfl
      · exfalso
        obtain ⟨y, hy, rfl⟩ := mem_jbAt hj
        have hyx : y ≠ x := fun e => hne (by rw [e])
        have habv := best_abv (htk _ (jbAt_mem hb)) (hmin y hy) (hA.at_ hb hy (Ne.symm hyx))
        have := habv u hin
        omega
      · obtain ⟨hum, hui⟩ := hin
        dsimp only at hum hui ⊢
        rw [inside_iff] at hui
        by_cases hold : u.frm < (jbAt s.ready x).dn
        · have := hM.2 _ (jbAt_mem hb) (by omega) u ⟨hum, inside_iff.mpr ⟨hold, by omega⟩⟩ hcl
          omega
        · have := nest h0 (htk _ (jbAt_mem hb)) hum hs0.1 (by omega) (by omega)
          omega
    · rw [hstep, if_neg (by simp [lvl]; omega)]; omega
theorem sumB_shift (f : Tsk → Bool) (r c : Int) : ∀ (xs : List Tsk) (s : Int), sumB f r (s + c) xs = sumB f r s xs + c
  | [], s => rfl
  | x :: xs, s => by
    simp only [sumB]
    split
    · rw [show s + c + jobsF r x.per * x.cost = s + jobsF r x.per * x.cost + c by omega, sumB_shift f r c xs]
    · exact sumB_shift f r c xs s
theorem cntF_false (x : Tsk) (m : Int) : ∀ r, cntF x (fun _ => false) m r = 0
  | 0 => rfl
  | r + 1 => by simp [cntF, cntF_false x m r]
theorem jobs_one {r p : Int} (h1 : 1 ≤ r) (h2 : r ≤ p) : jobsF r p = 1 := by
  unfold jobsF
  rw [Int.ediv_eq_iff_of_pos (by omega)]
  omega
theorem tot_fp {l : List Tsk} (h0 : rchk l = 0) {i : Nat} (hi : i < l.length) {m : Int} (hm : 0 ≤ m) {R : Nat} (h1 : 1 ≤ R) (hR : (R : Int) ≤ (tskAt l i).per) :
    ∀ (xs : List Tsk) (k : Nat), xs = l.drop k → totL (lvl l (tskAt l i).prio) m R k xs ≤ sumB (aboveB (tskAt l i).prio) R (if k ≤ i then (tskAt l i).cost else 0) xs
  | [], k, _ => by
    have := (pok_at h0 hi).c1
    simp only [totL, sumB]; split <;> omega
  | x :: xs, k, hx => by
    have hlt : k < l.length := by
      rcases Nat.lt_or_ge k l.length with h | h
      · exact h
      · rw [List.drop_eq_nil_of_le h] at hx; cases hx
    rw [tsks_drop hlt] at hx
    injection hx with e1 e2
    subst e1
    have ih := tot_fp h0 hi hm h1 hR xs (k + 1) e2
    have hk := pok_at h0 hlt
    simp only [totL, sumB]
    have hJ := cnt_jobs hk (lvl l (tskAt l i).prio k) hm R
    have hJn := cntF_nn (tskAt l k) (lvl l (tskAt l i).prio k) m R
    by_cases hki : k = i
    · subst hki
      rw [jobs_one (by omega) hR] at hJ
      have hab : aboveB (tskAt l k).prio (tskAt l k) = false := by simp [aboveB]
      rw [hab, if_pos (Nat.le_refl _)]
      rw [if_neg (by omega)] at ih
      have : cntF (tskAt l k) (lvl l (tskAt l k).prio k) m R * (tskAt l k).cost ≤ 1 * (tskAt l k).cost := Int.mul_le_mul_of_nonneg_right hJ (by have := hk.c1; omega)
      have hs := sumB_shift (aboveB (tskAt l k).prio) R (tskAt l k).cost xs 0
      rw [Int.zero_add] at hs
      simp only [Bool.false_eq_true, if_false]
      omega
    · have hif : (if k ≤ i then (tskAt l i).cost else 0) = (if k + 1 ≤ i then (tskAt l i).cost else 0) := by
        by_cases h : k ≤ i
        · rw [if_pos h, if_pos (by omega)]
        · rw [if_neg h, if_neg (by omega)]
      rw [hif]
      by_cases hp : (tskAt l i).prio ≤ (tskAt l k).prio
      · have hpl : (tskAt l i).prio < (tskAt l k).prio := by
          rcases Int.lt_or_eq_of_le hp with h | h
          · exact h
          · exact absurd (prio_inj h0 hi hlt h).symm hki
        have hab : aboveB (tskAt l i).prio (tskAt l k) = true := by simp [aboveB, hpl]
        rw [hab, if_pos rfl, sumB_shift]
        have : cntF (tskAt l k) (lvl l (tskAt l i).prio k) m R * (tskAt l k).cost ≤ jobsF R (tskAt l k).per * (tskAt l k).cost := Int.mul_le_mul_of_nonneg_right hJ (by have := hk.c1; omega)
        omega
      · have hab : aboveB (tskAt l i).prio (tskAt l k) = false := by simp [aboveB]; omega
        have hl : lvl l (tskAt l i).prio k = fun _ => false := by funext r; simp [lvl]; omega
        rw [hab, hl, cntF_false]
        simp only [Bool.false_eq_true, if_false, Int.zero_mul]
        omega
theorem fp_gap {l : List Tsk} (h0 : rchk l = 0) {i : Nat} (hi : i < l.length) {R : Nat} (h1 : 1 ≤ R) (h2 : (R : Int) ≤ (tskAt l i).dl) (hfix : respF l ((tskAt l i).cost + (blocks l).getD i 0) (tskAt l i).prio R = R) :
    ∀ m, pW l (lvl l (tskAt l i).prio) 1 m = 0 → ∃ k : Nat, 1 ≤ k ∧ k ≤ R ∧ pW l (lvl l (tskAt l i).prio) 1 (m + k) = 0 := by
  intro m hz
  have hB := blocks_bd h0 hi
  refine zeros h0 (P := fun n b => BrOk l (tskAt l i).prio (upTo l 1 n).ready b) (fun n b h => h.1) (fun n b hP hp => br_step h0 hP hp) hz (B := (blocks l).getD i 0) ⟨hB.1, fun j hj hjp s hin hcl => ?_⟩ ?_ h1
  · have hT := upTo_TI h0 1 m
    have hJ := hT.rd j hj
    have htk := (hT.jr _ hJ.ps).tk
    rw [hJ.eq] at htk
    dsimp only at htk
    have := (blkT_ge l (tskAt l i).prio l 0).2 (tskAt l j.tk) (tskAt_mem htk) s hin.1 hjp hcl
    rw [← blk_at hi] at this
    have h2 := inside_iff.mp hin.2
    omega
  · have := tot_fp h0 hi (m := (m : Int)) (by omega) h1 (by have := (pok_at h0 hi).dp; omega) l 0 (by simp)
    rw [if_pos (by omega)] at this
    unfold respF at hfix
    rw [sumB_shift] at hfix
    omega
theorem fixN_first2 {f : Int → Int} : ∀ (n : Nat) (r : Int), 1 ≤ r → ∀ q, r ≤ q → q < r + n → (fixN f n r = 0 ∨ q < fixN f n r) → f q ≠ q
  | 0, r, _, q, h1, h2, _ => by omega
  | n + 1, r, h, q, h1, h2, h3 => by
    by_cases e : f r = r
    · rw [fixN_t e] at h3; omega
    · rw [fixN_f e] at h3
      by_cases hq : q = r
      · rw [hq]; exact e
      · exact fixN_first2 n (r + 1) (by omega) q (by omega) (by omega) h3
/-- a response time: a fixed point, and the least one -/
theorem resp_law {l : List Tsk} (h0 : rchk l = 0) {i : Nat} (hi : i < l.length) (h : 0 ≤ respM l (blocks l) i) :
    1 ≤ respM l (blocks l) i ∧ respM l (blocks l) i ≤ (tskAt l i).dl ∧ respF l ((tskAt l i).cost + (blocks l).getD i 0) (tskAt l i).prio (respM l (blocks l) i) = respM l (blocks l) i ∧
    ∀ r, 1 ≤ r → r < respM l (blocks l) i → respF l ((tskAt l i).cost + (blocks l).getD i 0) (tskAt l i).prio r ≠ r := by
  have hd := (tok_at h0 hi).d1
  unfold respM at *
  split at h
  · omega
  · next hne =>
    rw [if_neg hne]
    rcases fixN_bd (f := respF l ((tskAt l i).cost + (blocks l).getD i 0) (tskAt l i).prio) (tskAt l i).dl.toNat 1 (by omega) with h1 | ⟨h1, h2, h3⟩
    · exact absurd h1 hne
    · exact ⟨h1, by omega, h3, fun r a b => fixN_first2 _ 1 (by omega) r a (by omega) (.inr b)⟩
/-- if no job waits for D, none is late -/
theorem keep_of_wait {l : List Tsk} (h0 : rchk l = 0) {pol : Int} {D : Nat → Int} (hD : ∀ i, i < l.length → 1 ≤ D i) (hw : ∀ (n : Nat) (j : Job), j ∈ (upTo l pol n).ready → (n : Int) < j.rel + D j.tk) :
    ∀ (n : Nat) k, k < (upTo l pol n).jobs.length → (dnAt (upTo l pol n).jobs k).resp ≤ D (dnAt (upTo l pol n).jobs k).tk := by
  intro n
  induction n with
  | zero => intro k hk; simp [upTo, runS] at hk
  | succ n ih =>
    have hT := mid_TI h0 pol n
    have hmid : ∀ k, k < (mid l pol n).jobs.length → (dnAt (mid l pol n).jobs k).resp ≤ D (dnAt (mid l pol n).jobs k).tk := by
      refine rel_ind0 (Q := fun _ s => ∀ k, k < s.jobs.length → (dnAt s.jobs k).resp ≤ D (dnAt s.jobs k).tk) (fun i s hi _ h k hk => ?_) (fun i s _ _ h => h) ih
      dsimp only at hk ⊢
      rcases Nat.lt_or_ge k s.jobs.length with hk2 | hk2
      · rw [dnAt_snoc_old hk2]; exact h k hk2
      · obtain rfl : k = s.jobs.length := by simp at hk; omega
        rw [dnAt_snoc_new]
        have := hD i hi
        dsimp only
        omega
    rw [upTo_mid]
    unfold exeM
    split
    · exact hmid
    · next hn =>
      have hb := bestM_lt2 l pol (r := (mid l pol n).ready) (by omega)
      have hJ := hT.rd _ (jbAt_mem hb)
      have htk := mid_tk h0 (jbAt_mem hb)
      have hlt : (n : Int) < (jbAt (mid l pol n).ready (bestM l pol (mid l pol n).ready)).rel + D (jbAt (mid l pol n).ready (bestM l pol (mid l pol n).ready)).tk := by
        rcases rel_mem (jbAt_mem hb) with h | h
        · exact hw n _ h
        · have := hD _ htk
          have h1 : (jbAt (mid l pol n).ready (bestM l pol (mid l pol n).ready)).rel = n := h.1
          omega
      generalize bestM l pol (mid l pol n).ready = x at *
      unfold runOne
      dsimp only
      split
      · intro k hk
        rw [List.length_set] at hk
        rw [dnAt_set2 hJ.ps]
        split
        · rw [hJ.eq]; dsimp only; omega
        · exact hmid k hk
      · exact hmid
theorem miss_of_wait {l : List Tsk} (h0 : rchk l = 0) {pol : Int} {D : Nat → Int} (hD : ∀ i, i < l.length → 1 ≤ D i ∧ D i ≤ (tskAt l i).dl) (hw : ∀ (n : Nat) (j : Job), j ∈ (upTo l pol n).ready → (n : Int) < j.rel + D j.tk)
    (n : Nat) {k : Nat} (hk : k < (upTo l pol n).jobs.length) :
    (missM l n (dnAt (upTo l pol n).jobs k)).miss = false ∧ (dnAt (upTo l pol n).jobs k).resp ≤ D (dnAt (upTo l pol n).jobs k).tk ∧ ((dnAt (upTo l pol n).jobs k).rel + D (dnAt (upTo l pol n).jobs k).tk ≤ n → 0 ≤ (dnAt (upTo l pol n).jobs k).resp) := by
  have hT := upTo_TI h0 pol n
  have h1 := keep_of_wait h0 (fun i hi => (hD i hi).1) hw n k hk
  have h2 : (dnAt (upTo l pol n).jobs k).rel + D (dnAt (upTo l pol n).jobs k).tk ≤ n → 0 ≤ (dnAt (upTo l pol n).jobs k).resp := by
    intro hle
    rcases hT.dn k hk with ⟨j, hj, e⟩ | hd
    · exfalso
      have hJ := (hT.rd j hj).eq
      rw [e] at hJ
      rw [hJ] at hle
      dsimp only at hle
      have := hw n j hj
      omega
    · omega
  refine ⟨?_, h1, h2⟩
  have hdl := (hD _ (hT.jr k hk).tk).2
  show (decide _ && (decide _ || decide _)) = false
  rw [Bool.and_eq_false_iff]
  by_cases hle : (dnAt (upTo l pol n).jobs k).rel + (tskAt l (dnAt (upTo l pol n).jobs k).tk).dl ≤ n
  · right
    have := h2 (by omega)
    simp only [Bool.or_eq_false_iff, decide_eq_false_iff_not]
    omega
  · left; simpa using hle
theorem fp_wait {l : List Tsk} (h0 : rchk l = 0) (hall : ∀ i, i < l.length → 0 ≤ respM l (blocks l) i) (n : Nat) (j : Job) (hj : j ∈ (upTo l 1 n).ready) : (n : Int) < j.rel + respM l (blocks l) j.tk := by
  have hT := upTo_TI h0 1 n
  have hJ := hT.rd j hj
  have htk := (hT.jr _ hJ.ps).tk
  rw [hJ.eq] at htk
  dsimp only at htk
  obtain ⟨r1, r2, r3, _⟩ := resp_law h0 htk (hall _ htk)
  obtain ⟨R, hR⟩ : ∃ R : Nat, respM l (blocks l) j.tk = R := ⟨(respM l (blocks l) j.tk).toNat, by omega⟩
  rw [hR] at r1 r2 r3 ⊢
  obtain ⟨m, m1, m2, _⟩ := wait_lt h0 (fp_gap h0 htk (by omega) r2 r3) hj (by simp [lvl])
  omega
end Go.Proofs.Ythcdemmamggboaa
/- schedule: the first job of each task, if all begin together (plain). -/
namespace Go.Proofs.Ythcdemmamggboaa
open Go.RowKit
theorem rank_plain {l : List Tsk} {j : Job} (h : (tskAt l j.tk).secs = []) : (rankM l j).1 = (tskAt l j.tk).prio := by unfold rankM; rw [h]; rfl
theorem nosec_at {l : List Tsk} (h : secsB l = false) {i : Nat} (hi : i < l.length) : (tskAt l i).secs = [] := by
  have := List.any_eq_false.mp h _ (tskAt_mem hi)
  simpa using this
theorem blk_plain {l : List Tsk} (h : secsB l = false) (pi : Int) : ∀ (ts : List Tsk), (∀ t ∈ ts, t.secs = []) → blkT l pi ts 0 = 0
  | [], _ => rfl
  | t :: ts, ht => by unfold blkT; rw [ht t (by simp)]; exact blk_plain h pi ts (fun x hx => ht x (by simp [hx]))
theorem cum_zero {x : Tsk} (h : POk x) (ho : x.off = 0) {r : Int} : cumF x (0 + r) - cumF x 0 = jobsF r x.per := by
  unfold cumF jobsF
  rw [ho]
  have := h.p1
  have e : (0 - 0 + x.per - 1) / x.per = 0 := Int.ediv_eq_zero_of_lt (by omega) (by omega)
  rw [e, show 0 + r - 0 + x.per - 1 = r + x.per - 1 by omega]
  omega
theorem cntF_congr {x : Tsk} {g g' : Int → Bool} (h : ∀ t, g t = g' t) (m : Int) : ∀ r, cntF x g m r = cntF x g' m r := by
  have : g = g' := funext h
  subst this; intro r; rfl
theorem tot_first {l : List Tsk} (h0 : rchk l = 0) (hoff : ∀ i, i < l.length → (tskAt l i).off = 0) {i : Nat} (hi : i < l.length) {R : Nat} (h1 : 1 ≤ R) (hR : (R : Int) ≤ (tskAt l i).per) :
    ∀ (xs : List Tsk) (k : Nat), xs = l.drop k → totL (lvl l (tskAt l i).prio) 0 R k xs = sumB (aboveB (tskAt l i).prio) R (if k ≤ i ∧ i < l.length then (tskAt l i).cost else 0) xs
  | [], k, hx => by
    have : l.length ≤ k := by
      have := congrArg List.length hx
      simp at this; omega
    simp only [totL, sumB]; rw [if_neg (by omega)]
  | x :: xs, k, hx => by
    have hlt : k < l.length := by
      rcases Nat.lt_or_ge k l.length with h | h
      · exact h
      · rw [List.drop_eq_nil_of_le h] at hx; cases hx
    rw [tsks_drop hlt] at hx
    injection hx with e1 e2
    subst e1
    have ih := tot_first h0 hoff hi h1 hR xs (k + 1) e2
    have hk := pok_at h0 hlt
    simp only [totL, sumB]
    rw [ih]
    have hcnt := cnt_cum hk.p1 hk.o0 hk.o1 (m := 0) (by omega) R
    rw [cum_zero hk (hoff k hlt)] at hcnt
    by_cases hki : k = i
    · subst hki
      have hl : lvl l (tskAt l k).prio k = fun _ => true := by funext r; simp [lvl]
      have hab : aboveB (tskAt l k).prio (tskAt l k) = false := by simp [aboveB]
      rw [hl, hcnt, jobs_one (by omega) hR, hab, if_pos (show k ≤ k ∧ k < l.length from ⟨Nat.le_refl _, hlt⟩), if_neg (show ¬ (k + 1 ≤ k ∧ k < l.length) by omega)]
      have hs := sumB_shift (aboveB (tskAt l k).prio) R (tskAt l k).cost xs 0
      rw [Int.zero_add] at hs
      simp only [Bool.false_eq_true, if_false]
      omega
    · have hif : (if k ≤ i ∧ i < l.length then (tskAt l i).cost else 0) = (if k + 1 ≤ i ∧ i < l.length then (tskAt l i).cost else 0) := by
        by_cases h : k ≤ i
        · rw [if_pos ⟨h, hi⟩, if_pos ⟨by omega, hi⟩]
        · rw [if_neg (by omega), if_neg (by omega)]
      rw [hif]
      by_cases hp : (tskAt l i).prio ≤ (tskAt l k).prio
      · have hpl : (tskAt l i).prio < (tskAt l k).prio := by
          rcases Int.lt_or_eq_of_le hp with h | h
          · exact h
          · exact absurd (prio_inj h0 hi hlt h).symm hki
        have hl : lvl l (tskAt l i).prio k = fun _ => true := by funext r; simp [lvl, hp]
        have hab : aboveB (tskAt l i).prio (tskAt l k) = true := by simp [aboveB, hpl]
        rw [hab, if_pos rfl, sumB_shift, hl, hcnt]
        omega
      · have hab : aboveB (tskAt l i).prio (tskAt l k) = false := by simp [aboveB]; omega
        have hl : lvl l (tskAt l i).prio k = fun _ => false := by funext r; simp [lvl]; omega
        rw [hab, hl, cntF_false]
        simp only [Bool.false_eq_true, if_false, Int.zero_mul]
        omega
/-- a job that is ready in the middle of a tick was so in all ticks since its release -/
theorem back_all {l : List Tsk} {pol : Int} {n : Nat} {j : Job} (hj : j ∈ (mid l pol n).ready) {t : Nat} (ht : t ≤ n) (hr : j.rel ≤ t) : ∃ q ∈ (mid l pol t).ready, SameJ q j := by
  rcases Nat.lt_or_eq_of_le ht with h | rfl
  · rcases rel_mem hj with h1 | h1
    · obtain ⟨k, rfl⟩ : ∃ k, n = t + 1 + k := ⟨n - t - 1, by omega⟩
      obtain ⟨q, hq, a1, a2, a3, a4⟩ := back (m := t + 1) k h1 (by push_cast; omega)
      obtain ⟨u, hu, b1, b2, b3, b4⟩ := back_mid hq
      exact ⟨u, hu, b1.trans a1, b2.trans a2, b3.trans a3, b4.trans a4⟩
    · exfalso; have := h1.1; omega
  · exact ⟨j, hj, rfl, rfl, rfl, rfl⟩
/-- when the first job of a task is done -/
theorem first_done {l : List Tsk} (h0 : rchk l = 0) (hs : secsB l = false) (hoff : ∀ i, i < l.length → (tskAt l i).off = 0) {n : Nat} (hn : 0 < (mid l 1 n).ready.length)
    {j : Job} (ej : jbAt (mid l 1 n).ready (bestM l 1 (mid l 1 n).ready) = j) (hnum : j.num = 0) (hd : j.dn + 1 = (tskAt l j.tk).cost) (hR : 0 ≤ respM l (blocks l) j.tk) : respM l (blocks l) j.tk ≤ n + 1 := by
  have hb := bestM_lt2 l 1 hn
  have hjm : j ∈ (mid l 1 n).ready := by rw [← ej]; exact jbAt_mem hb
  have htk := mid_tk h0 hjm
  have hT := mid_TI h0 1 n
  have hJ := hT.rd j hjm
  have hpk := pok_at h0 htk
  have hrel : j.rel = 0 := by
    have := (hT.jr _ hJ.ps).rl
    rw [hJ.eq] at this
    dsimp only at this
    rw [hoff _ htk, hnum] at this
    simpa using this
  obtain ⟨r1, r2, r3, r4⟩ := resp_law h0 htk hR
  have hblk : (blocks l).getD j.tk 0 = 0 := by
    rw [blk_at htk]
    refine blk_plain hs _ l (fun t ht => ?_)
    have := List.any_eq_false.mp hs t ht
    simpa using this
  rcases Int.lt_or_le ((n : Int) + 1) (respM l (blocks l) j.tk) with hlt | hge
  · exfalso
    have hper : ((n + 1 : Nat) : Int) ≤ (tskAt l j.tk).per := by push_cast; have := hpk.dp; omega
    -- all ticks so far went to this level
    have hbusy : ∀ t : Nat, t ≤ n → pW l (lvl l (tskAt l j.tk).prio) 1 (t + 1) = pW l (lvl l (tskAt l j.tk).prio) 1 t + relW (lvl l (tskAt l j.tk).prio) t 0 l - 1 := by
      intro t ht
      obtain ⟨q, hq, e1, e2, e3, e4⟩ := back_all hjm ht (by omega)
      have hqn : 0 < (mid l 1 t).ready.length := List.length_pos_of_mem hq
      have hbt := bestM_lt2 l 1 hqn
      obtain ⟨c, hc, hcq⟩ := mem_jbAt hq
      have hmin := bestM_min l 1 hqn c hc
      rw [hcq] at hmin
      have hrk := rank_before hmin
      rw [rank_plain (nosec_at hs (mid_tk h0 hq)), rank_plain (nosec_at hs (mid_tk h0 (jbAt_mem hbt))), e1] at hrk
      rw [pW_step (l := l) (lvl l (tskAt l j.tk).prio) 1 t hqn, if_pos (by simp [lvl, hrk])]
    have htel : ∀ t : Nat, t ≤ n + 1 → pW l (lvl l (tskAt l j.tk).prio) 1 t = totL (lvl l (tskAt l j.tk).prio) 0 t 0 l - t := by
      intro t
      induction t with
      | zero => intro _; rw [pW_zero, totL_zero]; simp
      | succ t ih =>
        intro ht
        rw [hbusy t (by omega), ih (by omega), totL_succ]
        simp only [Int.zero_add]
        push_cast; omega
    have hend : pW l (lvl l (tskAt l j.tk).prio) 1 (n + 1) = 0 := by
      rcases Int.lt_or_eq_of_le (pW_nn h0 (lvl l (tskAt l j.tk).prio) 1 (n + 1)) with h | h
      · exfalso
        obtain ⟨q, hq, hf⟩ := wL_ex h
        rw [upTo_mid] at hq
        unfold exeM at hq
        rw [if_neg (by omega)] at hq
        unfold runOne at hq
        dsimp only at hq
        rw [ej, if_pos hd] at hq
        obtain ⟨hqm, hqp⟩ := mem_erase_other hT.rp hb hq
        rw [ej] at hqp
        obtain ⟨c, hc, hcq⟩ := mem_jbAt hqm
        have hmin := bestM_min l 1 hn c hc
        rw [hcq, ej] at hmin
        have hrk := rank_before hmin
        rw [rank_plain (nosec_at hs (mid_tk h0 hqm)), rank_plain (nosec_at hs htk)] at hrk
        simp only [lvl, decide_eq_true_eq] at hf
        have etk : q.tk = j.tk := prio_inj h0 (mid_tk h0 hqm) htk (by omega)
        have hQ := hT.rd q hqm
        have hqr := hT.jr _ hQ.ps
        rw [hQ.eq] at hqr
        have hq1 := hqr.rl
        have hq2 := hqr.lt
        have hq3 := hqr.j0
        dsimp only at hq1 hq2 hq3
        rw [etk, hoff _ htk] at hq1
        have hnum0 : q.num = 0 := by
          rcases Int.lt_or_eq_of_le hq3 with h1 | h1
          · exfalso
            have : 1 * (tskAt l j.tk).per ≤ q.num * (tskAt l j.tk).per := Int.mul_le_mul_of_nonneg_right (by omega) (by have := hpk.p1; omega)
            push_cast at hper
            omega
          · exact h1.symm
        exact hqp (hT.un q.pos j.pos hQ.ps hJ.ps (by rw [hQ.eq, hJ.eq]; exact etk) (by rw [hQ.eq, hJ.eq]; dsimp only; rw [hnum0, hnum]))
      · exact h.symm
    have h1 := htel (n + 1) (Nat.le_refl _)
    rw [hend] at h1
    have h2 := tot_first h0 hoff htk (R := n + 1) (by omega) hper l 0 (by simp)
    rw [if_pos ⟨by omega, htk⟩] at h2
    refine r4 ((n : Int) + 1) (by omega) hlt ?_
    unfold respF
    rw [hblk, Int.add_zero]
    have e : ((n + 1 : Nat) : Int) = (n : Int) + 1 := by push_cast; rfl
    rw [← e, ← h2]
    omega
  · omega
theorem first_ge {l : List Tsk} (h0 : rchk l = 0) (hs : secsB l = false) (hoff : ∀ i, i < l.length → (tskAt l i).off = 0) (hall : ∀ i, i < l.length → 0 ≤ respM l (blocks l) i) :
    ∀ (n : Nat) k, k < (upTo l 1 n).jobs.length → (dnAt (upTo l 1 n).jobs k).job = 0 → (dnAt (upTo l 1 n).jobs k).resp = -1 ∨ respM l (blocks l) (dnAt (upTo l 1 n).jobs k).tk ≤ (dnAt (upTo l 1 n).jobs k).resp := by
  intro n
  induction n with
  | zero => intro k hk; simp [upTo, runS] at hk
  | succ n ih =>
    have hT := mid_TI h0 1 n
    have hmid : ∀ k, k < (mid l 1 n).jobs.length → (dnAt (mid l 1 n).jobs k).job = 0 → (dnAt (mid l 1 n).jobs k).resp = -1 ∨ respM l (blocks l) (dnAt (mid l 1 n).jobs k).tk ≤ (dnAt (mid l 1 n).jobs k).resp := by
      refine rel_ind0 (Q := fun _ s => ∀ k, k < s.jobs.length → (dnAt s.jobs k).job = 0 → (dnAt s.jobs k).resp = -1 ∨ respM l (blocks l) (dnAt s.jobs k).tk ≤ (dnAt s.jobs k).resp) (fun i s hi _ h k hk => ?_) (fun i s _ _ h => h) ih
      dsimp only at hk ⊢
      rcases Nat.lt_or_ge k s.jobs.length with hk2 | hk2
      · rw [dnAt_snoc_old hk2]; exact h k hk2
      · obtain rfl : k = s.jobs.length := by simp at hk; omega
        rw [dnAt_snoc_new]
        exact fun _ => .inl rfl
    rw [upTo_mid]
    unfold exeM
    split
    · exact hmid
    · next hn =>
      have hb := bestM_lt2 l 1 (r := (mid l 1 n).ready) (by omega)
      have hJ := hT.rd _ (jbAt_mem hb)
      have htk := mid_tk h0 (jbAt_mem hb)
      have hfd := fun a b => first_done h0 hs hoff (n := n) (by omega) rfl a b (hall _ htk)
      have hrl := (hT.jr _ hJ.ps).rl
      rw [hJ.eq] at hrl
      dsimp only at hrl
      generalize bestM l 1 (mid l 1 n).ready = x at *
      unfold runOne
      dsimp only
      split
      · next hc =>
        intro k hk
        rw [List.length_set] at hk
        rw [dnAt_set2 hJ.ps]
        split
        · rw [hJ.eq]
          dsimp only
          intro hnum
          rw [hnum, hoff _ htk] at hrl
          have := hfd hnum hc
          right
          omega
        · exact hmid k hk
      · exact hmid
end Go.Proofs.Ythcdemmamggboaa
/- schedule: the demand test, for the earliest deadline first (plain). -/
namespace Go.Proofs.Ythcdemmamggboaa
open Go.RowKit
/-- the jobs whose deadline is not behind d -/
def dlF (l : List Tsk) (d : Int) : Nat → Int → Bool := fun i r => decide (r + (tskAt l i).dl ≤ d)
def allF : Nat → Int → Bool := fun _ _ => true
theorem edf_before {l : List Tsk} {a b : Job} (h : beforeM l 2 a b = false) : dlJ l b ≤ dlJ l a := by
  unfold beforeM at h
  rw [if_pos rfl] at h
  split at h
  · omega
  · simpa using h
theorem tot_all {l : List Tsk} (hl : ∀ x ∈ l, POk x) {m : Int} (hm : 0 ≤ m) (R : Nat) : ∀ (xs : List Tsk) (k : Nat), (∀ x ∈ xs, POk x) → totL allF m R k xs ≤ sumB (fun _ => true) R 0 xs
  | [], k, _ => Int.le_refl _
  | x :: xs, k, h => by
    have hx := h x (by simp)
    have ih := tot_all hl hm R xs (k + 1) (fun y hy => h y (by simp [hy]))
    simp only [totL, sumB, if_true]
    have hJ := cnt_jobs hx (allF k) hm R
    have : cntF x (allF k) m R * x.cost ≤ jobsF R x.per * x.cost := Int.mul_le_mul_of_nonneg_right hJ (by have := hx.c1; omega)
    rw [sumB_shift]
    omega
theorem pok_all {l : List Tsk} (h0 : rchk l = 0) : ∀ x ∈ l, POk x := fun x hx => by
  obtain ⟨i, hi, rfl⟩ := List.mem_iff_getElem.mp hx
  have := pok_at h0 hi
  simpa [tskAt, List.getD, hi] using this
theorem all_gap {l : List Tsk} (h0 : rchk l = 0) (pol : Int) {R : Nat} (h1 : 1 ≤ R) (hfix : busyF l R = R) : ∀ m, pW l allF pol m = 0 → ∃ k : Nat, 1 ≤ k ∧ k ≤ R ∧ pW l allF pol (m + k) = 0 := by
  intro m hz
  refine zeros h0 (P := fun _ b => b = 0) (fun n b h => by omega) (fun n b hP hp => ⟨0, rfl, ?_⟩) hz rfl ?_ h1
  · obtain ⟨hn, _⟩ := mid_pend hp
    rw [pW_step (l := l) allF pol n hn]
    simp only [allF, if_true]
    omega
  · have := tot_all (pok_all h0) (m := (m : Int)) (by omega) R l 0 (pok_all h0)
    unfold busyF at hfix
    omega
theorem wL_le_all {l : List Tsk} (f : Nat → Int → Bool) : ∀ {r : List Job}, (∀ j ∈ r, j.dn < (tskAt l j.tk).cost) → wL l f r ≤ wL l allF r
  | [], _ => Int.le_refl _
  | j :: r, h => by
    have h1 := h j (by simp)
    have h2 := wL_le_all f (r := r) (fun x hx => h x (by simp [hx]))
    simp only [wL, wJ, allF, if_true] at *
    split <;> omega
/-- the releases whose deadlines lie in time -/
theorem cnt_dl (x : Tsk) (m L : Int) (q : Nat) (hq : (q : Int) = L - x.dl + 1) : ∀ r : Nat, cntF x (fun t => decide (t + x.dl ≤ m + L)) m r = cntF x (fun _ => true) m (min r q)
  | 0 => by simp [cntF]
  | r + 1 => by
    simp only [cntF]
    rw [cnt_dl x m L q hq r]
    by_cases h : r < q
    · have e1 : min r q = r := by omega
      have e2 : min (r + 1) q = r + 1 := by omega
      have e3 : decide (m + (r : Int) + x.dl ≤ m + L) = true := by simp; omega
      rw [e1, e2]
      simp only [e3, cntF]
    · have e1 : min r q = q := by omega
      have e2 : min (r + 1) q = q := by omega
      have e3 : decide (m + (r : Int) + x.dl ≤ m + L) = false := by simp; omega
      rw [e1, e2]
      simp [e3]
theorem cnt_none (x : Tsk) (m L : Int) (hL : L < x.dl) : ∀ r : Nat, cntF x (fun t => decide (t + x.dl ≤ m + L)) m r = 0
  | 0 => rfl
  | r + 1 => by
    simp only [cntF]
    rw [cnt_none x m L hL r]
    have e3 : decide (m + (r : Int) + x.dl ≤ m + L) = false := by simp; omega
    simp [e3]
theorem jobs_cnt {x : Tsk} (h : POk x) {L : Int} (hL : x.dl ≤ L) : jobsF (L - x.dl + 1) x.per = cntU x L := by
  unfold jobsF cntU
  rw [if_pos hL]
  have := h.p1
  rw [show L - x.dl + 1 + x.per - 1 = L - x.dl + 1 * x.per by omega, Int.add_mul_ediv_right _ _ (by omega)]
theorem cnt_dl_le {x : Tsk} (h : POk x) {m L : Int} (hm : 0 ≤ m) (r : Nat) : cntF x (fun t => decide (t + x.dl ≤ m + L)) m r ≤ cntU x L := by
  by_cases hL : x.dl ≤ L
  · obtain ⟨q, hq⟩ : ∃ q : Nat, (q : Int) = L - x.dl + 1 := ⟨(L - x.dl + 1).toNat, by omega⟩
    rw [cnt_dl x m L q hq r, ← jobs_cnt h hL, ← hq]
    have h1 := cnt_jobs h (fun _ => true) hm (min r q)
    have h2 := jobs_mono (p := x.per) (show ((min r q : Nat) : Int) ≤ q by omega) h.p1
    omega
  · rw [cnt_none x m L (by omega) r]
    unfold cntU
    rw [if_neg hL]
    exact Int.le_refl _
theorem cnt_dl_eq {x : Tsk} (h : POk x) (ho : x.off = 0) {L : Int} {r : Nat} (hr : (r : Int) = L) : cntF x (fun t => decide (t + x.dl ≤ 0 + L)) 0 r = cntU x L := by
  have hd : 1 ≤ x.dl := by have := h.c1; have := h.d1; omega
  by_cases hL : x.dl ≤ L
  · obtain ⟨q, hq⟩ : ∃ q : Nat, (q : Int) = L - x.dl + 1 := ⟨(L - x.dl + 1).toNat, by omega⟩
    rw [cnt_dl x 0 L q hq r, ← jobs_cnt h hL, ← hq, show min r q = q by omega, cnt_cum h.p1 h.o0 h.o1 (by omega), cum_zero h ho]
  · rw [cnt_none x 0 L (by omega) r]
    unfold cntU
    rw [if_neg hL]
theorem tot_dl {l : List Tsk} (h0 : rchk l = 0) {m L : Int} (hm : 0 ≤ m) (r : Nat) : ∀ (xs : List Tsk) (k : Nat), xs = l.drop k → totL (dlF l (m + L)) m r k xs ≤ demL L 0 xs
  | [], k, _ => Int.le_refl _
  | x :: xs, k, hx => by
    have hlt : k < l.length := by
      rcases Nat.lt_or_ge k l.length with h | h
      · exact h
      · rw [List.drop_eq_nil_of_le h] at hx; cases hx
    rw [tsks_drop hlt] at hx
    injection hx with e1 e2
    subst e1
    have ih := tot_dl h0 hm (L := L) r xs (k + 1) e2
    have hk := pok_at h0 hlt
    have h1 : cntF (tskAt l k) (dlF l (m + L) k) m r ≤ cntU (tskAt l k) L := cnt_dl_le hk hm r
    have h2 : cntF (tskAt l k) (dlF l (m + L) k) m r * (tskAt l k).cost ≤ cntU (tskAt l k) L * (tskAt l k).cost := Int.mul_le_mul_of_nonneg_right h1 (by have := hk.c1; omega)
    simp only [totL, demL]
    rw [dem_add]
    omega
theorem tot_dl_eq {l : List Tsk} (h0 : rchk l = 0) (hoff : ∀ i, i < l.length → (tskAt l i).off = 0) {L : Int} {r : Nat} (hr : (r : Int) = L) : ∀ (xs : List Tsk) (k : Nat), xs = l.drop k → totL (dlF l (0 + L)) 0 r k xs = demL L 0 xs
  | [], k, _ => rfl
  | x :: xs, k, hx => by
    have hlt : k < l.length := by
      rcases Nat.lt_or_ge k l.length with h | h
      · exact h
      · rw [List.drop_eq_nil_of_le h] at hx; cases hx
    rw [tsks_drop hlt] at hx
    injection hx with e1 e2
    subst e1
    have ih := tot_dl_eq h0 hoff hr xs (k + 1) e2
    have hk := pok_at h0 hlt
    have h1 : cntF (tskAt l k) (dlF l (0 + L) k) 0 r = cntU (tskAt l k) L := cnt_dl_eq hk (hoff k hlt) hr
    simp only [totL, demL]
    rw [dem_add, h1, ih]
    omega
theorem firstN_zero {g : Int → Bool} : ∀ (n : Nat) (t : Int), 1 ≤ t → firstN g n t = 0 → ∀ v, t ≤ v → v < t + n → g v = false
  | 0, t, _, _, v, h1, h2 => by omega
  | n + 1, t, h, hz, v, h1, h2 => by
    by_cases e : g t = true
    · rw [firstN_t e] at hz; omega
    · rw [firstN_f (by simpa using e)] at hz
      by_cases hv : v = t
      · subst hv; simpa using e
      · exact firstN_zero n (t + 1) (by omega) hz v (by omega) (by omega)
/-- too great a demand is seen at a deadline -/
theorem dem_due {l : List Tsk} (hl : ∀ x ∈ l, TOk x) : ∀ L : Nat, (L : Int) < demL L 0 l → ∃ v : Nat, 1 ≤ v ∧ v ≤ L ∧ badB l v = true
  | 0, h => by rw [show ((0 : Nat) : Int) = 0 from rfl, dem_zero l 0 hl] at h; omega
  | L + 1, h => by
    cases hd : dueB l ((L + 1 : Nat) : Int)
    · have e : demL ((L + 1 : Nat) : Int) 0 l = demL (L : Int) 0 l := by
        refine dem_same l 0 (fun x hx => ?_)
        have := List.any_eq_false.mp hd x hx
        have h2 := cnt_not (hl x hx) (t := ((L + 1 : Nat) : Int)) (by simpa using this)
        rw [h2]
        congr 1
        push_cast; omega
      rw [e] at h
      obtain ⟨v, h1, h2, h3⟩ := dem_due hl L (by push_cast at h; omega)
      exact ⟨v, h1, by omega, h3⟩
    · exact ⟨L + 1, by omega, Nat.le_refl _, by unfold badB; rw [hd]; simpa using h⟩
theorem edf_wait {l : List Tsk} (h0 : rchk l = 0) (hk : dmM l = 0) (hb : ¬ busyM l = 0) (n : Nat) (j : Job) (hj : j ∈ (upTo l 2 n).ready) : (n : Int) < j.rel + (tskAt l j.tk).dl := by
  rcases Int.lt_or_le (n : Int) (j.rel + (tskAt l j.tk).dl) with h | hle
  · exact h
  exfalso
  have hTn := upTo_TI h0 2 n
  have hJn := hTn.rd j hj
  have htk := (hTn.jr _ hJn.ps).tk
  have hrl := (hTn.jr _ hJn.ps).rl
  have hj0 := (hTn.jr _ hJn.ps).j0
  rw [hJn.eq] at htk hrl hj0
  dsimp only at htk hrl hj0
  have hpk := pok_at h0 htk
  have hr0 : 0 ≤ j.rel := by
    have : 0 ≤ j.num * (tskAt l j.tk).per := Int.mul_nonneg hj0 (by have := hpk.p1; omega)
    have := hpk.o0
    omega
  have hdl1 : 1 ≤ (tskAt l j.tk).dl := by have := hpk.c1; have := hpk.d1; omega
  -- at its deadline it is still there
  obtain ⟨d, hd⟩ : ∃ d : Nat, (d : Int) = j.rel + (tskAt l j.tk).dl := ⟨(j.rel + (tskAt l j.tk).dl).toNat, by omega⟩
  obtain ⟨k, rfl⟩ : ∃ k, n = d + k := ⟨n - d, by omega⟩
  obtain ⟨q, hq, e1, e2, _, _⟩ := back k hj (by omega)
  have hdn : ∀ x, ∀ y ∈ (upTo l 2 x).ready, y.dn < (tskAt l y.tk).cost := fun x y hy => ((upTo_TI h0 2 x).rd y hy).d1
  have hpos : 0 < pW l (dlF l d) 2 d := wL_pos (hdn d) q hq (by simp [dlF, e1, e2]; omega)
  obtain ⟨m, m1, m2, m3⟩ := last_zero (l := l) (dlF l d) 2 d
  have hmd : m < d := by
    rcases Nat.lt_or_eq_of_le m1 with h | rfl
    · exact h
    · omega
  -- since then only such jobs were executed
  have hbusy : ∀ t : Nat, m ≤ t → t < d → pW l (dlF l d) 2 (t + 1) = pW l (dlF l d) 2 t + relW (dlF l d) t 0 l - 1 := by
    intro t h1 h2
    have hnz := m3 (t + 1) (by omega) (by omega)
    have hnn := pW_nn h0 (dlF l d) 2 (t + 1)
    have hgr := (pW_grow (l := l) (dlF l d) 2 t).1
    obtain ⟨hn, c, hc, hf⟩ := mid_pend (l := l) (f := dlF l d) (pol := 2) (n := t) (by omega)
    have hmin := edf_before (bestM_min l 2 hn c hc)
    unfold dlJ at hmin
    simp only [dlF, decide_eq_true_eq] at hf
    rw [pW_step (l := l) (dlF l d) 2 t hn, if_pos (by simp [dlF]; omega)]
  have htel : ∀ t : Nat, m + t ≤ d → pW l (dlF l d) 2 (m + t) = totL (dlF l d) m t 0 l - t := by
    intro t
    induction t with
    | zero => intro _; rw [totL_zero]; simp [m2]
    | succ t ih =>
      intro ht
      rw [← Nat.add_assoc, hbusy (m + t) (by omega) (by omega), ih (by omega), totL_succ]
      push_cast; omega
  obtain ⟨L, rfl⟩ : ∃ L, d = m + L := ⟨d - m, by omega⟩
  have h1 := htel L (Nat.le_refl _)
  have h2 := tot_dl h0 (m := (m : Int)) (L := (L : Int)) (by omega) L l 0 (by simp)
  rw [show ((m + L : Nat) : Int) = (m : Int) + L by push_cast; rfl] at h1 hpos
  obtain ⟨v, v1, v2, v3⟩ := dem_due (toks_of h0) L (by omega)
  -- and no busy period is longer than the longest one
  obtain ⟨b1, b2⟩ := busyM_bd l
  obtain ⟨R, hR⟩ : ∃ R : Nat, busyM l = R := ⟨(busyM l).toNat, by omega⟩
  have hfix : busyF l R = R := by
    rcases fixN_bd (f := busyF l) 20000 1 (by omega) with h | ⟨_, _, h⟩
    · exact absurd h hb
    · rw [← hR]; exact h
  obtain ⟨u, u1, u2, u3⟩ := last_zero (l := l) allF 2 (m + L)
  have hle : ∀ x, pW l (dlF l ((m + L : Nat) : Int)) 2 x ≤ pW l allF 2 x := fun x => wL_le_all _ (hdn x)
  have hum : u ≤ m := by
    rcases Nat.lt_or_ge m u with h | h
    · exfalso
      have h3 := hle u
      have h4 := pW_nn h0 (dlF l ((m + L : Nat) : Int)) 2 u
      exact m3 u h u1 (by omega)
    · exact h
  obtain ⟨w, w1, w2, w3⟩ := all_gap h0 2 (by omega) hfix u u2
  have : L ≤ R := by
    rcases Nat.lt_or_ge (m + L) (u + w) with h | h
    · omega
    · exact absurd w3 (u3 _ (by omega) h)
  have hlast : lastM l = R := by unfold lastM; rw [if_neg hb]; exact hR
  have := firstN_zero (g := badB l) (lastM l).toNat 1 (by omega) hk v (by omega) (by omega)
  rw [v3] at this
  cases this
/-- a job that is ready at a time is done later -/
theorem fwd {l : List Tsk} (h0 : rchk l = 0) {pol : Int} {n : Nat} {j : Job} (hj : j ∈ (upTo l pol n).ready) : ∀ k : Nat, j.pos < (upTo l pol (n + k)).jobs.length ∧ (dnAt (upTo l pol (n + k)).jobs j.pos).tk = j.tk ∧ (dnAt (upTo l pol (n + k)).jobs j.pos).rel = j.rel ∧
    ((dnAt (upTo l pol (n + k)).jobs j.pos).resp = -1 ∨ (n : Int) + 1 - j.rel ≤ (dnAt (upTo l pol (n + k)).jobs j.pos).resp)
  | 0 => by
    have hJ := (upTo_TI h0 pol n).rd j hj
    refine ⟨hJ.ps, ?_⟩
    rw [Nat.add_zero, hJ.eq]
    exact ⟨rfl, rfl, .inl rfl⟩
  | k + 1 => by
    have ih := fwd h0 hj k
    have hT := mid_TI h0 pol (n + k)
    have hmid : j.pos < (mid l pol (n + k)).jobs.length ∧ (dnAt (mid l pol (n + k)).jobs j.pos).tk = j.tk ∧ (dnAt (mid l pol (n + k)).jobs j.pos).rel = j.rel ∧
        ((dnAt (mid l pol (n + k)).jobs j.pos).resp = -1 ∨ (n : Int) + 1 - j.rel ≤ (dnAt (mid l pol (n + k)).jobs j.pos).resp) :=
      rel_ind0 (Q := fun _ s => j.pos < s.jobs.length ∧ (dnAt s.jobs j.pos).tk = j.tk ∧ (dnAt s.jobs j.pos).rel = j.rel ∧ ((dnAt s.jobs j.pos).resp = -1 ∨ (n : Int) + 1 - j.rel ≤ (dnAt s.jobs j.pos).resp))
        (fun i s _ _ h => by dsimp only; rw [dnAt_snoc_old h.1]; exact ⟨by simp; omega, h.2⟩) (fun i s _ _ h => h) ih
    rw [← Nat.add_assoc, upTo_mid]
    unfold exeM
    split
    · exact hmid
    · next hn =>
      have hb := bestM_lt2 l pol (r := (mid l pol (n + k)).ready) (by omega)
      have hJ := hT.rd _ (jbAt_mem hb)
      generalize bestM l pol (mid l pol (n + k)).ready = x at *
      unfold runOne
      dsimp only
      split
      · rw [List.length_set, dnAt_set2 hJ.ps]
        split
        · next e =>
          obtain ⟨a1, a2, a3, a4⟩ := hmid
          rw [e, hJ.eq] at a2 a3
          dsimp only at a2 a3
          rw [hJ.eq]
          dsimp only
          exact ⟨a1, a2, a3, .inr (by push_cast; omega)⟩
        · exact hmid
      · exact hmid
/-- if the demand is too great, a job is late -/
theorem edf_late {l : List Tsk} (h0 : rchk l = 0) (hk : ¬ dmM l = 0) (hoff : ∀ i, i < l.length → (tskAt l i).off = 0) {n : Nat} (hn : dmM l ≤ n) : ∃ k, k < (upTo l 2 n).jobs.length ∧ (missM l n (dnAt (upTo l 2 n).jobs k)).miss = true := by
  obtain ⟨h1, h2, h3⟩ : 1 ≤ dmM l ∧ dmM l < 1 + (lastM l).toNat ∧ badB l (dmM l) = true := by
    rcases firstN_bd (g := badB l) (lastM l).toNat 1 (by omega) with h | h
    · exact absurd h hk
    · exact h
  obtain ⟨v, hv⟩ : ∃ v : Nat, dmM l = v := ⟨(dmM l).toNat, by omega⟩
  rw [hv] at h1 h3 hn
  unfold badB at h3
  simp only [Bool.and_eq_true, decide_eq_true_eq] at h3
  have htel : ∀ t : Nat, totL (dlF l v) 0 t 0 l - t ≤ pW l (dlF l v) 2 t := by
    intro t
    induction t with
    | zero => rw [totL_zero, pW_zero]; simp
    | succ t ih =>
      have := (pW_grow (l := l) (dlF l v) 2 t).2
      rw [totL_succ]
      simp only [Int.zero_add]
      push_cast; omega
  have h4 := htel v
  have h5 := tot_dl_eq h0 hoff (L := (v : Int)) (r := v) rfl l 0 (by simp)
  rw [Int.zero_add] at h5
  obtain ⟨j, hj, hf⟩ := wL_ex (l := l) (f := dlF l v) (r := (upTo l 2 v).ready) (by show 0 < pW l (dlF l v) 2 v; omega)
  simp only [dlF, decide_eq_true_eq] at hf
  obtain ⟨k, rfl⟩ : ∃ k, n = v + k := ⟨n - v, by omega⟩
  obtain ⟨f1, f2, f3, f4⟩ := fwd h0 hj k
  refine ⟨j.pos, f1, ?_⟩
  show (decide _ && (decide _ || decide _)) = true
  rw [f2, f3]
  simp only [Bool.and_eq_true, Bool.or_eq_true, decide_eq_true_eq]
  refine ⟨by push_cast; omega, ?_⟩
  rcases f4 with h | h
  · left; omega
  · right; omega
end Go.Proofs.Ythcdemmamggboaa
/- schedule: T7 in the words of the law (plain). -/
namespace Go.Proofs.Ythcdemmamggboaa
open Go.RowKit
theorem offs_at {l : List Tsk} (h : offsB l = false) {i : Nat} (hi : i < l.length) : (tskAt l i).off = 0 := by
  have := List.any_eq_false.mp h _ (tskAt_mem hi)
  simpa using this
def timesM (l : List Tsk) (k : Nat) : Int := (fixedL l).getD k 0
theorem times_at {l : List Tsk} {k : Nat} (hk : k < l.length) : timesM l k = respM l (blocks l) k := by simp [timesM, fixedL, List.getD, hk]
structure FpJob (l : List Tsk) (n : Nat) (d : Don) : Prop where
  tk : d.tk < l.length
  ms : d.miss = false
  rs : d.resp ≤ timesM l d.tk
  t0 : 1 ≤ timesM l d.tk
  fs : d.job = 0 → secsB l = false → offsB l = false → timesM l d.tk ≤ n → d.resp = timesM l d.tk
theorem fp_law {l : List Tsk} (h0 : rchk l = 0) (hall : (fixedL l).all (fun r => decide (0 ≤ r)) = true) (n : Nat) {k : Nat} (hk : k < ((upTo l 1 n).jobs.map (missM l n)).length) : FpJob l n (dnAt ((upTo l 1 n).jobs.map (missM l n)) k) := by
  have ha := alike_miss l n (upTo l 1 n).jobs
  rw [ha.1] at hk
  have hall2 : ∀ i, i < l.length → 0 ≤ respM l (blocks l) i := fun i hi => by
    have := List.all_eq_true.mp hall (respM l (blocks l) i) (List.mem_map.mpr ⟨i, List.mem_range.mpr hi, rfl⟩)
    simpa using this
  have hD : ∀ i, i < l.length → 1 ≤ respM l (blocks l) i ∧ respM l (blocks l) i ≤ (tskAt l i).dl := fun i hi => by
    obtain ⟨a, b, _⟩ := resp_law h0 hi (hall2 i hi)
    exact ⟨a, b⟩
  have hT := upTo_TI h0 1 n
  have htk := (hT.jr k hk).tk
  obtain ⟨m1, m2, m3⟩ := miss_of_wait h0 hD (fp_wait h0 hall2) n hk
  rw [dnAt_map hk]
  refine ⟨htk, m1, ?_, ?_, fun e1 hs ho hn => ?_⟩
  · show (dnAt (upTo l 1 n).jobs k).resp ≤ timesM l (dnAt (upTo l 1 n).jobs k).tk
    rw [times_at htk]; exact m2
  · show 1 ≤ timesM l (dnAt (upTo l 1 n).jobs k).tk
    rw [times_at htk]; exact (hD _ htk).1
  · show (dnAt (upTo l 1 n).jobs k).resp = timesM l (dnAt (upTo l 1 n).jobs k).tk
    have hn' : timesM l (dnAt (upTo l 1 n).jobs k).tk ≤ n := hn
    have e1' : (dnAt (upTo l 1 n).jobs k).job = 0 := e1
    rw [times_at htk] at hn' ⊢
    have hoff : ∀ i, i < l.length → (tskAt l i).off = 0 := fun i hi => offs_at ho hi
    have hrel := (hT.jr k hk).rl
    rw [hoff _ htk, e1'] at hrel
    have := m3 (by omega)
    rcases first_ge h0 hs hoff hall2 n k hk e1' with h | h
    · omega
    · omega
theorem edf_keeps {l : List Tsk} (h0 : rchk l = 0) (hk : dmM l = 0) (hb : ¬ busyM l = 0) (n : Nat) {k : Nat} (hkl : k < ((upTo l 2 n).jobs.map (missM l n)).length) : (dnAt ((upTo l 2 n).jobs.map (missM l n)) k).miss = false := by
  have ha := alike_miss l n (upTo l 2 n).jobs
  rw [ha.1] at hkl
  rw [dnAt_map hkl]
  exact (miss_of_wait h0 (D := fun i => (tskAt l i).dl) (fun i hi => ⟨by have hp := pok_at h0 hi; have h1 := hp.c1; have h2 := hp.d1; omega, Int.le_refl _⟩) (fun n j hj => edf_wait h0 hk hb n j hj) n hkl).1
theorem edf_not {l : List Tsk} (h0 : rchk l = 0) (hk : ¬ dmM l = 0) (ho : offsB l = false) {n : Nat} (hn : dmM l ≤ n) : ∃ k, k < ((upTo l 2 n).jobs.map (missM l n)).length ∧ (dnAt ((upTo l 2 n).jobs.map (missM l n)) k).miss = true := by
  obtain ⟨k, hkl, hm⟩ := edf_late h0 hk (fun i hi => offs_at ho hi) hn
  exact ⟨k, by rw [List.length_map]; exact hkl, by rw [dnAt_map hkl]; exact hm⟩
def missAny (js : List Don) (k : Nat) : Bool := (js.take k).any (fun d => d.miss)
theorem missAny_succ {js : List Don} {k : Nat} (h : k < js.length) : missAny js (k + 1) = (missAny js k || (dnAt js k).miss) := by
  unfold missAny
  rw [List.take_succ_eq_append_getElem h]
  simp only [List.any_append, List.any_cons, List.any_nil, Bool.or_false]
  have e : dnAt js k = js[k] := by simp [dnAt, List.getD, h]
  rw [e]
theorem missAny_false {js : List Don} (h : ∀ k, k < js.length → (dnAt js k).miss = false) : missAny js js.length = false := by
  unfold missAny
  rw [List.take_length, List.any_eq_false]
  intro d hd
  obtain ⟨k, hk, e⟩ := List.mem_iff_getElem.mp hd
  have := h k hk
  simp [dnAt, List.getD, hk, e] at this
  simp [this]
theorem missAny_true {js : List Don} {k : Nat} (hk : k < js.length) (h : (dnAt js k).miss = true) : missAny js js.length = true := by
  unfold missAny
  rw [List.take_length, List.any_eq_true]
  exact ⟨dnAt js k, by simp [dnAt, List.getD, hk], h⟩
end Go.Proofs.Ythcdemmamggboaa
