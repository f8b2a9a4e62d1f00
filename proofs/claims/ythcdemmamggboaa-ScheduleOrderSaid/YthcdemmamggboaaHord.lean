import Derived.Test.YthcdemmamggboaaHinv
/- schedule: what the timeline of a run looks like (plain). -/
namespace Go.Proofs.Ythcdemmamggboaa
open Go.RowKit
def isJ (tk num : Int) (s : Stn) : Bool := decide (s.tk = tk) && decide (s.job = num)
theorem isJ_iff {tk num : Int} {s : Stn} : isJ tk num s = true ↔ (s.tk = tk ∧ s.job = num) := by simp [isJ]
def sumOf (tk num : Int) : List Stn → Int
  | [] => 0
  | s :: ss => (if isJ tk num s then s.to - s.frm else 0) + sumOf tk num ss
def endFrom (tk num : Int) : Int → List Stn → Int
  | e, [] => e
  | e, s :: ss => endFrom tk num (if isJ tk num s then s.to else e) ss
def endOf (tk num : Int) (ss : List Stn) : Int := endFrom tk num 0 ss
def lastFrom : Int → List Stn → Int
  | e, [] => e
  | _, s :: ss => lastFrom s.to ss
def lastTo (ss : List Stn) : Int := lastFrom 0 ss
theorem sumOf_snoc (tk num : Int) (s : Stn) : ∀ ss : List Stn, sumOf tk num (ss ++ [s]) = sumOf tk num ss + (if isJ tk num s then s.to - s.frm else 0)
  | [] => by simp [sumOf]
  | x :: xs => by simp only [List.cons_append, sumOf, sumOf_snoc tk num s xs]; omega
theorem endFrom_snoc (tk num : Int) (s : Stn) : ∀ (ss : List Stn) (e : Int), endFrom tk num e (ss ++ [s]) = if isJ tk num s then s.to else endFrom tk num e ss
  | [], e => by simp [endFrom]
  | x :: xs, e => by simp only [List.cons_append, endFrom, endFrom_snoc tk num s xs]
theorem endOf_snoc (tk num : Int) (s : Stn) (ss : List Stn) : endOf tk num (ss ++ [s]) = if isJ tk num s then s.to else endOf tk num ss := endFrom_snoc tk num s ss 0
theorem lastFrom_snoc (s : Stn) : ∀ (ss : List Stn) (e : Int), lastFrom e (ss ++ [s]) = s.to
  | [], e => by simp [lastFrom]
  | x :: xs, e => by simp only [List.cons_append, lastFrom, lastFrom_snoc s xs]
theorem lastTo_snoc (s : Stn) (ss : List Stn) : lastTo (ss ++ [s]) = s.to := lastFrom_snoc s ss 0
theorem sumOf_none (tk num : Int) : ∀ ss : List Stn, (∀ s ∈ ss, isJ tk num s = false) → sumOf tk num ss = 0
  | [], _ => rfl
  | s :: ss, h => by simp only [sumOf, h s (by simp), sumOf_none tk num ss (fun x hx => h x (by simp [hx]))]; simp
/-- two ways to make the stints of a tick -/
theorem stintsM_cases (t : Int) (j : Job) (ss : List Stn) :
    (∃ ss' s, ss = ss' ++ [s] ∧ (s.tk = (j.tk : Int) ∧ s.job = j.num) ∧ s.to = t ∧ stintsM t j ss = ss' ++ [{ s with to := t + 1 }]) ∨ stintsM t j ss = ss ++ [⟨j.tk, j.num, t, t + 1⟩] := by
  unfold stintsM
  split
  · next h =>
    obtain ⟨h0, h1, h2, h3⟩ := h
    left
    have hne : ss ≠ [] := by intro e; subst e; simp at h0
    have hl : stAt ss (ss.length - 1) = ss.getLast hne := by rw [stAt, List.getLast_eq_getElem, List.getD]; rw [List.getElem?_eq_getElem (by omega)]; rfl
    have hdl : ss.dropLast ++ [ss.getLast hne] = ss := List.dropLast_concat_getLast hne
    refine ⟨ss.dropLast, ss.getLast hne, hdl.symm, ?_, ?_, ?_⟩
    · rw [← hl]; exact ⟨h1, h2⟩
    · rw [← hl]; exact h3
    · rw [hl]
      apply List.ext_getElem
      · simp; omega
      · intro n h1 h2
        rw [List.getElem_set]
        by_cases hn : n = ss.length - 1
        · subst hn
          rw [if_pos rfl, List.getElem_append_right (by simp)]
          simp
        · rw [if_neg (Ne.symm hn)]
          rw [List.length_set] at h1
          rw [List.getElem_append_left (by simp; omega)]
          simp
  · exact .inr rfl
theorem sum_stintsM (tk num t : Int) (j : Job) (ss : List Stn) : sumOf tk num (stintsM t j ss) = sumOf tk num ss + (if (j.tk : Int) = tk ∧ j.num = num then 1 else 0) := by
  rcases stintsM_cases t j ss with ⟨ss', s, rfl, hs, ht, e⟩ | e
  · obtain ⟨h1, h2⟩ := hs
    rw [e, sumOf_snoc, sumOf_snoc]
    simp only [isJ, h1, h2, Bool.and_eq_true, decide_eq_true_eq]
    split <;> omega
  · rw [e, sumOf_snoc]
    simp only [isJ, Bool.and_eq_true, decide_eq_true_eq]
    split <;> omega
theorem end_stintsM (tk num t : Int) (j : Job) (ss : List Stn) : endOf tk num (stintsM t j ss) = if (j.tk : Int) = tk ∧ j.num = num then t + 1 else endOf tk num ss := by
  rcases stintsM_cases t j ss with ⟨ss', s, rfl, hs, ht, e⟩ | e
  · obtain ⟨h1, h2⟩ := hs
    rw [e, endOf_snoc, endOf_snoc]
    simp only [isJ, h1, h2, Bool.and_eq_true, decide_eq_true_eq]
    split <;> rfl
  · rw [e, endOf_snoc]
    simp only [isJ, Bool.and_eq_true, decide_eq_true_eq]
theorem last_stintsM (t : Int) (j : Job) (ss : List Stn) : lastTo (stintsM t j ss) = t + 1 := by
  rcases stintsM_cases t j ss with ⟨ss', s, rfl, hs, ht, e⟩ | e
  · rw [e, lastTo_snoc]
  · rw [e, lastTo_snoc]
theorem snoc_split {α : Type} {pre post ss : List α} {x y : α} (h : pre ++ x :: post = ss ++ [y]) : (post = [] ∧ pre = ss ∧ x = y) ∨ (∃ q, ss = pre ++ x :: q) := by
  rcases List.eq_nil_or_concat post with rfl | ⟨q, z, hq⟩
  · left
    have h2 : pre ++ [x] = ss ++ [y] := h
    obtain ⟨a, b⟩ := List.append_inj' h2 rfl
    exact ⟨rfl, a, by simpa using b⟩
  · right
    rw [List.concat_eq_append] at hq
    subst hq
    have h2 : (pre ++ x :: q) ++ [z] = ss ++ [y] := by rw [← h]; simp
    obtain ⟨a, _⟩ := List.append_inj' h2 rfl
    exact ⟨q, a.symm⟩
def costD (l : List Tsk) (d : Don) : Int := (tskAt l d.tk).cost
def sumD (ss : List Stn) (d : Don) : Int := sumOf d.tk d.job ss
def endD (ss : List Stn) (d : Don) : Int := endOf d.tk d.job ss
structure DonOk (l : List Tsk) (t : Int) (i : Nat) (d : Don) : Prop where
  tk : d.tk < l.length
  j0 : 0 ≤ d.job
  rl : d.rel = (tskAt l d.tk).off + d.job * (tskAt l d.tk).per
  lt : d.rel < t ∨ (d.rel = t ∧ d.tk < i)
structure StnOk (l : List Tsk) (t : Int) (jobs : List Don) (pre : List Stn) (x : Stn) : Prop where
  fr : lastTo pre ≤ x.frm
  ft : x.frm < x.to
  tt : x.to ≤ t
  fd : ∃ k, k < jobs.length ∧ (x.tk = (dnAt jobs k).tk ∧ x.job = (dnAt jobs k).job) ∧ (dnAt jobs k).rel ≤ x.frm
  gp : lastTo pre < x.frm → ∀ k, k < jobs.length → (dnAt jobs k).rel < x.frm → costD l (dnAt jobs k) ≤ sumD pre (dnAt jobs k)
structure JobIn (l : List Tsk) (s : St) (j : Job) : Prop where
  ps : j.pos < s.jobs.length
  eq : dnAt s.jobs j.pos = ⟨j.tk, j.num, j.rel, -1, false⟩
  sm : sumOf j.tk j.num s.stints = j.dn
  d0 : 0 ≤ j.dn
  d1 : j.dn < (tskAt l j.tk).cost
structure TI (l : List Tsk) (t : Int) (i : Nat) (s : St) : Prop where
  jr : ∀ k, k < s.jobs.length → DonOk l t i (dnAt s.jobs k)
  un : ∀ a b, a < s.jobs.length → b < s.jobs.length → (dnAt s.jobs a).tk = (dnAt s.jobs b).tk → (dnAt s.jobs a).job = (dnAt s.jobs b).job → a = b
  rd : ∀ j ∈ s.ready, JobIn l s j
  rp : s.ready.Pairwise (fun a b => a.pos ≠ b.pos)
  dn : ∀ k, k < s.jobs.length → (∃ j ∈ s.ready, j.pos = k) ∨ (sumD s.stints (dnAt s.jobs k) = costD l (dnAt s.jobs k) ∧ 0 < (dnAt s.jobs k).resp ∧ (dnAt s.jobs k).resp = endD s.stints (dnAt s.jobs k) - (dnAt s.jobs k).rel)
  st : ∀ pre x post, s.stints = pre ++ x :: post → StnOk l t s.jobs pre x
  wk : (∃ j ∈ s.ready, j.rel < t) → lastTo s.stints = t
theorem TI0 (l : List Tsk) : TI l 0 0 ⟨[], [], []⟩ :=
  ⟨fun k h => by simp at h, fun a b h => by simp at h, fun j h => by simp at h, .nil, fun k h => by simp at h, fun pre x post h => by simp at h, fun h => by simp at h⟩
theorem dnAt_snoc_old {js : List Don} {d : Don} {k : Nat} (h : k < js.length) : dnAt (js ++ [d]) k = dnAt js k := by simp [dnAt, List.getD, List.getElem?_append_left h]
theorem dnAt_snoc_new {js : List Don} {d : Don} : dnAt (js ++ [d]) js.length = d := by simp [dnAt, List.getD]
theorem TI.last {l : List Tsk} {t : Int} {i : Nat} {s : St} (h : TI l t i s) (ht : 0 ≤ t) : lastTo s.stints ≤ t := by
  rcases List.eq_nil_or_concat s.stints with e | ⟨q, z, e⟩
  · rw [e]; exact ht
  · rw [List.concat_eq_append] at e
    have := (h.st q z [] e).tt
    rw [e, lastTo_snoc]; exact this
/-- a job is released -/
theorem TI.push {l : List Tsk} (h0 : rchk l = 0) {t : Int} {i : Nat} {s : St} (h : TI l t i s) (hi : i < l.length) (hd : dueJ t (tskAt l i) = true) :
    TI l t (i + 1) { s with ready := s.ready ++ [⟨i, numJ t (tskAt l i), t, 0, s.jobs.length⟩], jobs := s.jobs ++ [⟨i, numJ t (tskAt l i), t, -1, false⟩] } := by
  obtain ⟨ho, hm⟩ := due_off hd
  obtain ⟨n0, n1⟩ := num_bd h0 hi ho
  have hp := (tok_at h0 hi).p1
  have hc := (tok_at h0 hi).c1
  have hre : t = (tskAt l i).off + numJ t (tskAt l i) * (tskAt l i).per := by
    unfold numJ
    have := Int.mul_ediv_add_emod (t - (tskAt l i).off) (tskAt l i).per
    rw [Int.mul_comm] at this; omega
  have hnew : ∀ k, k < s.jobs.length → ¬ ((dnAt s.jobs k).tk = i ∧ (dnAt s.jobs k).job = numJ t (tskAt l i)) := by
    rintro k hk ⟨e1, e2⟩
    obtain ⟨a1, a2, a3, a4⟩ := h.jr k hk
    rw [e1, e2, ← hre] at a3
    omega
  have hnst : ∀ x ∈ s.stints, isJ (i : Nat) (numJ t (tskAt l i)) x = false := by
    intro x hx
    rw [← Bool.not_eq_true]
    intro hj
    rw [isJ_iff] at hj
    obtain ⟨pre, post, e⟩ := List.append_of_mem hx
    obtain ⟨k, hk, ⟨e1, e2⟩, _⟩ := (h.st pre x post e).fd
    exact hnew k hk ⟨by have := hj.1; omega, by have := hj.2; omega⟩
  refine ⟨fun k hk => ?_, fun a b ha hb e1 e2 => ?_, fun j hj => ?_, ?_, fun k hk => ?_, fun pre x post e => ?_, fun hw => ?_⟩
  · dsimp only at hk ⊢
    rcases Nat.lt_or_ge k s.jobs.length with hk2 | hk2
    · rw [dnAt_snoc_old hk2]
      obtain ⟨a1, a2, a3, a4⟩ := h.jr k hk2
      exact ⟨a1, a2, a3, by omega⟩
    · obtain rfl : k = s.jobs.length := by simp at hk; omega
      rw [dnAt_snoc_new]
      exact ⟨hi, n0, hre, .inr ⟨rfl, by simp⟩⟩
  · dsimp only at ha hb e1 e2
    simp only [List.length_append, List.length_cons, List.length_nil] at ha hb
    rcases Nat.lt_or_ge a s.jobs.length with ha2 | ha2 <;> rcases Nat.lt_or_ge b s.jobs.length with hb2 | hb2
    · rw [dnAt_snoc_old ha2, dnAt_snoc_old hb2] at e1 e2
      exact h.un a b ha2 hb2 e1 e2
    · obtain rfl : b = s.jobs.length := by omega
      rw [dnAt_snoc_old ha2, dnAt_snoc_new] at e1 e2
      exact absurd ⟨e1, e2⟩ (hnew a ha2)
    · obtain rfl : a = s.jobs.length := by omega
      rw [dnAt_snoc_old hb2, dnAt_snoc_new] at e1 e2
      exact absurd ⟨e1.symm, e2.symm⟩ (hnew b hb2)
    · omega
  · dsimp only at hj
    rcases List.mem_append.mp hj with hj | hj
    · obtain ⟨a1, a2, a3, a4, a5⟩ := h.rd j hj
      exact ⟨by simp; omega, by dsimp only; rw [dnAt_snoc_old a1]; exact a2, a3, a4, a5⟩
    · simp only [List.mem_singleton] at hj
      subst hj
      exact ⟨by simp, by dsimp only; rw [dnAt_snoc_new], sumOf_none _ _ _ hnst, Int.le_refl _, by dsimp only; omega⟩
  · dsimp only
    rw [List.pairwise_append]
    refine ⟨h.rp, by simp, fun a ha b hb => ?_⟩
    simp only [List.mem_singleton] at hb
    subst hb
    have := (h.rd a ha).ps
    dsimp only
    omega
  · dsimp only at hk ⊢
    rcases Nat.lt_or_ge k s.jobs.length with hk2 | hk2
    · rw [dnAt_snoc_old hk2]
      rcases h.dn k hk2 with ⟨j, hj, e⟩ | hdn
      · exact .inl ⟨j, List.mem_append_left _ hj, e⟩
      · exact .inr hdn
    · obtain rfl : k = s.jobs.length := by simp at hk; omega
      exact .inl ⟨⟨i, numJ t (tskAt l i), t, 0, s.jobs.length⟩, List.mem_append_right _ (by simp), rfl⟩
  · dsimp only at e
    obtain ⟨a1, a2, a3, ⟨k, hk, hj, hr⟩, a5⟩ := h.st pre x post e
    refine ⟨a1, a2, a3, ⟨k, by simp; omega, by dsimp only; rw [dnAt_snoc_old hk]; exact hj, by dsimp only; rw [dnAt_snoc_old hk]; exact hr⟩, fun hg q hq hr2 => ?_⟩
    dsimp only at hq hr2 ⊢
    rcases Nat.lt_or_ge q s.jobs.length with hq2 | hq2
    · rw [dnAt_snoc_old hq2] at hr2 ⊢
      exact a5 hg q hq2 hr2
    · obtain rfl : q = s.jobs.length := by simp at hq; omega
      rw [dnAt_snoc_new] at hr2
      dsimp only at hr2
      omega
  · obtain ⟨j, hj, hr⟩ := hw
    dsimp only at hj ⊢
    rcases List.mem_append.mp hj with hj | hj
    · exact h.wk ⟨j, hj, hr⟩
    · simp only [List.mem_singleton] at hj
      subst hj
      dsimp only at hr
      omega
theorem TI.skip {l : List Tsk} {t : Int} {i : Nat} {s : St} (h : TI l t i s) : TI l t (i + 1) s :=
  ⟨fun k hk => by obtain ⟨a1, a2, a3, a4⟩ := h.jr k hk; exact ⟨a1, a2, a3, by omega⟩, h.un, h.rd, h.rp, h.dn, h.st, h.wk⟩
/-- what holds of a release holds of them all -/
theorem rel_ind {l : List Tsk} {t : Int} {Q : Nat → St → Prop}
    (hp : ∀ i s, i < l.length → dueJ t (tskAt l i) = true → Q i s → Q (i + 1) { s with ready := s.ready ++ [⟨i, numJ t (tskAt l i), t, 0, s.jobs.length⟩], jobs := s.jobs ++ [⟨i, numJ t (tskAt l i), t, -1, false⟩] })
    (hs : ∀ i s, i < l.length → dueJ t (tskAt l i) = false → Q i s → Q (i + 1) s) :
    ∀ (xs : List Tsk) (i : Nat) (s : St), xs = l.drop i → i ≤ l.length → Q i s → Q l.length (relJ t i xs s)
  | [], i, s, hx, hi, h => by
    have : i = l.length := by
      have := congrArg List.length hx
      simp at this; omega
    subst this
    exact h
  | x :: xs, i, s, hx, hi, h => by
    have hlt : i < l.length := by
      rcases Nat.lt_or_ge i l.length with h | h
      · exact h
      · rw [List.drop_eq_nil_of_le h] at hx; cases hx
    rw [tsks_drop hlt] at hx
    injection hx with e1 e2
    subst e1
    simp only [relJ]
    cases hd : dueJ t (tskAt l i)
    · simp only [Bool.false_eq_true, if_false]
      exact rel_ind hp hs xs (i + 1) s e2 (by omega) (hs i s hlt hd h)
    · simp only [if_true]
      exact rel_ind hp hs xs (i + 1) _ e2 (by omega) (hp i s hlt hd h)
theorem rel_ind0 {l : List Tsk} {t : Int} {Q : Nat → St → Prop} {s : St}
    (hp : ∀ i s, i < l.length → dueJ t (tskAt l i) = true → Q i s → Q (i + 1) { s with ready := s.ready ++ [⟨i, numJ t (tskAt l i), t, 0, s.jobs.length⟩], jobs := s.jobs ++ [⟨i, numJ t (tskAt l i), t, -1, false⟩] })
    (hs : ∀ i s, i < l.length → dueJ t (tskAt l i) = false → Q i s → Q (i + 1) s) (h : Q 0 s) : Q l.length (relJ t 0 l s) :=
  rel_ind hp hs l 0 s (by simp) (by omega) h
theorem TI.rel {l : List Tsk} (h0 : rchk l = 0) {t : Int} {s : St} (h : TI l t 0 s) : TI l t l.length (relJ t 0 l s) :=
  rel_ind0 (Q := fun i s => TI l t i s) (fun i s hi hd h => h.push h0 hi hd) (fun i s hi hd h => h.skip) h
theorem bestF_lt (l : List Tsk) (pol : Int) : ∀ (js : List Job) (b : Nat) (c : Job) (i n : Nat), b < n → i + js.length ≤ n → bestF l pol b c i js < n
  | [], b, c, i, n, hb, _ => hb
  | j :: js, b, c, i, n, hb, hi => by
    simp only [List.length_cons] at hi
    unfold bestF
    split
    · exact bestF_lt l pol js i j (i + 1) n (by omega) (by omega)
    · exact bestF_lt l pol js b c (i + 1) n hb (by omega)
theorem bestM_lt2 (l : List Tsk) (pol : Int) {r : List Job} (h : 0 < r.length) : bestM l pol r < r.length := bestF_lt l pol _ 0 _ 1 _ h (by simp; omega)
theorem jbAt_mem {r : List Job} {b : Nat} (h : b < r.length) : jbAt r b ∈ r := by simp [jbAt, List.getD, h]
theorem dnAt_set2 {js : List Don} {p k : Nat} {d : Don} (hp : p < js.length) : dnAt (js.set p d) k = if k = p then d else dnAt js k := by
  unfold dnAt
  rw [List.getD_eq_getElem?_getD, List.getElem?_set]
  by_cases h : p = k
  · subst h; simp [hp]
  · simp [h, Ne.symm h, List.getD_eq_getElem?_getD, fun e => h (Eq.symm e)]
theorem pair_other {r : List Job} (h : r.Pairwise (fun a b => a.pos ≠ b.pos)) {b : Nat} (hb : b < r.length) {c : Nat} (hc : c < r.length) (e : (jbAt r c).pos = (jbAt r b).pos) : c = b := by
  rw [List.pairwise_iff_getElem] at h
  have e2 : (r[c]'hc).pos = (r[b]'hb).pos := by simpa [jbAt, List.getD, hb, hc] using e
  rcases Nat.lt_trichotomy c b with h1 | h1 | h1
  · exact absurd e2 (h c b hc hb h1)
  · exact h1
  · exact absurd e2.symm (h b c hb hc h1)
theorem mem_jbAt {r : List Job} {j : Job} (h : j ∈ r) : ∃ c, c < r.length ∧ jbAt r c = j := by
  obtain ⟨c, hc, e⟩ := List.mem_iff_getElem.mp h
  exact ⟨c, hc, by simp [jbAt, List.getD, hc, e]⟩
theorem mem_erase_other {r : List Job} (h : r.Pairwise (fun a b => a.pos ≠ b.pos)) {b : Nat} (hb : b < r.length) {j : Job} (hj : j ∈ r.eraseIdx b) : j ∈ r ∧ j.pos ≠ (jbAt r b).pos := by
  obtain ⟨c, e, hne⟩ := List.mem_eraseIdx_iff_getElem?.mp hj
  have hcl : c < r.length := by
    rcases Nat.lt_or_ge c r.length with h | h
    · exact h
    · rw [List.getElem?_eq_none h] at hne; cases hne
  have ej : jbAt r c = j := by simp [jbAt, List.getD, hne]
  refine ⟨ej ▸ jbAt_mem hcl, fun e2 => e ?_⟩
  exact pair_other h hb hcl (by rw [ej, e2])
theorem mem_set_other {r : List Job} (h : r.Pairwise (fun a b => a.pos ≠ b.pos)) {b : Nat} (hb : b < r.length) {x j : Job} (hj : j ∈ r.set b x) : j = x ∨ (j ∈ r ∧ j.pos ≠ (jbAt r b).pos) := by
  obtain ⟨c, hc, e⟩ := List.mem_iff_getElem.mp hj
  rw [List.getElem_set] at e
  split at e
  · exact .inl e.symm
  · next hne =>
    right
    simp only [List.length_set] at hc
    have ej : jbAt r c = j := by simp [jbAt, List.getD, hc, e]
    exact ⟨ej ▸ jbAt_mem hc, fun e2 => hne (pair_other h hb hc (by rw [ej, e2])).symm⟩
end Go.Proofs.Ythcdemmamggboaa
