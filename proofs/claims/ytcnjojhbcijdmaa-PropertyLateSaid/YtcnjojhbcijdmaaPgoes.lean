import Derived.Test.YtcnjojhbcijdmaaPshow
/- property: the plain law of PropertyGoes: what comes behind a word. -/
namespace Go.Proofs.Ytcnjojhbcijdmaa
theorem stampBad_f {evs a : Int} {s : PS} (h : stampBad evs a s = false) : a ≤ s.at_ ∧ s.at_ ≤ 1000000 ∧ 0 ≤ s.ev ∧ s.ev < evs := by
  have := stampBad_false.mp h
  omega
theorem wordF_pre {evs : Int} : ∀ (l m : List PS) (a : Int), wordF evs a (l ++ m) = true → wordF evs a l = true
  | [], _, _, _ => rfl
  | s :: ss, m, a, h => by
    by_cases hb : stampBad evs a s = true
    · rw [List.cons_append, wordF_t hb] at h; cases h
    · have hb0 : stampBad evs a s = false := by simpa using hb
      rw [List.cons_append, wordF_f hb0] at h
      rw [wordF_f hb0]
      exact wordF_pre ss m _ h
theorem rpword_pre {p : PP} {l m : List PS} (h : rpword p (l ++ m) = 0) : rpword p l = 0 := by
  obtain ⟨h1, h2, h3⟩ := rpword_ok h
  unfold rpword
  rw [if_pos h1, if_neg (by simp at h2; omega), if_pos (wordF_pre l m 0 h3)]
theorem tickJ_big {cl : List Int} (h : ClOk cl) {a : Int} (ha : 31 ≤ a) (j : Nat) : tickJ a cl j = tickJ 31 cl j := by
  unfold tickJ
  refine List.map_congr_left fun i hi => ?_
  have hi3 : i < 3 := by simpa using hi
  have hc := cl_at h hi3
  by_cases hj : i < j
  · rw [if_pos hj, if_pos hj]
    unfold min31
    split <;> split <;> omega
  · rw [if_neg hj, if_neg hj]
theorem step_big {n : Nat} {es : List PE} {x : Pt} (h : ClOk x.cl) {a ev : Int} (ha : 31 ≤ a) : step n es x a ev = step n es x 31 ev := by
  unfold step
  rw [tickJ_big h ha]
theorem reach_step {p : PP} {x0 x : Pt} (hx : Reach p x0 x) (hc : ClOk x.cl) (hl : 0 ≤ x.loc) {a ev : Int} (ha : 0 ≤ a) (he : 0 ≤ ev) (he2 : ev < p.evs) : Reach p x0 (step p.clks.toNat p.edges x a ev) := by
  by_cases h : 31 ≤ a
  · have := Reach.next (p := p) 31 ev.toNat hx hl (by omega) (by omega)
    rw [Int.toNat_of_nonneg he] at this
    rw [step_big hc h]
    exact this
  · have := Reach.next (p := p) a.toNat ev.toNat hx hl (by omega) (by omega)
    rw [Int.toNat_of_nonneg he, Int.toNat_of_nonneg ha] at this
    exact this
theorem Reach.trans {p : PP} {x y z : Pt} (h : Reach p x y) (k : Reach p y z) : Reach p x z := by
  induction k with
  | here => exact h
  | next a ev _ hl ha he ih => exact .next a ev ih hl ha he
/-- a run: where it ends, and at which index -/
theorem runM_ix {n : Nat} {es : List PE} : ∀ (l : List PS) (x : Pt) (a : Int) (i : Nat), 0 ≤ x.loc →
    ((runM n es x a l i).2 = -1 ∧ 0 ≤ (runM n es x a l i).1.loc) ∨ ((i : Int) ≤ (runM n es x a l i).2 ∧ (runM n es x a l i).2 < i + l.length ∧ (runM n es x a l i).1.loc < 0)
  | [], x, a, i, h => .inl ⟨rfl, h⟩
  | s :: ss, x, a, i, h => by
    by_cases hl : (step n es x (s.at_ - a) s.ev).loc < 0
    · rw [runM_t hl]
      refine .inr ⟨Int.le_refl _, ?_, hl⟩
      simp; omega
    · rw [runM_f hl]
      rcases runM_ix ss (step n es x (s.at_ - a) s.ev) s.at_ (i + 1) (by omega) with h1 | h1
      · exact .inl h1
      · refine .inr ⟨?_, ?_, h1.2.2⟩
        · have := h1.1; omega
        · have := h1.2.1; simp at this ⊢; omega
theorem runM_app {n : Nat} {es : List PE} : ∀ (l m : List PS) (x : Pt) (a : Int) (i : Nat), 0 ≤ x.loc →
    ((runM n es x a l i).1.loc < 0 ∧ runM n es x a (l ++ m) i = runM n es x a l i) ∨
    (0 ≤ (runM n es x a l i).1.loc ∧ ∃ a', runM n es x a (l ++ m) i = runM n es (runM n es x a l i).1 a' m (i + l.length) ∧ ∀ evs, wordF evs a (l ++ m) = true → wordF evs a' m = true)
  | [], m, x, a, i, h => .inr ⟨h, a, rfl, fun _ h => h⟩
  | s :: ss, m, x, a, i, h => by
    by_cases hl : (step n es x (s.at_ - a) s.ev).loc < 0
    · rw [List.cons_append, runM_t hl, runM_t hl]
      exact .inl ⟨hl, rfl⟩
    · rw [List.cons_append, runM_f hl, runM_f hl]
      rcases runM_app ss m (step n es x (s.at_ - a) s.ev) s.at_ (i + 1) (by omega) with h1 | ⟨h1, a', h2, h3⟩
      · exact .inl h1
      · refine .inr ⟨h1, a', ?_, fun evs hw => ?_⟩
        · rw [h2, show i + 1 + ss.length = i + (s :: ss).length by simp; omega]
        · by_cases hb : stampBad evs a s = true
          · rw [wordF_t hb] at hw; cases hw
          · rw [wordF_f (by simpa using hb)] at hw
            exact h3 evs hw
theorem runM_reach {p : PP} {x0 : Pt} : ∀ (m : List PS) (x : Pt) (a : Int) (i : Nat), 0 ≤ x.loc → ClOk x.cl → wordF p.evs a m = true → Reach p x0 x → Reach p x0 (runM p.clks.toNat p.edges x a m i).1
  | [], _, _, _, _, _, _, h => h
  | s :: ss, x, a, i, hx, hc, hw, h => by
    by_cases hb : stampBad p.evs a s = true
    · rw [wordF_t hb] at hw; cases hw
    · have hb0 : stampBad p.evs a s = false := by simpa using hb
      rw [wordF_f hb0] at hw
      obtain ⟨h1, h2, h3, h4⟩ := stampBad_f hb0
      have hr := reach_step h hc hx (a := s.at_ - a) (ev := s.ev) (by omega) h3 h4
      by_cases hl : (step p.clks.toNat p.edges x (s.at_ - a) s.ev).loc < 0
      · rw [runM_t hl]; exact hr
      · rw [runM_f hl]
        exact runM_reach ss _ _ _ (by omega) (step_ok hc (by omega)) hw hr
/-- what PropertyGoes asks -/
structure Goes (n m : Int) (a b c d : Bool) (i k : Int) : Prop where
  i1 : -1 ≤ i
  i2 : i < n
  k1 : -1 ≤ k
  k2 : k < n + m
  pit : 0 ≤ i → a = false ∧ b = false ∧ c = false ∧ d = false ∧ k = i
  pit2 : 0 ≤ k → b = false ∧ d = false
  ac : a = true → c = true
  bd : b = true → d = true
  dc : d = true → c = true
  go : i < 0 → k < 0 ∨ n ≤ k
theorem pit_good {p : PP} {x : Pt} (h : x.loc < 0) : goodM p x = false := by
  cases hg : goodM p x
  · rfl
  · exact absurd (good_loc hg) (by omega)
theorem good_hope {p : PP} {x : Pt} (h : goodM p x = true) : hopeB p x = true := hopeB_t ⟨x, .here, h⟩
theorem hope_back {p : PP} {x y : Pt} (h : Reach p x y) (k : hopeB p y = true) : hopeB p x = true := by
  obtain ⟨z, h1, h2⟩ := hopeB_iff.mp k
  exact hopeB_t ⟨z, h.trans h1, h2⟩
theorem goes_law {p : PP} {l m : List PS} (h : rpword p (l ++ m) = 0) :
    judgeM p l = ((judgeM p l).1, (judgeM p l).2.1, 0) ∧ judgeM p (l ++ m) = ((judgeM p (l ++ m)).1, (judgeM p (l ++ m)).2.1, 0) ∧ (hopeM p l).2 = 0 ∧ (hopeM p (l ++ m)).2 = 0 ∧
    Goes l.length m.length (judgeM p l).1 (judgeM p (l ++ m)).1 (hopeM p l).1 (hopeM p (l ++ m)).1 (judgeM p l).2.1 (judgeM p (l ++ m)).2.1 := by
  have h0 := rpword_pre h
  obtain ⟨hv, hl1, _⟩ := runP_ok h0
  have hpt := runP_pt h0
  obtain ⟨_, _, hwd⟩ := rpword_ok h
  have hst : 0 ≤ (start p).loc := hv.ini.1
  rw [judgeM_ok h0, judgeM_ok h, hopeM_ok h0, hopeM_ok h]
  refine ⟨rfl, rfl, rfl, rfl, ?_⟩
  show Goes l.length m.length (goodM p (runP p l).1) (goodM p (runP p (l ++ m)).1) (hopeB p (runP p l).1) (hopeB p (runP p (l ++ m)).1) (runP p l).2 (runP p (l ++ m)).2
  have e1 : runP p l = runM p.clks.toNat p.edges (start p) 0 l 0 := rfl
  have e2 : runP p (l ++ m) = runM p.clks.toNat p.edges (start p) 0 (l ++ m) 0 := rfl
  have x1 := runM_ix (n := p.clks.toNat) (es := p.edges) l (start p) 0 0 hst
  rw [← e1] at x1
  rcases runM_app (n := p.clks.toNat) (es := p.edges) l m (start p) 0 0 hst with ⟨g1, g2⟩ | ⟨g1, a', g2, g3⟩
  · rw [← e1] at g1 g2
    rw [← e2] at g2
    rw [g2]
    have f1 := pit_good (p := p) g1
    have f2 := hope_pit (p := p) g1
    rw [f1, f2]
    exact ⟨by omega, by omega, by omega, by omega, fun _ => ⟨rfl, rfl, rfl, rfl, rfl⟩, fun _ => ⟨rfl, rfl⟩, (fun h => by cases h), (fun h => by cases h), (fun h => by cases h), (fun h => by omega)⟩
  · rw [← e1] at g1 g2
    rw [← e2] at g2
    have hr := runM_reach (p := p) (x0 := (runP p l).1) m (runP p l).1 a' (0 + l.length) g1 hpt.2 (g3 _ hwd) .here
    rw [← g2] at hr
    have x2 := runM_ix (n := p.clks.toNat) (es := p.edges) m (runP p l).1 a' (0 + l.length) g1
    rw [← g2] at x2
    refine ⟨by omega, by omega, by omega, by omega, fun hi => by omega, fun hk => ?_, good_hope, good_hope, hope_back hr, fun hi => by omega⟩
    have : (runP p (l ++ m)).1.loc < 0 := by omega
    exact ⟨pit_good this, hope_pit this⟩
end Go.Proofs.Ytcnjojhbcijdmaa
