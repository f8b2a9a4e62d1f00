/- poly (plain): points of ratios: what Has tells. -/
import Derived.Test.YtalphoebmefgoaaZVgeo
import Derived.Test.YtalphoebmefgoaaZRratq
import Derived.Test.YtalphoebmefgoaaG40
namespace Go.Proofs.Ytalphoebmefgoaa
/-- a point of ratios -/
def ptX (p : List Rt) : Nat → Rat := fun k => if k < p.length then (rtAt p k).q else 0
theorem one_val {c : Int} (h : c.natAbs ≤ 2147483647) : rval ⟨c, 1⟩ = true ∧ (⟨c, 1⟩ : Rt).q = (c : Rat) := by
  constructor
  · unfold rval absU gcdU
    simp
    omega
  · unfold Rt.q
    rw [show (1 : Int) = ((1 : Nat) : Int) from rfl, Rat.divInt_ofNat, Rat.mkRat_one]
theorem ofQ_zero {q : Rat} (h : (ofQ q).2 = 0) : rval (ofQ q).1 = true ∧ (ofQ q).1.q = q := by
  rcases ofQ_cases q with ⟨a, h1, h2, h3⟩ | h1
  · rw [h1]; exact ⟨h2, h3⟩
  · rw [h1] at h; cases h
theorem radd_ok {a b : Rt} (ha : rval a = true) (hb : rval b = true) (h : (radd a b).2 = 0) : rval (radd a b).1 = true ∧ (radd a b).1.q = a.q + b.q := by
  rw [radd_q ha hb] at h ⊢; exact ofQ_zero h
theorem rsub_ok {a b : Rt} (ha : rval a = true) (hb : rval b = true) (h : (rsub a b).2 = 0) : rval (rsub a b).1 = true ∧ (rsub a b).1.q = a.q - b.q := by
  rw [rsub_q ha hb] at h ⊢; exact ofQ_zero h
theorem rmul_ok {a b : Rt} (ha : rval a = true) (hb : rval b = true) (h : (rmul a b).2 = 0) : rval (rmul a b).1 = true ∧ (rmul a b).1.q = a.q * b.q := by
  rw [rmul_q ha hb] at h ⊢; exact ofQ_zero h
theorem rquo_ok {a b : Rt} (ha : rval a = true) (hb : rval b = true) (h0 : b.num ≠ 0) (h : (rquo a b).2 = 0) : rval (rquo a b).1 = true ∧ (rquo a b).1.q = a.q / b.q := by
  rw [rquo_q ha hb h0] at h ⊢; exact ofQ_zero h
/-- the sum of coefficients times coordinates, as a rational number -/
def sumQ : List (Int × Rt) → Rat
  | [] => 0
  | (c, r) :: t => (c : Rat) * r.q + sumQ t
theorem totF_q : ∀ (l : List (Int × Rt)) (t : Rt), rval t = true → (∀ x, x ∈ l → x.1.natAbs ≤ 2147483647 ∧ rval x.2 = true) → (totF l t).2 = 0 → rval (totF l t).1 = true ∧ (totF l t).1.q = t.q + sumQ l
  | [], t, ht, _, _ => ⟨ht, by simp only [totF, sumQ]; grind⟩
  | (c, r) :: l, t, ht, hl, h => by
    obtain ⟨hc, hr⟩ := hl (c, r) (List.mem_cons_self ..)
    obtain ⟨h1, e1⟩ := one_val hc
    unfold totF at h ⊢
    split at h
    · rename_i hm; exact absurd h hm
    · rename_i hm
      rw [if_neg hm]
      obtain ⟨h2, e2⟩ := rmul_ok h1 hr (by simpa using hm)
      split at h
      · rename_i ha; exact absurd h ha
      · rename_i ha
        rw [if_neg ha]
        obtain ⟨h3, e3⟩ := radd_ok ht h2 (by simpa using ha)
        obtain ⟨h4, e4⟩ := totF_q l _ h3 (fun x hx => hl x (List.mem_cons_of_mem _ hx)) h
        refine ⟨h4, ?_⟩
        rw [e4, e3, e2, e1, sumQ]
        grind
theorem zero_val : rval ⟨0, 1⟩ = true ∧ (⟨0, 1⟩ : Rt).q = 0 := one_val (c := 0) (by decide)
theorem totL_q {a : List Int} {p : List Rt} (ha : ∀ c, c ∈ a → c.natAbs ≤ 2147483647) (hp : ∀ r, r ∈ p → rval r = true) (h : (totL a p).2 = 0) : rval (totL a p).1 = true ∧ (totL a p).1.q = sumQ (a.zip p) := by
  obtain ⟨h1, h2⟩ := totF_q (a.zip p) ⟨0, 1⟩ zero_val.1 (fun x hx => by
    obtain ⟨x1, x2⟩ := x
    have := List.of_mem_zip hx
    exact ⟨ha _ this.1, hp _ this.2⟩) h
  exact ⟨h1, by rw [show (totL a p).1 = (totF (a.zip p) ⟨0, 1⟩).1 from rfl, h2, zero_val.2]; grind⟩
theorem vl_pt (x : Ln) {p : List Rt} (hp : p.length ≤ 6) : vl (ptX p) x = sumQ (x.a.zip p) := by
  match p, hp with
  | [], _ => simp [vl, ptX, Ln.a, sumQ]; try grind
  | [_], _ => simp [vl, ptX, Ln.a, sumQ, rtAt]; try grind
  | [_, _], _ => simp [vl, ptX, Ln.a, sumQ, rtAt]; try grind
  | [_, _, _], _ => simp [vl, ptX, Ln.a, sumQ, rtAt]; try grind
  | [_, _, _, _], _ => simp [vl, ptX, Ln.a, sumQ, rtAt]; try grind
  | [_, _, _, _, _], _ => simp [vl, ptX, Ln.a, sumQ, rtAt]; try grind
  | [_, _, _, _, _, _], _ => simp [vl, ptX, Ln.a, sumQ, rtAt]; try grind
theorem meet_q {t : Rt} {b : Int} {s : Bool} (ht : rval t = true) (hb : b.natAbs ≤ 2147483647) : meetB t b s = true ↔ (t.q < (b : Rat) ∨ (s = false ∧ t.q = (b : Rat))) := by
  obtain ⟨h1, e1⟩ := one_val hb
  unfold meetB
  rw [rcmp_q ht h1, e1]
  by_cases c1 : t.q < (b : Rat)
  · simp [c1]
  · by_cases c2 : (b : Rat) < t.q
    · have : t.q ≠ (b : Rat) := by grind
      simp [c1, c2, this]
    · have : t.q = (b : Rat) := by grind
      simp [this]
theorem hasF_q {p : List Rt} (hp6 : p.length ≤ 6) (hp : ∀ r, r ∈ p → rval r = true) : ∀ (l : List Ln) (all : Bool), (∀ x, x ∈ l → x.inr) → (hasF p l all).2 = 0 → ((hasF p l all).1 = true ↔ all = true ∧ metAll (ptX p) l)
  | [], all, _, _ => by simp [hasF, metAll]
  | x :: t, all, hl, h => by
    have hx := hl x (List.mem_cons_self ..)
    unfold hasF at h ⊢
    split at h
    · rename_i h0; exact absurd h h0
    · rename_i h0
      rw [if_neg h0]
      obtain ⟨h1, h2⟩ := totL_q (a := x.a) (p := p) (fun c hc => hx c (List.mem_append_left _ hc)) hp (by simpa using h0)
      rw [hasF_q hp6 hp t _ (fun y hy => hl y (List.mem_cons_of_mem _ hy)) h, Bool.and_eq_true, meet_q h1 hx.b, h2, ← vl_pt x hp6]
      constructor
      · rintro ⟨⟨q1, q2⟩, q3⟩
        refine ⟨q1, fun y hy => ?_⟩
        rcases List.mem_cons.1 hy with rfl | hy
        · exact q2
        · exact q3 y hy
      · rintro ⟨q1, q2⟩
        exact ⟨⟨q1, q2 x (List.mem_cons_self ..)⟩, fun y hy => q2 y (List.mem_cons_of_mem _ hy)⟩
/-- what Has tells, if it tells -/
theorem has_q {n : Int} {l : List AL} {p : List Rt} (h : (hasM n l p).2 = 0) : checkM n l = 0 ∧ (p.length : Int) = n ∧ (∀ r, r ∈ p → rval r = true) ∧ ((hasM n l p).1 = true ↔ metAll (ptX p) (padAll l)) := by
  unfold hasM at h ⊢
  split at h
  · rename_i hc; exact absurd h hc
  · rename_i hc
    rw [if_neg hc]
    split at h
    · cases h
    · rename_i hp
      rw [if_neg hp]
      have hc2 : checkM n l = 0 := by simpa using hc
      have hp1 : (p.length : Int) = n := by
        rcases Classical.em ((p.length : Int) = n) with q | q
        · exact q
        · exact absurd (.inl q) hp
      have hp2 : ∀ r, r ∈ p → rval r = true := fun r hr => by
        cases e : rval r
        · exact absurd (.inr (List.any_eq_true.2 ⟨r, hr, by unfold badR; rw [e]; rfl⟩)) hp
        · rfl
      have hn := (check_fits hc2).1
      refine ⟨hc2, hp1, hp2, ?_⟩
      have := hasF_q (p := p) (by omega) hp2 (padAll l) true (pad_inr hc2) h
      rw [this]; simp
/-- lines that fit have no coefficient beyond their dimension -/
theorem zb_pad {n : Nat} {l : List AL} (_hn : n ≤ 6) (hl : ∀ x, x ∈ l → x.a.length = n) : zb n (padAll l) := fun x hx => by
  obtain ⟨y, hy, rfl⟩ := List.mem_map.1 hx
  intro k hk
  unfold ci
  obtain ⟨a, b, s⟩ := y
  have ha := hl _ hy
  dsimp only at ha
  have : (padL ⟨a, b, s⟩).a.getD k 0 = a.getD k 0 := by
    rcases Nat.lt_or_ge k 6 with q | q
    · have h6 : k = 0 ∨ k = 1 ∨ k = 2 ∨ k = 3 ∨ k = 4 ∨ k = 5 := by omega
      rcases h6 with rfl | rfl | rfl | rfl | rfl | rfl <;> rfl
    · rw [List.getD_eq_getElem?_getD, List.getElem?_eq_none (by simpa [Ln.a] using q), List.getD_eq_getElem?_getD, List.getElem?_eq_none (by omega)]
  rw [this, List.getD_eq_getElem?_getD, List.getElem?_eq_none (by omega)]; rfl
end Go.Proofs.Ytalphoebmefgoaa
