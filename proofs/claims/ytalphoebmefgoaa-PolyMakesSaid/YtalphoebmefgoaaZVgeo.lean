/- poly (plain): points: a list in lowest terms, tidied, without a coordinate; the elimination is exact. -/
import Derived.Test.YtalphoebmefgoaaZVdnm
namespace Go.Proofs.Ytalphoebmefgoaa
/-- the sum of a line at a point -/
def vl (X : Nat → Rat) (x : Ln) : Rat := (x.a0 : Rat) * X 0 + (x.a1 : Rat) * X 1 + (x.a2 : Rat) * X 2 + (x.a3 : Rat) * X 3 + (x.a4 : Rat) * X 4 + (x.a5 : Rat) * X 5
/-- does a point meet a line? -/
def met (X : Nat → Rat) (x : Ln) : Prop := vl X x < (x.b : Rat) ∨ (x.s = false ∧ vl X x = (x.b : Rat))
def metAll (X : Nat → Rat) (l : List Ln) : Prop := ∀ x, x ∈ l → met X x
/-- a point without a coordinate -/
def delX (X : Nat → Rat) (i : Nat) : Nat → Rat := fun k => if k < i then X k else X (k + 1)
/-- a point with a coordinate more -/
def insX (Y : Nat → Rat) (i : Nat) (t : Rat) : Nat → Rat := fun k => if k < i then Y k else if k = i then t else Y (k - 1)
theorem del_ins (Y : Nat → Rat) (i : Nat) (t : Rat) : delX (insX Y i t) i = Y := by
  funext k
  unfold delX insX
  by_cases h : k < i
  · rw [if_pos h, if_pos h]
  · rw [if_neg h, if_neg (by omega), if_neg (by omega)]; rfl
theorem ins_del (X : Nat → Rat) (i : Nat) : insX (delX X i) i (X i) = X := by
  funext k
  unfold delX insX
  dsimp only
  by_cases h : k < i
  · rw [if_pos h, if_pos h]
  · rw [if_neg h]
    by_cases h2 : k = i
    · rw [if_pos h2, h2]
    · rw [if_neg h2, if_neg (by omega)]
      congr 1; omega
theorem vl_short (X : Nat → Rat) (x : Ln) {i : Nat} (hi : i ≤ 5) : vl (delX X i) (shortL x i) = vl X x - (ci x i : Rat) * X i := by
  have : i = 0 ∨ i = 1 ∨ i = 2 ∨ i = 3 ∨ i = 4 ∨ i = 5 := by omega
  rcases this with rfl | rfl | rfl | rfl | rfl | rfl <;> simp [vl, delX, shortL, ci, Ln.a] <;> grind
theorem vl_mul (X : Nat → Rat) (a b : Int) (x y : Ln) : vl X (mulL a x b y 6) = (a : Rat) * vl X x + (b : Rat) * vl X y := by
  simp [vl, mulL]
  grind
theorem ci_short0 (x : Ln) {i : Nat} (hi : i ≤ 5) (h : ci x i = 0) (X : Nat → Rat) : vl (delX X i) (shortL x i) = vl X x := by
  rw [vl_short X x hi, h]; grind
theorem met_short0 (x : Ln) {i : Nat} (hi : i ≤ 5) (h : ci x i = 0) (X : Nat → Rat) : met (delX X i) (shortL x i) ↔ met X x := by
  unfold met; rw [ci_short0 x hi h X]; rfl
/-- lowest terms -/
theorem gk_dvd (x : Ln) : (∀ c, c ∈ x.a → ((gk x 6 : Nat) : Int) ∣ c) ∧ ((gk x 6 : Nat) : Int) ∣ x.b := by
  have key : ∀ (l : List Int) (g : Nat), ((l.foldl (fun (g : Nat) c => Int.gcd (g : Int) c) g : Nat) : Int) ∣ (g : Int) ∧ ∀ c, c ∈ l → ((l.foldl (fun (g : Nat) c => Int.gcd (g : Int) c) g : Nat) : Int) ∣ c := by
    intro l
    induction l with
    | nil => intro g; exact ⟨Int.dvd_refl _, by simp⟩
    | cons c l ih =>
      intro g
      obtain ⟨h1, h2⟩ := ih (Int.gcd (g : Int) c)
      refine ⟨Int.dvd_trans h1 (Int.gcd_dvd_left ..), fun d hd => ?_⟩
      rcases List.mem_cons.1 hd with rfl | hd
      · exact Int.dvd_trans h1 (Int.gcd_dvd_right ..)
      · exact h2 d hd
  obtain ⟨h1, h2⟩ := key (x.a.take 6) (Int.gcd 0 x.b)
  refine ⟨fun c hc => h2 c hc, Int.dvd_trans h1 ?_⟩
  exact Int.gcd_dvd_right ..
theorem tdiv_rat {a : Int} {g : Nat} (h : (g : Int) ∣ a) (hg : 0 < g) : ((a.tdiv (g : Int) : Int) : Rat) * ((g : Int) : Rat) = (a : Rat) := by
  obtain ⟨k, rfl⟩ := h
  rw [Int.mul_tdiv_cancel_left _ (by omega)]
  rw [Int.mul_comm, Rat.intCast_mul]
theorem vl_low (X : Nat → Rat) (x : Ln) (h : 1 < gk x 6) : vl X (lowL x) * ((gk x 6 : Int) : Rat) = vl X x ∧ ((lowL x).b : Rat) * ((gk x 6 : Int) : Rat) = (x.b : Rat) ∧ (lowL x).s = x.s := by
  obtain ⟨h1, h2⟩ := gk_dvd x
  unfold lowL
  rw [if_pos h]
  have d0 := tdiv_rat (h1 x.a0 (by simp [Ln.a])) (by omega)
  have d1 := tdiv_rat (h1 x.a1 (by simp [Ln.a])) (by omega)
  have d2 := tdiv_rat (h1 x.a2 (by simp [Ln.a])) (by omega)
  have d3 := tdiv_rat (h1 x.a3 (by simp [Ln.a])) (by omega)
  have d4 := tdiv_rat (h1 x.a4 (by simp [Ln.a])) (by omega)
  have d5 := tdiv_rat (h1 x.a5 (by simp [Ln.a])) (by omega)
  have d6 := tdiv_rat h2 (by omega)
  refine ⟨?_, d6, rfl⟩
  simp only [vl, dk, Nat.reduceLT, if_true]
  generalize ((gk x 6 : Int) : Rat) = G at *
  rw [← d0, ← d1, ← d2, ← d3, ← d4, ← d5]
  grind
theorem rat_cancel {v b G : Rat} (hg : 0 < G) (e : v * G = b * G) : v = b := by
  have h0 : G ≠ 0 := fun q => by rw [q] at hg; exact absurd hg (by decide)
  have := congrArg (· * G⁻¹) e
  simpa [Rat.mul_assoc, Rat.mul_inv_cancel G h0] using this
theorem met_low (X : Nat → Rat) (x : Ln) : met X (lowL x) ↔ met X x := by
  by_cases h : 1 < gk x 6
  · obtain ⟨h1, h2, h3⟩ := vl_low X x h
    have hg : (0 : Rat) < ((gk x 6 : Int) : Rat) := by
      have : (0 : Int) < (gk x 6 : Int) := by omega
      exact_mod_cast this
    unfold met
    rw [h3, ← h1, ← h2]
    generalize ((gk x 6 : Int) : Rat) = G at *
    generalize vl X (lowL x) = v
    generalize ((lowL x).b : Rat) = b
    have e1 : v < b ↔ v * G < b * G := (Rat.mul_lt_mul_right hg).symm
    have e2 : v = b ↔ v * G = b * G := by
      constructor
      · rintro rfl; rfl
      · exact rat_cancel hg
    rw [e1, e2]
  · unfold lowL; rw [if_neg h]
theorem met_false (X : Nat → Rat) : ¬ met X falseLn := by
  unfold met vl falseLn
  simp only [Bool.true_eq_false, false_and, or_false]
  intro h
  have : (((0 : Int) : Rat)) = 0 := rfl
  rw [this] at h
  grind
theorem vl_zero {X : Nat → Rat} {x : Ln} (h : x.a = [0, 0, 0, 0, 0, 0]) : vl X x = 0 := by
  obtain ⟨a0, a1, a2, a3, a4, a5, b, s⟩ := x
  simp only [Ln.a, List.cons.injEq, and_true] at h
  obtain ⟨rfl, rfl, rfl, rfl, rfl, rfl⟩ := h
  unfold vl
  have : (((0 : Int) : Rat)) = 0 := rfl
  simp only [this]; grind
theorem met_zero {X : Nat → Rat} {x : Ln} (h : x.a = [0, 0, 0, 0, 0, 0]) : met X x ↔ ¬ (x.b < 0 ∨ x.b = 0 ∧ x.s = true) := by
  unfold met
  rw [vl_zero h]
  have e1 : (0 : Rat) < (x.b : Rat) ↔ 0 < x.b := by exact_mod_cast Iff.rfl
  have e2 : (0 : Rat) = (x.b : Rat) ↔ 0 = x.b := by exact_mod_cast Iff.rfl
  rw [e1, e2]
  cases x.s <;> simp <;> omega
theorem vl_same {X : Nat → Rat} {x y : Ln} (h : x.a = y.a) : vl X x = vl X y := by
  obtain ⟨a0, a1, a2, a3, a4, a5, b, s⟩ := x
  obtain ⟨c0, c1, c2, c3, c4, c5, d, t⟩ := y
  simp only [Ln.a, List.cons.injEq, and_true] at h
  obtain ⟨rfl, rfl, rfl, rfl, rfl, rfl⟩ := h
  rfl
theorem met_tight {X : Nat → Rat} {m y : Ln} (ha : m.a = y.a) (hl : leL m y) (h : met X m) : met X y := by
  have hb : m.b < y.b ∨ (m.b = y.b ∧ (m.s = y.s ∨ m.s = true)) := by
    unfold leL cmpL at hl
    rw [ha, lex_self] at hl
    simp only [ne_eq, not_true, if_false] at hl
    rcases cmpI_r m.b y.b with ⟨e, f⟩ | ⟨e, f⟩ | ⟨e, f⟩
    · exact .inl f
    · refine .inr ⟨f, ?_⟩
      rw [e] at hl
      cases hm : m.s <;> cases hy : y.s <;> simp_all
    · exfalso
      rw [e] at hl; simp at hl
  unfold met at h ⊢
  rw [← vl_same ha]
  rcases hb with hb | ⟨hb, hs⟩
  · have : (m.b : Rat) < (y.b : Rat) := by exact_mod_cast hb
    left
    rcases h with h | ⟨_, h⟩ <;> grind
  · rw [← hb]
    rcases h with h | ⟨h1, h⟩
    · exact .inl h
    · right
      refine ⟨?_, h⟩
      rcases hs with hs | hs
      · rw [← hs]; exact h1
      · rw [h1] at hs; cases hs
theorem met_tdy {X : Nat → Rat} {c out : List Ln} (h : Tdy c out) : metAll X out ↔ metAll X c := by
  constructor
  · intro hm y hy
    obtain ⟨m, h1, h2, h3⟩ := h.rep y hy
    exact met_tight h2 h3 (hm m h1)
  · intro hm z hz
    exact hm z (h.sub z hz)
theorem met_col {X : Nat → Rat} : ∀ (l out : List Ln), match colL out l with
    | none => ¬ metAll X l
    | some c => metAll X c ↔ (metAll X out ∧ metAll X l)
  | [], out => by
    show metAll X out ↔ (metAll X out ∧ metAll X [])
    exact ⟨fun h => ⟨h, by intro x hx; simp at hx⟩, fun h => h.1⟩
  | x :: t, out => by
    have hc : metAll X (x :: t) ↔ (met X (lowL x) ∧ metAll X t) := by
      rw [met_low]
      exact ⟨fun h => ⟨h x (by simp), fun y hy => h y (by simp [hy])⟩, fun h y hy => by
        rcases List.mem_cons.1 hy with rfl | hy
        · exact h.1
        · exact h.2 y hy⟩
    unfold colL
    by_cases hz : (lowL x).a ≠ [0, 0, 0, 0, 0, 0]
    · rw [if_pos hz]
      have ih := met_col (X := X) t (out ++ [lowL x])
      have ha : metAll X (out ++ [lowL x]) ↔ (metAll X out ∧ met X (lowL x)) := by
        constructor
        · exact fun h => ⟨fun y hy => h y (by simp [hy]), h _ (by simp)⟩
        · rintro ⟨h1, h2⟩ y hy
          rcases List.mem_append.1 hy with q | q
          · exact h1 y q
          · obtain rfl : y = lowL x := by simpa using q
            exact h2
      cases e : colL (out ++ [lowL x]) t with
      | none =>
        rw [e] at ih
        exact fun h => ih (hc.1 h).2
      | some c =>
        rw [e] at ih
        show metAll X c ↔ _
        rw [hc]
        have ih2 : metAll X c ↔ (metAll X (out ++ [lowL x]) ∧ metAll X t) := ih
        rw [ih2, ha, and_assoc]
    · rw [if_neg hz]
      have hz2 : (lowL x).a = [0, 0, 0, 0, 0, 0] := by simpa using hz
      have hm := met_zero (X := X) hz2
      by_cases hb : (lowL x).b < 0 ∨ (lowL x).b = 0 ∧ (lowL x).s = true
      · rw [if_pos hb]
        exact fun h => (hm.1 (hc.1 h).1) hb
      · rw [if_neg hb]
        have ih := met_col (X := X) t out
        cases e : colL out t with
        | none =>
          rw [e] at ih
          exact fun h => ih (hc.1 h).2
        | some c =>
          rw [e] at ih
          have ih2 : metAll X c ↔ (metAll X out ∧ metAll X t) := ih
          show metAll X c ↔ _
          rw [hc, ih2]
          exact ⟨fun h => ⟨h.1, hm.2 hb, h.2⟩, fun h => ⟨h.1, h.2.2⟩⟩
/-- the tidy list has the same points -/
theorem met_tidy (X : Nat → Rat) (l : List Ln) : metAll X (tidyL l) ↔ metAll X l := by
  have h := met_col (X := X) l []
  unfold tidyL
  cases e : colL [] l with
  | none =>
    rw [e] at h
    show metAll X [falseLn] ↔ _
    exact ⟨fun q => absurd (q falseLn (by simp)) (met_false X), fun q => absurd q h⟩
  | some c =>
    rw [e] at h
    have h2 : metAll X c ↔ (metAll X [] ∧ metAll X l) := h
    show metAll X (c.foldl insL []) ↔ _
    rw [met_tdy (tdy_all c), h2]
    exact ⟨fun q => q.2, fun q => ⟨by intro x hx; simp at hx, q⟩⟩
def okLo (t : Rat) (p : Rat × Bool) : Prop := if p.2 = true then p.1 < t else p.1 ≤ t
def okUp (t : Rat) (p : Rat × Bool) : Prop := if p.2 = true then t < p.1 else t ≤ p.1
def okPr (l u : Rat × Bool) : Prop := l.1 < u.1 ∨ (l.1 = u.1 ∧ l.2 = false ∧ u.2 = false)
theorem best_lo : ∀ (L : List (Rat × Bool)), L ≠ [] → ∃ m, m ∈ L ∧ ∀ t, okLo t m → ∀ p, p ∈ L → okLo t p
  | [], h => absurd rfl h
  | [p], _ => ⟨p, by simp, fun t h q hq => by
    obtain rfl : q = p := by simpa using hq
    exact h⟩
  | p :: q :: L, _ => by
    obtain ⟨m, hm, hb⟩ := best_lo (q :: L) (by simp)
    by_cases hc : p.1 < m.1 ∨ (p.1 = m.1 ∧ (m.2 = true ∨ p.2 = false))
    · refine ⟨m, List.mem_cons_of_mem _ hm, fun t h r hr => ?_⟩
      rcases List.mem_cons.1 hr with rfl | hr
      · unfold okLo at *
        grind
      · exact hb t h r hr
    · refine ⟨p, List.mem_cons_self .., fun t h r hr => ?_⟩
      rcases List.mem_cons.1 hr with rfl | hr
      · exact h
      · refine hb t ?_ r hr
        unfold okLo at *
        grind
theorem best_up : ∀ (L : List (Rat × Bool)), L ≠ [] → ∃ m, m ∈ L ∧ ∀ t, okUp t m → ∀ p, p ∈ L → okUp t p
  | [], h => absurd rfl h
  | [p], _ => ⟨p, by simp, fun t h q hq => by
    obtain rfl : q = p := by simpa using hq
    exact h⟩
  | p :: q :: L, _ => by
    obtain ⟨m, hm, hb⟩ := best_up (q :: L) (by simp)
    by_cases hc : m.1 < p.1 ∨ (p.1 = m.1 ∧ (m.2 = true ∨ p.2 = false))
    · refine ⟨m, List.mem_cons_of_mem _ hm, fun t h r hr => ?_⟩
      rcases List.mem_cons.1 hr with rfl | hr
      · unfold okUp at *
        grind
      · exact hb t h r hr
    · refine ⟨p, List.mem_cons_self .., fun t h r hr => ?_⟩
      rcases List.mem_cons.1 hr with rfl | hr
      · exact h
      · refine hb t ?_ r hr
        unfold okUp at *
        grind
theorem helly (L U : List (Rat × Bool)) (h : ∀ l, l ∈ L → ∀ u, u ∈ U → okPr l u) : ∃ t : Rat, (∀ l, l ∈ L → okLo t l) ∧ ∀ u, u ∈ U → okUp t u := by
  by_cases hL : L = []
  · by_cases hU : U = []
    · subst hL hU; exact ⟨0, by simp, by simp⟩
    · obtain ⟨m, hm, hb⟩ := best_up U hU
      subst hL
      refine ⟨m.1 - 1, by simp, hb _ ?_⟩
      unfold okUp; grind
  · obtain ⟨m, hm, hb⟩ := best_lo L hL
    by_cases hU : U = []
    · subst hU
      refine ⟨m.1 + 1, hb _ ?_, by simp⟩
      unfold okLo; grind
    · obtain ⟨k, hk, hc⟩ := best_up U hU
      have := h m hm k hk
      unfold okPr at this
      by_cases hlt : m.1 < k.1
      · refine ⟨(m.1 + k.1) / 2, hb _ ?_, hc _ ?_⟩
        · unfold okLo; grind
        · unfold okUp; grind
      · refine ⟨m.1, hb _ ?_, hc _ ?_⟩
        · unfold okLo; grind
        · unfold okUp; grind

theorem rat_pos_mul {D x : Rat} (hD : 0 < D) : 0 < D * x ↔ 0 < x := by
  constructor
  · intro h
    have := (Rat.mul_lt_mul_right (a := 0) (b := x) hD).1 (by rw [Rat.zero_mul, Rat.mul_comm]; exact h)
    exact this
  · intro h
    have := (Rat.mul_lt_mul_right (a := 0) (b := x) hD).2 h
    rw [Rat.zero_mul, Rat.mul_comm] at this; exact this
theorem rat_zero_mul {D x : Rat} (hD : 0 < D) : D * x = 0 ↔ x = 0 := by
  constructor
  · intro h
    exact rat_cancel hD (by rw [Rat.mul_comm, h, Rat.zero_mul])
  · rintro rfl; exact Rat.mul_zero _
theorem gd_facts {i : Nat} {x y : Ln} (hx : 0 < ci x i) (hy : ci y i < 0) :
    0 < saL i (x, y) ∧ 0 < sbL i (x, y) ∧ saL i (x, y) * ci x i + sbL i (x, y) * ci y i = 0 ∧ 0 < (gdL i (x, y) : Int) ∧ saL i (x, y) * (gdL i (x, y) : Int) = -(ci y i) ∧ sbL i (x, y) * (gdL i (x, y) : Int) = ci x i := by
  have h1 : ((gdL i (x, y) : Nat) : Int) ∣ -(ci y i) := Int.gcd_dvd_left ..
  have h2 : ((gdL i (x, y) : Nat) : Int) ∣ ci x i := Int.gcd_dvd_right ..
  have hg : 0 < gdL i (x, y) := by
    unfold gdL
    exact Int.gcd_pos_of_ne_zero_right _ (by dsimp only; omega)
  unfold saL sbL
  try dsimp only
  generalize gdL i (x, y) = g at *
  obtain ⟨k1, e1⟩ := h1
  obtain ⟨k2, e2⟩ := h2
  have hgi : (0 : Int) < (g : Int) := by omega
  rw [e1, e2, Int.mul_tdiv_cancel_left _ (by omega), Int.mul_tdiv_cancel_left _ (by omega)]
  have ey : ci y i = -((g : Int) * k1) := by omega
  have p1 : 0 < k1 := by
    rcases Int.lt_trichotomy k1 0 with h | h | h
    · have := Int.mul_neg_of_pos_of_neg hgi h; omega
    · subst h; rw [Int.mul_zero] at e1; omega
    · exact h
  have p2 : 0 < k2 := by
    rcases Int.lt_trichotomy k2 0 with h | h | h
    · have := Int.mul_neg_of_pos_of_neg hgi h; omega
    · subst h; rw [Int.mul_zero] at e2; omega
    · exact h
  refine ⟨p1, p2, ?_, hgi, by rw [Int.mul_comm], by rw [Int.mul_comm]⟩
  rw [ey]; grind
theorem ci_mul (a b : Int) (x y : Ln) (i : Nat) (hi : i ≤ 5) : ci (mulL a x b y 6) i = a * ci x i + b * ci y i := by
  have : i = 0 ∨ i = 1 ∨ i = 2 ∨ i = 3 ∨ i = 4 ∨ i = 5 := by omega
  rcases this with rfl | rfl | rfl | rfl | rfl | rfl <;> rfl
/-- the sum of a line without a coordinate, at a point without it -/
theorem vl_at (Y : Nat → Rat) (x : Ln) {i : Nat} (hi : i ≤ 5) (t : Rat) : vl (insX Y i t) x = vl Y (shortL x i) + (ci x i : Rat) * t := by
  have h := vl_short (insX Y i t) x hi
  rw [del_ins] at h
  have e : insX Y i t i = t := by unfold insX; rw [if_neg (by omega), if_pos rfl]
  rw [e] at h
  grind
theorem met_sum (Y : Nat → Rat) {i : Nat} (hi : i ≤ 5) {x y : Ln} (hx : 0 < ci x i) (hy : ci y i < 0) :
    met Y (sumL i (x, y)) ↔ ((saL i (x, y) : Rat) * vl Y (shortL x i) + (sbL i (x, y) : Rat) * vl Y (shortL y i) < (saL i (x, y) : Rat) * x.b + (sbL i (x, y) : Rat) * y.b ∨
      ((x.s = false ∧ y.s = false) ∧ (saL i (x, y) : Rat) * vl Y (shortL x i) + (sbL i (x, y) : Rat) * vl Y (shortL y i) = (saL i (x, y) : Rat) * x.b + (sbL i (x, y) : Rat) * y.b)) := by
  unfold sumL
  rw [met_low]
  obtain ⟨_, _, h0, _⟩ := gd_facts hx hy
  have hv : vl Y (shortL (mulL (saL i (x, y)) x (sbL i (x, y)) y 6) i) = (saL i (x, y) : Rat) * vl Y (shortL x i) + (sbL i (x, y) : Rat) * vl Y (shortL y i) := by
    have h := vl_at Y (mulL (saL i (x, y)) x (sbL i (x, y)) y 6) hi 0
    rw [vl_mul, vl_at Y x hi 0, vl_at Y y hi 0] at h
    grind
  unfold met
  try dsimp only
  rw [hv]
  have hb : ((shortL (mulL (saL i (x, y)) x (sbL i (x, y)) y 6) i).b : Rat) = (saL i (x, y) : Rat) * x.b + (sbL i (x, y) : Rat) * y.b := by
    show ((saL i (x, y) * x.b + sbL i (x, y) * y.b : Int) : Rat) = _
    rw [Rat.intCast_add, Rat.intCast_mul, Rat.intCast_mul]
  have hs : (shortL (mulL (saL i (x, y)) x (sbL i (x, y)) y 6) i).s = (x.s || y.s) := rfl
  rw [hb, hs]
  simp only [Bool.or_eq_false_iff]
theorem leave_mem {l : List Ln} {i : Nat} (he : (leaveL l i).2 = 0) : (leaveL l i).1 = tidyL ((l.filter fun x => decide (ci x i = 0)).map (shortL · i) ++ (PL l i).map (sumL i)) := by
  unfold leaveL at *
  simp only at *
  split at he
  · cases he
  · rename_i h1
    split at he
    · rename_i h2; rw [if_neg h1, if_pos h2]
    · cases he
theorem pl_of {l : List Ln} {i : Nat} {x y : Ln} (hx : x ∈ l) (hy : y ∈ l) (h1 : 0 < ci x i) (h2 : ci y i < 0) : (x, y) ∈ PL l i := by
  unfold PL
  refine List.mem_flatMap.2 ⟨x, hx, ?_⟩
  unfold pairF
  rw [if_neg (by omega)]
  exact List.mem_map.2 ⟨y, List.mem_filter.2 ⟨hy, by simpa using h2⟩, rfl⟩
/-- what is left when a coordinate is left out, at a point: all lines without it and all sums are met -/
theorem met_leave (Y : Nat → Rat) {l : List Ln} {i : Nat} (he : (leaveL l i).2 = 0) : metAll Y (leaveL l i).1 ↔ (∀ x, x ∈ l → ci x i = 0 → met Y (shortL x i)) ∧ ∀ x y, x ∈ l → y ∈ l → 0 < ci x i → ci y i < 0 → met Y (sumL i (x, y)) := by
  rw [leave_mem he, met_tidy]
  constructor
  · intro h
    refine ⟨fun x hx h0 => h _ (List.mem_append_left _ (List.mem_map.2 ⟨x, List.mem_filter.2 ⟨hx, by simpa using h0⟩, rfl⟩)), fun x y hx hy h1 h2 => h _ (List.mem_append_right _ (List.mem_map.2 ⟨(x, y), pl_of hx hy h1 h2, rfl⟩))⟩
  · rintro ⟨h1, h2⟩ z hz
    rcases List.mem_append.1 hz with hz | hz
    · obtain ⟨x, hx, rfl⟩ := List.mem_map.1 hz
      obtain ⟨hx1, hx2⟩ := List.mem_filter.1 hx
      exact h1 x hx1 (by simpa using hx2)
    · obtain ⟨⟨x, y⟩, hp, rfl⟩ := List.mem_map.1 hz
      obtain ⟨p1, p2, p3, p4⟩ := pl_mem hp
      exact h2 x y p1 p2 p3 p4
theorem leave_sound (X : Nat → Rat) {l : List Ln} {i : Nat} (hi : i ≤ 5) (he : (leaveL l i).2 = 0) (h : metAll X l) : metAll (delX X i) (leaveL l i).1 := by
  rw [met_leave _ he]
  refine ⟨fun x hx h0 => (met_short0 x hi h0 X).2 (h x hx), fun x y hx hy h1 h2 => ?_⟩
  rw [met_sum _ hi h1 h2]
  obtain ⟨ha, hb, h0, _⟩ := gd_facts h1 h2
  rw [vl_short X x hi, vl_short X y hi]
  have hx := h x hx
  have hy := h y hy
  have ha' : (0 : Rat) < (saL i (x, y) : Rat) := by exact_mod_cast ha
  have hb' : (0 : Rat) < (sbL i (x, y) : Rat) := by exact_mod_cast hb
  have h0' : (saL i (x, y) : Rat) * (ci x i : Rat) + (sbL i (x, y) : Rat) * (ci y i : Rat) = 0 := by
    rw [← Rat.intCast_mul, ← Rat.intCast_mul, ← Rat.intCast_add, h0]; rfl
  generalize (saL i (x, y) : Rat) = a at *
  generalize (sbL i (x, y) : Rat) = b at *
  generalize (ci x i : Rat) = cx at *
  generalize (ci y i : Rat) = cy at *
  unfold met at hx hy
  generalize vl X x = vx at *
  generalize vl X y = vy at *
  have e : a * (vx - cx * X i) + b * (vy - cy * X i) = a * vx + b * vy := by grind
  rw [e]
  have q1 : ∀ u v : Rat, u < v → a * u < a * v := fun u v huv => by
    rw [Rat.mul_comm a u, Rat.mul_comm a v]; exact (Rat.mul_lt_mul_right ha').2 huv
  have q2 : ∀ u v : Rat, u < v → b * u < b * v := fun u v huv => by
    rw [Rat.mul_comm b u, Rat.mul_comm b v]; exact (Rat.mul_lt_mul_right hb').2 huv
  rcases hx with hx | ⟨sx, hx⟩ <;> rcases hy with hy | ⟨sy, hy⟩
  · left; have := q1 _ _ hx; have := q2 _ _ hy; grind
  · left; have := q1 _ _ hx; rw [hy]; grind
  · left; have := q2 _ _ hy; rw [hx]; grind
  · right; exact ⟨⟨sx, sy⟩, by rw [hx, hy]⟩
/-- the bound that a line gives to coordinate i -/
def bndL (Y : Nat → Rat) (i : Nat) (x : Ln) : Rat × Bool := (((x.b : Rat) - vl Y (shortL x i)) / (ci x i : Rat), x.s)
theorem bnd_mul (Y : Nat → Rat) (i : Nat) (x : Ln) (h : ci x i ≠ 0) : (bndL Y i x).1 * (ci x i : Rat) = (x.b : Rat) - vl Y (shortL x i) := by
  unfold bndL
  try dsimp only
  have : (ci x i : Rat) ≠ 0 := by
    intro q
    apply h
    exact_mod_cast q
  rw [Rat.div_mul_cancel this]
theorem met_up (Y : Nat → Rat) {i : Nat} (hi : i ≤ 5) {x : Ln} (h : 0 < ci x i) (t : Rat) : met (insX Y i t) x ↔ okUp t (bndL Y i x) := by
  have hb := bnd_mul Y i x (by omega)
  have hp : (0 : Rat) < (ci x i : Rat) := by exact_mod_cast h
  unfold met
  rw [vl_at Y x hi]
  have hs : (bndL Y i x).2 = x.s := rfl
  unfold okUp
  rw [hs]
  generalize (bndL Y i x).1 = u at *
  generalize (ci x i : Rat) = c at *
  generalize vl Y (shortL x i) = v at *
  generalize (x.b : Rat) = b at *
  have e1 : v + c * t < b ↔ t < u := by
    have := rat_pos_mul (D := c) (x := u - t) hp
    constructor
    · intro h
      have h2 : 0 < c * (u - t) := by grind
      have := this.1 h2; grind
    · intro h
      have h2 : 0 < u - t := by grind
      have := this.2 h2; grind
  have e2 : v + c * t = b ↔ t = u := by
    have := rat_zero_mul (D := c) (x := u - t) hp
    constructor
    · intro h
      have h2 : c * (u - t) = 0 := by grind
      have := this.1 h2; grind
    · rintro rfl; grind
  rw [e1, e2]
  cases x.s <;> simp <;> grind
theorem met_lo (Y : Nat → Rat) {i : Nat} (hi : i ≤ 5) {x : Ln} (h : ci x i < 0) (t : Rat) : met (insX Y i t) x ↔ okLo t (bndL Y i x) := by
  have hb := bnd_mul Y i x (by omega)
  have hp : (0 : Rat) < -(ci x i : Rat) := by
    have : (ci x i : Rat) < 0 := by exact_mod_cast h
    grind
  unfold met
  rw [vl_at Y x hi]
  have hs : (bndL Y i x).2 = x.s := rfl
  unfold okLo
  rw [hs]
  generalize (bndL Y i x).1 = u at *
  generalize (ci x i : Rat) = c at *
  generalize vl Y (shortL x i) = v at *
  generalize (x.b : Rat) = b at *
  have e1 : v + c * t < b ↔ u < t := by
    have := rat_pos_mul (D := -c) (x := t - u) hp
    constructor
    · intro h
      have h2 : 0 < (-c) * (t - u) := by grind
      have := this.1 h2; grind
    · intro h
      have h2 : 0 < t - u := by grind
      have := this.2 h2; grind
  have e2 : v + c * t = b ↔ u = t := by
    have := rat_zero_mul (D := -c) (x := t - u) hp
    constructor
    · intro h
      have h2 : (-c) * (t - u) = 0 := by grind
      have := this.1 h2; grind
    · rintro rfl; grind
  rw [e1, e2]
  cases x.s <;> simp <;> grind
theorem leave_complete (Y : Nat → Rat) {l : List Ln} {i : Nat} (hi : i ≤ 5) (he : (leaveL l i).2 = 0) (h : metAll Y (leaveL l i).1) : ∃ t, metAll (insX Y i t) l := by
  rw [met_leave _ he] at h
  obtain ⟨h0, h1⟩ := h
  obtain ⟨t, hl, hu⟩ := helly ((l.filter fun x => decide (ci x i < 0)).map (bndL Y i)) ((l.filter fun x => decide (0 < ci x i)).map (bndL Y i)) (fun p hp q hq => by
    obtain ⟨y, hy, rfl⟩ := List.mem_map.1 hp
    obtain ⟨x, hx, rfl⟩ := List.mem_map.1 hq
    obtain ⟨hy1, hy2⟩ := List.mem_filter.1 hy
    obtain ⟨hx1, hx2⟩ := List.mem_filter.1 hx
    have hcx : 0 < ci x i := by simpa using hx2
    have hcy : ci y i < 0 := by simpa using hy2
    have hm := h1 x y hx1 hy1 hcx hcy
    rw [met_sum Y hi hcx hcy] at hm
    obtain ⟨ha, hb, _, hg, e1, e2⟩ := gd_facts hcx hcy
    have bx := bnd_mul Y i x (by omega)
    have byy := bnd_mul Y i y (by omega)
    have sx : (bndL Y i x).2 = x.s := rfl
    have sy : (bndL Y i y).2 = y.s := rfl
    have hg' : (0 : Rat) < ((gdL i (x, y) : Int) : Rat) := by exact_mod_cast hg
    have ha' : (0 : Rat) < (saL i (x, y) : Rat) := by exact_mod_cast ha
    have hcx' : (0 : Rat) < (ci x i : Rat) := by exact_mod_cast hcx
    have e1' : (saL i (x, y) : Rat) * ((gdL i (x, y) : Int) : Rat) = -(ci y i : Rat) := by
      rw [← Rat.intCast_mul, e1, Rat.intCast_neg]
    have e2' : (sbL i (x, y) : Rat) * ((gdL i (x, y) : Int) : Rat) = (ci x i : Rat) := by
      rw [← Rat.intCast_mul, e2]
    unfold okPr
    rw [sx, sy]
    generalize (bndL Y i x).1 = u at *
    generalize (bndL Y i y).1 = w at *
    generalize (saL i (x, y) : Rat) = a at *
    generalize (sbL i (x, y) : Rat) = b at *
    generalize (gdL i (x, y) : Int) = G0 at *
    generalize ((G0 : Int) : Rat) = G at *
    generalize (ci x i : Rat) = cx at *
    generalize (ci y i : Rat) = cy at *
    generalize vl Y (shortL x i) = vx at *
    generalize vl Y (shortL y i) = vy at *
    generalize (x.b : Rat) = xb at *
    generalize (y.b : Rat) = yb at *
    have hD : 0 < a * cx := (rat_pos_mul ha').2 hcx'
    have key : a * xb + b * yb - (a * vx + b * vy) = (a * cx) * (u - w) := by
      have k1 : a * xb - a * vx = a * (u * cx) := by grind
      have k2 : b * yb - b * vy = b * (w * cy) := by grind
      have k3 : b * cy = -(a * cx) := by
        have : (b * cy) * G = (-(a * cx)) * G := by grind
        exact rat_cancel hg' this
      grind
    rcases hm with hm | ⟨⟨q1, q2⟩, hm⟩
    · left
      have : 0 < (a * cx) * (u - w) := by grind
      have := (rat_pos_mul hD).1 this
      grind
    · right
      have : (a * cx) * (u - w) = 0 := by grind
      have := (rat_zero_mul hD).1 this
      exact ⟨by grind, q2, q1⟩)
  refine ⟨t, fun x hx => ?_⟩
  rcases Int.lt_trichotomy (ci x i) 0 with hc | hc | hc
  · exact (met_lo Y hi hc t).2 (hl _ (List.mem_map.2 ⟨x, List.mem_filter.2 ⟨hx, by simpa using hc⟩, rfl⟩))
  · have := (met_short0 x hi hc (insX Y i t)).1
    rw [del_ins] at this
    exact this (h0 x hx hc)
  · exact (met_up Y hi hc t).2 (hu _ (List.mem_map.2 ⟨x, List.mem_filter.2 ⟨hx, by simpa using hc⟩, rfl⟩))
/-- no coefficient from coordinate n on -/
def zb1 (n : Nat) (x : Ln) : Prop := ∀ k, n ≤ k → ci x k = 0
def zb (n : Nat) (l : List Ln) : Prop := ∀ x, x ∈ l → zb1 n x
theorem ci_big (x : Ln) {k : Nat} (h : 6 ≤ k) : ci x k = 0 := by
  unfold ci
  rw [List.getD_eq_getElem?_getD, List.getElem?_eq_none (by simpa [Ln.a] using h)]; rfl
theorem vl_sum (X : Nat → Rat) (x : Ln) : vl X x = (ci x 0 : Rat) * X 0 + (ci x 1 : Rat) * X 1 + (ci x 2 : Rat) * X 2 + (ci x 3 : Rat) * X 3 + (ci x 4 : Rat) * X 4 + (ci x 5 : Rat) * X 5 := rfl
theorem vl_agree {n : Nat} {X Y : Nat → Rat} {x : Ln} (hz : zb1 n x) (h : ∀ k, k < n → X k = Y k) : vl X x = vl Y x := by
  have key : ∀ k, (ci x k : Rat) * X k = (ci x k : Rat) * Y k := fun k => by
    rcases Nat.lt_or_ge k n with q | q
    · rw [h k q]
    · rw [hz k q]
      have : (((0 : Int) : Rat)) = 0 := rfl
      rw [this, Rat.zero_mul, Rat.zero_mul]
  rw [vl_sum, vl_sum, key 0, key 1, key 2, key 3, key 4, key 5]
theorem met_agree {n : Nat} {X Y : Nat → Rat} {x : Ln} (hz : zb1 n x) (h : ∀ k, k < n → X k = Y k) : met X x ↔ met Y x := by
  unfold met; rw [vl_agree hz h]
theorem metAll_agree {n : Nat} {X Y : Nat → Rat} {l : List Ln} (hz : zb n l) (h : ∀ k, k < n → X k = Y k) : metAll X l ↔ metAll Y l :=
  ⟨fun q x hx => (met_agree (hz x hx) h).1 (q x hx), fun q x hx => (met_agree (hz x hx) h).2 (q x hx)⟩
theorem ci_low (x : Ln) (k : Nat) (h : ci x k = 0) : ci (lowL x) k = 0 := by
  unfold lowL
  split
  · rcases Nat.lt_or_ge k 6 with q | q
    · have : k = 0 ∨ k = 1 ∨ k = 2 ∨ k = 3 ∨ k = 4 ∨ k = 5 := by omega
      rcases this with rfl | rfl | rfl | rfl | rfl | rfl <;>
        (simp only [ci, Ln.a, dk, List.getD_cons_zero, List.getD_cons_succ, Nat.reduceLT, if_true] at h ⊢; rw [h]; exact Int.zero_tdiv _)
    · exact ci_big _ q
  · exact h
theorem zb_low {n : Nat} {x : Ln} (h : zb1 n x) : zb1 n (lowL x) := fun k hk => ci_low x k (h k hk)
theorem zb_false (n : Nat) : zb1 n falseLn := fun k _ => by
  rcases Nat.lt_or_ge k 6 with q | q
  · have : k = 0 ∨ k = 1 ∨ k = 2 ∨ k = 3 ∨ k = 4 ∨ k = 5 := by omega
    rcases this with rfl | rfl | rfl | rfl | rfl | rfl <;> rfl
  · exact ci_big _ q
theorem col_mem : ∀ (l out c : List Ln), colL out l = some c → ∀ z, z ∈ c → z ∈ out ∨ (z.a ≠ [0, 0, 0, 0, 0, 0] ∧ ∃ x, x ∈ l ∧ z = lowL x)
  | [], out, c, h, z, hz => by
    simp only [colL, Option.some.injEq] at h
    subst h; exact .inl hz
  | x :: t, out, c, h, z, hz => by
    unfold colL at h
    split at h
    · rename_i hne
      rcases col_mem t _ c h z hz with q | ⟨q, y, hy, e⟩
      · rcases List.mem_append.1 q with q | q
        · exact .inl q
        · obtain rfl : z = lowL x := by simpa using q
          exact .inr ⟨hne, x, List.mem_cons_self .., rfl⟩
      · exact .inr ⟨q, y, List.mem_cons_of_mem _ hy, e⟩
    · split at h
      · cases h
      · rcases col_mem t _ c h z hz with q | ⟨q, y, hy, e⟩
        · exact .inl q
        · exact .inr ⟨q, y, List.mem_cons_of_mem _ hy, e⟩
/-- a line of a tidy list -/
theorem tidy_elem {l : List Ln} {z : Ln} (h : z ∈ tidyL l) : z = falseLn ∨ (z.a ≠ [0, 0, 0, 0, 0, 0] ∧ ∃ x, x ∈ l ∧ z = lowL x) := by
  unfold tidyL at h
  cases e : colL [] l with
  | none => rw [e] at h; exact .inl (by simpa using h)
  | some c =>
    rw [e] at h
    rcases col_mem l [] c e z ((tdy_all c).sub z h) with q | q
    · simp at q
    · exact .inr q
theorem zb_tidy {n : Nat} {l : List Ln} (h : zb n l) : zb n (tidyL l) := fun z hz => by
  rcases tidy_elem hz with rfl | ⟨_, x, hx, rfl⟩
  · exact zb_false n
  · exact zb_low (h x hx)
theorem ci_short (x : Ln) (i k : Nat) (hi : i ≤ 5) : ci (shortL x i) k = if k < i then ci x k else ci x (k + 1) := by
  rcases Nat.lt_or_ge k 6 with q | q
  · have hi6 : i = 0 ∨ i = 1 ∨ i = 2 ∨ i = 3 ∨ i = 4 ∨ i = 5 := by omega
    have hk6 : k = 0 ∨ k = 1 ∨ k = 2 ∨ k = 3 ∨ k = 4 ∨ k = 5 := by omega
    rcases hi6 with rfl | rfl | rfl | rfl | rfl | rfl <;> rcases hk6 with rfl | rfl | rfl | rfl | rfl | rfl <;> rfl
  · rw [ci_big _ q, if_neg (by omega), ci_big _ (by omega)]
theorem zb_short {n i : Nat} {x : Ln} (hi : i ≤ 5) (hin : i < n) (h : zb1 n x) : zb1 (n - 1) (shortL x i) := fun k hk => by
  rw [ci_short x i k hi, if_neg (by omega)]
  exact h (k + 1) (by omega)
theorem ci_mul0 (a b : Int) (x y : Ln) (k : Nat) (hx : ci x k = 0) (hy : ci y k = 0) : ci (mulL a x b y 6) k = 0 := by
  rcases Nat.lt_or_ge k 6 with q | q
  · rw [ci_mul a b x y k (by omega), hx, hy]; simp
  · exact ci_big _ q
theorem zb_leave {n i : Nat} {l : List Ln} (hi : i ≤ 5) (hin : i < n) (h : zb n l) : zb (n - 1) (leaveL l i).1 := by
  by_cases he : (leaveL l i).2 = 0
  · rw [leave_mem he]
    refine zb_tidy fun z hz => ?_
    rcases List.mem_append.1 hz with hz | hz
    · obtain ⟨x, hx, rfl⟩ := List.mem_map.1 hz
      exact zb_short hi hin (h x (List.mem_filter.1 hx).1)
    · obtain ⟨⟨x, y⟩, hp, rfl⟩ := List.mem_map.1 hz
      obtain ⟨p1, p2, _, _⟩ := pl_mem hp
      exact zb_low (zb_short hi hin fun k hk => ci_mul0 _ _ _ _ k (h x p1 k hk) (h y p2 k hk))
  · have : (leaveL l i).1 = [] := by
      unfold leaveL at *
      simp only at *
      split
      · rfl
      · split
        · rename_i h1 h2; rw [if_neg h1, if_pos h2] at he; exact absurd rfl he
        · rfl
    rw [this]
    intro x hx; simp at hx
theorem down_zb (k : Nat) : ∀ (m : Nat) {l : List Ln}, k + m ≤ 6 → zb (k + m) l → zb k (downL k m l).1
  | 0, _, _, h => h
  | m + 1, l, hm, h => by
    have h2 := zb_leave (i := k + m) (by omega) (by omega) h
    unfold downL
    split
    · exact down_zb k m (by omega) h2
    · rename_i he
      have : (leaveL l (k + m)).1 = [] := by
        unfold leaveL at *
        simp only at *
        split
        · rfl
        · split
          · rename_i h1 h2; rw [if_neg h1, if_pos h2] at he; exact absurd rfl he
          · rfl
      rw [this]
      intro x hx; simp at hx
theorem down_sound (X : Nat → Rat) (k : Nat) : ∀ (m : Nat) {l : List Ln}, k + m ≤ 6 → zb (k + m) l → (downL k m l).2 = 0 → metAll X l → metAll X (downL k m l).1
  | 0, _, _, _, _, h => h
  | m + 1, l, hm, hz, he, h => by
    unfold downL at he ⊢
    split at he
    · rename_i h0
      rw [if_pos h0]
      have h2 := zb_leave (i := k + m) (by omega) (by omega) hz
      refine down_sound X k m (by omega) h2 he ?_
      refine (metAll_agree h2 (fun j hj => ?_)).1 (leave_sound X (by omega) h0 h)
      unfold delX; rw [if_pos (by omega)]
    · rename_i h0; exact absurd he h0
theorem down_complete (k : Nat) : ∀ (m : Nat) {l : List Ln} (X : Nat → Rat), k + m ≤ 6 → zb (k + m) l → (downL k m l).2 = 0 → metAll X (downL k m l).1 → ∃ X' : Nat → Rat, (∀ j, j < k → X' j = X j) ∧ metAll X' l
  | 0, _, X, _, _, _, h => ⟨X, fun _ _ => rfl, h⟩
  | m + 1, l, X, hm, hz, he, h => by
    unfold downL at he h
    split at he
    · rename_i h0
      rw [if_pos h0] at h
      have h2 := zb_leave (i := k + m) (by omega) (by omega) hz
      obtain ⟨Y, hY, hm2⟩ := down_complete k m X (by omega) h2 he h
      obtain ⟨t, ht⟩ := leave_complete Y (i := k + m) (by omega) h0 hm2
      refine ⟨_, fun j hj => ?_, ht⟩
      unfold insX
      rw [if_pos (by omega)]; exact hY j hj
    · rename_i h0; exact absurd he h0
theorem a_zero {x : Ln} (h : zb1 0 x) : x.a = [0, 0, 0, 0, 0, 0] := by
  have h0 := h 0 (Nat.zero_le _)
  have h1 := h 1 (Nat.zero_le _)
  have h2 := h 2 (Nat.zero_le _)
  have h3 := h 3 (Nat.zero_le _)
  have h4 := h 4 (Nat.zero_le _)
  have h5 := h 5 (Nat.zero_le _)
  simp only [ci, Ln.a, List.getD_cons_zero, List.getD_cons_succ] at *
  rw [h0, h1, h2, h3, h4, h5]
/-- the last list is a tidy one -/
theorem down_elem (k : Nat) : ∀ (m : Nat) {l : List Ln}, (∀ z, z ∈ l → z = falseLn ∨ z.a ≠ [0, 0, 0, 0, 0, 0]) → ∀ z, z ∈ (downL k m l).1 → z = falseLn ∨ z.a ≠ [0, 0, 0, 0, 0, 0]
  | 0, _, h => h
  | m + 1, l, h => by
    have hl : ∀ z, z ∈ (leaveL l (k + m)).1 → z = falseLn ∨ z.a ≠ [0, 0, 0, 0, 0, 0] := by
      intro z hz
      by_cases he : (leaveL l (k + m)).2 = 0
      · rw [leave_mem he] at hz
        exact (tidy_elem hz).imp_right And.left
      · have : (leaveL l (k + m)).1 = [] := by
          unfold leaveL at *
          simp only at *
          split
          · rfl
          · split
            · rename_i h1 h2; rw [if_neg h1, if_pos h2] at he; exact absurd rfl he
            · rfl
        rw [this] at hz; simp at hz
    unfold downL
    split
    · exact down_elem k m hl
    · exact hl
/-- the elimination tells whether there is a point -/
theorem empty_iff {n : Nat} {l : List Ln} (hn : n ≤ 6) (hz : zb n l) (he : (downL 0 n (tidyL l)).2 = 0) : 0 < (downL 0 n (tidyL l)).1.length ↔ ¬ ∃ X, metAll X l := by
  have hz2 : zb (0 + n) (tidyL l) := by rw [Nat.zero_add]; exact zb_tidy hz
  have hel := down_elem 0 n (l := tidyL l) (fun z hz => (tidy_elem hz).imp_right And.left)
  have hzb := down_zb 0 n (by omega) hz2
  constructor
  · rintro h ⟨X, hX⟩
    have h1 := down_sound X 0 n (by omega) hz2 he ((met_tidy X l).2 hX)
    obtain ⟨z, hz⟩ : ∃ z, z ∈ (downL 0 n (tidyL l)).1 := ⟨_, List.getElem_mem h⟩
    rcases hel z hz with rfl | q
    · exact met_false X (h1 _ hz)
    · exact q (a_zero (hzb z hz))
  · intro h
    rcases Nat.eq_zero_or_pos (downL 0 n (tidyL l)).1.length with q | q
    · exfalso
      have e : (downL 0 n (tidyL l)).1 = [] := List.eq_nil_of_length_eq_zero q
      obtain ⟨X, _, hX⟩ := down_complete 0 n (fun _ => 0) (by omega) hz2 he (by rw [e]; intro x hx; simp at hx)
      exact h ⟨X, (met_tidy X l).1 hX⟩
    · exact q
end Go.Proofs.Ytalphoebmefgoaa
