import Derived.Test.YthidbmeocifkcaaZPbase
namespace Go.Proofs.Ythidbmeocifkcaa
open Go.RowKit
def withinB (i m : Int) : Bool := decide (0 ≤ i) && decide (i < m)
def holdsC (c : PC) (v : Int) : Bool := if c.low then (if c.str then decide (c.c < v) else decide (c.c ≤ v)) else (if c.str then decide (v < c.c) else decide (v ≤ c.c))
def allC (k v : Int) : List PC → Bool
  | [] => true
  | c :: cs => if c.clk == k && !holdsC c v then false else allC k v cs
/-- is there a value of clock c, from v on, n of them looked at? -/
def someV (a b : List PC) (c : Int) : Int → Nat → Bool → Bool
  | _, 0, s => s
  | v, n + 1, s => someV a b c (v + 1) n (s || (allC c v a && allC c v b))
def togF (a b : List PC) : Int → Nat → Bool
  | _, 0 => true
  | c, n + 1 => if someV a b c 0 32 false then togF a b (c + 1) n else false
def togR (clks : Int) (a b : List PC) : Bool := togF a b 1 clks.toNat
def pcBad (clks : Int) (c : PC) : Bool := decide (c.clk < 1) || decide (clks < c.clk) || decide (c.c < 0) || decide (30 < c.c)
def rstBad (clks : Int) (c : Int) : Bool := decide (c < 1) || decide (clks < c)
def anyP {α : Type} (f : α → Bool) : List α → Bool
  | [] => false
  | x :: xs => if f x then true else anyP f xs
def edgeHead (p : PP) (x : PE) : Bool := decide (x.frm < 0) || decide ((p.good.length : Int) ≤ x.frm) || decide (x.to < 0) || decide ((p.good.length : Int) ≤ x.to) || decide (x.ev < 0) || decide (p.evs ≤ x.ev) || decide (3 < x.rst.length) || decide (16 < x.grd.length)
def edgeBad (p : PP) (x : PE) : Bool := if edgeHead p x then true else if anyP (pcBad p.clks) x.grd then true else anyP (rstBad p.clks) x.rst
def headBad (p : PP) : Bool := decide (p.evs < 1) || decide (8 < p.evs) || decide (p.clks < 0) || decide (3 < p.clks) || decide (p.good.length < 1) || decide (12 < p.good.length) || decide (p.ini < 0) || decide ((p.good.length : Int) ≤ p.ini) || decide (60 < p.edges.length)
def confl (tg : List PC → List PC → Bool) (x : PE) : List PE → Bool
  | [] => false
  | y :: ys => if (x.frm == y.frm && x.ev == y.ev) && tg x.grd y.grd then true else confl tg x ys
def noConf (tg : List PC → List PC → Bool) : List PE → List PE → Bool
  | _, [] => true
  | pre, x :: xs => if confl tg x pre then false else noConf tg (pre ++ [x]) xs
def rpchk (p : PP) : Int := if headBad p then 2 else if anyP (edgeBad p) p.edges then 2 else if noConf (togR p.clks) [] p.edges then 0 else 2
-- the program's way
def spanU (s : Int × Int) (c : PC) : Int × Int := if c.low then (if s.1 < c.c + (if c.str then 1 else 0) then c.c + (if c.str then 1 else 0) else s.1, s.2) else (s.1, if c.c - (if c.str then 1 else 0) < s.2 then c.c - (if c.str then 1 else 0) else s.2)
def spansU (l : List (Int × Int)) (c : PC) : List (Int × Int) := l.set (c.clk - 1).toNat (spanU (l.getD (c.clk - 1).toNat (0, 0)) c)
def spansM (clks : Int) (g : List PC) : List (Int × Int) := g.foldl spansU (List.replicate clks.toNat (0, 31))
/-- the span of one clock -/
def spanK (k : Int) (g : List PC) : Int × Int := g.foldl (fun s c => if c.clk = k then spanU s c else s) (0, 31)
def meetB (x y : Int × Int) : Bool := decide ((if y.2 < x.2 then y.2 else x.2) < (if x.1 < y.1 then y.1 else x.1))
def togS : List (Int × Int) → List (Int × Int) → Bool
  | x :: xs, y :: ys => if meetB x y then false else togS xs ys
  | _, _ => true
def togP (clks : Int) (a b : List PC) : Bool := togS (spansM clks a) (spansM clks b)
def ppE (p : PP) : List PE → List PE → Int
  | _, [] => 0
  | pre, x :: xs => if edgeBad p x then 2 else if confl (togP p.clks) x pre then 2 else ppE p (pre ++ [x]) xs
def ppchk (p : PP) : Int := if headBad p then 2 else ppE p [] p.edges
-- plain laws
theorem spansU_len (l : List (Int × Int)) (c : PC) : (spansU l c).length = l.length := by simp [spansU]
theorem spansF_len : ∀ (g : List PC) (l : List (Int × Int)), (g.foldl spansU l).length = l.length
  | [], _ => rfl
  | c :: g, l => by rw [List.foldl_cons, spansF_len g, spansU_len]
theorem spansM_len (clks : Int) (g : List PC) : (spansM clks g).length = clks.toNat := by rw [spansM, spansF_len]; simp
theorem pcBad_false {clks : Int} {c : PC} : pcBad clks c = false ↔ (1 ≤ c.clk ∧ c.clk ≤ clks ∧ 0 ≤ c.c ∧ c.c ≤ 30) := by
  simp only [pcBad, Bool.or_eq_false_iff, decide_eq_false_iff_not]; omega
theorem spansF_at (clks : Int) : ∀ (g : List PC) (l : List (Int × Int)) (i : Nat), (∀ c ∈ g, pcBad clks c = false) → l.length = clks.toNat → i < l.length →
    (g.foldl spansU l).getD i (0, 0) = g.foldl (fun s c => if c.clk = (i : Int) + 1 then spanU s c else s) (l.getD i (0, 0))
  | [], _, _, _, _, _ => rfl
  | c :: g, l, i, hg, hl, hi => by
    have hc := pcBad_false.mp (hg c (by simp))
    rw [List.foldl_cons, List.foldl_cons, spansF_at clks g _ i (fun x hx => hg x (by simp [hx])) (by rw [spansU_len]; exact hl) (by rw [spansU_len]; exact hi)]
    congr 1
    unfold spansU
    simp only [List.getD, List.getElem?_set]
    by_cases h : c.clk = (i : Int) + 1
    · have e : (c.clk - 1).toNat = i := by omega
      rw [if_pos h, e, if_pos rfl]
      simp [hi]
    · have e : ¬ (c.clk - 1).toNat = i := by omega
      rw [if_neg h, if_neg e]
theorem spansM_at {clks : Int} {g : List PC} (hg : ∀ c ∈ g, pcBad clks c = false) {i : Nat} (hi : (i : Int) < clks) : (spansM clks g).getD i (0, 0) = spanK ((i : Int) + 1) g := by
  unfold spansM spanK
  rw [spansF_at clks g _ i hg (by simp) (by simp; omega)]
  congr 1
  have h : i < clks.toNat := by omega
  simp [List.getD, List.getElem?_replicate, h]
/-- a value between 0 and 31 is in the span exactly if all constraints hold -/
theorem allC_spanF (k v : Int) : ∀ (g : List PC) (s : Int × Int), (s.1 ≤ v ∧ v ≤ s.2) →
    (allC k v g = true ↔ ((g.foldl (fun s c => if c.clk = k then spanU s c else s) s).1 ≤ v ∧ v ≤ (g.foldl (fun s c => if c.clk = k then spanU s c else s) s).2))
  | [], s, h => by simp [allC, h]
  | c :: g, s, h => by
    rw [List.foldl_cons]
    simp only [allC]
    obtain ⟨ck, cl, cs, cc⟩ := c
    by_cases hk : ck = k
    · rw [if_pos hk]
      have hk2 : (ck == k) = true := by simpa using hk
      rw [hk2]
      by_cases hh : holdsC ⟨ck, cl, cs, cc⟩ v = true
      · rw [hh, if_neg (by simp)]
        refine allC_spanF k v g _ ?_
        unfold holdsC at hh
        unfold spanU
        cases cl <;> cases cs <;> simp at hh ⊢ <;> (try refine ⟨?_, ?_⟩) <;> (try split) <;> omega
      · have hh : holdsC ⟨ck, cl, cs, cc⟩ v = false := by simpa using hh
        rw [hh, if_pos (by simp)]
        have mono : ∀ (g : List PC) (s : Int × Int), s.1 ≤ (g.foldl (fun s c => if c.clk = k then spanU s c else s) s).1 ∧ (g.foldl (fun s c => if c.clk = k then spanU s c else s) s).2 ≤ s.2 := by
          intro g
          induction g with
          | nil => intro s; exact ⟨Int.le_refl _, Int.le_refl _⟩
          | cons d g ih =>
            intro s
            rw [List.foldl_cons]
            have h1 := ih (if d.clk = k then spanU s d else s)
            have h2 : s.1 ≤ (if d.clk = k then spanU s d else s).1 ∧ (if d.clk = k then spanU s d else s).2 ≤ s.2 := by
              split
              · unfold spanU; cases d.low <;> simp <;> split <;> omega
              · omega
            omega
        have h3 := mono g (spanU s ⟨ck, cl, cs, cc⟩)
        have h4 : v < (spanU s ⟨ck, cl, cs, cc⟩).1 ∨ (spanU s ⟨ck, cl, cs, cc⟩).2 < v := by
          unfold holdsC at hh
          unfold spanU
          cases cl <;> cases cs <;> simp at hh ⊢ <;> first | (left; split <;> omega) | (right; split <;> omega)
        constructor
        · intro h; cases h
        · intro h; omega
    · rw [if_neg hk]
      have hk2 : (ck == k) = false := by simpa using hk
      rw [hk2, if_neg (by simp)]
      exact allC_spanF k v g s h
theorem allC_span {k v : Int} (g : List PC) (h0 : 0 ≤ v) (h1 : v ≤ 31) : allC k v g = (decide ((spanK k g).1 ≤ v) && decide (v ≤ (spanK k g).2)) := by
  have h : allC k v g = true ↔ ((spanK k g).1 ≤ v ∧ v ≤ (spanK k g).2) := allC_spanF k v g (0, 31) ⟨h0, h1⟩
  rw [Bool.eq_iff_iff, h, Bool.and_eq_true, decide_eq_true_eq, decide_eq_true_eq]
theorem spanF_bd (k : Int) : ∀ (g : List PC) (s : Int × Int), 0 ≤ s.1 → s.2 ≤ 31 → 0 ≤ (g.foldl (fun s c => if c.clk = k then spanU s c else s) s).1 ∧ (g.foldl (fun s c => if c.clk = k then spanU s c else s) s).2 ≤ 31
  | [], s, h1, h2 => ⟨h1, h2⟩
  | c :: g, s, h1, h2 => by
    rw [List.foldl_cons]
    refine spanF_bd k g _ ?_ ?_ <;> split
    · unfold spanU; cases c.low <;> simp <;> (try split) <;> omega
    · exact h1
    · unfold spanU; cases c.low <;> simp <;> (try split) <;> omega
    · exact h2
theorem spanK_bd (k : Int) (g : List PC) : 0 ≤ (spanK k g).1 ∧ (spanK k g).2 ≤ 31 := spanF_bd k g _ (by simp) (by simp)
theorem someV_iff (a b : List PC) (c : Int) : ∀ (n : Nat) (v : Int) (s : Bool), someV a b c v n s = true ↔ (s = true ∨ ∃ u, v ≤ u ∧ u < v + n ∧ allC c u a = true ∧ allC c u b = true)
  | 0, v, s => by simp [someV]; omega
  | n + 1, v, s => by
    simp only [someV]
    rw [someV_iff a b c n]
    simp only [Bool.or_eq_true, Bool.and_eq_true]
    constructor
    · rintro ((h | ⟨h1, h2⟩) | ⟨u, h1, h2, h3⟩)
      · exact .inl h
      · exact .inr ⟨v, by omega, by omega, h1, h2⟩
      · exact .inr ⟨u, by omega, by omega, h3⟩
    · rintro (h | ⟨u, h1, h2, h3⟩)
      · exact .inl (.inl h)
      · by_cases e : u = v
        · subst e; exact .inl (.inr h3)
        · exact .inr ⟨u, by omega, by omega, h3⟩
theorem someV_meet (a b : List PC) (k : Int) : someV a b k 0 32 false = !meetB (spanK k a) (spanK k b) := by
  rw [Bool.eq_iff_iff, someV_iff]
  have ha := spanK_bd k a
  have hb := spanK_bd k b
  simp only [Bool.not_eq_true', meetB, decide_eq_false_iff_not, Bool.false_eq_true, false_or]
  constructor
  · rintro ⟨u, h1, h2, h3, h4⟩
    rw [allC_span a h1 (by omega)] at h3
    rw [allC_span b h1 (by omega)] at h4
    simp only [Bool.and_eq_true, decide_eq_true_eq] at h3 h4
    split <;> split <;> omega
  · intro h
    refine ⟨if (spanK k a).1 < (spanK k b).1 then (spanK k b).1 else (spanK k a).1, ?_, ?_, ?_, ?_⟩
    · split <;> omega
    · split at h <;> split at h <;> split <;> omega
    · rw [allC_span a (by split <;> omega) (by split at h <;> split at h <;> split <;> omega)]
      simp only [Bool.and_eq_true, decide_eq_true_eq]
      split at h <;> split at h <;> (constructor <;> split <;> omega)
    · rw [allC_span b (by split <;> omega) (by split at h <;> split at h <;> split <;> omega)]
      simp only [Bool.and_eq_true, decide_eq_true_eq]
      split at h <;> split at h <;> (constructor <;> split <;> omega)
theorem togS_iff : ∀ (xs ys : List (Int × Int)), xs.length = ys.length → (togS xs ys = true ↔ ∀ i, i < xs.length → meetB (xs.getD i (0, 0)) (ys.getD i (0, 0)) = false)
  | [], [], _ => by simp [togS]
  | x :: xs, y :: ys, h => by
    simp only [togS]
    have ih := togS_iff xs ys (by simpa using h)
    cases hm : meetB x y
    · rw [if_neg (by simp), ih]
      constructor
      · intro h2 i hi
        cases i with
        | zero => simpa using hm
        | succ i => simpa using h2 i (by simpa using hi)
      · intro h2 i hi
        simpa using h2 (i + 1) (by simpa using hi)
    · rw [if_pos rfl]
      constructor
      · intro h2; cases h2
      · intro h2
        have := h2 0 (by simp)
        simp [hm] at this
theorem togF_iff (a b : List PC) : ∀ (n : Nat) (c : Int), togF a b c n = true ↔ ∀ i : Nat, i < n → someV a b (c + i) 0 32 false = true
  | 0, c => by simp [togF]
  | n + 1, c => by
    simp only [togF]
    cases hs : someV a b c 0 32 false
    · rw [if_neg (by simp)]
      constructor
      · intro h; cases h
      · intro h
        have := h 0 (by omega)
        simp [hs] at this
    · rw [if_pos rfl, togF_iff a b n]
      constructor
      · intro h i hi
        cases i with
        | zero => simpa using hs
        | succ i => have := h i (by omega); rwa [show c + 1 + (i : Int) = c + ((i + 1 : Nat) : Int) by omega] at this
      · intro h i hi
        have := h (i + 1) (by omega)
        rwa [show c + ((i + 1 : Nat) : Int) = c + 1 + (i : Int) by omega] at this
theorem tog_eq {clks : Int} {a b : List PC} (ha : ∀ c ∈ a, pcBad clks c = false) (hb : ∀ c ∈ b, pcBad clks c = false) : togP clks a b = togR clks a b := by
  rw [Bool.eq_iff_iff]
  unfold togP togR
  rw [togS_iff _ _ (by rw [spansM_len, spansM_len]), togF_iff, spansM_len]
  constructor
  · intro h i hi
    have := h i hi
    rw [spansM_at ha (by omega), spansM_at hb (by omega)] at this
    rw [Int.add_comm 1, someV_meet, this]; rfl
  · intro h i hi
    have := h i hi
    rw [Int.add_comm 1, someV_meet] at this
    rw [spansM_at ha (by omega), spansM_at hb (by omega)]
    simpa using this
theorem anyP_iff {α : Type} (f : α → Bool) : ∀ l, anyP f l = false ↔ ∀ x ∈ l, f x = false
  | [] => by simp [anyP]
  | x :: xs => by
    simp only [anyP]
    cases h : f x
    · rw [if_neg (by simp), anyP_iff f xs]; simp [h]
    · simp [h]
theorem edgeBad_grd {p : PP} {x : PE} (h : edgeBad p x = false) : ∀ c ∈ x.grd, pcBad p.clks c = false := by
  unfold edgeBad at h
  split at h
  · cases h
  · split at h
    · cases h
    · rename_i h2; exact (anyP_iff _ _).mp (by simpa using h2)
theorem confl_eq {p : PP} {x : PE} (hx : edgeBad p x = false) : ∀ pre : List PE, (∀ y ∈ pre, edgeBad p y = false) → confl (togP p.clks) x pre = confl (togR p.clks) x pre
  | [], _ => rfl
  | y :: ys, h => by
    simp only [confl]
    rw [tog_eq (edgeBad_grd hx) (edgeBad_grd (h y (by simp))), confl_eq hx ys (fun z hz => h z (by simp [hz]))]
theorem anyP_t {α : Type} {f : α → Bool} {x : α} {xs : List α} (h : f x = true) : anyP f (x :: xs) = true := by simp only [anyP, h, if_true]
theorem anyP_f {α : Type} {f : α → Bool} {x : α} {xs : List α} (h : f x = false) : anyP f (x :: xs) = anyP f xs := by simp only [anyP, h]; rfl
theorem noConf_t {tg : List PC → List PC → Bool} {pre xs : List PE} {x : PE} (h : confl tg x pre = true) : noConf tg pre (x :: xs) = false := by simp only [noConf, h, if_true]
theorem noConf_f {tg : List PC → List PC → Bool} {pre xs : List PE} {x : PE} (h : confl tg x pre = false) : noConf tg pre (x :: xs) = noConf tg (pre ++ [x]) xs := by simp only [noConf, h]; rfl
theorem ppE_t {p : PP} {pre xs : List PE} {x : PE} (h : edgeBad p x = true) : ppE p pre (x :: xs) = 2 := by simp only [ppE, h, if_true]
theorem ppE_c {p : PP} {pre xs : List PE} {x : PE} (h : edgeBad p x = false) (h2 : confl (togP p.clks) x pre = true) : ppE p pre (x :: xs) = 2 := by simp only [ppE, h, h2, if_true]; rfl
theorem ppE_f {p : PP} {pre xs : List PE} {x : PE} (h : edgeBad p x = false) (h2 : confl (togP p.clks) x pre = false) : ppE p pre (x :: xs) = ppE p (pre ++ [x]) xs := by simp only [ppE, h, h2]; rfl
theorem ppE_eq (p : PP) : ∀ (l pre : List PE), (∀ y ∈ pre, edgeBad p y = false) → ppE p pre l = if anyP (edgeBad p) l then 2 else if noConf (togR p.clks) pre l then 0 else 2
  | [], pre, _ => by simp [ppE, anyP, noConf]
  | x :: xs, pre, h => by
    by_cases hx : edgeBad p x = true
    · rw [ppE_t hx, anyP_t hx, if_pos rfl]
    · have hx0 : edgeBad p x = false := by simpa using hx
      rw [anyP_f hx0]
      have hcc := confl_eq hx0 pre h
      by_cases hc : confl (togR p.clks) x pre = true
      · rw [ppE_c hx0 (hcc.trans hc), noConf_t hc]; simp
      · have hc0 : confl (togR p.clks) x pre = false := by simpa using hc
        rw [ppE_f hx0 (hcc.trans hc0), noConf_f hc0]
        refine ppE_eq p xs _ ?_
        intro y hy
        rcases List.mem_append.mp hy with hy | hy
        · exact h y hy
        · simp at hy; subst hy; exact hx0
theorem pchk_eq (p : PP) : ppchk p = rpchk p := by
  unfold ppchk rpchk
  rw [ppE_eq p p.edges [] (by simp)]
end Go.Proofs.Ythidbmeocifkcaa
