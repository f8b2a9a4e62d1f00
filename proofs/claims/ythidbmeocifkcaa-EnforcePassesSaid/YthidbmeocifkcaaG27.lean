import Derived.Test.YthidbmeocifkcaaG23
/- EnforceMeets, EnforcePasses: the plain laws of a search. -/
namespace Go.Proofs.Ythidbmeocifkcaa
open Go.RowKit
def ChainW : Int → List PS → Prop
  | _, [] => True
  | t, s :: ss => t ≤ s.at_ ∧ ChainW s.at_ ss
theorem run_pit {stp : Pt → Int → Int → Pt} (hp : ∀ x a e, x.loc < 0 → (stp x a e).loc < 0) : ∀ (ss : List PS) (x : Pt) (t : Int), x.loc < 0 → (runE stp x t ss).1.loc < 0
  | [], _, _, h => h
  | s :: ss, x, t, h => run_pit hp ss _ _ (hp x _ _ h)
/-- a word that is good as it stands is found as it stands -/
theorem found {stp : Pt → Int → Int → Pt} {gd : Pt → Bool} {M E : Int} (hM : 0 ≤ M) (hp : ∀ x a e, x.loc < 0 → (stp x a e).loc < 0) (hg : ∀ x, gd x = true → 0 ≤ x.loc) :
    ∀ (ss : List PS) (x : Pt) (last : Int), ChainW last ss → gd (runE stp x last ss).1 = true → searchM stp gd M E ss x last = some (ss.map PS.at_)
  | [], x, last, _, h => by
    simp only [searchM]
    have : gd x = true := h
    rw [if_pos this]; rfl
  | s :: ss, x, last, hc, h => by
    obtain ⟨h1, h2⟩ := hc
    have hx : ¬ x.loc < 0 := fun h0 => by
      have := run_pit hp (s :: ss) x last h0
      have := hg _ h
      omega
    have e : mx last s.at_ = s.at_ := by unfold mx; split <;> omega
    simp only [searchM]
    rw [if_neg hx, e]
    refine firstT_hit ?_ ?_
    · unfold spanT; have := mx_l s.at_ E; omega
    · rw [found hM hp hg ss _ _ h2 h]; rfl
theorem stepR_pit {p : PP} (x : Pt) (a e : Int) (h : x.loc < 0) : (stepR p x a e).loc < 0 := by
  unfold stepR step
  rw [if_pos h]; exact h
theorem goodM_loc {p : PP} (x : Pt) (h : goodM p x = true) : 0 ≤ x.loc := by
  unfold goodM at h
  simp only [Bool.and_eq_true, decide_eq_true_eq] at h
  exact h.1
theorem foundR {p : PP} (hv : PValid p p.clks.toNat) {w : List PS} (hc : ChainW 0 w) (h : goodW p w = true) : timesR p (start p) 0 w = some (w.map PS.at_) :=
  found (most_bd hv).1 (fun x a e => stepR_pit x a e) (fun x => goodM_loc x) w _ _ hc h
theorem made_self : ∀ (w : List PS), madeM w (w.map PS.at_) = w
  | [] => rfl
  | s :: w => by
    have := made_self w
    unfold madeM at this ⊢
    rw [List.map_cons, List.zipWith_cons_cons, this]
theorem chain_of {evs : Int} : ∀ (w : List PS) (t : Int), wordF evs t w = true → ChainW t w
  | [], _, _ => trivial
  | s :: w, t, h => by
    simp only [wordF] at h
    cases hb : stampBad evs t s with
    | true => rw [hb] at h; simp at h
    | false =>
      rw [hb] at h
      exact ⟨(stampBad_false.mp hb).1, chain_of w _ (by simpa using h)⟩
theorem chain_take : ∀ (w : List PS) (t : Int) (k : Nat), ChainW t w → ChainW t (w.take k)
  | [], _, k, _ => by simp [ChainW]
  | s :: w, t, 0, _ => by simp [ChainW]
  | s :: w, t, k + 1, h => ⟨h.1, chain_take w _ k h.2⟩
theorem rise_of {p : PP} {w : List PS} (h : rpword p w = 0) : RiseW w := fun i hi => by
  have := word_at w 0 (Int.le_refl _) (rpword_ok h).2.2 i hi
  exact ⟨this.1, by omega⟩
theorem rise_take {w : List PS} (h : RiseW w) (k : Nat) : RiseW (w.take k) := fun i hi => by
  have hi2 : i < w.length ∧ i < k := by simp at hi; omega
  have h1 := h i hi2.1
  have e : ∀ j, j < k → psAt (w.take k) j = psAt w j := fun j hj => by simp [psAt, List.getD, List.getElem?_take, hj]
  rw [e i hi2.2, e (i - 1) (by omega)]
  exact h1
theorem bestK_spec (tm : List PS → Option (List Int)) (w : List PS) : ∀ k, (∃ j l, j ≤ k ∧ tm (w.take j) = some l ∧ bestK tm w k = (madeM w l, 0) ∧ ∀ i, j < i → i ≤ k → tm (w.take i) = none) ∨ (bestK tm w k = ([], 4) ∧ ∀ i, i ≤ k → tm (w.take i) = none)
  | 0 => by
    simp only [bestK]
    cases h : tm [] with
    | some l => exact .inl ⟨0, l, Nat.le_refl _, h, rfl, fun i h1 h2 => by omega⟩
    | none => exact .inr ⟨rfl, fun i hi => by
      have e : i = 0 := (by omega)
      subst e
      rw [List.take_zero]; exact h⟩
  | k + 1 => by
    simp only [bestK]
    cases h : tm (w.take (k + 1)) with
    | some l => exact .inl ⟨k + 1, l, Nat.le_refl _, h, rfl, fun i h1 h2 => by omega⟩
    | none =>
      rcases bestK_spec tm w k with ⟨j, l, h1, h2, h3, h4⟩ | ⟨h1, h2⟩
      · refine .inl ⟨j, l, by omega, h2, h3, fun i h5 h6 => ?_⟩
        by_cases e : i = k + 1
        · subst e; exact h
        · exact h4 i h5 (by omega)
      · refine .inr ⟨h1, fun i hi => ?_⟩
        by_cases e : i = k + 1
        · subst e; exact h
        · exact h2 i (by omega)
/-- what Best returns of a word that is searched -/
structure MeetW (p : PP) (w u : List PS) : Prop where
  good : goodW p u = true
  rise : RiseW u
  del : DelW u w
  same : goodW p w = true → u = w
  less : ∀ k, u.length < k → k ≤ w.length → goodW p (w.take k) = false
theorem best_meets {p : PP} {w : List PS} (h : rpword p w = 0) :
    (bestP p w = ([], 3)) ∨ (bestP p w = ([], 4) ∧ goodW p [] = false ∧ goodW p w = false) ∨ ∃ u, bestP p w = (u, 0) ∧ MeetW p w u := by
  have hv := pvalid_of (rpword_ok h).1
  have hf := (rpword_ok h).2.2
  have hok := wordOk h
  obtain ⟨hM0, hM1, _⟩ := most_bd hv
  have hc := chain_of w 0 hf
  rw [best_eq]
  unfold bestR bestM
  rw [if_pos h]
  cases hl : longW w with
  | true => exact .inl rfl
  | false =>
    simp only [Bool.false_eq_true, if_false]
    have hnone : ∀ k, k ≤ w.length → timesR p (start p) 0 (w.take k) = none → goodW p (w.take k) = false := fun k hk hn => by
      cases hg : goodW p (w.take k) with
      | false => rfl
      | true => rw [foundR hv (chain_take w 0 k hc) hg] at hn; cases hn
    rcases bestK_spec (fun u => timesR p (start p) 0 u) w w.length with ⟨j, l, h1, h2, h3, h4⟩ | ⟨h1, h2⟩
    · right; right
      refine ⟨madeM w l, h3, ?_⟩
      have hjl : (w.take j).length = j := by simp; omega
      have hll : l.length = j := by
        have := search_len _ _ _ l h2
        rw [this, hjl]
      have hmk : madeM (w.take j) l = madeM w l := madeM_take (by omega)
      have hml : (madeM w l).length = j := by rw [← hmk, madeM_len2 (by rw [hll, hjl]), hjl]
      have hpe : ∀ i, i < j → psAt (w.take j) i = psAt w i := fun i hi => by simp [psAt, List.getD, List.getElem?_take, hi]
      have hE : ∀ s ∈ w.take j, s.at_ ≤ endW (w.take j) := fun s hs => by
        obtain ⟨i, hi, rfl⟩ := ps_at_mem hs
        rw [endW_at (by omega), hjl, hpe i (by omega), hpe (j - 1) (by omega)]
        have := word_mono hf (j - 1 - i) i (by omega)
        rw [show i + (j - 1 - i) = j - 1 by omega] at this
        exact this
      obtain ⟨g1, _, _, g4, g5, g6, g7⟩ := search_some hM0 _ _ _ l h2 hE
      rw [hmk] at g1
      have hat : ∀ i, i < j → psAt (madeM w l) i = ⟨l.getD i 0, (psAt w i).ev⟩ := fun i hi => by
        rw [← hmk, madeM_at (by rw [hll, hjl]) (by omega), hpe i hi]
      have hend : endW (w.take j) ≤ 1000000 := by
        by_cases h0 : 0 < j
        · rw [endW_at (by omega), hjl, hpe (j - 1) (by omega)]
          exact (hok.ok _ (ps_mem (by omega))).2.1
        · obtain rfl : j = 0 := by omega
          simp [endW]
      have hj200 : j ≤ 200 := by have := hok.len; omega
      have hup : ∀ i, i < j → l.getD i 0 ≤ 1000000000 := fun i hi => by
        have := g7 _ (int_mem (l := l) (k := i) (by omega))
        have hm : (mostM p + 1) * ((w.take j).length : Int) ≤ 31 * 200 := by
          rw [hjl]; exact Int.mul_le_mul (by omega) (by omega) (by omega) (by omega)
        have hx := mx_or 0 (endW (w.take j))
        rcases hx with e | e <;> rw [e] at this <;> omega
      refine ⟨g1, fun i hi => ?_, ⟨by omega, fun i hi => ?_⟩, fun hg => ?_, fun k hk1 hk2 => hnone k hk2 (h4 k (by omega) hk2)⟩
      · have hij : i < j := by omega
        rw [hat i hij, hat (i - 1) (by omega)]
        refine ⟨?_, hup i hij⟩
        cases i with
        | zero =>
          simp only [if_true]
          rcases g4 with e | e
          · rw [e] at hjl; simp at hjl; omega
          · exact e _ (int_mem (by omega))
        | succ i =>
          rw [if_neg (by omega)]
          exact g6 i (by omega)
      · have hij : i < j := by omega
        rw [hat i hij, hat (i - 1) (by omega)]
        refine ⟨rfl, ?_, fun h0 => ?_⟩
        · have := g5 i (by omega)
          rw [hpe i hij] at this
          exact this
        · have := g6 (i - 1) (by omega)
          rw [show i - 1 + 1 = i by omega] at this
          exact this
      · have hj : j = w.length := by
          rcases Nat.lt_or_ge j w.length with hlt | hge
          · exfalso
            have := hnone w.length (Nat.le_refl _) (h4 w.length hlt (Nat.le_refl _))
            rw [List.take_length, hg] at this
            cases this
          · omega
        have hf2 := foundR hv hc hg
        subst hj
        rw [List.take_length, hf2] at h2
        injection h2 with h2
        rw [← h2]; exact made_self w
    · right; left
      refine ⟨h1, ?_, ?_⟩
      · have := hnone 0 (Nat.zero_le _) (h2 0 (Nat.zero_le _))
        simpa using this
      · have := hnone w.length (Nat.le_refl _) (h2 _ (Nat.le_refl _))
        rwa [List.take_length] at this
end Go.Proofs.Ythidbmeocifkcaa
/- EnforcePasses: the plain law. -/
namespace Go.Proofs.Ythidbmeocifkcaa
open Go.RowKit
def endT : Int → List PS → Int
  | t, [] => t
  | _, s :: ss => endT s.at_ ss
theorem runE_end (stp : Pt → Int → Int → Pt) : ∀ (l : List PS) (x : Pt) (t : Int), (runE stp x t l).2 = endT t l
  | [], _, _ => rfl
  | s :: l, x, t => runE_end stp l _ _
theorem runE_app (stp : Pt → Int → Int → Pt) : ∀ (a b : List PS) (x : Pt) (t : Int), runE stp x t (a ++ b) = runE stp (runE stp x t a).1 (runE stp x t a).2 b
  | [], _, _, _ => rfl
  | s :: a, b, x, t => runE_app stp a b _ _
theorem endT_app : ∀ (a b : List PS) (t : Int), endT t (a ++ b) = endT (endT t a) b
  | [], _, _ => rfl
  | s :: a, b, t => endT_app a b _
theorem chain_app : ∀ (a b : List PS) (t : Int), ChainW t a → ChainW (endT t a) b → ChainW t (a ++ b)
  | [], _, _, _, h => h
  | s :: a, b, t, h, h2 => ⟨h.1, chain_app a b _ h.2 h2⟩
theorem chain_end : ∀ (a : List PS) (t : Int), ChainW t a → t ≤ endT t a ∧ ∀ s ∈ a, s.at_ ≤ endT t a
  | [], t, _ => ⟨Int.le_refl _, by simp⟩
  | s :: a, t, h => by
    obtain ⟨h1, h2⟩ := chain_end a s.at_ h.2
    have e : endT t (s :: a) = endT s.at_ a := rfl
    refine ⟨by have := h.1; omega, fun u hu => ?_⟩
    rcases List.mem_cons.mp hu with rfl | hu
    · rw [e]; exact h1
    · exact h2 u hu
theorem chain_rise : ∀ (a : List PS) (t : Int), ChainW t a → ∀ i, i < a.length → (if i = 0 then t else (psAt a (i - 1)).at_) ≤ (psAt a i).at_
  | [], _, _, i, h => by simp at h
  | s :: a, t, h, 0, _ => by simpa [psAt] using h.1
  | s :: a, t, h, i + 1, hi => by
    have := chain_rise a s.at_ h.2 i (by simpa using hi)
    rw [if_neg (by omega)]
    cases i with
    | zero => simpa [psAt] using this
    | succ i => simpa [psAt] using this
theorem rise_chain {u : List PS} (h : ChainW 0 u) (hb : ∀ s ∈ u, s.at_ ≤ 1000000000) : RiseW u := fun i hi => ⟨chain_rise u 0 h i hi, hb _ (ps_mem hi)⟩
/-- pointwise: the same events, not earlier -/
def DelL : List PS → List PS → Prop
  | [], _ => True
  | _ :: _, [] => False
  | a :: ar, w :: ws => a.ev = w.ev ∧ w.at_ ≤ a.at_ ∧ DelL ar ws
theorem delL_app : ∀ (a w b v : List PS), DelL a w → a.length = w.length → DelL b v → DelL (a ++ b) (w ++ v)
  | [], [], _, _, _, _, h => h
  | [], _ :: _, _, _, _, h, _ => by simp at h
  | _ :: _, [], _, _, h, _, _ => h.elim
  | a :: ar, w :: ws, b, v, h, hl, h2 => ⟨h.1, h.2.1, delL_app ar ws b v h.2.2 (by simpa using hl) h2⟩
theorem delL_more : ∀ (a w v : List PS), DelL a w → DelL a (w ++ v)
  | [], _, _, _ => trivial
  | _ :: _, [], _, h => h.elim
  | a :: ar, w :: ws, v, h => ⟨h.1, h.2.1, delL_more ar ws v h.2.2⟩
theorem delL_at : ∀ (a w : List PS), DelL a w → a.length ≤ w.length ∧ ∀ i, i < a.length → (psAt a i).ev = (psAt w i).ev ∧ (psAt w i).at_ ≤ (psAt a i).at_
  | [], _, _ => ⟨by simp, fun i h => by simp at h⟩
  | _ :: _, [], h => h.elim
  | a :: ar, w :: ws, h => by
    obtain ⟨h1, h2⟩ := delL_at ar ws h.2.2
    refine ⟨by simpa using h1, fun i hi => ?_⟩
    cases i with
    | zero => exact ⟨by simpa [psAt] using h.1, by simpa [psAt] using h.2.1⟩
    | succ i => simpa [psAt] using h2 i (by simpa using hi)
theorem delW_of {a w : List PS} (h : DelL a w) (hc : ChainW 0 a) : DelW a w := by
  obtain ⟨h1, h2⟩ := delL_at a w h
  refine ⟨h1, fun i hi => ⟨(h2 i hi).1, (h2 i hi).2, fun h0 => ?_⟩⟩
  have := chain_rise a 0 hc i hi
  rwa [if_neg (by omega)] at this
theorem delL_made : ∀ (evs : List Int) (l : List Int) (v : List PS) (t : Int), v.map PS.ev = evs → l.length = evs.length → (∀ x ∈ l, t ≤ x) → (∀ s ∈ v, s.at_ ≤ t) → DelL (madeM (heldW t evs) l) v
  | [], _, _, _, _, _, _, _ => by simp [heldW, madeM, DelL]
  | e :: evs, [], _, _, _, h, _, _ => by simp at h
  | e :: evs, x :: l, [], _, h, _, _, _ => by simp at h
  | e :: evs, x :: l, s :: v, t, h, hl, hx, hs => by
    simp at h
    refine ⟨h.1.symm, ?_, ?_⟩
    · have h1 := hx x (by simp)
      have h2 := hs s (by simp)
      show s.at_ ≤ x
      omega
    · exact delL_made evs l v t h.2 (by simpa using hl) (fun y hy => hx y (by simp [hy])) (fun u hu => hs u (by simp [hu]))
/-- what is found rises -/
theorem search_chain {stp : Pt → Int → Int → Pt} {gd : Pt → Bool} {M E : Int} : ∀ (ss : List PS) (x : Pt) (last : Int) (l : List Int), searchM stp gd M E ss x last = some l → ChainW last (madeM ss l) ∧ ∀ (t : Int), (∀ s ∈ ss, t ≤ s.at_) → ∀ y ∈ l, t ≤ y
  | [], x, last, l, h => by
    have := search_len [] _ _ l h
    obtain rfl : l = [] := List.length_eq_zero_iff.mp (by simpa using this)
    exact ⟨trivial, fun _ _ y hy => by simp at hy⟩
  | s :: ss, x, last, l, h => by
    obtain ⟨t, q, rfl, h0, h1, h2⟩ := search_head h
    obtain ⟨g1, g2⟩ := search_chain ss _ t q h2
    have a1 := mx_l last s.at_
    have a2 := mx_r last s.at_
    refine ⟨⟨by show last ≤ t; omega, g1⟩, fun u hu y hy => ?_⟩
    rcases List.mem_cons.mp hy with rfl | hy
    · have := hu s (by simp); omega
    · exact g2 u (fun v hv => hu v (by simp [hv])) y hy
structure PassI (p : PP) (w : List PS) (i : Nat) (s : EnS) : Prop where
  split : ∃ w1 w2, w.take i = w1 ++ w2 ∧ s.out.length = w1.length ∧ DelL s.out w1 ∧ w2.map PS.ev = s.held ∧ ∀ u ∈ w2, u.at_ ≤ s.last
  ch : ChainW 0 s.out
  rel : RelP (mostM p) p.clks.toNat s.x (runE (stepR p) (start p) 0 s.out).1
  t : s.t = endT 0 s.out
  good : s.out ≠ [] → goodW p s.out = true
  last : ∀ j, i ≤ j → j < w.length → s.last ≤ (psAt w j).at_
  pass : (∀ j, j < i → goodW p (w.take (j + 1)) = true) → s.out = w.take i
theorem pass_start {p : PP} (hv : PValid p p.clks.toNat) {w : List PS} (hw : rpword p w = 0) : PassI p w 0 (en0 p) where
  split := ⟨[], [], by simp, rfl, trivial, rfl, by simp⟩
  ch := trivial
  rel := start_rel hv
  t := rfl
  good := fun h => absurd rfl h
  last := fun j _ hj => by have := (wordOk hw).ok _ (ps_mem hj); simp [en0]; omega
  pass := fun _ => by simp [en0]
theorem goodW_snoc {p : PP} {u : List PS} {a : PS} : goodW p (u ++ [a]) = goodM p (stepR p (runE (stepR p) (start p) 0 u).1 (a.at_ - endT 0 u) a.ev) := by
  unfold goodW
  rw [runE_snoc, runE_end]
theorem pass_step {p : PP} (hv : PValid p p.clks.toNat) {w : List PS} (hw : rpword p w = 0) (hlen : w.length ≤ 7) {i : Nat} (hi : i < w.length) {s : EnS} (hok : EnOk p s) (hP : PassI p w i s) :
    evBad p s (psAt w i) = false ∧ evFull s = false ∧ (eventP p s (psAt w i)).2.2 = 0 ∧ PassI p w (i + 1) (eventP p s (psAt w i)).1 ∧ ((eventP p s (psAt w i)).2.1 ≠ [] → (eventP p s (psAt w i)).1.held = []) := by
  have hf := (rpword_ok hw).2.2
  have hwo := (wordOk hw).ok _ (ps_mem hi)
  have hev := wordF_ev w 0 hf _ (ps_mem hi)
  have hll := hP.last i (Nat.le_refl _) hi
  obtain ⟨w1, w2, e1, e2, e3, e4, e5⟩ := hP.split
  have hlw : w1.length + w2.length = i := by
    have := congrArg List.length e1
    simp at this
    omega
  have hhl : s.held.length = w2.length := by rw [← e4]; simp
  have hcame := hok.came
  have hbad : evBad p s (psAt w i) = false := by
    unfold evBad
    simp only [Bool.or_eq_false_iff, decide_eq_false_iff_not]
    omega
  have hful : evFull s = false := by
    unfold evFull
    simp only [Bool.or_eq_false_iff, decide_eq_false_iff_not]
    omega
  have hsnoc : w.take (i + 1) = w.take i ++ [psAt w i] := ps_take hi
  have hlast : ∀ j, i + 1 ≤ j → j < w.length → (psAt w i).at_ ≤ (psAt w j).at_ := fun j h1 h2 => by
    have := word_mono hf (j - i) i (by omega)
    rwa [show i + (j - i) = j by omega] at this
  refine ⟨hbad, hful, ?_⟩
  have hT := times_eq hv hP.rel s.t (heldW (psAt w i).at_ (s.held ++ [(psAt w i).ev]))
  -- if all beginnings are good, the stamp itself is found
  have hpass : (∀ j, j < i + 1 → goodW p (w.take (j + 1)) = true) → s.held = [] ∧ s.out = w.take i ∧ timesP p s.x s.t (heldW (psAt w i).at_ (s.held ++ [(psAt w i).ev])) = some [(psAt w i).at_] := fun hg => by
    have h1 := hP.pass (fun j hj => hg j (by omega))
    have h2 : s.held = [] := by
      have := congrArg List.length h1
      simp at this
      exact List.length_eq_zero_iff.mp (by omega)
    refine ⟨h2, h1, ?_⟩
    rw [hT, h2]
    have hg2 := hg i (by omega)
    rw [hsnoc, goodW_snoc, ← h1] at hg2
    have hch : s.t ≤ (psAt w i).at_ := by
      rw [hP.t, h1]
      have hc := chain_of w 0 hf
      have := chain_take w 0 (i + 1) hc
      rw [hsnoc] at this
      have key : ∀ (u : List PS) (t : Int) (a : PS), ChainW t (u ++ [a]) → endT t u ≤ a.at_ := by
        intro u
        induction u with
        | nil => intro t a h; exact h.1
        | cons b u ih => intro t a h; exact ih _ a h.2
      exact key _ _ _ this
    have := found (stp := stepR p) (gd := goodM p) (M := mostM p) (E := endW (heldW (psAt w i).at_ ([] ++ [(psAt w i).ev]))) (most_bd hv).1 (fun x a e => stepR_pit x a e) (fun x => goodM_loc x) [⟨(psAt w i).at_, (psAt w i).ev⟩] (runE (stepR p) (start p) 0 s.out).1 s.t ⟨hch, trivial⟩ (by
      show goodM p (stepR p _ _ _) = true
      rw [hP.t]; exact hg2)
    exact this
  unfold eventP eventM
  rw [hbad, hful]
  simp only [Bool.false_eq_true, if_false]
  cases htm : timesP p s.x s.t (heldW (psAt w i).at_ (s.held ++ [(psAt w i).ev])) with
  | none =>
    refine ⟨rfl, ⟨⟨w1, w2 ++ [psAt w i], by rw [hsnoc, e1, List.append_assoc], e2, e3, by rw [List.map_append, e4]; rfl, fun u hu => ?_⟩, hP.ch, hP.rel, hP.t, hP.good, hlast, fun hg => ?_⟩, fun h => absurd rfl h⟩
    · rcases List.mem_append.mp hu with hu | hu
      · have := e5 u hu
        show u.at_ ≤ (psAt w i).at_
        omega
      · simp at hu; rw [hu]; exact Int.le_refl _
    · exfalso
      have := (hpass hg).2.2
      rw [htm] at this
      cases this
  | some l =>
    have hl := search_len _ _ _ l htm
    have hll2 : l.length = (s.held ++ [(psAt w i).ev]).length := by rw [hl]; simp [heldW]
    obtain ⟨c1, c2⟩ := search_chain _ _ _ l htm
    have hT2 := hT
    rw [htm] at hT2
    obtain ⟨r1, r2⟩ := run_rel hv _ s.x (runE (stepR p) (start p) 0 s.out).1 s.t l hP.rel htm
    have hM := most_bd hv
    obtain ⟨g1, _⟩ := search_some hM.1 _ _ _ l hT2.symm (fun u hu => by rw [(heldW_mem hu).1, endW_held]; exact Int.le_refl _)
    have hrun : runE (stepR p) (start p) 0 (s.out ++ madeM (heldW (psAt w i).at_ (s.held ++ [(psAt w i).ev])) l) = runE (stepR p) (runE (stepR p) (start p) 0 s.out).1 s.t (madeM (heldW (psAt w i).at_ (s.held ++ [(psAt w i).ev])) l) := by
      rw [runE_app, runE_end, ← hP.t]
    refine ⟨rfl, ⟨⟨w1 ++ (w2 ++ [psAt w i]), [], by rw [hsnoc, e1]; simp, ?_, ?_, rfl, by simp⟩, ?_, ?_, ?_, fun _ => ?_, hlast, fun hg => ?_⟩, fun _ => rfl⟩
    · have : (madeM (heldW (psAt w i).at_ (s.held ++ [(psAt w i).ev])) l).length = s.held.length + 1 := by rw [madeM_len2 hl]; simp [heldW]
      simp only [List.length_append, List.length_cons, List.length_nil, this]
      omega
    · refine delL_app _ _ _ _ e3 e2 (delL_made _ l _ (psAt w i).at_ (by rw [List.map_append, e4]; rfl) hll2 (c2 _ (fun u hu => by rw [(heldW_mem hu).1]; exact Int.le_refl _)) (fun u hu => ?_))
      rcases List.mem_append.mp hu with hu | hu
      · have := e5 u hu; omega
      · simp at hu; rw [hu]; exact Int.le_refl _
    · exact chain_app _ _ _ hP.ch (by rw [← hP.t]; exact c1)
    · dsimp only
      rw [hrun]; exact r1
    · dsimp only
      rw [endT_app, ← hP.t, runE_end]
    · unfold goodW
      dsimp only
      rw [hrun]; exact g1
    · obtain ⟨p1, p2, p3⟩ := hpass hg
      rw [htm] at p3
      injection p3 with p3
      dsimp only
      rw [hsnoc, p1, p3, p2]
      rfl
end Go.Proofs.Ythidbmeocifkcaa
