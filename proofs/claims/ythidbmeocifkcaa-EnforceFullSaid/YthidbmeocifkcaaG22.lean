import Derived.Test.YthidbmeocifkcaaG26
import Derived.Test.YthidbmeocifkcaaG21
import Derived.Test.YthidbmeocifkcaaZTaket
import Derived.Test.YthidbmeocifkcaaZTakes
/- enforce: the model of an enforcer. -/
namespace Go.Proofs.Ythidbmeocifkcaa
open Go.RowKit
/-- an enforcer: the point and the time of the output's end, the last time, how many came, the events that are held, the output -/
structure EnS where
  x : Pt
  t : Int
  last : Int
  came : Nat
  held : List Int
  out : List PS
/-- the held events, all at one time -/
def heldW (a : Int) (held : List Int) : List PS := held.map (fun e => ⟨a, e⟩)
/-- the point and the time behind a word -/
def runE (stp : Pt → Int → Int → Pt) : Pt → Int → List PS → Pt × Int
  | x, t, [] => (x, t)
  | x, t, s :: ss => runE stp (stp x (s.at_ - t) s.ev) s.at_ ss
def evBad (p : PP) (s : EnS) (a : PS) : Bool := decide (a.ev < 0) || decide (p.evs ≤ a.ev) || decide (a.at_ < s.last) || decide (1000000 < a.at_)
def evFull (s : EnS) : Bool := decide (s.held.length = 40) || decide (s.came = 200)
def eventM (stp : Pt → Int → Int → Pt) (srch : Pt → Int → List PS → Option (List Int)) (p : PP) (s : EnS) (a : PS) : EnS × List PS × Int :=
  if evBad p s a then (s, [], 2)
  else if evFull s then (s, [], 5)
  else match srch s.x s.t (heldW a.at_ (s.held ++ [a.ev])) with
    | none => ({ s with last := a.at_, came := s.came + 1, held := s.held ++ [a.ev] }, [], 0)
    | some l => (⟨(runE stp s.x s.t (madeM (heldW a.at_ (s.held ++ [a.ev])) l)).1, (runE stp s.x s.t (madeM (heldW a.at_ (s.held ++ [a.ev])) l)).2, a.at_, s.came + 1, [], s.out ++ madeM (heldW a.at_ (s.held ++ [a.ev])) l⟩, madeM (heldW a.at_ (s.held ++ [a.ev])) l, 0)
def eventP (p : PP) : EnS → PS → EnS × List PS × Int := eventM (stepP p) (timesP p) p
def eventR (p : PP) : EnS → PS → EnS × List PS × Int := eventM (stepR p) (timesR p) p
def en0 (p : PP) : EnS := ⟨start p, 0, 0, 0, [], []⟩
/-- what holds of every enforcer -/
structure EnOk (p : PP) (s : EnS) : Prop where
  h40 : s.held.length ≤ 40
  came : s.came = s.out.length + s.held.length
  c200 : s.came ≤ 200
  last : 0 ≤ s.last ∧ s.last ≤ 1000000
  t : 0 ≤ s.t ∧ s.t ≤ 1000000 + 31 * s.out.length
  ev : ∀ e ∈ s.held, 0 ≤ e ∧ e < p.evs
theorem heldW_len (a : Int) (h : List Int) : (heldW a h).length = h.length := by simp [heldW]
theorem heldW_mem {a : Int} {h : List Int} {s : PS} (hs : s ∈ heldW a h) : s.at_ = a ∧ s.ev ∈ h := by
  obtain ⟨e, he, rfl⟩ := List.mem_map.mp hs
  exact ⟨rfl, he⟩
/-- what a search finds -/
theorem search_some {stp : Pt → Int → Int → Pt} {gd : Pt → Bool} {M E : Int} (hM : 0 ≤ M) : ∀ (ss : List PS) (x : Pt) (last : Int) (l : List Int), searchM stp gd M E ss x last = some l → (∀ s ∈ ss, s.at_ ≤ E) →
    gd (runE stp x last (madeM ss l)).1 = true ∧ last ≤ (runE stp x last (madeM ss l)).2 ∧ (runE stp x last (madeM ss l)).2 ≤ mx last E + (M + 1) * ss.length ∧ (ss = [] ∨ (∀ t ∈ l, last ≤ t)) ∧ (∀ k, k < ss.length → (psAt ss k).at_ ≤ l.getD k 0) ∧ (∀ k, k + 1 < ss.length → l.getD k 0 ≤ l.getD (k + 1) 0)
      ∧ (∀ t ∈ l, t ≤ mx last E + (M + 1) * ss.length)
  | [], x, last, l, h, _ => by
    simp only [searchM] at h
    split at h
    · next hg =>
      injection h with h
      subst h
      refine ⟨hg, Int.le_refl _, ?_, .inl rfl, fun k hk => by simp at hk, fun k hk => by simp at hk, fun t ht => by simp at ht⟩
      have := mx_l last E
      simp only [madeM, List.zipWith_nil_left, runE, List.length_nil]
      omega
    · cases h
  | s :: ss, x, last, l, h, hE => by
    simp only [searchM] at h
    split at h
    · cases h
    have hsE := hE s (by simp)
    have key : ∀ (k : Nat) (t0 : Int), mx last s.at_ ≤ t0 → t0 + k ≤ mx (mx last s.at_) E + M + 1 + 1 → firstT (fun t => (searchM stp gd M E ss (stp x (t - last) s.ev) t).map (t :: ·)) t0 k = some l →
        ∃ t q, l = t :: q ∧ mx last s.at_ ≤ t ∧ t ≤ mx (mx last s.at_) E + M + 1 ∧ searchM stp gd M E ss (stp x (t - last) s.ev) t = some q := by
      intro k
      induction k with
      | zero => intro t0 _ _ h; cases h
      | succ k ih =>
        intro t0 h1 h2 h
        simp only [firstT] at h
        split at h
        · next l' hl =>
          injection h with h; subst h
          cases hq : searchM stp gd M E ss (stp x (t0 - last) s.ev) t0 with
          | none => rw [hq] at hl; cases hl
          | some q =>
            rw [hq] at hl
            simp at hl
            exact ⟨t0, q, hl.symm, h1, by omega, hq⟩
        · exact ih (t0 + 1) (by omega) (by omega) h
    have hkE : mx last s.at_ + (spanT M E (mx last s.at_) : Nat) ≤ mx (mx last s.at_) E + M + 1 + 1 := by
      unfold spanT
      have := mx_l (mx last s.at_) E
      omega
    obtain ⟨t, q, rfl, h1, h2, hq⟩ := key _ _ (Int.le_refl _) hkE h
    obtain ⟨g1, g2, g3, g4, g5, g6, g7⟩ := search_some hM ss _ t q hq (fun s hs => hE s (by simp [hs]))
    have a1 := mx_l last s.at_
    have a2 := mx_r last s.at_
    have hrun : runE stp x last (madeM (s :: ss) (t :: q)) = runE stp (stp x (t - last) s.ev) t (madeM ss q) := rfl
    have hmx : mx t E ≤ mx last E + (M + 1) := by
      have b1 := mx_or t E
      have b2 := mx_l last E
      have b3 := mx_r last E
      have b4 := mx_or (mx last s.at_) E
      have b5 := mx_or last s.at_
      rcases b1 with h | h <;> rcases b4 with h' | h' <;> rcases b5 with h'' | h'' <;> omega
    have hmul : mx t E + (M + 1) * (ss.length : Int) ≤ mx last E + (M + 1) * ((s :: ss).length : Int) := by
      simp only [List.length_cons]
      rw [show ((ss.length + 1 : Nat) : Int) = (ss.length : Int) + 1 by omega, Int.mul_add]
      omega
    have hql := search_len ss _ _ q hq
    rw [hrun]
    refine ⟨g1, by omega, by omega, .inr ?_, ?_, ?_, ?_⟩
    · intro u hu
      rcases List.mem_cons.mp hu with rfl | hu
      · omega
      · rcases g4 with h0 | h0
        · subst h0; simp at hql; subst hql; simp at hu
        · have := h0 u hu; omega
    · intro k hk
      cases k with
      | zero => simp [psAt]; omega
      | succ k =>
        have := g5 k (by simpa using hk)
        simpa [psAt] using this
    · intro k hk
      cases k with
      | zero =>
        have hl : 0 < ss.length := by simpa using hk
        rcases g4 with h0 | h0
        · subst h0; simp at hl
        · have hm : q.getD 0 0 ∈ q := by
            cases q with
            | nil => simp at hql; omega
            | cons a b => simp
          have := h0 _ hm
          simpa using this
      | succ k =>
        have := g6 k (by simpa using hk)
        simpa using this
    · intro u hu
      rcases List.mem_cons.mp hu with rfl | hu
      · have b1 := mx_l u E
        have hp : 0 ≤ (M + 1) * (ss.length : Int) := Int.mul_nonneg (by omega) (by omega)
        omega
      · have := g7 u hu; omega
end Go.Proofs.Ythidbmeocifkcaa
/- enforce: laws of the model of an enforcer. -/
namespace Go.Proofs.Ythidbmeocifkcaa
open Go.RowKit
theorem search_head {stp : Pt → Int → Int → Pt} {gd : Pt → Bool} {M E : Int} {s : PS} {ss : List PS} {x : Pt} {last : Int} {l : List Int} (h : searchM stp gd M E (s :: ss) x last = some l) :
    ∃ t q, l = t :: q ∧ 0 ≤ x.loc ∧ mx last s.at_ ≤ t ∧ searchM stp gd M E ss (stp x (t - last) s.ev) t = some q := by
  simp only [searchM] at h
  split at h
  · cases h
  · next hx =>
    have key : ∀ (k : Nat) (t0 : Int), mx last s.at_ ≤ t0 → firstT (fun t => (searchM stp gd M E ss (stp x (t - last) s.ev) t).map (t :: ·)) t0 k = some l →
        ∃ t q, l = t :: q ∧ mx last s.at_ ≤ t ∧ searchM stp gd M E ss (stp x (t - last) s.ev) t = some q := by
      intro k
      induction k with
      | zero => intro t0 _ h; cases h
      | succ k ih =>
        intro t0 h1 h
        simp only [firstT] at h
        split at h
        · next l' hl =>
          injection h with h; subst h
          cases hq : searchM stp gd M E ss (stp x (t0 - last) s.ev) t0 with
          | none => rw [hq] at hl; cases hl
          | some q =>
            rw [hq] at hl
            simp at hl
            exact ⟨t0, q, hl.symm, h1, hq⟩
        · exact ih (t0 + 1) (by omega) h
    obtain ⟨t, q, e, h1, h2⟩ := key _ _ (Int.le_refl _) h
    exact ⟨t, q, e, by omega, h1, h2⟩
/-- the run along what is found keeps what steps keep -/
theorem run_keep {stp : Pt → Int → Int → Pt} {gd : Pt → Bool} {M E : Int} (R : Pt → Prop) (hs : ∀ (x : Pt) (a ev : Int), R x → 0 ≤ x.loc → 0 ≤ a → R (stp x a ev)) : ∀ (ss : List PS) (x : Pt) (last : Int) (l : List Int), R x → searchM stp gd M E ss x last = some l → R (runE stp x last (madeM ss l)).1
  | [], x, last, l, hx, _ => by simpa [madeM, runE] using hx
  | s :: ss, x, last, l, hx, h => by
    obtain ⟨t, q, rfl, h0, h1, h2⟩ := search_head h
    have := mx_l last s.at_
    exact run_keep R hs ss _ t q (hs x (t - last) s.ev hx h0 (by omega)) h2
theorem run_rel {p : PP} (hv : PValid p p.clks.toNat) {M E : Int} : ∀ (ss : List PS) (px rx : Pt) (last : Int) (l : List Int), RelP (mostM p) p.clks.toNat px rx → searchM (stepP p) (goodM p) M E ss px last = some l →
    RelP (mostM p) p.clks.toNat (runE (stepP p) px last (madeM ss l)).1 (runE (stepR p) rx last (madeM ss l)).1 ∧ (runE (stepP p) px last (madeM ss l)).2 = (runE (stepR p) rx last (madeM ss l)).2
  | [], px, rx, last, l, hr, _ => ⟨by simpa [madeM, runE] using hr, rfl⟩
  | s :: ss, px, rx, last, l, hr, h => by
    obtain ⟨t, q, rfl, h0, h1, h2⟩ := search_head h
    have := mx_l last s.at_
    have := hr.loc
    exact run_rel hv ss _ _ t q (step_rel hv hr (a := t - last) (ev := s.ev) (by omega) (by omega)) h2
structure EnRel (p : PP) (sP sR : EnS) : Prop where
  x : RelP (mostM p) p.clks.toNat sP.x sR.x
  t : sP.t = sR.t
  last : sP.last = sR.last
  came : sP.came = sR.came
  held : sP.held = sR.held
  out : sP.out = sR.out
theorem event_rel {p : PP} (hv : PValid p p.clks.toNat) {sP sR : EnS} (h : EnRel p sP sR) (a : PS) : (eventP p sP a).2 = (eventR p sR a).2 ∧ EnRel p (eventP p sP a).1 (eventR p sR a).1 := by
  have hb : evBad p sP a = evBad p sR a := by unfold evBad; rw [h.last]
  have hf : evFull sP = evFull sR := by unfold evFull; rw [h.held, h.came]
  unfold eventP eventR eventM
  rw [hb, hf]
  cases evBad p sR a with
  | true => exact ⟨rfl, h⟩
  | false =>
    cases evFull sR with
    | true => exact ⟨rfl, h⟩
    | false =>
      simp only [Bool.false_eq_true, if_false]
      have ht := times_eq hv h.x sP.t (heldW a.at_ (sP.held ++ [a.ev]))
      rw [h.held, h.t] at ht
      rw [h.held, h.t, ht]
      cases hs : timesR p sR.x sR.t (heldW a.at_ (sR.held ++ [a.ev])) with
      | none => exact ⟨rfl, ⟨h.x, rfl, rfl, by simp [h.came], rfl, h.out⟩⟩
      | some l =>
        rw [hs] at ht
        obtain ⟨r1, r2⟩ := run_rel hv _ sP.x sR.x sR.t l h.x ht
        exact ⟨rfl, ⟨r1, r2, rfl, by simp [h.came], rfl, by simp [h.out]⟩⟩
theorem en0_rel {p : PP} (hv : PValid p p.clks.toNat) : EnRel p (en0 p) (en0 p) := ⟨start_rel hv, rfl, rfl, rfl, rfl, rfl⟩
theorem evBad_false {p : PP} {s : EnS} {a : PS} (h : evBad p s a = false) : 0 ≤ a.ev ∧ a.ev < p.evs ∧ s.last ≤ a.at_ ∧ a.at_ ≤ 1000000 := by
  simp only [evBad, Bool.or_eq_false_iff, decide_eq_false_iff_not] at h
  omega
theorem evFull_false {s : EnS} (h : evFull s = false) : s.held.length ≠ 40 ∧ s.came ≠ 200 := by
  simp only [evFull, Bool.or_eq_false_iff, decide_eq_false_iff_not] at h
  exact h
theorem endW_held {a : Int} {h : List Int} {e : Int} : endW (heldW a (h ++ [e])) = a := by
  rw [endW_at (by simp [heldW])]
  have : psAt (heldW a (h ++ [e])) ((heldW a (h ++ [e])).length - 1) ∈ heldW a (h ++ [e]) := ps_mem (by simp [heldW])
  exact (heldW_mem this).1
theorem en0_ok {p : PP} : EnOk p (en0 p) := ⟨by simp [en0], by simp [en0], by simp [en0], by simp [en0], by simp [en0], by simp [en0]⟩
theorem madeM_len2 {w : List PS} {l : List Int} (h : l.length = w.length) : (madeM w l).length = w.length := by simp [madeM, h]
theorem event_ok {stp : Pt → Int → Int → Pt} {p : PP} (hv : PValid p p.clks.toNat) {s : EnS} (h : EnOk p s) (a : PS) :
    EnOk p (eventM stp (fun x t w => searchM stp (goodM p) (mostM p) (endW w) w x t) p s a).1 := by
  unfold eventM
  cases hb : evBad p s a with
  | true => exact h
  | false =>
    cases hf : evFull s with
    | true => exact h
    | false =>
      simp only [Bool.false_eq_true, if_false]
      obtain ⟨b1, b2, b3, b4⟩ := evBad_false hb
      obtain ⟨f1, f2⟩ := evFull_false hf
      have h40 := h.h40
      have hc := h.came
      have hc2 := h.c200
      have hl := h.last
      have hev : ∀ e ∈ s.held ++ [a.ev], 0 ≤ e ∧ e < p.evs := fun e he => by
        rcases List.mem_append.mp he with he | he
        · exact h.ev e he
        · simp at he; subst he; exact ⟨b1, b2⟩
      split
      · next hn =>
        exact ⟨by simp; omega, by simp; omega, by simp; omega, by simp; omega, h.t, hev⟩
      · next l hs =>
        obtain ⟨hM0, hM1, _⟩ := most_bd hv
        have hE : endW (heldW a.at_ (s.held ++ [a.ev])) = a.at_ := endW_held
        rw [hE] at hs
        obtain ⟨_, g2, g3, _⟩ := search_some hM0 _ _ _ l hs (fun u hu => by rw [(heldW_mem hu).1]; exact Int.le_refl _)
        have hll := search_len _ _ _ l hs
        have hlen : (heldW a.at_ (s.held ++ [a.ev])).length = s.held.length + 1 := by simp [heldW]
        have hm := madeM_len2 hll
        have ht := h.t
        refine ⟨by simp, ?_, by simp; omega, by simp; omega, ⟨by dsimp only; omega, ?_⟩, by simp⟩
        · simp only [List.length_append, List.length_nil, hm, hlen]; omega
        · have := mx_or s.t a.at_
          have h5 : (mostM p + 1) * ((heldW a.at_ (s.held ++ [a.ev])).length : Int) ≤ 31 * ((s.held.length : Int) + 1) := by
            rw [hlen]
            exact Int.mul_le_mul (by omega) (by omega) (by omega) (by omega)
          simp only [List.length_append, hm, hlen]
          rcases this with e | e <;> rw [e] at g3 <;> omega
/-- how often a search writes, if the first stamp is not far below the last one -/
theorem puts_le2 {stp : Pt → Int → Int → Pt} {M E : Int} {S : Nat} (hM : 0 ≤ M) (ss : List PS) (x : Pt) (last : Int) (h : ∀ s, ss.head? = some s → mx (mx last s.at_) E + M + 2 - mx last s.at_ ≤ S) : putsM stp M E ss x last ≤ cntB S ss.length := by
  cases ss with
  | nil => exact Nat.le_refl _
  | cons s ss =>
    have h0 := h s rfl
    simp only [putsM]
    by_cases hx : x.loc < 0
    · rw [if_pos hx]; exact Nat.zero_le _
    · rw [if_neg hx]
      have h1 := putsT_le (f := fun t => putsM stp M E ss (stp x (t - last) s.ev) t) (B := cntB S ss.length) (spanT M E (mx last s.at_)) (mx last s.at_) (fun u hu => puts_le hM ss _ u (by
        have := mx_l (mx last s.at_) E
        have := mx_r (mx last s.at_) E
        rcases mx_or u E with h | h <;> omega))
      have h2 : spanT M E (mx last s.at_) ≤ S := by
        unfold spanT
        omega
      have h3 := Nat.mul_le_mul_right (cntB S ss.length) h2
      simp only [List.length_cons, cntB]
      omega
end Go.Proofs.Ythidbmeocifkcaa
/- enforce: an enforcer in memory, the program's or the reference's. -/
namespace Go.Proofs.Ythidbmeocifkcaa
open Go.RowKit
/-- an enforcer's box with its two rows; cs: the box's cells -/
structure EB (wm W : World) (b : Nat) (ty : TypeId) (cs : List Value) (hv ov : Value) (hl ol : List PS) : Prop where
  bel : Bel wm W
  nb : wm.heap.size ≤ b
  row : RowAt W b ty cs
  held : W.ownsRow wm.heap.size 48 2 hv hl.length (hl.flatMap psC)
  out : W.ownsRow wm.heap.size 48 2 ov ol.length (ol.flatMap psC)
  ne : ∀ k, hv.ownBlock = some k → ov.ownBlock ≠ some k
  ty : ty ≠ 48
def ownL (b : Nat) (hv ov : Value) : List Nat := b :: (hv.ownBlock.toList ++ ov.ownBlock.toList)
theorem mem_ownL {b k : Nat} {hv ov : Value} : k ∈ ownL b hv ov ↔ (k = b ∨ hv.ownBlock = some k ∨ ov.ownBlock = some k) := by
  unfold ownL
  simp only [List.mem_cons, List.mem_append, Option.mem_toList]
section
variable {wm W W' W0 : World} {b : Nat} {ty : TypeId} {cs cs' : List Value} {hv ov hv' ov' : Value} {hl ol hl' ol' : List PS} {rs : List Nat}
theorem EB.big (h : EB wm W b ty cs hv ov hl ol) : ∀ k ∈ ownL b hv ov, wm.heap.size ≤ k ∧ k < W.heap.size := fun k hk => by
  rcases mem_ownL.mp hk with rfl | e | e
  · exact ⟨h.nb, h.row.lt⟩
  · exact h.held.lt k e
  · exact h.out.lt k e
theorem EB.after (h : EB wm W b ty cs hv ov hl ol) (hb : Bel W W') : EB wm W' b ty cs hv ov hl ol :=
  ⟨h.bel.trans hb, h.nb, h.row.bel hb, ownsRow_bel h.held hb, ownsRow_bel h.out hb, h.ne, h.ty⟩
theorem ownsRow_far {base n size : Nat} {e : TypeId} {v : Value} {xs : List Value} (h : W.ownsRow base e size v n xs) (hg : GrsOk W rs W') (hn : ∀ k, v.ownBlock = some k → k ∉ rs) : W'.ownsRow base e size v n xs := by
  refine ⟨h.1, ?_⟩
  rcases h.2 with h1 | ⟨g, cap, cur, rfl, h2, h3, h4⟩
  · exact .inl h1
  · exact .inr ⟨g, cap, cur, rfl, h2, (hg.block g (Blk.lt h3) (hn g rfl)).trans h3, h4⟩
theorem bel_grs2 (h : Bel wm W) (hg : GrsOk W rs W') (hr : ∀ k ∈ rs, wm.heap.size ≤ k) : Bel wm W' :=
  ⟨hg.os.trans h.os, hg.tape.trans h.tape, hg.output.trans h.output, Nat.le_trans h.size hg.size, fun k hk => (hg.block k (Nat.lt_of_lt_of_le hk h.size) (fun hm => by have := hr k hm; omega)).trans (h.block k hk)⟩
/-- other blocks change -/
theorem EB.other (h : EB wm W b ty cs hv ov hl ol) (hg : GrsOk W rs W') (hr : ∀ k ∈ rs, wm.heap.size ≤ k) (hd : ∀ k ∈ ownL b hv ov, k ∉ rs) : EB wm W' b ty cs hv ov hl ol :=
  ⟨bel_grs2 h.bel hg hr, h.nb, row_grs h.row hg (hd _ (mem_ownL.mpr (.inl rfl))), ownsRow_far h.held hg (fun k e => hd k (mem_ownL.mpr (.inr (.inl e)))), ownsRow_far h.out hg (fun k e => hd k (mem_ownL.mpr (.inr (.inr e)))), h.ne, h.ty⟩
/-- in the midst of an event: W0 is the world at its beginning; only the blocks rs of it have changed -/
structure EvM (wm W0 W : World) (rs : List Nat) (b : Nat) (ty : TypeId) (cs : List Value) (hv ov : Value) (hl ol : List PS) : Prop where
  e : EB wm W b ty cs hv ov hl ol
  g : GrsOk W0 rs W
  hb : ∀ k ∈ ownL b hv ov, k ∈ rs ∨ W0.heap.size ≤ k
  rb : ∀ k ∈ rs, wm.heap.size ≤ k
theorem EvM.start (h : EB wm W b ty cs hv ov hl ol) : EvM wm W W (ownL b hv ov) b ty cs hv ov hl ol :=
  ⟨h, grs_refl _ _, fun _ hk => .inl hk, fun k hk => (h.big k hk).1⟩
theorem EvM.after (h : EvM wm W0 W rs b ty cs hv ov hl ol) (hb : Bel W W') : EvM wm W0 W' rs b ty cs hv ov hl ol :=
  ⟨h.e.after hb, grs_trans h.g (grs_bel hb), h.hb, h.rb⟩
theorem grs_in (h : GrsOk W0 rs W) {row : Option Nat} (hg : W.grownBy W' row) (hr : ∀ k, row = some k → k ∈ rs ∨ W0.heap.size ≤ k) : GrsOk W0 rs W' :=
  grs_grown h hg (fun k e hlt => (hr k e).resolve_right (by omega))
/-- a cell of the box is stored -/
theorem EvM.set (h : EvM wm W0 W rs b ty cs hv ov hl ol) (j : Nat) (v : Value) : EvM wm W0 (W.setCell ⟨b, j, none⟩ v) rs b ty (cs.set j v) hv ov hl ol := by
  have g : W.grownBy (W.setCell ⟨b, j, none⟩ v) (some b) := gro_set (gro_refl _) j v
  have hbm := h.hb b (mem_ownL.mpr (.inl rfl))
  exact ⟨⟨bel_gro h.e.bel g (fun k e => by injection e with e; subst e; exact h.e.nb), h.e.nb, h.e.row.set j v, h.e.held.kept g (own_box_ne h.e.row h.e.held h.e.ty), h.e.out.kept g (own_box_ne h.e.row h.e.out h.e.ty), h.e.ne, h.e.ty⟩,
    grs_in h.g g (fun k e => by injection e with e; subst e; exact hbm), h.hb, h.rb⟩
/-- the row of the held events grows or is written to -/
theorem EvM.turnH (h : EvM wm W0 W rs b ty cs hv ov hl ol) (g : W.grownBy W' hv.ownBlock) (ho : W'.ownsRow wm.heap.size 48 2 hv' hl'.length (hl'.flatMap psC)) (hl2 : ∀ k, hv'.ownBlock = some k → hv.ownBlock = some k ∨ W.heap.size ≤ k) :
    EvM wm W0 W' rs b ty cs hv' ov hl' ol := by
  refine ⟨⟨bel_gro h.e.bel g (fun k e => (h.e.held.lt k e).1), h.e.nb, h.e.row.gro g (box_row_ne h.e.row h.e.held h.e.ty), ho, h.e.out.kept g ?_, ?_, h.e.ty⟩, grs_in h.g g (fun k e => h.hb k (mem_ownL.mpr (.inr (.inl e)))), ?_, h.rb⟩
  · cases hov : ov.ownBlock with
    | none => exact .inl rfl
    | some k => exact .inr (fun e => h.e.ne k e.symm hov)
  · intro k e1 e2
    rcases hl2 k e1 with e | e
    · exact h.e.ne k e e2
    · have := (h.e.out.lt k e2).2; omega
  · intro k hk
    rcases mem_ownL.mp hk with rfl | e | e
    · exact h.hb k (mem_ownL.mpr (.inl rfl))
    · rcases hl2 k e with e | e
      · exact h.hb k (mem_ownL.mpr (.inr (.inl e)))
      · exact .inr (Nat.le_trans h.g.size e)
    · exact h.hb k (mem_ownL.mpr (.inr (.inr e)))
/-- the row of the output grows -/
theorem EvM.turnO (h : EvM wm W0 W rs b ty cs hv ov hl ol) (g : W.grownBy W' ov.ownBlock) (ho : W'.ownsRow wm.heap.size 48 2 ov' ol'.length (ol'.flatMap psC)) (hl2 : ∀ k, ov'.ownBlock = some k → ov.ownBlock = some k ∨ W.heap.size ≤ k) :
    EvM wm W0 W' rs b ty cs hv ov' hl ol' := by
  refine ⟨⟨bel_gro h.e.bel g (fun k e => (h.e.out.lt k e).1), h.e.nb, h.e.row.gro g (box_row_ne h.e.row h.e.out h.e.ty), h.e.held.kept g ?_, ho, ?_, h.e.ty⟩, grs_in h.g g (fun k e => h.hb k (mem_ownL.mpr (.inr (.inr e)))), ?_, h.rb⟩
  · cases hov : hv.ownBlock with
    | none => exact .inl rfl
    | some k => exact .inr (fun e => h.e.ne k hov e.symm)
  · intro k e1 e2
    rcases hl2 k e2 with e | e
    · exact h.e.ne k e1 e
    · have := (h.e.held.lt k e1).2; omega
  · intro k hk
    rcases mem_ownL.mp hk with rfl | e | e
    · exact h.hb k (mem_ownL.mpr (.inl rfl))
    · exact h.hb k (mem_ownL.mpr (.inr (.inl e)))
    · rcases hl2 k e with e | e
      · exact h.hb k (mem_ownL.mpr (.inr (.inr e)))
      · exact .inr (Nat.le_trans h.g.size e)
/-- the held events are let go -/
theorem EvM.drop (h : EvM wm W0 W rs b ty cs hv ov hl ol) : EvM wm W0 W rs b ty cs (.slice none 0 0) ov [] ol :=
  ⟨⟨h.e.bel, h.e.nb, h.e.row, World.ownsRow_nil _ _ _ _, h.e.out, fun k e => by simp [Value.ownBlock] at e, h.e.ty⟩, h.g, fun k hk => by
    rcases mem_ownL.mp hk with rfl | e | e
    · exact h.hb k (mem_ownL.mpr (.inl rfl))
    · simp [Value.ownBlock] at e
    · exact h.hb k (mem_ownL.mpr (.inr (.inr e))), h.rb⟩
end
/-- the first i stamps are at time t -/
def setAt (l : List PS) (t : Int) (i : Nat) : List PS := (l.take i).map (fun s => ⟨t, s.ev⟩) ++ l.drop i
theorem setAt_len (l : List PS) (t : Int) (i : Nat) : (setAt l t i).length = l.length := by
  simp [setAt]; omega
theorem setAt_at {l : List PS} {t : Int} {i : Nat} (hi : i < l.length) : psAt (setAt l t i) i = psAt l i := by
  unfold psAt setAt
  simp only [List.getD]
  rw [List.getElem?_append_right (by simp; omega), List.length_map, List.length_take, Nat.min_eq_left (by omega), Nat.sub_self, List.getElem?_drop, Nat.add_zero]
theorem setAt_set {l : List PS} {t : Int} {i : Nat} (hi : i < l.length) : (setAt l t i).set i ⟨t, (psAt l i).ev⟩ = setAt l t (i + 1) := by
  have hl : ((l.take i).map (fun s : PS => (⟨t, s.ev⟩ : PS))).length = i := by simp; omega
  have h1 : l.take (i + 1) = l.take i ++ [psAt l i] := by
    rw [List.take_add_one]; simp [psAt, List.getD, hi]
  unfold setAt
  rw [h1, List.set_append_right _ _ (by omega), hl, Nat.sub_self, List.drop_eq_getElem_cons hi, List.set_cons_zero, List.map_append, List.append_assoc]
  rfl
theorem setAt_zero (l : List PS) (t : Int) : setAt l t 0 = l := rfl
theorem setAt_all (l : List PS) (t : Int) : setAt l t l.length = heldW t (l.map PS.ev) := by
  unfold setAt heldW
  rw [List.take_length, List.drop_length, List.append_nil, List.map_map]
  rfl
theorem heldW_evs (t : Int) (h : List Int) : (heldW t h).map PS.ev = h := by
  unfold heldW
  rw [List.map_map]
  exact List.map_id'' (fun _ => rfl) h
theorem runE_snoc (stp : Pt → Int → Int → Pt) : ∀ (l : List PS) (x : Pt) (t : Int) (s : PS), runE stp x t (l ++ [s]) = (stp (runE stp x t l).1 (s.at_ - (runE stp x t l).2) s.ev, s.at_)
  | [], _, _, _ => rfl
  | u :: l, x, t, s => by
    show runE stp _ _ (l ++ [s]) = _
    rw [runE_snoc stp l]; rfl
theorem ps_take {l : List PS} {i : Nat} (hi : i < l.length) : l.take (i + 1) = l.take i ++ [psAt l i] := by
  rw [List.take_add_one]; simp [psAt, List.getD, hi]
theorem runE_time (stp : Pt → Int → Int → Pt) (x : Pt) (t : Int) {l : List PS} {i : Nat} (hi : i < l.length) : (runE stp x t (l.take (i + 1))).2 = (psAt l i).at_ := by
  rw [ps_take hi, runE_snoc]
theorem madeM_at {w : List PS} {l : List Int} (h : l.length = w.length) {i : Nat} (hi : i < w.length) : psAt (madeM w l) i = ⟨l.getD i 0, (psAt w i).ev⟩ := by
  rw [psAt_eq (by rw [madeM_len2 h]; exact hi), psAt_eq hi]
  simp [madeM, List.getD, show i < l.length by omega]
/-- the times that are found, held against the run -/
theorem out_times {stp : Pt → Int → Int → Pt} {p : PP} (hv : PValid p p.clks.toNat) (he : p.evs ≤ 8) {s : EnS} (h : EnOk p s) {a : PS} (hb : evBad p s a = false) (hf : evFull s = false) {ts : List Int}
    (htm : searchM stp (goodM p) (mostM p) (endW (heldW a.at_ (s.held ++ [a.ev]))) (heldW a.at_ (s.held ++ [a.ev])) s.x s.t = some ts) {i : Nat} (hi : i < s.held.length + 1) :
    0 ≤ (psAt (madeM (heldW a.at_ (s.held ++ [a.ev])) ts) i).at_ - (runE stp s.x s.t ((madeM (heldW a.at_ (s.held ++ [a.ev])) ts).take i)).2 ∧
    (psAt (madeM (heldW a.at_ (s.held ++ [a.ev])) ts) i).at_ - (runE stp s.x s.t ((madeM (heldW a.at_ (s.held ++ [a.ev])) ts).take i)).2 ≤ 1000000000 ∧
    0 ≤ (psAt (madeM (heldW a.at_ (s.held ++ [a.ev])) ts) i).at_ ∧ (psAt (madeM (heldW a.at_ (s.held ++ [a.ev])) ts) i).at_ ≤ 10000000 ∧
    i64 (psAt (madeM (heldW a.at_ (s.held ++ [a.ev])) ts) i).ev := by
  obtain ⟨hM0, hM1, _⟩ := most_bd hv
  obtain ⟨b1, b2, b3, b4⟩ := evBad_false hb
  obtain ⟨f1, f2⟩ := evFull_false hf
  rw [endW_held] at htm
  have hhl : (heldW a.at_ (s.held ++ [a.ev])).length = s.held.length + 1 := by simp [heldW]
  have hlen := search_len _ _ _ ts htm
  obtain ⟨_, _, _, g4, _, g6, g7⟩ := search_some hM0 _ _ _ ts htm (fun u hu => by rw [(heldW_mem hu).1]; exact Int.le_refl _)
  have h40 := h.h40
  have hc := h.came
  have hc2 := h.c200
  have hl := h.last
  have ht := h.t
  have hml := madeM_len2 hlen
  have hat : ∀ k, k < s.held.length + 1 → (psAt (madeM (heldW a.at_ (s.held ++ [a.ev])) ts) k).at_ = ts.getD k 0 := fun k hk => by rw [madeM_at hlen (by omega)]
  have hmem : ∀ k, k < s.held.length + 1 → ts.getD k 0 ∈ ts := fun k hk => int_mem (by omega)
  have h5 : (mostM p + 1) * ((heldW a.at_ (s.held ++ [a.ev])).length : Int) ≤ 31 * ((s.held.length : Int) + 1) := by
    rw [hhl]
    exact Int.mul_le_mul (by omega) (by omega) (by omega) (by omega)
  have hup := g7 _ (hmem i hi)
  have hlo : ∀ k, k < s.held.length + 1 → s.t ≤ ts.getD k 0 := fun k hk => by
    rcases g4 with e | e
    · rw [e] at hhl; simp at hhl
    · exact e _ (hmem k hk)
  have hmx := mx_or s.t a.at_
  have hti : (runE stp s.x s.t ((madeM (heldW a.at_ (s.held ++ [a.ev])) ts).take i)).2 ≤ ts.getD i 0 ∧ 0 ≤ (runE stp s.x s.t ((madeM (heldW a.at_ (s.held ++ [a.ev])) ts).take i)).2 := by
    cases i with
    | zero => exact ⟨hlo 0 hi, ht.1⟩
    | succ j =>
      rw [runE_time stp s.x s.t (by rw [hml, hhl]; omega), hat j (by omega)]
      refine ⟨g6 j (by omega), ?_⟩
      have := hlo j (by omega)
      omega
  rw [hat i hi]
  refine ⟨by omega, by rcases hmx with e | e <;> rw [e] at hup <;> omega, by have := hlo i hi; omega, by rcases hmx with e | e <;> rw [e] at hup <;> omega, ?_⟩
  rw [madeM_at hlen (by omega)]
  have hm := heldW_mem (ps_mem (l := heldW a.at_ (s.held ++ [a.ev])) (k := i) (by omega))
  show i64 (psAt (heldW a.at_ (s.held ++ [a.ev])) i).ev
  unfold i64
  rcases List.mem_append.mp hm.2 with q | q
  · have := h.ev _ q
    omega
  · simp at q
    rw [q]
    omega
/-- the cells of the program's enforcer -/
def enC (bm : Nat) (p : PP) (s : EnS) (hv ov : Value) : List Value :=
  [.pointer (some ⟨bm, 0, none⟩), .int .i64 p.evs, .int .i64 s.x.loc, .int .i64 (s.x.cl.getD 0 0), .int .i64 (s.x.cl.getD 1 0), .int .i64 (s.x.cl.getD 2 0), .int .i64 s.t, .int .i64 s.last, .int .i64 s.came, hv, ov]
structure EfAt (wm W : World) (bf bm : Nat) (p : PP) (s : EnS) (hv ov : Value) : Prop where
  b : EB wm W bf 61 (enC bm p s hv ov) hv ov (heldW s.last s.held) s.out
  mach : MachAt wm bm p
  loc : LocOk p s.x
  cl : Cl3 (mostM p) s.x.cl
/-- the cells of the reference's enforcer -/
def erC (p : PP) (gv ev : Value) (s : EnS) (hv ov : Value) : List Value :=
  [.int .i64 p.evs, .int .i64 p.clks, .int .i64 p.ini, gv, ev, ov, hv, .int .i64 s.came, .int .i64 s.last, .int .i64 s.x.loc, .int .i64 (s.x.cl.getD 0 0), .int .i64 (s.x.cl.getD 1 0), .int .i64 (s.x.cl.getD 2 0), .int .i64 s.t]
structure ErAt (wm W : World) (br : Nat) (p : PP) (gv ev : Value) (s : EnS) (hv ov : Value) : Prop where
  b : ∃ hl, EB wm W br 45 (erC p gv ev s hv ov) hv ov hl s.out ∧ hl.map PS.ev = s.held
  prop : PropAt wm wm.heap.size gv ev p
  loc : LocOk p s.x
  cl : ClOk s.x.cl
end Go.Proofs.Ythidbmeocifkcaa
