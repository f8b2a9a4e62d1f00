/- any seat: a drawn region with several stores: reads that may come behind a store are taken first, each for the worlds that it may meet. -/
import Derived.Test.YthidbmeocifkcaaG1
namespace Go.Proofs.Ythidbmeocifkcaa
open Go Region Go.RowKit
section
variable {P : Program} {md : Region.Mode} {ops : Array Oper} {T : Nat → World → Prop} {S : World → Prop} {n : Nat} {init : Array Bool} {Q : Exit → Act → World → Prop}
/-- whatever order is drawn from here on; T i holds behind operation i -/
def wpAnyT (P : Program) (md : Region.Mode) (ops : Array Oper) (Q : Exit → Act → World → Prop) (T : Nat → World → Prop) : Nat → Array Bool → Act → World → Prop
  | 0, done, a, w => ready md ops done = [] ∧ Q .normal a w
  | f + 1, done, a, w =>
    (ready md ops done = [] → Q .normal a w) ∧
    ∀ i ∈ ready md ops done, wpOp P ops Q i (fun a' w' => T i w' ∧ wpAnyT P md ops Q T f (done.setIfInBounds i true) a' w') a w
theorem wpAny_of_anyT : ∀ (f : Nat) (done : Array Bool) (a : Act) (w : World), wpAnyT P md ops Q T f done a w → wpAny P md ops Q f done a w
  | 0, _, _, _, h => h
  | f + 1, _, _, _, h => ⟨h.1, fun i hi => wpOp_mono (fun a' w' h' => wpAny_of_anyT f _ a' w' h'.2) (h.2 i hi)⟩
theorem anyT_first {i : Nat} {oi : Oper} {v : Value} (hT : ∀ j w, j < n → init.getD j true = false → T j w → S w) (hTi : ∀ w, S w → T i w) (hi : ops[i]? = some oi) (hsel : ∀ (j : Nat) (o : Oper) cs b, ops[j]? = some o → o.op ≠ .select cs b)
    (hQ : ∀ c a d v w, Q (.panic c) (a.put d v) w → Q (.panic c) a w) (hs : sinkI md ops init n = true) (hc : chainB md ops n = true) (hn : n < ops.size) (hin : i < n) (f : Nat) :
    ∀ (done : Array Bool) (a : Act) (w : World), Grown md ops n init done → Apart md ops i oi done → i ∈ ready md ops done → YieldsIf P ops S oi v a → S w →
      wpAnyT P md ops Q T f (done.setIfInBounds i true) (a.put oi.dst v) w → wpAnyT P md ops Q T (f + 1) done a w := by
  induction f with
  | zero =>
    intro done a w _ _ hr hy hS H
    refine ⟨fun h => (by rw [h] at hr; cases hr), fun j hj => ?_⟩
    by_cases hji : j = i
    · subst hji; exact hy.wpOp hi hS ⟨hTi w hS, H⟩
    · have := ready_mono hj hji
      rw [H.1] at this
      cases this
  | succ f ih =>
    intro done a w inv hap hr hy hS H
    have early := late_all hc inv.inv (tail_late hs hc hn inv _ i (Nat.le_refl _) hin (mem_ready.1 hr).1)
    refine ⟨fun h => (by rw [h] at hr; cases hr), fun j hj => ?_⟩
    by_cases hji : j = i
    · subst hji; exact hy.wpOp hi hS ⟨hTi w hS, H⟩
    · have hjn : j < n := Nat.lt_of_not_le fun h => early j h hj
      have h1 := H.2 j (ready_mono hj hji)
      obtain ⟨hju, oj, hoj, hall⟩ := mem_ready.1 hj
      have hno : ∀ e ∈ oj.after, binds md e = true → e.on ≠ i := fun e he hb heq => by
        have h1 := hall e he hb
        rw [heq, getD_both (mem_ready.1 hr).1] at h1
        cases h1
      have h2 := wpOp_putIf hoj (hap j oj hoj hji hju hno) (fun cs b => hsel i oi cs b hi) (fun cs b => hsel j oj cs b hoj) (fun c a w h => hQ c a _ _ w h) hy h1
      refine wpOp_mono (fun a' w' h3 => ⟨h3.2.1, ih (done.setIfInBounds j true) a' w' (inv.set hj hjn) (fun k ok hk hki hku => hap k ok hk hki ?_) (ready_mono hr (Ne.symm hji)) h3.1 (hT j w' hjn (inv.up j hju) h3.2.1) ?_⟩) h2
      · rcases Decidable.em (j = k) with rfl | hjk
        · exact hju
        · rwa [getD_set_ne true hjk] at hku
      · rw [Array.setIfInBounds_comm _ _ hji]
        exact h3.2.2
theorem anyT_lex (hT : ∀ j w, j < n → init.getD j true = false → T j w → S w) (hQ : ∀ c a d v w, Q (.panic c) (a.put d v) w → Q (.panic c) a w) (hsel : noSelect ops = true) (hs : sinkI md ops init n = true) (hc : chainB md ops n = true) (hn : n < ops.size) {g : Nat} {w : World} (hS : S w) :
    ∀ (r : List Nat) (done : Array Bool) (a : Act), (∀ i ∈ r, ∀ w, S w → T i w) → Grown md ops n init done → lexP md ops n r done = true →
      wpQuiet P ops S (fun a' => wpAnyT P md ops Q T g (r.foldl (fun d i => d.setIfInBounds i true) done) a' w) (opsOf ops r) a → wpAnyT P md ops Q T (g + r.length) done a w
  | [], done, a, _, _, _, h => h
  | k :: r, done, a, hTi, inv, hB, h => by
    simp only [lexP, Bool.and_eq_true, decide_eq_true_eq] at hB
    obtain ⟨⟨⟨⟨hkn, hr⟩, hf⟩, hp⟩, hB⟩ := hB
    have hr' : k ∈ ready md ops done := by simpa using hr
    obtain ⟨_, o, h0, _⟩ := mem_ready.1 hr'
    rw [h0] at hp
    have e : opsOf ops (k :: r) = o :: opsOf ops r := by simp [opsOf, h0]
    rw [e] at h
    obtain ⟨v, hy, hK⟩ := yieldsIn_of_qOp (C := S) (K := wpQuiet P ops S (fun a' => wpAnyT P md ops Q T g ((k :: r).foldl (fun d i => d.setIfInBounds i true) done) a' w) (opsOf ops r)) h0 (by unfold qOp; simp only [h0]; exact h)
    refine anyT_first hT (hTi k (by simp)) h0 (noSelect_spec hsel) hQ hs hc hn hkn (g + r.length) done a w inv (free_spec h0 hf) hr' (yieldsIf_of hp hy) hS ?_
    exact anyT_lex hT hQ hsel hs hc hn hS r _ _ (fun i hi => hTi i (by simp [hi])) (inv.set hr' hkn) hB hK
/-- the operations r are taken first: they read, and what they read does not change till operation n -/
theorem anyT_takes {a : Act} {w : World} {done : Array Bool} {m g : Nat} (S : World → Prop) (n : Nat) (r : List Nat) (hT : ∀ j w, j < n → done.getD j true = false → T j w → S w) (hTi : ∀ i ∈ r, ∀ w, S w → T i w) (hQ : ∀ c a d v w, Q (.panic c) (a.put d v) w → Q (.panic c) a w) (hS : S w)
    (hI : decide (n < ops.size) && noSelect ops && sinkI md ops done n && chainB md ops n && lexP md ops n r done && decide (done.size = ops.size)
      && ((List.range ops.size).all fun j => !(done.getD j false) || (match ops[j]? with | some o => o.after.all (fun e => !(binds md e) || done.getD e.on false) | none => true))
      && ((List.range ops.size).all fun t => decide (t < n) || !(done.getD t true)) = true)
    (hm : m = g + r.length)
    (h : wpQuiet P ops S (fun a' => wpAnyT P md ops Q T g (r.foldl (fun d i => d.setIfInBounds i true) done) a' w) (opsOf ops r) a) : wpAnyT P md ops Q T m done a w := by
  simp only [Bool.and_eq_true, decide_eq_true_eq] at hI
  obtain ⟨⟨⟨⟨⟨⟨⟨hn, hsel⟩, hs⟩, hc⟩, hlex⟩, hsz⟩, hcl⟩, htl⟩ := hI
  have inv : Grown md ops n done done := by
    refine ⟨⟨hsz, fun j oj hoj hl e he hb => ?_, fun t ht ht2 => ?_⟩, fun _ h => h⟩
    · have hj : j < ops.size := (Array.getElem?_eq_some_iff.1 hoj).1
      have := List.all_eq_true.1 hcl j (List.mem_range.2 hj)
      rw [hl, hoj] at this
      simp only [Bool.not_true, Bool.false_or] at this
      have := Array.all_eq_true'.1 this e he
      rw [hb] at this
      simpa using this
    · have := List.all_eq_true.1 htl t (List.mem_range.2 ht2)
      simp only [Bool.or_eq_true, decide_eq_true_eq] at this
      simpa using this.resolve_left (by omega)
  subst hm
  exact anyT_lex hT hQ hsel hs hc hn hS r done a hTi inv hlex h
/-- one operation comes next, and no other can -/
theorem anyT_one {a : Act} {w : World} {done : Array Bool} {f : Nat} (i : Nat) (o : Oper) (hr : ready md ops done = [i]) (ho : ops[i]? = some o)
    (h : ∀ K : Act → World → Prop, (∀ a' w', T i w' → wpAnyT P md ops Q T f (done.setIfInBounds i true) a' w' → K a' w') → if Region.wanted o (yielded ops a.tmps) = true then o.wp P a w K Q else K (a.put o.dst undef) w) :
    wpAnyT P md ops Q T (f + 1) done a w := by
  refine ⟨fun h0 => (by rw [hr] at h0; cases h0), fun j hj => ?_⟩
  rw [hr] at hj
  obtain rfl : j = i := by simpa using hj
  unfold wpOp
  simp only [ho]
  have := h (fun a' w' => T j w' ∧ wpAnyT P md ops Q T f (done.setIfInBounds j true) a' w') (fun a' w' h1 h2 => ⟨h1, h2⟩)
  split
  · next hw => rw [if_pos hw] at this; exact .inl this
  · next hw => rw [if_neg hw] at this; exact this
theorem anyT_done {a : Act} {w : World} {done : Array Bool} (hr : ready md ops done = []) (h : Q .normal a w) : ∀ f, wpAnyT P md ops Q T f done a w
  | 0 => ⟨hr, h⟩
  | _ + 1 => ⟨fun _ => h, by rw [hr]; simp⟩
end
/-- a world that has grown out of wc: of the blocks of wc only those of rs may have changed -/
structure GrsOk (wc : World) (rs : List Nat) (w : World) : Prop where
  os : w.os = wc.os
  tape : w.tape = wc.tape
  output : w.output = wc.output
  size : wc.heap.size ≤ w.heap.size
  block : ∀ k, k < wc.heap.size → k ∉ rs → w.heap[k]? = wc.heap[k]?
def Grs (wc : World) (rs : List Nat) : Type := { w : World // GrsOk wc rs w }
section
variable {wc : World} {rs : List Nat}
def Grs.w (y : Grs wc rs) : World := y.1
theorem grs_refl (w : World) (rs : List Nat) : GrsOk w rs w := ⟨rfl, rfl, rfl, Nat.le_refl _, fun _ _ _ => rfl⟩
theorem grs_drew (w : World) (rs : List Nat) : GrsOk w rs w.drew := ⟨rfl, rfl, rfl, Nat.le_refl _, fun _ _ _ => rfl⟩
instance grsSome : Nonempty (Grs wc rs) := ⟨⟨wc, grs_refl wc rs⟩⟩
theorem grs_set {w : World} (h : GrsOk wc rs w) (g : Nat) (hg : g ∈ rs) (j : Nat) (v : Value) : GrsOk wc rs (w.setCell ⟨g, j, none⟩ v) :=
  ⟨h.os, h.tape, h.output, by simp [World.setCell]; exact h.size, fun k hk hr => (Below.heap_setCell w ⟨g, j, none⟩ v k (fun e => hr (by rw [e]; exact hg))).trans (h.block k hk hr)⟩
theorem grs_weak {w : World} (h : GrsOk wc [] w) (rs : List Nat) : GrsOk wc rs w := ⟨h.os, h.tape, h.output, h.size, fun k hk _ => h.block k hk (by simp)⟩
theorem grs_cell {w : World} (h : GrsOk wc rs w) (b o : Nat) (hb : b < wc.heap.size) (hr : b ∉ rs) : w.cell? ⟨b, o, none⟩ = wc.cell? ⟨b, o, none⟩ := by
  unfold World.cell?
  simp only
  rw [h.block b hb hr]
theorem grs_froz {w : World} (h : GrsOk wc rs w) (b o : Nat) (hb : b < wc.heap.size) (hr : b ∉ rs) : w.frozen? ⟨b, o, none⟩ = wc.frozen? ⟨b, o, none⟩ := by
  unfold World.frozen?
  simp only
  rw [h.block b hb hr]
@[go_sem] theorem grs_cells (y : Grs wc rs) (b o : Nat) (h : b < wc.heap.size) (h2 : b ∉ rs) : y.w.cell? ⟨b, o, none⟩ = wc.cell? ⟨b, o, none⟩ := grs_cell y.2 b o h h2
@[go_sem] theorem grs_frozen (y : Grs wc rs) (b o : Nat) (h : b < wc.heap.size) (h2 : b ∉ rs) : y.w.frozen? ⟨b, o, none⟩ = wc.frozen? ⟨b, o, none⟩ := grs_froz y.2 b o h h2
@[go_sem] theorem grs_lt (y : Grs wc rs) {b : Nat} (h : b < wc.heap.size) : b < y.w.heap.size := Nat.lt_of_lt_of_le h y.2.size
end
/-- behind the operations of l1 nothing has changed, behind those before n2 only the blocks rs -/
def TT (wc : World) (rs : List Nat) (l1 : List Nat) (n2 : Nat) (i : Nat) (w : World) : Prop := (l1.contains i = true → ∃ y : Grs wc [], w = y.w) ∧ (i < n2 → ∃ y : Grs wc rs, w = y.w)
theorem tt_1 {wc : World} {rs l1 : List Nat} {n n2 : Nat} {done : Array Bool} (h : ((List.range n).all fun j => done.getD j true || l1.contains j) = true) : ∀ j w, j < n → done.getD j true = false → TT wc rs l1 n2 j w → ∃ y : Grs wc [], w = y.w :=
  fun j _ hj hd t => t.1 (by have := List.all_eq_true.1 h j (List.mem_range.2 hj); rw [hd] at this; simpa using this)
theorem tt_2 {wc : World} {rs l1 : List Nat} {n2 : Nat} {done : Array Bool} : ∀ j w, j < n2 → done.getD j true = false → TT wc rs l1 n2 j w → ∃ y : Grs wc rs, w = y.w := fun _ _ h _ t => t.2 h
theorem tt_i1 {wc : World} {rs l1 r : List Nat} {n2 : Nat} : ∀ i ∈ r, ∀ w, (∃ y : Grs wc [], w = y.w) → TT wc rs l1 n2 i w := fun _ _ _ h => ⟨fun _ => h, fun _ => by obtain ⟨y, rfl⟩ := h; exact ⟨⟨y.w, grs_weak y.2 rs⟩, rfl⟩⟩
theorem tt_i2 {wc : World} {rs l1 r : List Nat} {n2 : Nat} (h : (r.all fun i => !(l1.contains i)) = true) : ∀ i ∈ r, ∀ w, (∃ y : Grs wc rs, w = y.w) → TT wc rs l1 n2 i w :=
  fun i hi _ hw => ⟨fun hc => by have := List.all_eq_true.1 h i hi; rw [hc] at this; simp at this, fun _ => hw⟩
section
variable {P : Program} {Q : Exit → Act → World → Prop}
/-- the beginning -/
theorem wp_region_T {id : Nat} {a : Act} {w : World} {l : List Oper} (T : Nat → World → Prop) (hm : P.follows .mixedOrders = true)
    (h : wpAnyT P .any l.toArray (NoPanic Q) T l.toArray.size (Array.replicate l.toArray.size false) a w.drew) : (Code.region id l.toArray true).wp P Q a w :=
  wp_region_noPanic (wp_region_any hm (wpAny_of_anyT (T := T) _ _ _ _ h))
end
end Go.Proofs.Ythidbmeocifkcaa
