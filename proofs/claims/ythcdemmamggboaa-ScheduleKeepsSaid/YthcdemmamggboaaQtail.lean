import Derived.Test.YthcdemmamggboaaGen
import Derived.StillTail
import Derived.OrdersHeld
namespace Go.Proofs.Ythcdemmamggboaa
open Go Region
section
variable {P : Program} {md : Region.Mode} {ops : Array Oper} {C : World → Prop} {n : Nat}
/-- whatever order is drawn for the first n operations, L holds behind them -/
def Upto (P : Program) (md : Region.Mode) (ops : Array Oper) (C : World → Prop) (n : Nat) (L : Array Bool → Act → Prop) : Nat → Array Bool → Act → Prop
  | 0, done, a => L done a
  | f + 1, done, a => ready md ops done ≠ [] ∧ ∀ i ∈ ready md ops done, i < n ∧ qOp P ops C i (Upto P md ops C n L f (done.setIfInBounds i true)) a
theorem upto_any {g : Nat} {L : Array Bool → Act → Prop} {Q' : Exit → Act → World → Prop} (hL : ∀ done a w, C w → L done a → wpAny P md ops Q' g done a w) (f : Nat) :
    ∀ (done : Array Bool) (a : Act) (w : World), C w → Upto P md ops C n L f done a → wpAny P md ops Q' (f + g) done a w := by
  induction f with
  | zero => intro done a w hw h; rw [Nat.zero_add]; exact hL _ _ _ hw h
  | succ f ih =>
    intro done a w hw h
    rw [Nat.add_right_comm]
    exact ⟨fun e => (h.1 e).elim, fun i hi => wpOp_of_qOp hw (fun a' w' hw' h' => ih _ a' w' hw' h') (h.2 i hi).2⟩
/-- what other operations have to do with operation i: they wait for it or are apart from it -/
def Apart (md : Region.Mode) (ops : Array Oper) (i : Nat) (oi : Oper) (done : Array Bool) : Prop :=
  ∀ j oj, ops[j]? = some oj → j ≠ i → done.getD j true = false → (∀ e ∈ oj.after, binds md e = true → e.on ≠ i) → oi.apart ops oj = true
theorem upto_first {i : Nat} {oi : Oper} {v : Value} {L : Array Bool → Act → Prop} (hi : ops[i]? = some oi) (hsel : ∀ (j : Nat) (o : Oper) cs b, ops[j]? = some o → o.op ≠ .select cs b)
    (hs : sinkB md ops n = true) (hc : chainB md ops n = true) (hn : n < ops.size) (hin : i < n) (hL : ∀ done a, L done a → ∀ j ∈ ready md ops done, n ≤ j) (f : Nat) :
    ∀ (done : Array Bool) (a : Act), HeadInv md ops n done → Apart md ops i oi done → i ∈ ready md ops done → YieldsIn P ops C oi v a →
      Upto P md ops C n L f (done.setIfInBounds i true) (a.put oi.dst v) → Upto P md ops C n L (f + 1) done a := by
  induction f with
  | zero =>
    intro done a inv _ hr hy H
    have early := tail_waits hs hc hn inv _ i rfl hin (mem_ready.1 hr).1
    refine ⟨List.ne_nil_of_mem hr, fun j hj => ⟨Nat.lt_of_not_le fun h => early j h hj, ?_⟩⟩
    rcases Decidable.em (j = i) with rfl | hji
    · exact hy.qOp hi H
    · exact absurd (hL _ _ H j (ready_mono hj hji)) (fun h => early j h hj)
  | succ f ih =>
    intro done a inv hap hr hy H
    have early := tail_waits hs hc hn inv _ i rfl hin (mem_ready.1 hr).1
    refine ⟨List.ne_nil_of_mem hr, fun j hj => ?_⟩
    have hjn : j < n := Nat.lt_of_not_le fun h => early j h hj
    refine ⟨hjn, ?_⟩
    rcases Decidable.em (j = i) with rfl | hji
    · exact hy.qOp hi H
    · obtain ⟨hju, oj, hoj, hall⟩ := mem_ready.1 hj
      have hno : ∀ e ∈ oj.after, binds md e = true → e.on ≠ i := fun e he hb heq => by
        have h1 := hall e he hb
        rw [heq, getD_both (mem_ready.1 hr).1] at h1
        cases h1
      have hstep := qOp_put hoj (hap j oj hoj hji hju hno) (fun cs b => hsel i oi cs b hi) (fun cs b => hsel j oj cs b hoj) hy (H.2 j (ready_mono hj hji)).2
      refine qOp_mono (fun a' h3 => ?_) hstep
      refine ih _ a' (inv.set hj hjn) (fun k ok hk hki hku => hap k ok hk hki ?_) (ready_mono hr (Ne.symm hji)) h3.1 (by rw [Array.setIfInBounds_comm _ _ hji]; exact h3.2)
      rcases Decidable.em (j = k) with rfl | hjk
      · exact hju
      · rwa [getD_set_ne true hjk] at hku
theorem upto_lex {g : Nat} {K : Act → Prop} (hsel : noSelect ops = true) (hs : sinkB md ops n = true) (hc : chainB md ops n = true) (hn : n < ops.size) :
    ∀ (l : List Oper) (k : Nat) (done : Array Bool) (a : Act), (∀ j, j < l.length → l[j]? = ops[k + j]?) → k + l.length = n → HeadInv md ops n done → lexHead md ops g l.length k done = true → wpQuiet P ops C K l a →
      Upto P md ops C n (fun done' a' => seqB md ops g n done' = true ∧ K a') l.length done a
  | [], k, done, a, _, hk, _, hB, h => by
    obtain rfl : k = n := by simpa using hk
    exact ⟨by simpa [lexHead] using hB, h⟩
  | o :: l, k, done, a, hl, hk, inv, hB, h => by
    have h0 : ops[k]? = some o := by simpa using (hl 0 (by simp)).symm
    simp only [List.length_cons, lexHead, Bool.and_eq_true] at hB
    obtain ⟨⟨hr, hf⟩, hB⟩ := hB
    simp only [List.length_cons] at hk
    have hr' : k ∈ ready md ops done := by simpa using hr
    obtain ⟨v, hy, hK⟩ := yieldsIn_of_qOp (C := C) (K := wpQuiet P ops C K l) h0 (by unfold qOp; simp only [h0]; exact h)
    refine upto_first h0 (noSelect_spec hsel) hs hc hn (by omega) (fun _ _ hL => seqB_ready hL.1) l.length done a inv (free_spec h0 hf) hr' hy ?_
    exact upto_lex hsel hs hc hn l (k + 1) _ _ (fun j hj => by have := hl (j + 1) (by simpa using hj); simpa [Nat.add_assoc, Nat.add_comm 1 j] using this) (by omega) (inv.set hr' (by omega)) hB hK
/-- a region that draws its order: the first n operations are quiet, the others follow in their order -/
theorem wp_region_qtail {id : Nat} {Q : Exit → Act → World → Prop} {a : Act} {w : World} {l : List Oper} (n : Nat) {wb : World} (hb : Bel wb w) (hm : P.follows .mixedOrders = true) (hB : lexTailB .any l.toArray n = true)
    (h : wpQuiet P l.toArray (fun w' => ∃ y : Ext wb, w' = y.w) (fun a' => ∀ w', (∃ y : Ext wb, w' = y.w) → wpList P l.toArray Q (l.drop n) a' w') (l.take n) a) : (Code.region id l.toArray true).wp P Q a w := by
  simp only [lexTailB, Bool.and_eq_true, decide_eq_true_eq] at hB
  obtain ⟨⟨⟨⟨hsel, hn⟩, hs⟩, hc⟩, hlex⟩ := hB
  have hn' : n < l.length := by simpa using hn
  have e1 : (l.take n).length = n := by simp; omega
  have e2 : (l.drop n).length = l.toArray.size - n := by simp
  have inv : HeadInv .any l.toArray n (Array.replicate l.toArray.size false) :=
    ⟨by simp, fun j oj _ hl => absurd hl (by rw [getD_replicate_false]; simp), fun t _ ht => getD_in (by simpa using ht) (getD_replicate_false _ _)⟩
  have H := upto_lex (md := .any) (g := l.toArray.size - n) hsel hs hc hn (l.take n) 0 _ a (fun j hj => by rw [e1] at hj; simp [hj]) (by simpa using e1) inv (by rw [e1]; exact hlex) h
  have G := upto_any (Q' := Q) (g := l.toArray.size - n) (fun done a' w' hw' hL => by
    have := wpAny_of_seq (md := .any) (Q' := Q) (l.drop n) n done a' w' (fun j => by simp [List.getElem?_drop]) (by rw [e2]; exact hL.1) (hL.2 w' hw')
    rwa [e2] at this) _ _ _ _ (ext_of hb.drew) H
  rw [e1, show n + (l.toArray.size - n) = l.toArray.size by omega] at G
  exact wp_region_any hm G
end
section
variable {P : Program} {md : Region.Mode} {ops : Array Oper} {C S : World → Prop} {n : Nat} {init : Array Bool}
/-- each of the first n operations, but those that are done, has one that waits for it, up to number n -/
def sinkI (md : Region.Mode) (ops : Array Oper) (init : Array Bool) (n : Nat) : Bool :=
  (List.range n).all fun i => init.getD i true || (List.range (n + 1)).any fun j => decide (i < j) && (j == n || !(init.getD j true)) && waitsFor md ops j i
/-- what is done grows -/
structure Grown (md : Region.Mode) (ops : Array Oper) (n : Nat) (init done : Array Bool) : Prop where
  inv : HeadInv md ops n done
  up : ∀ i, done.getD i true = false → init.getD i true = false
theorem Grown.set {i : Nat} {done : Array Bool} (g : Grown md ops n init done) (hi : i ∈ ready md ops done) (hin : i < n) : Grown md ops n init (done.setIfInBounds i true) :=
  ⟨g.inv.set hi hin, fun j hj => g.up j (by
    rcases Decidable.em (i = j) with rfl | h
    · rcases Nat.lt_or_ge i done.size with h | h
      · simp [h] at hj
      · simp [Array.getElem?_eq_none h] at hj
    · rwa [getD_set_ne true h] at hj)⟩
theorem tail_late {done : Array Bool} (hs : sinkI md ops init n = true) (hc : chainB md ops n = true) (hn : n < ops.size) (g : Grown md ops n init done) (d : Nat) :
    ∀ i, n - i ≤ d → i < n → done.getD i true = false → n ∉ ready md ops done := by
  induction d with
  | zero => intro i hd hi; omega
  | succ d ih =>
    intro i hd hi hun hr
    obtain ⟨_, on, hon, hall⟩ := mem_ready.1 hr
    have h1 := List.all_eq_true.1 hs i (List.mem_range.2 hi)
    rw [g.up i hun, Bool.false_or] at h1
    obtain ⟨j, hj, hj2⟩ := List.any_eq_true.1 h1
    simp only [Bool.and_eq_true, decide_eq_true_eq] at hj2
    obtain ⟨⟨hij, hjn⟩, hw⟩ := hj2
    obtain ⟨oj, hoj, e, he, hb, heq⟩ := waitsFor_spec hw
    rcases Decidable.em (j = n) with rfl | hjn'
    · obtain rfl : oj = on := Option.some.inj (hoj.symm.trans hon)
      have h2 := hall e he hb
      rw [heq, getD_both hun] at h2
      cases h2
    · have hjlt : j < n := by have := List.mem_range.1 hj; omega
      cases hl : done.getD j true with
      | false => exact ih j (by omega) hjlt hl hr
      | true =>
        have hjs : j < done.size := by rw [g.inv.size]; omega
        have h2 := g.inv.closed j oj hoj (by simp [hjs] at hl ⊢; exact hl) e he hb
        rw [heq, getD_both hun] at h2
        cases h2
theorem late_all {done : Array Bool} (hc : chainB md ops n = true) (inv : HeadInv md ops n done) (h : n ∉ ready md ops done) : ∀ t, n ≤ t → t ∉ ready md ops done := by
  intro t ht hr
  rcases Decidable.em (t = n) with rfl | htn
  · exact h hr
  · obtain ⟨_, ot, hot, hall⟩ := mem_ready.1 hr
    have htlt : t < ops.size := (Array.getElem?_eq_some_iff.1 hot).1
    have h1 := List.all_eq_true.1 hc t (List.mem_range.2 htlt)
    simp only [Bool.or_eq_true, decide_eq_true_eq] at h1
    obtain ⟨o', ho', e, he, hb, hon⟩ := waitsFor_spec (h1.resolve_left (by omega))
    obtain rfl : o' = ot := Option.some.inj (ho'.symm.trans hot)
    have h2 := hall e he hb
    rw [hon, getD_both (inv.tail (t - 1) (by omega) (by omega))] at h2
    cases h2
theorem upto_anyH {g : Nat} {L : Array Bool → Act → Prop} {Q' : Exit → Act → World → Prop} (hCS : ∀ w, C w → S w) (hL : ∀ done a w, C w → L done a → wpAnyH P md ops Q' S g done a w) (f : Nat) :
    ∀ (done : Array Bool) (a : Act) (w : World), C w → Upto P md ops C n L f done a → wpAnyH P md ops Q' S (f + g) done a w := by
  induction f with
  | zero => intro done a w hw h; rw [Nat.zero_add]; exact hL _ _ _ hw h
  | succ f ih =>
    intro done a w hw h
    rw [Nat.add_right_comm]
    exact wpAnyH_all rfl h.1 (fun i hi => wpOp_of_qOp hw (fun a' w' hw' h' => ⟨hCS _ hw', ih _ a' w' hw' h'⟩) (h.2 i hi).2)
theorem upto_first2 {i : Nat} {oi : Oper} {v : Value} {L : Array Bool → Act → Prop} (hi : ops[i]? = some oi) (hsel : ∀ (j : Nat) (o : Oper) cs b, ops[j]? = some o → o.op ≠ .select cs b)
    (hs : sinkI md ops init n = true) (hc : chainB md ops n = true) (hn : n < ops.size) (hin : i < n) (hL : ∀ done a, L done a → ∀ j ∈ ready md ops done, n ≤ j) (f : Nat) :
    ∀ (done : Array Bool) (a : Act), Grown md ops n init done → Apart md ops i oi done → i ∈ ready md ops done → YieldsIn P ops C oi v a →
      Upto P md ops C n L f (done.setIfInBounds i true) (a.put oi.dst v) → Upto P md ops C n L (f + 1) done a := by
  induction f with
  | zero =>
    intro done a inv _ hr hy H
    have early := late_all hc inv.inv (tail_late hs hc hn inv _ i (Nat.le_refl _) hin (mem_ready.1 hr).1)
    refine ⟨List.ne_nil_of_mem hr, fun j hj => ⟨Nat.lt_of_not_le fun h => early j h hj, ?_⟩⟩
    rcases Decidable.em (j = i) with rfl | hji
    · exact hy.qOp hi H
    · exact absurd (hL _ _ H j (ready_mono hj hji)) (fun h => early j h hj)
  | succ f ih =>
    intro done a inv hap hr hy H
    have early := late_all hc inv.inv (tail_late hs hc hn inv _ i (Nat.le_refl _) hin (mem_ready.1 hr).1)
    refine ⟨List.ne_nil_of_mem hr, fun j hj => ?_⟩
    have hjn : j < n := Nat.lt_of_not_le fun h => early j h hj
    refine ⟨hjn, ?_⟩
    rcases Decidable.em (j = i) with rfl | hji
    · exact hy.qOp hi H
    · obtain ⟨hju, oj, hoj, hall⟩ := mem_ready.1 hj
      have hno : ∀ e ∈ oj.after, binds md e = true → e.on ≠ i := fun e he hb heq => by
        have h1 := hall e he hb
        rw [heq, getD_both (mem_ready.1 hr).1] at h1
        cases h1
      have hstep := qOp_put hoj (hap j oj hoj hji hju hno) (fun cs b => hsel i oi cs b hi) (fun cs b => hsel j oj cs b hoj) hy (H.2 j (ready_mono hj hji)).2
      refine qOp_mono (fun a' h3 => ?_) hstep
      refine ih _ a' (inv.set hj hjn) (fun k ok hk hki hku => hap k ok hk hki ?_) (ready_mono hr (Ne.symm hji)) h3.1 (by rw [Array.setIfInBounds_comm _ _ hji]; exact h3.2)
      rcases Decidable.em (j = k) with rfl | hjk
      · exact hju
      · rwa [getD_set_ne true hjk] at hku
/-- the operations of these numbers, in this order -/
def opsOf (ops : Array Oper) (r : List Nat) : List Oper := r.filterMap fun i => ops[i]?
def lexI (md : Region.Mode) (ops : Array Oper) (n : Nat) : List Nat → Array Bool → Bool
  | [], done => (ready md ops done).all fun j => decide (n ≤ j)
  | k :: r, done => decide (k < n) && (ready md ops done).contains k && free md ops done k && lexI md ops n r (done.setIfInBounds k true)
theorem upto_lexI {K : Act → Prop} (hsel : noSelect ops = true) (hs : sinkI md ops init n = true) (hc : chainB md ops n = true) (hn : n < ops.size) :
    ∀ (r : List Nat) (done : Array Bool) (a : Act), Grown md ops n init done → lexI md ops n r done = true → wpQuiet P ops C K (opsOf ops r) a →
      Upto P md ops C n (fun done' a' => done' = r.foldl (fun d i => d.setIfInBounds i true) done ∧ (ready md ops done').all (fun j => decide (n ≤ j)) = true ∧ K a') r.length done a
  | [], done, a, _, hB, h => ⟨rfl, hB, h⟩
  | k :: r, done, a, inv, hB, h => by
    simp only [lexI, Bool.and_eq_true, decide_eq_true_eq] at hB
    obtain ⟨⟨⟨hkn, hr⟩, hf⟩, hB⟩ := hB
    have hr' : k ∈ ready md ops done := by simpa using hr
    obtain ⟨_, o, h0, _⟩ := mem_ready.1 hr'
    have e : opsOf ops (k :: r) = o :: opsOf ops r := by simp [opsOf, h0]
    rw [e] at h
    obtain ⟨v, hy, hK⟩ := yieldsIn_of_qOp (C := C) (K := wpQuiet P ops C K (opsOf ops r)) h0 (by unfold qOp; simp only [h0]; exact h)
    refine upto_first2 h0 (noSelect_spec hsel) hs hc hn hkn (fun _ _ hL j hj => by have := List.all_eq_true.1 hL.2.1 j hj; simpa using this) r.length done a inv (free_spec h0 hf) hr' hy ?_
    exact upto_lexI hsel hs hc hn r _ _ (inv.set hr' hkn) hB hK
/-- in the midst of a drawn region: the operations r are quiet, those from n on follow in their order -/
theorem anyH_quiet {Q : Exit → Act → World → Prop} {a : Act} {w wb : World} {l : List Oper} {done : Array Bool} {m g : Nat} (n : Nat) (r : List Nat) (hb : Bel wb w) (hCS : ∀ y : Ext wb, S y.w)
    (hI : decide (n < l.toArray.size) && noSelect l.toArray && sinkI .any l.toArray done n && chainB .any l.toArray n && lexI .any l.toArray n r done && decide (done.size = l.toArray.size)
      && ((List.range l.toArray.size).all fun j => !(done.getD j false) || (match l.toArray[j]? with | some o => o.after.all (fun e => !(binds .any e) || done.getD e.on false) | none => true))
      && ((List.range l.toArray.size).all fun t => decide (t < n) || !(done.getD t true)) = true)
    (hm : m = r.length + g)
    (h : wpQuiet P l.toArray (fun w' => ∃ y : Ext wb, w' = y.w) (fun a' => ∀ y : Ext wb, wpAnyH P .any l.toArray Q S g (r.foldl (fun d i => d.setIfInBounds i true) done) a' y.w) (opsOf l.toArray r) a) : wpAnyH P .any l.toArray Q S m done a w := by
  simp only [Bool.and_eq_true, decide_eq_true_eq] at hI
  obtain ⟨⟨⟨⟨⟨⟨⟨hn, hsel⟩, hs⟩, hc⟩, hlex⟩, hsz⟩, hcl⟩, htl⟩ := hI
  have inv : Grown .any l.toArray n done done := by
    refine ⟨⟨hsz, fun j oj hoj hl e he hb => ?_, fun t ht ht2 => ?_⟩, fun _ h => h⟩
    · have hj : j < l.toArray.size := (Array.getElem?_eq_some_iff.1 hoj).1
      have := List.all_eq_true.1 hcl j (List.mem_range.2 hj)
      rw [hl, hoj] at this
      simp only [Bool.not_true, Bool.false_or] at this
      have := Array.all_eq_true'.1 this e he
      rw [hb] at this
      simpa using this
    · have := List.all_eq_true.1 htl t (List.mem_range.2 ht2)
      simp only [Bool.or_eq_true, decide_eq_true_eq] at this
      simpa using this.resolve_left (by omega)
  have H := upto_lexI (md := .any) hsel hs hc hn r done a inv hlex h
  rw [hm]
  refine upto_anyH (C := fun w' => ∃ y : Ext wb, w' = y.w) (fun w hw => by obtain ⟨y, rfl⟩ := hw; exact hCS y) (fun d a' w' hw' hL => ?_) _ _ _ _ (ext_of hb) H
  obtain ⟨y, rfl⟩ := hw'
  rw [hL.1]
  exact hL.2.2 y
end
end Go.Proofs.Ythcdemmamggboaa
