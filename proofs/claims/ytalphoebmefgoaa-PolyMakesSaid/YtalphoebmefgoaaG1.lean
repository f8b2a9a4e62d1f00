import Derived.WalkKit
import Derived.WalkSpells
import Derived.WalkLawsBesides
import Derived.IntWalk
import Derived.Lib.Hide
import Derived.Deep.QuietTactic
import Derived.BigQuiet
import Derived.StillTail
import Derived.OrdersHeld
import Derived.Deep.RegionHeld3
import Derived.Deep.AppendLies
import Derived.Maps.AppendAt
import Derived.OwnWalk
import Derived.Laws.MakeOwn
import Derived.Laws.CopyOwn
import Derived.Laws.OwnMore
namespace Go.Proofs.Ytalphoebmefgoaa
open Go.RowKit

/-- a slice value reads as these ints -/
def IntsAt (w : World) (B : Nat) (v : Value) (l : List Int) : Prop :=
  ∃ A c, v = .slice A l.length c ∧ l.length ≤ c ∧ (0 < l.length → ∃ b off, A = some ⟨b, off, none⟩ ∧ b < B ∧ ∀ i, i < l.length → w.cell? ⟨b, off + i, none⟩ = some (.int .i64 (l.getD i 0)))

section
variable {w w' : World} {B B' : Nat} {v : Value}
def Keeps (B : Nat) (w w' : World) : Prop := ∀ b o, b < B → w'.cell? ⟨b, o, none⟩ = w.cell? ⟨b, o, none⟩
theorem keeps_below (h : Below B w w') : Keeps B w w' := fun b o hb => h.cell (p := ⟨b, o, none⟩) hb
theorem Keeps.refl : Keeps B w w := fun _ _ _ => rfl
theorem IntsAt.form {l : List Int} (h : IntsAt w B v l) : ∃ A c, v = .slice A l.length c ∧ l.length ≤ c := let ⟨A, c, e, hc, _⟩ := h; ⟨A, c, e, hc⟩
theorem IntsAt.at_ {A : Option Addr} {n c : Nat} {l : List Int} (h : IntsAt w B (.slice A n c) l) (h0 : 0 < l.length) : ∃ b off, A = some ⟨b, off, none⟩ ∧ b < B ∧ ∀ i, i < l.length → w.cell? ⟨b, off + i, none⟩ = some (.int .i64 (l.getD i 0)) := by
  obtain ⟨A', c', e, _, h⟩ := h
  injection e with e
  subst e
  exact h h0
theorem IntsAt.keep {l : List Int} (h : IntsAt w B v l) (hk : Keeps B w w') (hB : B ≤ B') : IntsAt w' B' v l := by
  obtain ⟨A, c, rfl, hc, h⟩ := h
  refine ⟨A, c, rfl, hc, fun h0 => ?_⟩
  obtain ⟨b, off, rfl, hb, h⟩ := h h0
  exact ⟨b, off, rfl, by omega, fun i hi => (hk _ _ hb).trans (h i hi)⟩
end

section
variable {w w' : World}
/-- nothing that was there before has changed -/
def Bel (w w' : World) : Prop := Below w.heap.size w w'
theorem Bel.refl : Bel w w := Below.refl _ _
theorem Bel.alloc (h : Bel w w') (o : Obj) : Bel w (w'.alloc o) := Below.alloc h h.size o
theorem Bel.drew (h : Bel w w') : Bel w w'.drew := Below.drew h
theorem Bel.drewN (h : Bel w w') (n : Nat) : Bel w (w'.drewN n) := ⟨h.os, h.tape, h.output, h.size, h.block⟩
theorem Bel.set (h : Bel w w') {p : Addr} (hp : w.heap.size ≤ p.block) (u : Value) : Bel w (w'.setCell p u) := Below.setCell h hp u
theorem Bel.trans {w'' : World} (h : Bel w w') (k : Bel w' w'') : Bel w w'' := Below.trans h (Below.mono k h.size)
theorem Bel.after {w'' : World} (k : Bel w' w'') (h : Bel w w') : Bel w w'' := h.trans k
theorem Bel.keeps (h : Bel w w') : Keeps w.heap.size w w' := keeps_below h
theorem Bel.cells (h : Bel w w') : ∀ b o, b < w.heap.size → w'.cell? ⟨b, o, none⟩ = w.cell? ⟨b, o, none⟩ := keeps_below h
theorem Bel.le (h : Bel w w') : w.heap.size ≤ w'.heap.size := h.size
end
/-- a world in which nothing that is in wb has changed -/
def Ext (wb : World) : Type := { w : World // Bel wb w }
section
variable {wb : World}
instance extSome : Nonempty (Ext wb) := ⟨⟨wb, Bel.refl⟩⟩
def Ext.w (x : Ext wb) : World := x.1
theorem Ext.bel (x : Ext wb) : Bel wb x.w := x.2
@[go_sem] theorem ext_cells (x : Ext wb) (b o : Nat) (h : b < wb.heap.size) : x.w.cell? ⟨b, o, none⟩ = wb.cell? ⟨b, o, none⟩ := x.2.cells b o h
@[go_sem] theorem ext_frozen (x : Ext wb) (b o : Nat) (h : b < wb.heap.size) : x.w.frozen? ⟨b, o, none⟩ = wb.frozen? ⟨b, o, none⟩ := Below.frozen (p := ⟨b, o, none⟩) x.2 h
@[go_sem] theorem ext_lt (x : Ext wb) {b : Nat} (h : b < wb.heap.size) : b < x.w.heap.size := Nat.lt_of_lt_of_le h x.2.size
theorem ext_of {w : World} (h : Bel wb w) : ∃ y : Ext wb, w = y.w := ⟨⟨w, h⟩, rfl⟩
theorem ext_call {P : Program} {f : FuncId} {args : Array Value} {x : Ext wb} {v : Value} (h : Calls P f args x.w fun e w' => e = .returned v ∧ Bel x.w w') :
    Calls P f args x.w fun e w'' => e = .returned v ∧ ∃ y : Ext wb, w'' = y.w := h.mono fun _ _ ⟨he, hb⟩ => ⟨he, ext_of (x.bel.trans hb)⟩
theorem wp_region_ext {P : Program} {id : Nat} {Q : Exit → Act → World → Prop} {a : Act} {w : World} {l : List Oper} (hb : Bel wb w) (hm : P.follows .mixedOrders = true) (hB : Region.lexB .any l.toArray = true)
    (h : wpQuiet P l.toArray (fun w' => ∃ y : Ext wb, w' = y.w) (fun a' => ∀ w', (∃ y : Ext wb, w' = y.w) → Q .normal a' w') l a) : (Code.region id l.toArray true).wp P Q a w :=
  wp_region_quiet (C := fun w' => ∃ y : Ext wb, w' = y.w) hm hB (ext_of hb.drew) (by simpa using h)
end
theorem ret_bool {a b : Bool} (h : a = b) : Ending.returned (.bool a) = .returned (.bool b) := by rw [h]
theorem ret_int {k : IntKind} {a b : Int} (h : a = b) : Ending.returned (.int k a) = .returned (.int k b) := by rw [h]
section
variable {P : Program} {ops : Array Oper} {C : World → Prop} {Q : Act → Prop} {Q' : Exit → Act → World → Prop}
theorem wpList_of_quiet (hQ : ∀ a w, C w → Q a → Q' .normal a w) : ∀ (l : List Oper) (a : Act) (w : World), C w → wpQuiet P ops C Q l a → wpList P ops Q' l a w
  | [], _, _, hw, h => hQ _ _ hw h
  | o :: rest, a, w, hw, h => by
    unfold wpList
    unfold wpQuiet at h
    by_cases hx : Region.wanted o (yielded ops a.tmps) = true
    · rw [if_pos hx] at h ⊢
      exact .inl (Oper.wp_of_quiet hw (fun a' w' hw' ha => wpList_of_quiet hQ rest a' w' hw' ha) h)
    · rw [if_neg hx] at h ⊢
      exact wpList_of_quiet hQ rest _ _ hw h
/-- a region in the text's order that makes no memory that it looks at -/
theorem wp_region_extp {wb : World} {id : Nat} {a : Act} {w : World} {l : List Oper} (hb : Bel wb w)
    (h : wpQuiet P l.toArray (fun w' => ∃ y : Ext wb, w' = y.w) (fun a' => ∀ w', (∃ y : Ext wb, w' = y.w) → Q' .normal a' w') l a) : (Code.region id l.toArray false).wp P Q' a w :=
  wp_region_lit (wpList_of_quiet (Q := fun a' => ∀ w', (∃ y : Ext wb, w' = y.w) → Q' .normal a' w') (fun _ w' hw' h => h w' hw') l a w (ext_of hb) h)
/-- a region's list is cut behind n operations -/
theorem wpQuiet_cut_aux {Q R : Act → Prop} {l2 : List Oper} (h2 : ∀ a', R a' → wpQuiet P ops C Q l2 a') : ∀ (l1 : List Oper) (a : Act), wpQuiet P ops C R l1 a → wpQuiet P ops C Q (l1 ++ l2) a
  | [], a, h => h2 a h
  | o :: l1, a, h => by
    show wpQuiet P ops C Q (o :: (l1 ++ l2)) a
    unfold wpQuiet at h ⊢
    by_cases hx : Region.wanted o (yielded ops a.tmps) = true
    · rw [if_pos hx] at h ⊢
      obtain ⟨v, hv, hn⟩ := h
      exact ⟨v, hv, wpQuiet_cut_aux h2 l1 _ hn⟩
    · rw [if_neg hx] at h ⊢
      exact wpQuiet_cut_aux h2 l1 _ h
theorem wpQuiet_cut {Q : Act → Prop} {l : List Oper} {a : Act} (n : Nat) (R : Act → Act → Prop) (h1 : wpQuiet P ops C (R a) (l.take n) a) (h2 : ∀ a', R a a' → wpQuiet P ops C Q (l.drop n) a') : wpQuiet P ops C Q l a := by
  have := wpQuiet_cut_aux h2 (l.take n) a h1
  rwa [List.take_append_drop] at this
end
/-- a number that an int64 can hold -/
def i64 (a : Int) : Prop := -9223372036854775808 ≤ a ∧ a ≤ 9223372036854775807
/-- a number that a uint64 can hold -/
def u64 (a : Int) : Prop := 0 ≤ a ∧ a ≤ 18446744073709551615
theorem wrap_small (a : Int) (h1 : -9223372036854775808 ≤ a) (h2 : a ≤ 9223372036854775807) : wrap64 a = a := by unfold wrap64; omega
theorem i64_lit {n : Int} (h : i64 n) : (Lit.int .i64 n).wf = true := by
  obtain ⟨h1, h2⟩ := h
  have e1 : IntKind.i64.min = -9223372036854775808 := by decide
  have e2 : IntKind.i64.max = 9223372036854775807 := by decide
  simp only [Lit.wf, e1, e2, Bool.and_eq_true, decide_eq_true_eq]
  omega
end Go.Proofs.Ytalphoebmefgoaa
namespace Go.Proofs.Ytalphoebmefgoaa
open Go Region
section
variable {P : Program} {md : Region.Mode} {ops : Array Oper} {C : World → Prop} {n : Nat}
/-- whatever order is drawn for the first n operations, L holds behind them -/
def Upto (P : Program) (md : Region.Mode) (ops : Array Oper) (C : World → Prop) (n : Nat) (L : Array Bool → Act → Prop) : Nat → Array Bool → Act → Prop
  | 0, done, a => L done a
  | f + 1, done, a => ready md ops done ≠ [] ∧ ∀ i ∈ ready md ops done, i < n ∧ qOp P ops C i (Upto P md ops C n L f (done.setIfInBounds i true)) a
theorem upto_any {g : Nat} {L : Array Bool → Act → Prop} {Q' : Exit → Act → World → Prop} (hL : ∀ done a w, C w → L done a → wpAny P md ops Q' g done a w) (f : Nat) :
    ∀ (done : Array Bool) (a : Act) (w : World), C w → Upto P md ops C n L f done a → wpAny P md ops Q' (f + g) done a w := by
  induction f with
  | zero => intro done a w hw h; rw [Nat.zero_add]; exact hL _ _ _ hw h
  | succ f ih =>
    intro done a w hw h
    rw [Nat.add_right_comm]
    exact ⟨fun e => (h.1 e).elim, fun i hi => wpOp_of_qOp hw (fun a' w' hw' h' => ih _ a' w' hw' h') (h.2 i hi).2⟩
/-- what other operations have to do with operation i: they wait for it or are apart from it -/
def Apart (md : Region.Mode) (ops : Array Oper) (i : Nat) (oi : Oper) (done : Array Bool) : Prop :=
  ∀ j oj, ops[j]? = some oj → j ≠ i → done.getD j true = false → (∀ e ∈ oj.after, binds md e = true → e.on ≠ i) → oi.apart ops oj = true
theorem upto_first {i : Nat} {oi : Oper} {v : Value} {L : Array Bool → Act → Prop} (hi : ops[i]? = some oi) (hsel : ∀ (j : Nat) (o : Oper) cs b, ops[j]? = some o → o.op ≠ .select cs b)
    (hs : sinkB md ops n = true) (hc : chainB md ops n = true) (hn : n < ops.size) (hin : i < n) (hL : ∀ done a, L done a → ∀ j ∈ ready md ops done, n ≤ j) (f : Nat) :
    ∀ (done : Array Bool) (a : Act), HeadInv md ops n done → Apart md ops i oi done → i ∈ ready md ops done → YieldsIn P ops C oi v a →
      Upto P md ops C n L f (done.setIfInBounds i true) (a.put oi.dst v) → Upto P md ops C n L (f + 1) done a := by
  induction f with
  | zero =>
    intro done a inv _ hr hy H
    have early := tail_waits hs hc hn inv _ i rfl hin (mem_ready.1 hr).1
    refine ⟨List.ne_nil_of_mem hr, fun j hj => ⟨Nat.lt_of_not_le fun h => early j h hj, ?_⟩⟩
    rcases Decidable.em (j = i) with rfl | hji
    · exact hy.qOp hi H
    · exact absurd (hL _ _ H j (ready_mono hj hji)) (fun h => early j h hj)
  | succ f ih =>
    intro done a inv hap hr hy H
    have early := tail_waits hs hc hn inv _ i rfl hin (mem_ready.1 hr).1
    refine ⟨List.ne_nil_of_mem hr, fun j hj => ?_⟩
    have hjn : j < n := Nat.lt_of_not_le fun h => early j h hj
    refine ⟨hjn, ?_⟩
    rcases Decidable.em (j = i) with rfl | hji
    · exact hy.qOp hi H
    · obtain ⟨hju, oj, hoj, hall⟩ := mem_ready.1 hj
      have hno : ∀ e ∈ oj.after, binds md e = true → e.on ≠ i := fun e he hb heq => by
        have h1 := hall e he hb
        rw [heq, getD_both (mem_ready.1 hr).1] at h1
        cases h1
      have hstep := qOp_put hoj (hap j oj hoj hji hju hno) (fun cs b => hsel i oi cs b hi) (fun cs b => hsel j oj cs b hoj) hy (H.2 j (ready_mono hj hji)).2
      refine qOp_mono (fun a' h3 => ?_) hstep
      refine ih _ a' (inv.set hj hjn) (fun k ok hk hki hku => hap k ok hk hki ?_) (ready_mono hr (Ne.symm hji)) h3.1 (by rw [Array.setIfInBounds_comm _ _ hji]; exact h3.2)
      rcases Decidable.em (j = k) with rfl | hjk
      · exact hju
      · rwa [getD_set_ne true hjk] at hku
theorem upto_lex {g : Nat} {K : Act → Prop} (hsel : noSelect ops = true) (hs : sinkB md ops n = true) (hc : chainB md ops n = true) (hn : n < ops.size) :
    ∀ (l : List Oper) (k : Nat) (done : Array Bool) (a : Act), (∀ j, j < l.length → l[j]? = ops[k + j]?) → k + l.length = n → HeadInv md ops n done → lexHead md ops g l.length k done = true → wpQuiet P ops C K l a →
      Upto P md ops C n (fun done' a' => seqB md ops g n done' = true ∧ K a') l.length done a
  | [], k, done, a, _, hk, _, hB, h => by
    obtain rfl : k = n := by simpa using hk
    exact ⟨by simpa [lexHead] using hB, h⟩
  | o :: l, k, done, a, hl, hk, inv, hB, h => by
    have h0 : ops[k]? = some o := by simpa using (hl 0 (by simp)).symm
    simp only [List.length_cons, lexHead, Bool.and_eq_true] at hB
    obtain ⟨⟨hr, hf⟩, hB⟩ := hB
    simp only [List.length_cons] at hk
    have hr' : k ∈ ready md ops done := by simpa using hr
    obtain ⟨v, hy, hK⟩ := yieldsIn_of_qOp (C := C) (K := wpQuiet P ops C K l) h0 (by unfold qOp; simp only [h0]; exact h)
    refine upto_first h0 (noSelect_spec hsel) hs hc hn (by omega) (fun _ _ hL => seqB_ready hL.1) l.length done a inv (free_spec h0 hf) hr' hy ?_
    exact upto_lex hsel hs hc hn l (k + 1) _ _ (fun j hj => by have := hl (j + 1) (by simpa using hj); simpa [Nat.add_assoc, Nat.add_comm 1 j] using this) (by omega) (inv.set hr' (by omega)) hB hK
/-- a region that draws its order: the first n operations are quiet, the others follow in their order -/
theorem wp_region_qtail {id : Nat} {Q : Exit → Act → World → Prop} {a : Act} {w : World} {l : List Oper} (n : Nat) {wb : World} (hb : Bel wb w) (hm : P.follows .mixedOrders = true) (hB : lexTailB .any l.toArray n = true)
    (h : wpQuiet P l.toArray (fun w' => ∃ y : Ext wb, w' = y.w) (fun a' => ∀ w', (∃ y : Ext wb, w' = y.w) → wpList P l.toArray Q (l.drop n) a' w') (l.take n) a) : (Code.region id l.toArray true).wp P Q a w := by
  simp only [lexTailB, Bool.and_eq_true, decide_eq_true_eq] at hB
  obtain ⟨⟨⟨⟨hsel, hn⟩, hs⟩, hc⟩, hlex⟩ := hB
  have hn' : n < l.length := by simpa using hn
  have e1 : (l.take n).length = n := by simp; omega
  have e2 : (l.drop n).length = l.toArray.size - n := by simp
  have inv : HeadInv .any l.toArray n (Array.replicate l.toArray.size false) :=
    ⟨by simp, fun j oj _ hl => absurd hl (by rw [getD_replicate_false]; simp), fun t _ ht => getD_in (by simpa using ht) (getD_replicate_false _ _)⟩
  have H := upto_lex (md := .any) (g := l.toArray.size - n) hsel hs hc hn (l.take n) 0 _ a (fun j hj => by rw [e1] at hj; simp [hj]) (by simpa using e1) inv (by rw [e1]; exact hlex) h
  have G := upto_any (Q' := Q) (g := l.toArray.size - n) (fun done a' w' hw' hL => by
    have := wpAny_of_seq (md := .any) (Q' := Q) (l.drop n) n done a' w' (fun j => by simp [List.getElem?_drop]) (by rw [e2]; exact hL.1) (hL.2 w' hw')
    rwa [e2] at this) _ _ _ _ (ext_of hb.drew) H
  rw [e1, show n + (l.toArray.size - n) = l.toArray.size by omega] at G
  exact wp_region_any hm G
end
section
variable {P : Program} {md : Region.Mode} {ops : Array Oper} {C S : World → Prop} {n : Nat} {init : Array Bool}
/-- each of the first n operations, but those that are done, has one that waits for it, up to number n -/
def sinkI (md : Region.Mode) (ops : Array Oper) (init : Array Bool) (n : Nat) : Bool :=
  (List.range n).all fun i => init.getD i true || (List.range (n + 1)).any fun j => decide (i < j) && (j == n || !(init.getD j true)) && waitsFor md ops j i
/-- what is done grows -/
structure Grown (md : Region.Mode) (ops : Array Oper) (n : Nat) (init done : Array Bool) : Prop where
  inv : HeadInv md ops n done
  up : ∀ i, done.getD i true = false → init.getD i true = false
theorem Grown.set {i : Nat} {done : Array Bool} (g : Grown md ops n init done) (hi : i ∈ ready md ops done) (hin : i < n) : Grown md ops n init (done.setIfInBounds i true) :=
  ⟨g.inv.set hi hin, fun j hj => g.up j (by
    rcases Decidable.em (i = j) with rfl | h
    · rcases Nat.lt_or_ge i done.size with h | h
      · simp [h] at hj
      · simp at hj
    · rwa [getD_set_ne true h] at hj)⟩
theorem tail_late {done : Array Bool} (hs : sinkI md ops init n = true) (hc : chainB md ops n = true) (hn : n < ops.size) (g : Grown md ops n init done) (d : Nat) :
    ∀ i, n - i ≤ d → i < n → done.getD i true = false → n ∉ ready md ops done := by
  induction d with
  | zero => intro i hd hi; omega
  | succ d ih =>
    intro i hd hi hun hr
    obtain ⟨_, on, hon, hall⟩ := mem_ready.1 hr
    have h1 := List.all_eq_true.1 hs i (List.mem_range.2 hi)
    rw [g.up i hun, Bool.false_or] at h1
    obtain ⟨j, hj, hj2⟩ := List.any_eq_true.1 h1
    simp only [Bool.and_eq_true, decide_eq_true_eq] at hj2
    obtain ⟨⟨hij, hjn⟩, hw⟩ := hj2
    obtain ⟨oj, hoj, e, he, hb, heq⟩ := waitsFor_spec hw
    rcases Decidable.em (j = n) with rfl | hjn'
    · obtain rfl : oj = on := Option.some.inj (hoj.symm.trans hon)
      have h2 := hall e he hb
      rw [heq, getD_both hun] at h2
      cases h2
    · have hjlt : j < n := by have := List.mem_range.1 hj; omega
      cases hl : done.getD j true with
      | false => exact ih j (by omega) hjlt hl hr
      | true =>
        have hjs : j < done.size := by rw [g.inv.size]; omega
        have h2 := g.inv.closed j oj hoj (by simp [hjs] at hl ⊢; exact hl) e he hb
        rw [heq, getD_both hun] at h2
        cases h2
theorem late_all {done : Array Bool} (hc : chainB md ops n = true) (inv : HeadInv md ops n done) (h : n ∉ ready md ops done) : ∀ t, n ≤ t → t ∉ ready md ops done := by
  intro t ht hr
  rcases Decidable.em (t = n) with rfl | htn
  · exact h hr
  · obtain ⟨_, ot, hot, hall⟩ := mem_ready.1 hr
    have htlt : t < ops.size := (Array.getElem?_eq_some_iff.1 hot).1
    have h1 := List.all_eq_true.1 hc t (List.mem_range.2 htlt)
    simp only [Bool.or_eq_true, decide_eq_true_eq] at h1
    obtain ⟨o', ho', e, he, hb, hon⟩ := waitsFor_spec (h1.resolve_left (by omega))
    obtain rfl : o' = ot := Option.some.inj (ho'.symm.trans hot)
    have h2 := hall e he hb
    rw [hon, getD_both (inv.tail (t - 1) (by omega) (by omega))] at h2
    cases h2
theorem upto_anyH {g : Nat} {L : Array Bool → Act → Prop} {Q' : Exit → Act → World → Prop} (hCS : ∀ w, C w → S w) (hL : ∀ done a w, C w → L done a → wpAnyH P md ops Q' S g done a w) (f : Nat) :
    ∀ (done : Array Bool) (a : Act) (w : World), C w → Upto P md ops C n L f done a → wpAnyH P md ops Q' S (f + g) done a w := by
  induction f with
  | zero => intro done a w hw h; rw [Nat.zero_add]; exact hL _ _ _ hw h
  | succ f ih =>
    intro done a w hw h
    rw [Nat.add_right_comm]
    exact wpAnyH_all rfl h.1 (fun i hi => wpOp_of_qOp hw (fun a' w' hw' h' => ⟨hCS _ hw', ih _ a' w' hw' h'⟩) (h.2 i hi).2)
theorem upto_first2 {i : Nat} {oi : Oper} {v : Value} {L : Array Bool → Act → Prop} (hi : ops[i]? = some oi) (hsel : ∀ (j : Nat) (o : Oper) cs b, ops[j]? = some o → o.op ≠ .select cs b)
    (hs : sinkI md ops init n = true) (hc : chainB md ops n = true) (hn : n < ops.size) (hin : i < n) (hL : ∀ done a, L done a → ∀ j ∈ ready md ops done, n ≤ j) (f : Nat) :
    ∀ (done : Array Bool) (a : Act), Grown md ops n init done → Apart md ops i oi done → i ∈ ready md ops done → YieldsIn P ops C oi v a →
      Upto P md ops C n L f (done.setIfInBounds i true) (a.put oi.dst v) → Upto P md ops C n L (f + 1) done a := by
  induction f with
  | zero =>
    intro done a inv _ hr hy H
    have early := late_all hc inv.inv (tail_late hs hc hn inv _ i (Nat.le_refl _) hin (mem_ready.1 hr).1)
    refine ⟨List.ne_nil_of_mem hr, fun j hj => ⟨Nat.lt_of_not_le fun h => early j h hj, ?_⟩⟩
    rcases Decidable.em (j = i) with rfl | hji
    · exact hy.qOp hi H
    · exact absurd (hL _ _ H j (ready_mono hj hji)) (fun h => early j h hj)
  | succ f ih =>
    intro done a inv hap hr hy H
    have early := late_all hc inv.inv (tail_late hs hc hn inv _ i (Nat.le_refl _) hin (mem_ready.1 hr).1)
    refine ⟨List.ne_nil_of_mem hr, fun j hj => ?_⟩
    have hjn : j < n := Nat.lt_of_not_le fun h => early j h hj
    refine ⟨hjn, ?_⟩
    rcases Decidable.em (j = i) with rfl | hji
    · exact hy.qOp hi H
    · obtain ⟨hju, oj, hoj, hall⟩ := mem_ready.1 hj
      have hno : ∀ e ∈ oj.after, binds md e = true → e.on ≠ i := fun e he hb heq => by
        have h1 := hall e he hb
        rw [heq, getD_both (mem_ready.1 hr).1] at h1
        cases h1
      have hstep := qOp_put hoj (hap j oj hoj hji hju hno) (fun cs b => hsel i oi cs b hi) (fun cs b => hsel j oj cs b hoj) hy (H.2 j (ready_mono hj hji)).2
      refine qOp_mono (fun a' h3 => ?_) hstep
      refine ih _ a' (inv.set hj hjn) (fun k ok hk hki hku => hap k ok hk hki ?_) (ready_mono hr (Ne.symm hji)) h3.1 (by rw [Array.setIfInBounds_comm _ _ hji]; exact h3.2)
      rcases Decidable.em (j = k) with rfl | hjk
      · exact hju
      · rwa [getD_set_ne true hjk] at hku
/-- the operations of these numbers, in this order -/
def opsOf (ops : Array Oper) (r : List Nat) : List Oper := r.filterMap fun i => ops[i]?
def lexI (md : Region.Mode) (ops : Array Oper) (n : Nat) : List Nat → Array Bool → Bool
  | [], done => (ready md ops done).all fun j => decide (n ≤ j)
  | k :: r, done => decide (k < n) && (ready md ops done).contains k && free md ops done k && lexI md ops n r (done.setIfInBounds k true)
theorem upto_lexI {K : Act → Prop} (hsel : noSelect ops = true) (hs : sinkI md ops init n = true) (hc : chainB md ops n = true) (hn : n < ops.size) :
    ∀ (r : List Nat) (done : Array Bool) (a : Act), Grown md ops n init done → lexI md ops n r done = true → wpQuiet P ops C K (opsOf ops r) a →
      Upto P md ops C n (fun done' a' => done' = r.foldl (fun d i => d.setIfInBounds i true) done ∧ (ready md ops done').all (fun j => decide (n ≤ j)) = true ∧ K a') r.length done a
  | [], done, a, _, hB, h => ⟨rfl, hB, h⟩
  | k :: r, done, a, inv, hB, h => by
    simp only [lexI, Bool.and_eq_true, decide_eq_true_eq] at hB
    obtain ⟨⟨⟨hkn, hr⟩, hf⟩, hB⟩ := hB
    have hr' : k ∈ ready md ops done := by simpa using hr
    obtain ⟨_, o, h0, _⟩ := mem_ready.1 hr'
    have e : opsOf ops (k :: r) = o :: opsOf ops r := by simp [opsOf, h0]
    rw [e] at h
    obtain ⟨v, hy, hK⟩ := yieldsIn_of_qOp (C := C) (K := wpQuiet P ops C K (opsOf ops r)) h0 (by unfold qOp; simp only [h0]; exact h)
    refine upto_first2 h0 (noSelect_spec hsel) hs hc hn hkn (fun _ _ hL j hj => by have := List.all_eq_true.1 hL.2.1 j hj; simpa using this) r.length done a inv (free_spec h0 hf) hr' hy ?_
    exact upto_lexI hsel hs hc hn r _ _ (inv.set hr' hkn) hB hK
/-- in the midst of a drawn region: the operations r are quiet, those from n on follow in their order -/
theorem anyH_quiet {Q : Exit → Act → World → Prop} {a : Act} {w wb : World} {l : List Oper} {done : Array Bool} {m g : Nat} (n : Nat) (r : List Nat) (hb : Bel wb w) (hCS : ∀ y : Ext wb, S y.w)
    (hI : decide (n < l.toArray.size) && noSelect l.toArray && sinkI .any l.toArray done n && chainB .any l.toArray n && lexI .any l.toArray n r done && decide (done.size = l.toArray.size)
      && ((List.range l.toArray.size).all fun j => !(done.getD j false) || (match l.toArray[j]? with | some o => o.after.all (fun e => !(binds .any e) || done.getD e.on false) | none => true))
      && ((List.range l.toArray.size).all fun t => decide (t < n) || !(done.getD t true)) = true)
    (hm : m = r.length + g)
    (h : wpQuiet P l.toArray (fun w' => ∃ y : Ext wb, w' = y.w) (fun a' => ∀ y : Ext wb, wpAnyH P .any l.toArray Q S g (r.foldl (fun d i => d.setIfInBounds i true) done) a' y.w) (opsOf l.toArray r) a) : wpAnyH P .any l.toArray Q S m done a w := by
  simp only [Bool.and_eq_true, decide_eq_true_eq] at hI
  obtain ⟨⟨⟨⟨⟨⟨⟨hn, hsel⟩, hs⟩, hc⟩, hlex⟩, hsz⟩, hcl⟩, htl⟩ := hI
  have inv : Grown .any l.toArray n done done := by
    refine ⟨⟨hsz, fun j oj hoj hl e he hb => ?_, fun t ht ht2 => ?_⟩, fun _ h => h⟩
    · have hj : j < l.toArray.size := (Array.getElem?_eq_some_iff.1 hoj).1
      have := List.all_eq_true.1 hcl j (List.mem_range.2 hj)
      rw [hl, hoj] at this
      simp only [Bool.not_true, Bool.false_or] at this
      have := Array.all_eq_true'.1 this e he
      rw [hb] at this
      simpa using this
    · have := List.all_eq_true.1 htl t (List.mem_range.2 ht2)
      simp only [Bool.or_eq_true, decide_eq_true_eq] at this
      simpa using this.resolve_left (by omega)
  have H := upto_lexI (md := .any) hsel hs hc hn r done a inv hlex h
  rw [hm]
  refine upto_anyH (C := fun w' => ∃ y : Ext wb, w' = y.w) (fun w hw => by obtain ⟨y, rfl⟩ := hw; exact hCS y) (fun d a' w' hw' hL => ?_) _ _ _ _ (ext_of hb) H
  obtain ⟨y, rfl⟩ := hw'
  rw [hL.1]
  exact hL.2.2 y
end
end Go.Proofs.Ytalphoebmefgoaa
/- any seat: a drawn region with reads, allocations and appends whose last operation stores. -/
namespace Go.Proofs.Ytalphoebmefgoaa
open Go Region Go.RowKit
section
variable {P : Program} {md : Region.Mode} {ops : Array Oper} {S : World → Prop} {n : Nat} {init : Array Bool} {Q : Exit → Act → World → Prop}
/-- an operation that yields a value or fails -/
def pureOp (o : Oper) : Bool :=
  match o.op with
  | .move _ | .assign _ | .pick .. | .build .. | .load .. | .binOp .. | .unOp .. | .slice .. | .fieldAddr .. | .field .. | .indexAddr .. | .index .. | .extract .. | .nilCheck _ => true
  | .call c => match c.callee with | .builtin .len | .builtin .cap => true | _ => false
  | _ => false
theorem run_val {s : Sem Value} {w w' : World} {n : Next} (h : (do pure (Next.value (← s)) : Sem Next).run P w = .ok n w') : ∃ u, n = .value u := by
  rw [Sem.run_bind] at h
  cases hs : s.run P w with
  | ok u w1 =>
    rw [hs, Result.andThen_ok, Sem.run_pure] at h
    injection h with h _
    exact ⟨u, h.symm⟩
  | halt x w1 => rw [hs] at h; simp [Result.andThen] at h
theorem pureOp_value {o : Oper} (hp : pureOp o = true) {ρ : Operand → Value} {w w' : World} {n : Next} (h : (execOp ρ o).run P w = .ok n w') : ∃ u, n = .value u := by
  unfold execOp at h
  unfold pureOp at hp
  split at hp <;> rename_i hop <;> simp only [hop] at h
  · rw [Sem.run_pure] at h; injection h with h _; exact ⟨_, h.symm⟩
  · rw [Sem.run_pure] at h; injection h with h _; exact ⟨_, h.symm⟩
  · rename_i c x y
    rw [Sem.run_bind] at h
    cases hs : (asBool (ρ c)).run P w with
    | ok u w1 =>
      rw [hs, Result.andThen_ok] at h
      cases u <;> simp only [Bool.false_eq_true, if_true, if_false, Sem.run_pure] at h <;> (injection h with h _; exact ⟨_, h.symm⟩)
    | halt x w1 => rw [hs] at h; simp [Result.andThen] at h
  · exact run_val h
  · exact run_val h
  · exact run_val h
  · exact run_val h
  · exact run_val h
  · exact run_val h
  · exact run_val h
  · exact run_val h
  · exact run_val h
  · exact run_val h
  · rename_i x
    split at h
    · simp [runtimePanic] at h
    · simp [runtimePanic] at h
    · simp [runtimePanic] at h
    · split at h
      · simp [runtimePanic] at h
      · rename_i nm _ _ _ _ ty vv _
        rw [Sem.run_bind] at h
        cases hs : (program : Sem Program).run P w with
        | ok p w1 =>
          rw [hs, Result.andThen_ok, Sem.run_bind] at h
          cases hs2 : (nilAhead (p.types.size + Made.depth) ty vv nm).run P w1 with
          | ok q w2 =>
            rw [hs2, Result.andThen_ok] at h
            split at h
            · rw [Sem.run_bind] at h; simp [unsupported] at h
            · rw [Sem.run_pure] at h; injection h with h _; exact ⟨_, h.symm⟩
          | halt y w2 => rw [hs2] at h; simp [Result.andThen] at h
        | halt y w1 => rw [hs] at h; simp [Result.andThen] at h
      · rw [Sem.run_pure] at h; injection h with h _; exact ⟨_, h.symm⟩
    · rw [Sem.run_pure] at h; injection h with h _; exact ⟨_, h.symm⟩
  · rename_i c
    split at hp
    · rename_i hc
      simp only [resolve, hc, Sem.run_bind, Sem.run_pure, Result.andThen_ok, invoke, builtin] at h
      exact run_val (P := P) (by rw [Sem.run_bind]; exact h)
    · rename_i hc
      simp only [resolve, hc, Sem.run_bind, Sem.run_pure, Result.andThen_ok, invoke, builtin] at h
      exact run_val (P := P) (by rw [Sem.run_bind]; exact h)
    · cases hp
  · cases hp
theorem quietAt_yields {o : Oper} {a : Act} {w : World} {v : Value} (hp : pureOp o = true) (h : o.quietAt P a S w v) : (execOp a.eval o).run P w = .ok (.value v) w := by
  unfold Oper.quietAt at h
  cases hr : (execOp a.eval o).run P w with
  | ok n w' =>
    obtain ⟨u, rfl⟩ := pureOp_value hp hr
    rw [hr] at h
    obtain ⟨rfl, rfl⟩ := h
    rfl
  | halt x w' => rw [hr] at h; exact h.elim
theorem yieldsIf_of {o : Oper} {v : Value} {a : Act} (hp : pureOp o = true) (h : YieldsIn P ops S o v a) : YieldsIf P ops S o v a :=
  h.imp (fun ⟨hw, hv⟩ => ⟨hw, fun w hS => quietAt_yields hp (hv w hS)⟩) id
/-- whatever order is drawn from here on; S holds behind each operation but those from number n on -/
def wpAnyE (P : Program) (md : Region.Mode) (ops : Array Oper) (Q : Exit → Act → World → Prop) (S : World → Prop) (n : Nat) : Nat → Array Bool → Act → World → Prop
  | 0, done, a, w => ready md ops done = [] ∧ Q .normal a w
  | f + 1, done, a, w =>
    (ready md ops done = [] → Q .normal a w) ∧
    ∀ i ∈ ready md ops done, wpOp P ops Q i (fun a' w' => (i < n → S w') ∧ wpAnyE P md ops Q S n f (done.setIfInBounds i true) a' w') a w
theorem wpAny_of_anyE : ∀ (f : Nat) (done : Array Bool) (a : Act) (w : World), wpAnyE P md ops Q S n f done a w → wpAny P md ops Q f done a w
  | 0, _, _, _, h => h
  | f + 1, _, _, _, h => ⟨h.1, fun i hi => wpOp_mono (fun a' w' h' => wpAny_of_anyE f _ a' w' h'.2) (h.2 i hi)⟩
theorem anyE_first {i : Nat} {oi : Oper} {v : Value} (hi : ops[i]? = some oi) (hsel : ∀ (j : Nat) (o : Oper) cs b, ops[j]? = some o → o.op ≠ .select cs b)
    (hQ : ∀ c a d v w, Q (.panic c) (a.put d v) w → Q (.panic c) a w) (hs : sinkI md ops init n = true) (hc : chainB md ops n = true) (hn : n < ops.size) (hin : i < n) (f : Nat) :
    ∀ (done : Array Bool) (a : Act) (w : World), Grown md ops n init done → Apart md ops i oi done → i ∈ ready md ops done → YieldsIf P ops S oi v a → S w →
      wpAnyE P md ops Q S n f (done.setIfInBounds i true) (a.put oi.dst v) w → wpAnyE P md ops Q S n (f + 1) done a w := by
  induction f with
  | zero =>
    intro done a w _ _ hr hy hS H
    refine ⟨fun h => (by rw [h] at hr; cases hr), fun j hj => ?_⟩
    by_cases hji : j = i
    · subst hji; exact hy.wpOp hi hS ⟨fun _ => hS, H⟩
    · have := ready_mono hj hji
      rw [H.1] at this
      cases this
  | succ f ih =>
    intro done a w inv hap hr hy hS H
    have early := late_all hc inv.inv (tail_late hs hc hn inv _ i (Nat.le_refl _) hin (mem_ready.1 hr).1)
    refine ⟨fun h => (by rw [h] at hr; cases hr), fun j hj => ?_⟩
    by_cases hji : j = i
    · subst hji; exact hy.wpOp hi hS ⟨fun _ => hS, H⟩
    · have hjn : j < n := Nat.lt_of_not_le fun h => early j h hj
      have h1 := H.2 j (ready_mono hj hji)
      obtain ⟨hju, oj, hoj, hall⟩ := mem_ready.1 hj
      have hno : ∀ e ∈ oj.after, binds md e = true → e.on ≠ i := fun e he hb heq => by
        have h1 := hall e he hb
        rw [heq, getD_both (mem_ready.1 hr).1] at h1
        cases h1
      have h2 := wpOp_putIf hoj (hap j oj hoj hji hju hno) (fun cs b => hsel i oi cs b hi) (fun cs b => hsel j oj cs b hoj) (fun c a w h => hQ c a _ _ w h) hy h1
      refine wpOp_mono (fun a' w' h3 => ⟨fun _ => h3.2.1 hjn, ih (done.setIfInBounds j true) a' w' (inv.set hj hjn) (fun k ok hk hki hku => hap k ok hk hki ?_) (ready_mono hr (Ne.symm hji)) h3.1 (h3.2.1 hjn) ?_⟩) h2
      · rcases Decidable.em (j = k) with rfl | hjk
        · exact hju
        · rwa [getD_set_ne true hjk] at hku
      · rw [Array.setIfInBounds_comm _ _ hji]
        exact h3.2.2
def lexP (md : Region.Mode) (ops : Array Oper) (n : Nat) : List Nat → Array Bool → Bool
  | [], _ => true
  | k :: r, done => decide (k < n) && (ready md ops done).contains k && free md ops done k && (match ops[k]? with | some o => pureOp o | none => false) && lexP md ops n r (done.setIfInBounds k true)
theorem anyE_lex (hQ : ∀ c a d v w, Q (.panic c) (a.put d v) w → Q (.panic c) a w) (hsel : noSelect ops = true) (hs : sinkI md ops init n = true) (hc : chainB md ops n = true) (hn : n < ops.size) {g : Nat} {w : World} (hS : S w) :
    ∀ (r : List Nat) (done : Array Bool) (a : Act), Grown md ops n init done → lexP md ops n r done = true →
      wpQuiet P ops S (fun a' => wpAnyE P md ops Q S n g (r.foldl (fun d i => d.setIfInBounds i true) done) a' w) (opsOf ops r) a → wpAnyE P md ops Q S n (g + r.length) done a w
  | [], done, a, _, _, h => h
  | k :: r, done, a, inv, hB, h => by
    simp only [lexP, Bool.and_eq_true, decide_eq_true_eq] at hB
    obtain ⟨⟨⟨⟨hkn, hr⟩, hf⟩, hp⟩, hB⟩ := hB
    have hr' : k ∈ ready md ops done := by simpa using hr
    obtain ⟨_, o, h0, _⟩ := mem_ready.1 hr'
    rw [h0] at hp
    have e : opsOf ops (k :: r) = o :: opsOf ops r := by simp [opsOf, h0]
    rw [e] at h
    obtain ⟨v, hy, hK⟩ := yieldsIn_of_qOp (C := S) (K := wpQuiet P ops S (fun a' => wpAnyE P md ops Q S n g ((k :: r).foldl (fun d i => d.setIfInBounds i true) done) a' w) (opsOf ops r)) h0 (by unfold qOp; simp only [h0]; exact h)
    refine anyE_first h0 (noSelect_spec hsel) hQ hs hc hn hkn (g + r.length) done a w inv (free_spec h0 hf) hr' (yieldsIf_of hp hy) hS ?_
    exact anyE_lex hQ hsel hs hc hn hS r _ _ (inv.set hr' hkn) hB hK
/-- the operations r are taken first: they read, and what they read does not change till the last operation -/
theorem anyE_takes {a : Act} {w : World} {done : Array Bool} {m g : Nat} (r : List Nat) (hQ : ∀ c a d v w, Q (.panic c) (a.put d v) w → Q (.panic c) a w) (hS : S w)
    (hI : decide (n < ops.size) && noSelect ops && sinkI md ops done n && chainB md ops n && lexP md ops n r done && decide (done.size = ops.size)
      && ((List.range ops.size).all fun j => !(done.getD j false) || (match ops[j]? with | some o => o.after.all (fun e => !(binds md e) || done.getD e.on false) | none => true))
      && ((List.range ops.size).all fun t => decide (t < n) || !(done.getD t true)) = true)
    (hm : m = g + r.length)
    (h : wpQuiet P ops S (fun a' => wpAnyE P md ops Q S n g (r.foldl (fun d i => d.setIfInBounds i true) done) a' w) (opsOf ops r) a) : wpAnyE P md ops Q S n m done a w := by
  simp only [Bool.and_eq_true, decide_eq_true_eq] at hI
  obtain ⟨⟨⟨⟨⟨⟨⟨hn, hsel⟩, hs⟩, hc⟩, hlex⟩, hsz⟩, hcl⟩, htl⟩ := hI
  have inv : Grown md ops n done done := by
    refine ⟨⟨hsz, fun j oj hoj hl e he hb => ?_, fun t ht ht2 => ?_⟩, fun _ h => h⟩
    · have hj : j < ops.size := (Array.getElem?_eq_some_iff.1 hoj).1
      have := List.all_eq_true.1 hcl j (List.mem_range.2 hj)
      rw [hl, hoj] at this
      simp only [Bool.not_true, Bool.false_or] at this
      have := Array.all_eq_true'.1 this e he
      rw [hb] at this
      simpa using this
    · have := List.all_eq_true.1 htl t (List.mem_range.2 ht2)
      simp only [Bool.or_eq_true, decide_eq_true_eq] at this
      simpa using this.resolve_left (by omega)
  subst hm
  exact anyE_lex hQ hsel hs hc hn hS r done a inv hlex h
/-- one operation comes next, and no other can -/
theorem anyE_one {a : Act} {w : World} {done : Array Bool} {f : Nat} (i : Nat) (o : Oper) (hr : ready md ops done = [i]) (ho : ops[i]? = some o)
    (h : ∀ K : Act → World → Prop, (∀ a' w', (i < n → S w') → wpAnyE P md ops Q S n f (done.setIfInBounds i true) a' w' → K a' w') → if Region.wanted o (yielded ops a.tmps) = true then o.wp P a w K Q else K (a.put o.dst undef) w) :
    wpAnyE P md ops Q S n (f + 1) done a w := by
  refine ⟨fun h0 => (by rw [hr] at h0; cases h0), fun j hj => ?_⟩
  rw [hr] at hj
  obtain rfl : j = i := by simpa using hj
  unfold wpOp
  simp only [ho]
  have := h (fun a' w' => (j < n → S w') ∧ wpAnyE P md ops Q S n f (done.setIfInBounds j true) a' w') (fun a' w' h1 h2 => ⟨h1, h2⟩)
  split
  · next hw => rw [if_pos hw] at this; exact .inl this
  · next hw => rw [if_neg hw] at this; exact this
theorem anyE_seq : ∀ (l : List Oper) (k : Nat) (done : Array Bool) (a : Act) (w : World), n ≤ k → (∀ j, l[j]? = ops[k + j]?) → seqB md ops l.length k done = true → wpList P ops Q l a w → wpAnyE P md ops Q S n l.length done a w
  | [], _, _, _, _, _, _, hB, h => ⟨by simpa [seqB] using hB, h⟩
  | o :: l, k, done, a, w, hk, hl, hB, h => by
    have h0 : ops[k]? = some o := by simpa using (hl 0).symm
    simp only [List.length_cons, seqB, Bool.and_eq_true, decide_eq_true_eq] at hB
    refine ⟨fun h1 => (by rw [hB.1] at h1; cases h1), fun i hi => ?_⟩
    rw [hB.1] at hi
    have hik : i = k := by simpa using hi
    subst hik
    have hw : wpOp P ops Q i (wpList P ops Q l) a w := by unfold wpOp; simp only [h0]; exact h
    exact wpOp_mono (fun a' w' h' => ⟨fun hin => absurd hin (by omega), anyE_seq l (i + 1) _ a' w' (by omega) (fun j => by have := hl (j + 1); simpa [Nat.add_assoc, Nat.add_comm 1 j] using this) hB.2 h'⟩) hw
/-- the rest in its order -/
theorem anyE_tail {l : List Oper} {a : Act} {w : World} {done : Array Bool} {m : Nat} (k : Nat) (hk : n ≤ k) (hm : m = l.length - k) (hB : seqB md l.toArray (l.length - k) k done = true)
    (h : wpList P l.toArray Q (l.drop k) a w) : wpAnyE P md l.toArray Q S n m done a w := by
  subst hm
  have := anyE_seq (P := P) (md := md) (ops := l.toArray) (S := S) (Q := Q) (n := n) (l.drop k) k done a w hk (fun j => by simp [List.getElem?_drop]) (by rw [List.length_drop]; exact hB) h
  rwa [List.length_drop] at this
theorem anyE_done {a : Act} {w : World} {done : Array Bool} (hr : ready md ops done = []) (h : Q .normal a w) : ∀ f, wpAnyE P md ops Q S n f done a w
  | 0 => ⟨hr, h⟩
  | _ + 1 => ⟨fun _ => h, by rw [hr]; simp⟩
end
/-- a world that has grown out of wc: of the blocks of wc only 'row' may have changed -/
def Gro (wc : World) (row : Option Nat) : Type := { w : World // wc.grownBy w row }
section
variable {wc : World} {row : Option Nat}
def Gro.w (y : Gro wc row) : World := y.1
theorem Gro.gro (y : Gro wc row) : wc.grownBy y.w row := y.2
theorem gro_refl (w : World) : w.grownBy w row := ⟨rfl, rfl, rfl, Nat.le_refl _, fun _ _ _ => rfl⟩
instance groSome : Nonempty (Gro wc row) := ⟨⟨wc, gro_refl wc⟩⟩
theorem gro_drew {w w' : World} (h : w.grownBy w' row) : w.grownBy w'.drew row := ⟨h.os, h.tape, h.output, h.size, h.block⟩
theorem gro_alloc {w w' : World} (h : w.grownBy w' row) (o : Obj) : w.grownBy (w'.alloc o) row := h.trans (World.grownBy_alloc _ _ _)
theorem gro_set {g : Nat} {w w' : World} (h : w.grownBy w' (some g)) (j : Nat) (v : Value) : w.grownBy (w'.setCell ⟨g, j, none⟩ v) (some g) :=
  h.trans ⟨rfl, rfl, rfl, by simp [World.setCell], fun k _ hk => Below.heap_setCell w' ⟨g, j, none⟩ v k (fun e => hk (by rw [e]))⟩
@[go_sem] theorem gro_cells (y : Gro wc row) (b o : Nat) (h : b < wc.heap.size) (h2 : some b ≠ row) : y.w.cell? ⟨b, o, none⟩ = wc.cell? ⟨b, o, none⟩ := y.gro.cell_far ⟨b, o, none⟩ h h2
@[go_sem] theorem gro_frozen (y : Gro wc row) (b o : Nat) (h : b < wc.heap.size) (h2 : some b ≠ row) : y.w.frozen? ⟨b, o, none⟩ = wc.frozen? ⟨b, o, none⟩ := y.gro.frozen_far ⟨b, o, none⟩ h h2
@[go_sem] theorem gro_lt (y : Gro wc row) {b : Nat} (h : b < wc.heap.size) : b < y.w.heap.size := Nat.lt_of_lt_of_le h y.gro.size
theorem gro_of {w : World} (h : wc.grownBy w row) : ∃ y : Gro wc row, w = y.w := ⟨⟨w, h⟩, rfl⟩
theorem gro_new {w w' w'' : World} {g : Nat} (h : w.grownBy w' none) (h2 : w'.grownBy w'' (some g)) (hg : w.heap.size ≤ g) : w.grownBy w'' none :=
  ⟨h2.os.trans h.os, h2.tape.trans h.tape, h2.output.trans h.output, Nat.le_trans h.size h2.size, fun k hk _ => (h2.block k (Nat.lt_of_lt_of_le hk h.size) (fun e => by injection e with e; omega)).trans (h.block k hk (by simp))⟩
theorem gro_weak {w w' : World} (h : w.grownBy w' none) (row : Option Nat) : w.grownBy w' row := ⟨h.os, h.tape, h.output, h.size, fun k hk _ => h.block k hk (by simp)⟩
theorem gro_bel {w w' : World} (h : w.grownBy w' none) : Bel w w' := ⟨h.os, h.tape, h.output, h.size, fun k hk => h.block k hk (by simp)⟩
theorem bel_gro {wb w : World} (h : Bel wb wc) (hg : wc.grownBy w row) (hr : ∀ k, row = some k → wb.heap.size ≤ k) : Bel wb w := Below.grown h hg h.size hr
end
section
variable {P : Program} {Q : Exit → Act → World → Prop}
/-- the beginning -/
theorem wp_region_E {id : Nat} {a : Act} {w : World} {l : List Oper} (n : Nat) (row : Option Nat) (hm : P.follows .mixedOrders = true)
    (h : wpAnyE P .any l.toArray (NoPanic Q) (fun w' => ∃ y : Gro w row, w' = y.w) n l.toArray.size (Array.replicate l.toArray.size false) a w.drew) : (Code.region id l.toArray true).wp P Q a w :=
  wp_region_noPanic (wp_region_any hm (wpAny_of_anyE (n := n) (S := fun w' => ∃ y : Gro w row, w' = y.w) _ _ _ _ h))
end
end Go.Proofs.Ytalphoebmefgoaa
namespace Go.Proofs.Ytalphoebmefgoaa
open Go.RowKit
/-- block p holds these cells, nothing of it is frozen -/
def RowAt (w : World) (p : Nat) (e : TypeId) (xs : List Value) : Prop := w.heap[p]? = some (.cells xs.toArray e (0, 0))
section
variable {w w' : World} {p : Nat} {e : TypeId} {xs : List Value}
theorem Blk.lt {b : Nat} {o : Obj} (h : w.heap[b]? = some o) : b < w.heap.size := by
  rcases Nat.lt_or_ge b w.heap.size with h1 | h1
  · exact h1
  · rw [Array.getElem?_eq_none h1] at h; cases h
theorem RowAt.lt (h : RowAt w p e xs) : p < w.heap.size := Blk.lt h
theorem RowAt.cell? (h : RowAt w p e xs) (i : Nat) : w.cell? ⟨p, i, none⟩ = xs[i]? := by
  unfold RowAt at h; simp [World.cell?, h]
theorem RowAt.cell (h : RowAt w p e xs) {i : Nat} {v : Value} (hi : xs[i]? = some v) : w.cell? ⟨p, i, none⟩ = some v := (h.cell? i).trans hi
theorem RowAt.frozen (h : RowAt w p e xs) (i : Nat) : w.frozen? ⟨p, i, none⟩ = false := by
  unfold RowAt at h; simp [World.frozen?, h]
theorem RowAt.set (h : RowAt w p e xs) (i : Nat) (v : Value) : RowAt (w.setCell ⟨p, i, none⟩ v) p e (xs.set i v) := by
  unfold RowAt at h ⊢
  simp only [World.setCell, Array.getElem?_modify, h]
  simp
theorem RowAt.block (h : RowAt w p e xs) (hb : w'.heap[p]? = w.heap[p]?) : RowAt w' p e xs := hb.trans h
theorem RowAt.alloc (h : RowAt w p e xs) (o : Obj) : RowAt (w.alloc o) p e xs := h.block (Below.heap_alloc w o p h.lt)
theorem RowAt.drew (h : RowAt w p e xs) : RowAt w.drew p e xs := h
theorem RowAt.drewN (h : RowAt w p e xs) (k : Nat) : RowAt (w.drewN k) p e xs := h
theorem RowAt.bel (h : RowAt w p e xs) (hb : Bel w w') : RowAt w' p e xs := h.block (Below.block hb p h.lt)
theorem RowAt.far (h : RowAt w p e xs) {a : Addr} (ha : p ≠ a.block) (v : Value) : RowAt (w.setCell a v) p e xs := h.block (Below.heap_setCell w a v p ha)
theorem RowAt.new (w : World) (e : TypeId) (xs : List Value) : RowAt (w.alloc (.cells xs.toArray e)) w.heap.size e xs := by
  unfold RowAt; rw [heap_alloc_new]
theorem RowAt.newRep (w : World) (e : TypeId) (n : Nat) (v : Value) : RowAt (w.alloc (.cells (Array.replicate n v) e)) w.heap.size e (List.replicate n v) := by
  have := RowAt.new w e (List.replicate n v)
  simpa using this
end
end Go.Proofs.Ytalphoebmefgoaa
/- any seat: rows of structs of k cells. -/
namespace Go.Proofs.Ytalphoebmefgoaa
open Go.RowKit
section
variable {α : Type} {f : α → List Value} {k : Nat}
theorem flat_len (hf : ∀ a, (f a).length = k) : ∀ l : List α, (l.flatMap f).length = l.length * k
  | [] => by simp
  | a :: l => by simp only [List.flatMap_cons, List.length_append, List.length_cons]; rw [hf, flat_len hf l, Nat.add_mul]; omega
theorem flat_at (hf : ∀ a, (f a).length = k) : ∀ (l : List α) (i r : Nat) (h : i < l.length), r < k → (l.flatMap f)[i * k + r]? = (f l[i])[r]?
  | [], _, _, h, _ => absurd h (by simp)
  | a :: l, 0, r, _, hr => by
    rw [List.flatMap_cons, List.getElem?_append_left (by rw [hf]; omega)]; simp
  | a :: l, i + 1, r, h, hr => by
    rw [List.flatMap_cons, List.getElem?_append_right (by rw [hf, Nat.add_mul]; omega), hf, show (i + 1) * k + r - k = i * k + r by rw [Nat.add_mul]; omega, flat_at hf l i r (by simpa using h) hr]
    simp
theorem flat_take (hf : ∀ a, (f a).length = k) : ∀ (l : List α) (i : Nat), (l.flatMap f).take (i * k) = (l.take i).flatMap f
  | [], i => by simp
  | a :: l, 0 => by simp
  | a :: l, i + 1 => by
    rw [List.flatMap_cons, List.take_succ_cons, List.flatMap_cons, ← flat_take hf l i, List.take_append, hf, List.take_of_length_le (by rw [hf, Nat.add_mul]; omega)]
    congr 2
    rw [Nat.add_mul]; omega
theorem flat_drop (hf : ∀ a, (f a).length = k) : ∀ (l : List α) (i : Nat), (l.flatMap f).drop (i * k) = (l.drop i).flatMap f
  | [], i => by simp
  | a :: l, 0 => by simp
  | a :: l, i + 1 => by
    rw [List.flatMap_cons, List.drop_succ_cons, ← flat_drop hf l i, List.drop_append, hf, List.drop_eq_nil_of_le (by rw [hf, Nat.add_mul]; omega), List.nil_append]
    congr 1
    rw [Nat.add_mul]; omega
theorem flat_set (hf : ∀ a, (f a).length = k) (l : List α) (i r : Nat) (a : α) (u : Value) (h : i < l.length) (hr : r < k) (ha : f a = (f l[i]).set r u) : (l.flatMap f).set (i * k + r) u = (l.set i a).flatMap f := by
  apply List.ext_getElem?
  intro j
  by_cases hj : j < l.length * k
  · have hk : 0 < k := by omega
    obtain ⟨q, s, rfl, hs⟩ : ∃ q s, j = q * k + s ∧ s < k := ⟨j / k, j % k, by rw [Nat.mul_comm]; exact (Nat.div_add_mod j k).symm, Nat.mod_lt _ hk⟩
    have hq : q < l.length := by
      rcases Nat.lt_or_ge q l.length with h | h
      · exact h
      · have := Nat.mul_le_mul_right k h; omega
    rw [flat_at hf _ q s (by simpa using hq) hs, List.getElem?_set]
    by_cases hqi : i = q
    · subst hqi
      simp only [List.getElem_set_self]
      rw [ha, List.getElem?_set]
      by_cases hrs : r = s
      · subst hrs; rw [if_pos rfl, if_pos rfl, flat_len hf, hf, if_pos (by omega), if_pos hs]
      · rw [if_neg (by omega), if_neg hrs, flat_at hf l i s h hs]
    · rw [List.getElem_set_ne hqi]
      rw [if_neg, flat_at hf l q s hq hs]
      intro e
      apply hqi
      rcases Nat.lt_or_ge i q with h1 | h1
      · have := Nat.mul_le_mul_right k (show i + 1 ≤ q from h1); rw [Nat.add_mul] at this; omega
      · rcases Nat.lt_or_ge q i with h2 | h2
        · have := Nat.mul_le_mul_right k (show q + 1 ≤ i from h2); rw [Nat.add_mul] at this; omega
        · omega
  · rw [List.getElem?_eq_none (by rw [List.length_set, flat_len hf]; omega), List.getElem?_eq_none (by rw [flat_len hf, List.length_set]; omega)]
end
section
variable {w w' : World} {base size n b : Nat} {e1 e2 : TypeId} {v : Value} {xs ys : List Value}
theorem own_box_ne (h1 : RowAt w b e1 xs) (h2 : w.ownsRow base e2 size v n ys) (hne : e1 ≠ e2) : v.ownBlock = none ∨ v.ownBlock ≠ some b := by
  rcases h2.2 with ⟨rfl, _⟩ | ⟨g, cap, cur, rfl, _, hg, _⟩
  · exact .inl rfl
  · right
    intro e
    simp only [Value.ownBlock, Option.some.injEq] at e
    subst e
    unfold RowAt at h1
    rw [h1] at hg
    simp at hg
    exact hne hg.2
theorem box_row_ne (h1 : RowAt w b e1 xs) (h2 : w.ownsRow base e2 size v n ys) (hne : e1 ≠ e2) : some b ≠ v.ownBlock := by
  rcases own_box_ne h1 h2 hne with h | h
  · rw [h]; simp
  · exact fun e => h e.symm
theorem RowAt.gro {row : Option Nat} (h : RowAt w b e1 xs) (hg : w.grownBy w' row) (hne : some b ≠ row) : RowAt w' b e1 xs := (hg.block b h.lt hne).trans h
theorem own_form (h : w.ownsRow base e2 size v n ys) (h0 : 0 < n) : ∃ g cap, v = .slice (some ⟨g, 0, none⟩) n cap ∧ n ≤ cap ∧ base ≤ g ∧ g < w.heap.size := by
  rcases h.2 with ⟨_, hn⟩ | ⟨g, cap, cur, hv, h2, h3, h4, _⟩
  · omega
  · exact ⟨g, cap, hv, h4, h2, Blk.lt h3⟩
theorem own_slice (h : w.ownsRow base e2 size v n ys) : ∃ A c, v = .slice A n c ∧ n ≤ c := by
  rcases h.2 with ⟨hv, hn⟩ | ⟨g, cap, cur, hv, h2, h3, h4, _⟩
  · exact ⟨none, 0, by rw [hn]; exact hv, by omega⟩
  · exact ⟨_, cap, hv, h4⟩
/-- a slice of the row's first m elements -/
theorem own_cut (m : Nat) {g cap : Nat} (h : w.ownsRow base e2 size (.slice (some ⟨g, 0, none⟩) n cap) n ys) (hm : m ≤ n) : w.ownsRow base e2 size (.slice (some ⟨g, 0, none⟩) m cap) m (ys.take (m * size)) := by
  have hl := h.1
  have hmul : m * size ≤ n * size := Nat.mul_le_mul_right _ hm
  refine ⟨by rw [List.length_take, hl]; omega, ?_⟩
  rcases h.2 with ⟨hv, _⟩ | ⟨g', cap', cur, hv, h2, h3, h4, h5, h6, h7⟩
  · cases hv
  · injection hv with hv _ hc
    injection hv with hv
    injection hv with hv _ _
    subst hv hc
    exact .inr ⟨g, cap, cur, rfl, h2, h3, by omega, h5, h6, by rw [← h7, List.take_take]; congr 1; omega⟩
end
section
variable {α : Type} {f : α → List Value} {k : Nat} {w : World} {base g n cap : Nat} {e : TypeId} {l : List α}
theorem rows_take (hf : ∀ a, (f a).length = k) (h : w.ownsRow base e k (.slice (some ⟨g, 0, none⟩) n cap) n (l.flatMap f)) (m : Nat) : ∀ j u, ((l.take m).flatMap f)[j]? = some u → w.cell? ((⟨g, 0, none⟩ : Addr).add j) = some u := by
  intro j u hu
  rw [← flat_take hf l m, List.getElem?_take] at hu
  split at hu
  · exact h.cells (g := g) rfl j u hu
  · cases hu
theorem rows_drop (hf : ∀ a, (f a).length = k) (h : w.ownsRow base e k (.slice (some ⟨g, 0, none⟩) n cap) n (l.flatMap f)) (hn : n = l.length) (m : Nat) (ad : Addr) (had : m < n → ad = ⟨g, m * k, none⟩) :
    ∀ j u, ((l.drop m).flatMap f)[j]? = some u → w.cell? (ad.add j) = some u := by
  intro j u hu
  subst hn
  by_cases hm : m < l.length
  · rw [had hm]
    have hj : j < ((l.drop m).flatMap f).length := (List.getElem?_eq_some_iff.1 hu).1
    rw [flat_len hf, List.length_drop, Nat.sub_mul] at hj
    rw [← flat_drop hf l m, List.getElem?_drop] at hu
    have hmul := Nat.mul_le_mul_right k (Nat.le_of_lt hm)
    have := h.cellAt (m * k + j) (by omega)
    rw [hu] at this
    rw [show (⟨g, m * k, none⟩ : Addr).add j = ⟨g, m * k + j, none⟩ by unfold Addr.add; split <;> simp_all]
    exact this
  · rw [List.drop_eq_nil_of_le (by omega)] at hu
    simp at hu
end
/-- a slice value reads as these structs, all below block B -/
def RdAt {α : Type} (w : World) (B : Nat) (v : Value) (k : Nat) (f : α → List Value) (l : List α) : Prop :=
  ∃ A c, v = .slice A l.length c ∧ l.length ≤ c ∧ (0 < l.length → ∃ b off, A = some ⟨b, off, none⟩ ∧ b < B ∧ ∀ i (h : i < l.length) r, r < k → w.cell? ⟨b, off + i * k + r, none⟩ = (f l[i])[r]?)
section
variable {α : Type} {f : α → List Value} {k : Nat} {w w' : World} {B B' : Nat} {v : Value} {l : List α}
theorem RdAt.nil : RdAt w B (.slice none 0 0) k f ([] : List α) := ⟨none, 0, rfl, Nat.le_refl _, fun h => absurd h (by simp)⟩
theorem RdAt.form (h : RdAt w B v k f l) : ∃ A c, v = .slice A l.length c ∧ l.length ≤ c := let ⟨A, c, e, hc, _⟩ := h; ⟨A, c, e, hc⟩
theorem RdAt.at_ {A : Option Addr} {n c : Nat} (h : RdAt w B (.slice A n c) k f l) (h0 : 0 < l.length) : ∃ b off, A = some ⟨b, off, none⟩ ∧ b < B ∧ ∀ i (h : i < l.length) r, r < k → w.cell? ⟨b, off + i * k + r, none⟩ = (f l[i])[r]? := by
  obtain ⟨A', c', e, _, h⟩ := h
  injection e with e
  subst e
  exact h h0
theorem RdAt.keep (h : RdAt w B v k f l) (hk : Keeps B w w') (hB : B ≤ B') : RdAt w' B' v k f l := by
  obtain ⟨A, c, rfl, hc, h⟩ := h
  refine ⟨A, c, rfl, hc, fun h0 => ?_⟩
  obtain ⟨b, off, rfl, hb, h⟩ := h h0
  exact ⟨b, off, rfl, by omega, fun i hi r hr => (hk _ _ hb).trans (h i hi r hr)⟩
theorem RdAt.of_own {base : Nat} {e : TypeId} {n : Nat} (hf : ∀ a, (f a).length = k) (hn : n = l.length) (h : w.ownsRow base e k v n (l.flatMap f)) : RdAt w w.heap.size v k f l := by
  subst hn
  rcases h.2 with ⟨hv, h0⟩ | ⟨g, cap, cur, hv, h2, h3, h4, _⟩
  · exact ⟨none, 0, by rw [h0]; exact hv, by omega, fun h => by omega⟩
  · refine ⟨_, cap, hv, h4, fun _ => ⟨g, 0, rfl, Blk.lt h3, fun i hi r hr => ?_⟩⟩
    subst hv
    have hm := Nat.mul_le_mul_right k (show i + 1 ≤ l.length from hi)
    rw [Nat.add_mul] at hm
    rw [Nat.zero_add, h.cellAt (i * k + r) (by omega), flat_at hf l i r hi hr]
end
end Go.Proofs.Ytalphoebmefgoaa
/- any seat: append of a slice argument (nil or not) onto a slice of the call's own. -/
namespace Go.Proofs.Ytalphoebmefgoaa
open Go.RowKit
section
variable {P : Program}
theorem run_append_nothing {t ty e : TypeId} {i : TypeInfo} (ht : P.underlying t = some (.slice e)) (hi : P.info? e = some i) (B : Option Addr) (n cap c : Nat) (hn : n ≤ cap) (w : World) :
    (Builtin.append_ #[t, t] ty #[.slice B n cap, .slice none 0 c]).run P w = .ok (.slice B n cap) w := by
  cases B <;> simp [Builtin.append_, run_underlying ht, sizeOf, typeInfo, hi, Builtin.lenOf, Builtin.firstCells, storeCells, hn]
theorem append_row (w : World) (base : Nat) (t ty e : TypeId) (i : TypeInfo) (z : Value) (size bytes : Nat) (ht : P.underlying t = some (.slice e)) (hi : P.info? e = some i) (hz : i.zero = some z)
    (hsize : i.size = size) (hby : i.bytes = bytes) (hzs : z.cells.size = size) (hsz : 0 < size)
    (v : Value) (n : Nat) (xs : List Value) (hown : w.ownsRow base e size v n xs)
    (A : Option Addr) (m c : Nat) (news : List Value) (hsrc : (A = none ∧ m = 0) ∨ ∃ ad, A = some ad ∧ ∀ j u, news[j]? = some u → w.cell? (ad.add j) = some u)
    (hl : news.length = m * size) (h1 : ∀ u ∈ news, u.oneCell' = true) (h63 : n + m ≤ maxLen) (hbytes : (n + m) * bytes ≤ 140737488355328) (hbase : base ≤ w.heap.size) :
    ∃ v' w', (Builtin.append_ #[t, t] ty #[v, .slice A m c]).run P w = .ok v' w' ∧ w'.ownsRow base e size v' (n + m) (xs ++ news) ∧ w.grownBy w' v.ownBlock := by
  rcases hsrc with ⟨rfl, rfl⟩ | ⟨ad, rfl, hc⟩
  · have hn : news = [] := List.eq_nil_of_length_eq_zero (by simpa using hl)
    subst hn
    have hg : ∀ row, w.grownBy w row := fun row => ⟨rfl, rfl, rfl, Nat.le_refl _, fun _ _ _ => rfl⟩
    rcases hown.2 with ⟨rfl, rfl⟩ | ⟨g, cap, cur, rfl, hbg, hgc, hnc, hcm, hcs, htake⟩
    · exact ⟨_, _, run_append_nothing ht hi none 0 0 c (Nat.le_refl _) w, by simpa using hown, hg _⟩
    · exact ⟨_, _, run_append_nothing ht hi _ n cap c hnc w, by simpa using hown, hg _⟩
  · obtain ⟨v', w', h1, h2, h3, _⟩ := run_append_own w base t ty e i z size bytes ht hi hz hsize hby hzs hsz v n xs hown ad m c news hl hc h1 h63 hbytes hbase
    exact ⟨v', w', h1, h2, h3⟩
/-- an append whose run is known -/
theorem wpList_append_run {ops : Array Oper} {rest : List Oper} {o : Oper} {a : Act} {Q : Exit → Act → World → Prop} {w w' : World} (hgd : o.guard = none) (s x : Operand) (t : TypeId)
    (ho : o.op = .call { callee := .builtin .append, args := #[s, x], argTypes := #[t, t] }) (v v2 v' : Value) (hs : a.eval s = v) (hx : a.eval x = v2)
    (hr : (Builtin.append_ #[t, t] o.type #[v, v2]).run P w = .ok v' w') (h : wpList P ops Q rest (a.put o.dst v') w') : wpList P ops Q (o :: rest) a w := by
  refine wpList_plain hgd fun K hK => ?_
  unfold Oper.wp execOp
  simp only [ho, resolve, invoke, builtin, Sem.run_bind, Sem.run_pure, Result.andThen_ok, List.map_toArray, List.map_cons, List.map_nil, hs, hx, hr]
  exact hK _ _ h
end
end Go.Proofs.Ytalphoebmefgoaa
namespace Go.Proofs.Ytalphoebmefgoaa
open Go.RowKit
section
variable {w w1 w2 : World} {e : TypeId} {size n : Nat} {v : Value} {xs : List Value}
theorem bel_grown (h : Bel w w1) (ho : w1.ownsRow w.heap.size e size v n xs) (hg : w1.grownBy w2 v.ownBlock) : Bel w w2 :=
  Below.grown h hg h.size (fun k hk => (ho.lt k hk).1)
theorem Blk1.lt {b : Nat} {o : Obj} (h : w.heap[b]? = some o) : b < w.heap.size := by
  rcases Nat.lt_or_ge b w.heap.size with h1 | h1
  · exact h1
  · rw [Array.getElem?_eq_none h1] at h; cases h
theorem ownsRow_bel {base : Nat} (ho : w1.ownsRow base e size v n xs) (hb : Bel w1 w2) : w2.ownsRow base e size v n xs := by
  refine ⟨ho.1, ?_⟩
  rcases ho.2 with h | ⟨g, cap, cur, h1, h2, h3, h4⟩
  · exact .inl h
  · exact .inr ⟨g, cap, cur, h1, h2, (Below.block hb g (Blk1.lt h3)).trans h3, h4⟩
theorem add_ofs (g k : Nat) : (⟨g, 0, none⟩ : Addr).add k = ⟨g, k, none⟩ := by
  unfold Addr.add; split
  · subst_vars; rfl
  · simp
theorem cells_new (w : World) (cs : List Value) (e : TypeId) (j : Nat) (u : Value) (h : cs[j]? = some u) : (w.alloc (.cells cs.toArray e)).cell? ((⟨w.heap.size, 0, none⟩ : Addr).add j) = some u := by
  rw [add_ofs]; simp [go_sem, h]
theorem IntsAt.of_own {base : Nat} {l : List Int} (ho : w.ownsRow base e 1 v l.length (l.map (Value.int .i64))) : IntsAt w w.heap.size v l := by
  rcases Nat.eq_zero_or_pos l.length with h0 | h0
  · rcases ho.2 with ⟨rfl, _⟩ | ⟨g, cap, cur, rfl, h2, h3, h4, _⟩
    · exact ⟨none, 0, by rw [h0], by omega, fun h => by omega⟩
    · exact ⟨_, cap, rfl, h4, fun h => by omega⟩
  · rcases ho.2 with ⟨_, h⟩ | ⟨g, cap, cur, rfl, h2, h3, h4, _⟩
    · omega
    · refine ⟨_, cap, rfl, h4, fun _ => ⟨g, 0, rfl, Blk1.lt h3, fun i hi => ?_⟩⟩
      have := ho.cells (g := g) rfl i (.int .i64 (l.getD i 0)) (by simp [List.getD, hi])
      rw [add_ofs] at this
      simpa using this
end
end Go.Proofs.Ytalphoebmefgoaa

namespace Go.Proofs.Ytalphoebmefgoaa
open Go.RowKit
/-- block p is an array of n ints, g says which; nothing of it is frozen -/
def ArrAt (w : World) (p : Nat) (e : TypeId) (n : Nat) (g : Nat → Int) : Prop := w.heap[p]? = some (.cells ((List.range n).map fun r => Value.int .i64 (g r)).toArray e (0, 0))
section
variable {w w' : World} {p : Nat} {e : TypeId} {n : Nat} {g : Nat → Int}
theorem ArrAt.lt (h : ArrAt w p e n g) : p < w.heap.size := Blk1.lt h
theorem ArrAt.cell (h : ArrAt w p e n g) {i : Nat} (hi : i < n) : w.cell? ⟨p, i, none⟩ = some (.int .i64 (g i)) := by
  unfold ArrAt at h; simp [World.cell?, h, hi]
theorem ArrAt.frozen (h : ArrAt w p e n g) (i : Nat) : w.frozen? ⟨p, i, none⟩ = false := by
  unfold ArrAt at h; simp [World.frozen?, h]
theorem ArrAt.set (h : ArrAt w p e n g) (i : Nat) (v : Int) : ArrAt (w.setCell ⟨p, i, none⟩ (.int .i64 v)) p e n (fun r => if r = i then v else g r) := by
  unfold ArrAt at h ⊢
  simp only [World.setCell, Array.getElem?_modify, h]
  simp
  apply List.ext_getElem
  · simp
  · intro j h1 h2
    simp at h1
    by_cases hji : j = i
    · subst hji; simp
    · simp [hji, Ne.symm hji]
theorem ArrAt.block (h : ArrAt w p e n g) (hb : w'.heap[p]? = w.heap[p]?) : ArrAt w' p e n g := hb.trans h
theorem ArrAt.alloc (h : ArrAt w p e n g) (o : Obj) : ArrAt (w.alloc o) p e n g := h.block (Below.heap_alloc w o p h.lt)
theorem ArrAt.drew (h : ArrAt w p e n g) : ArrAt w.drew p e n g := h
theorem ArrAt.drewN (h : ArrAt w p e n g) (k : Nat) : ArrAt (w.drewN k) p e n g := h
theorem ArrAt.bel (h : ArrAt w p e n g) (hb : Bel w w') : ArrAt w' p e n g := h.block (Below.block hb p h.lt)
theorem ArrAt.far (h : ArrAt w p e n g) {a : Addr} (ha : p ≠ a.block) (v : Value) : ArrAt (w.setCell a v) p e n g := h.block (Below.heap_setCell w a v p ha)
theorem ArrAt.congr {g' : Nat → Int} (h : ArrAt w p e n g) (hg : ∀ r, r < n → g r = g' r) : ArrAt w p e n g' := by
  unfold ArrAt at *
  rw [h]
  have : ((List.range n).map fun r => Value.int .i64 (g r)) = ((List.range n).map fun r => Value.int .i64 (g' r)) := List.map_congr_left (fun r hr => by rw [hg r (by simpa using hr)])
  rw [this]
theorem ArrAt.made (w : World) (e : TypeId) (n : Nat) : ArrAt (w.alloc (.cells (madeCells (Value.int .i64 0).cells (n * 1)) e)) w.heap.size e n (fun _ => 0) := by
  unfold ArrAt
  rw [heap_alloc_new]
  congr 1
  congr 1
  apply Array.ext
  · simp [madeCells]
  · intro i h1 h2; simp [madeCells, Value.cells, Nat.mod_one]
theorem IntsAt.of_arr (h : ArrAt w p e n g) : IntsAt w w.heap.size (.slice (some ⟨p, 0, none⟩) n n) ((List.range n).map g) := by
  refine ⟨_, n, by simp, by simp, fun _ => ⟨p, 0, rfl, h.lt, fun i hi => ?_⟩⟩
  simp at hi
  rw [Nat.zero_add, h.cell hi]
  simp [List.getD, hi]
/-- make of n ints, length and capacity n -/
theorem make_ints {P : Program} {t e : TypeId} {i : TypeInfo} (ht : P.underlying t = some (.slice e)) (hi : P.info? e = some i) (hz : i.zero = some (.int .i64 0)) (hs : i.size = 1) (hb : i.bytes = 8)
    (n : Nat) (hn : n ≤ 1000000) (W : World) : (Instr.makeSlice t (.int .i64 (n : Int)) (.int .i64 (n : Int))).run P W =
      .ok (.slice (some ⟨W.heap.size, 0, none⟩) n n) (W.alloc (.cells (madeCells (Value.int .i64 0).cells (n * 1)) e)) := by
  have h := run_make (P := P) W t e i _ ht hi hz .i64 .i64 (n : Int) (n : Int) (by omega) (by omega) (by rw [hb]; omega) (by omega)
  rw [hs, Int.toNat_natCast] at h
  exact h
end
end Go.Proofs.Ytalphoebmefgoaa
