/- poly.leave: the model, its numbers, the row of what is gathered. -/
import Derived.Test.YtalphoebmefgoaaG32
import Derived.Test.YtalphoebmefgoaaZVtdy
import Derived.ArgAppend
namespace Go.Proofs.Ytalphoebmefgoaa
open Go.RowKit
theorem lv_old (w : World) (o : Obj) (i : Nat) (h : i < w.heap.size) : (w.alloc o).heap[i]? = w.heap[i]? := by
  show (w.heap.push o)[i]? = w.heap[i]?
  rw [Array.getElem?_push, if_neg (Nat.ne_of_lt h)]
def mulL (a : Int) (x : Ln) (b : Int) (y : Ln) (k : Nat) : Ln :=
  ⟨if 0 < k then a * x.a0 + b * y.a0 else 0, if 1 < k then a * x.a1 + b * y.a1 else 0, if 2 < k then a * x.a2 + b * y.a2 else 0, if 3 < k then a * x.a3 + b * y.a3 else 0, if 4 < k then a * x.a4 + b * y.a4 else 0, if 5 < k then a * x.a5 + b * y.a5 else 0, a * x.b + b * y.b, x.s || y.s⟩
def gdL (i : Nat) (p : Ln × Ln) : Nat := Int.gcd (-(ci p.2 i)) (ci p.1 i)
def saL (i : Nat) (p : Ln × Ln) : Int := (-(ci p.2 i)).tdiv (gdL i p)
def sbL (i : Nat) (p : Ln × Ln) : Int := (ci p.1 i).tdiv (gdL i p)
def sumL (i : Nat) (p : Ln × Ln) : Ln := lowL (shortL (mulL (saL i p) p.1 (sbL i p) p.2 6) i)
/-- the numbers of a valid line -/
def Ln.inr (x : Ln) : Prop := ∀ c, c ∈ x.a ++ [x.b] → c.natAbs ≤ 2147483647
def okL (x : Ln) : Bool := (x.a ++ [x.b]).all inR
def leaveL (l : List Ln) (i : Nat) : List Ln × Int :=
  let outs := (l.filter fun x => decide (ci x i = 0)).map (shortL · i)
  if 1000 < outs.length + (posL l i).length * (negL l i).length then ([], 3)
  else if (PL l i).all (fun p => okL (sumL i p)) then (tidyL (outs ++ (PL l i).map (sumL i)), 0) else ([], 7)
theorem Ln.inr.ci {x : Ln} (h : x.inr) (i : Nat) : (ci x i).natAbs ≤ 2147483647 := by
  unfold Go.Proofs.Ytalphoebmefgoaa.ci
  rw [List.getD_eq_getElem?_getD]
  cases e : x.a[i]? with
  | none => simp
  | some c => exact h c (List.mem_append_left _ (List.mem_of_getElem? e))
theorem Ln.inr.b {x : Ln} (h : x.inr) : x.b.natAbs ≤ 2147483647 := h _ (by simp)
theorem Ln.inr.wf {x : Ln} (h : x.inr) : x.wf := fun c hc => Nat.lt_of_le_of_lt (h c hc) (by decide)
theorem okL_inr {x : Ln} (h : okL x = true) : x.inr := fun c hc => by
  have := List.all_eq_true.1 h c hc
  unfold inR at this
  simp only [Bool.and_eq_true, decide_eq_true_eq] at this
  omega
theorem gd_pos {i : Nat} {p : Ln × Ln} (h : 0 < ci p.1 i) : 1 ≤ gdL i p := by
  unfold gdL
  rcases Nat.eq_zero_or_pos (Int.gcd (-(ci p.2 i)) (ci p.1 i)) with e | e
  · have := (Int.gcd_eq_zero_iff.1 e).2; omega
  · exact e
theorem tdiv_le {a : Int} {g : Nat} {M : Nat} (h : a.natAbs ≤ M) : (a.tdiv (g : Int)).natAbs ≤ M := by
  rw [Int.natAbs_tdiv]
  exact Nat.le_trans (Nat.div_le_self _ _) h
theorem sa_in {i : Nat} {p : Ln × Ln} (h : p.2.inr) : (saL i p).natAbs ≤ 2147483647 := tdiv_le (by have := h.ci i; omega)
theorem sb_in {i : Nat} {p : Ln × Ln} (h : p.1.inr) : (sbL i p).natAbs ≤ 2147483647 := tdiv_le (h.ci i)
theorem mul_in {a c : Int} (ha : a.natAbs ≤ 2147483647) (hc : c.natAbs ≤ 2147483647) : (a * c).natAbs ≤ 4611686014132420609 := by
  rw [Int.natAbs_mul]
  exact Nat.le_trans (Nat.mul_le_mul ha hc) (by decide)
theorem wrap_in {a : Int} (h : a.natAbs ≤ 9223372028264841218) : IntKind.i64.wrap a = a := IntWalk.i64_in _ (by omega)
theorem lin_in {a x b y : Int} (ha : a.natAbs ≤ 2147483647) (hx : x.natAbs ≤ 2147483647) (hb : b.natAbs ≤ 2147483647) (hy : y.natAbs ≤ 2147483647) :
    IntKind.i64.wrap (a * x) = a * x ∧ IntKind.i64.wrap (b * y) = b * y ∧ IntKind.i64.wrap (a * x + b * y) = a * x + b * y ∧ (a * x + b * y).natAbs ≤ 9223372028264841218 := by
  have h1 := mul_in ha hx
  have h2 := mul_in hb hy
  exact ⟨wrap_in (by omega), wrap_in (by omega), wrap_in (by omega), by omega⟩
theorem mul_wf {a b : Int} {x y : Ln} (ha : a.natAbs ≤ 2147483647) (hb : b.natAbs ≤ 2147483647) (hx : x.inr) (hy : y.inr) : (mulL a x b y 6).wf := by
  intro c hc
  have hk : ∀ i, (a * ci x i + b * ci y i).natAbs ≤ 9223372028264841218 := fun i => (lin_in ha (hx.ci i) hb (hy.ci i)).2.2.2
  have hb' : (a * x.b + b * y.b).natAbs ≤ 9223372028264841218 := (lin_in ha hx.b hb hy.b).2.2.2
  simp only [mulL, Ln.a, List.cons_append, List.nil_append, List.mem_cons, List.not_mem_nil, or_false] at hc
  have h0 := hk 0
  have h1 := hk 1
  have h2 := hk 2
  have h3 := hk 3
  have h4 := hk 4
  have h5 := hk 5
  simp only [Go.Proofs.Ytalphoebmefgoaa.ci, Ln.a, List.getD_cons_zero, List.getD_cons_succ] at h0 h1 h2 h3 h4 h5
  rcases hc with rfl | rfl | rfl | rfl | rfl | rfl | rfl
  all_goals (try simp only [Nat.reduceLT, if_true]); omega
theorem short_wf {x : Ln} (h : x.wf) (i : Nat) : (shortL x i).wf := by
  intro c hc
  have h0 := h x.a0 (by simp [Ln.a])
  have h1 := h x.a1 (by simp [Ln.a])
  have h2 := h x.a2 (by simp [Ln.a])
  have h3 := h x.a3 (by simp [Ln.a])
  have h4 := h x.a4 (by simp [Ln.a])
  have h5 := h x.a5 (by simp [Ln.a])
  have h6 := h x.b (by simp [Ln.a])
  simp only [shortL, Ln.a, List.cons_append, List.nil_append, List.mem_cons, List.not_mem_nil, or_false] at hc
  rcases hc with rfl | rfl | rfl | rfl | rfl | rfl | rfl
  all_goals first | (split <;> assumption) | assumption | decide
theorem short_inr {x : Ln} (h : x.inr) (i : Nat) : (shortL x i).inr := by
  intro c hc
  have h0 := h x.a0 (by simp [Ln.a])
  have h1 := h x.a1 (by simp [Ln.a])
  have h2 := h x.a2 (by simp [Ln.a])
  have h3 := h x.a3 (by simp [Ln.a])
  have h4 := h x.a4 (by simp [Ln.a])
  have h5 := h x.a5 (by simp [Ln.a])
  have h6 := h x.b (by simp [Ln.a])
  simp only [shortL, Ln.a, List.cons_append, List.nil_append, List.mem_cons, List.not_mem_nil, or_false] at hc
  rcases hc with rfl | rfl | rfl | rfl | rfl | rfl | rfl
  all_goals first | (split <;> assumption) | assumption | decide
theorem mul_set (a : Int) (x : Ln) (b : Int) (y : Ln) {k : Nat} (hk : k < 6) : (mulL a x b y k).cells.set k (.int .i64 (a * ci x k + b * ci y k)) = (mulL a x b y (k + 1)).cells := by
  have : k = 0 ∨ k = 1 ∨ k = 2 ∨ k = 3 ∨ k = 4 ∨ k = 5 := by omega
  rcases this with rfl | rfl | rfl | rfl | rfl | rfl <;> rfl
/-- the row of the call's own that is gathered in a variable -/
structure OutAt (base : Nat) (W : World) (v : Value) (cs : List Ln) : Prop where
  own : W.ownsRow base 72 8 v cs.length (cs.flatMap Ln.cells)
  nn : cs.length = 0 → v = .slice none 0 0
/-- of the older blocks only those of ex, and rows of two lines or more from base on, may have changed -/
structure GroX (base : Nat) (ex : List Nat) (W W' : World) : Prop where
  os : W'.os = W.os
  tape : W'.tape = W.tape
  output : W'.output = W.output
  size : W.heap.size ≤ W'.heap.size
  block : ∀ k, k < W.heap.size → k ∉ ex → (k < base ∨ ∀ cs, W.heap[k]? = some (.cells cs 72 (0, 0)) → cs.size ≤ 8) → W'.heap[k]? = W.heap[k]?
theorem GroX.of_bel {base : Nat} {ex : List Nat} {W W' : World} (h : Bel W W') : GroX base ex W W' := ⟨h.os, h.tape, h.output, h.size, fun k hk _ _ => h.block k hk⟩
theorem GroX.trans {base : Nat} {ex : List Nat} {A B C : World} (h : GroX base ex A B) (k : GroX base ex B C) : GroX base ex A C :=
  ⟨k.os.trans h.os, k.tape.trans h.tape, k.output.trans h.output, Nat.le_trans h.size k.size, fun q hq hn hc => by
    have e := h.block q hq hn hc
    exact (k.block q (Nat.lt_of_lt_of_le hq h.size) hn (hc.imp_right fun g cs hcs => g cs (e ▸ hcs))).trans e⟩
theorem GroX.set {base p o : Nat} {ex : List Nat} {A B : World} (h : GroX base ex A B) (hp : p ∈ ex) (u : Value) : GroX base ex A (B.setCell ⟨p, o, none⟩ u) :=
  ⟨h.os, h.tape, h.output, Nat.le_trans h.size (by simp [World.setCell]), fun k hk hn hc => (Below.heap_setCell B ⟨p, o, none⟩ u k (fun e => hn (by rw [e]; exact hp))).trans (h.block k hk hn hc)⟩
theorem GroX.wide {base : Nat} {ex ex' : List Nat} {A B : World} (h : GroX base ex A B) (hs : ∀ p, p ∈ ex → p ∈ ex') : GroX base ex' A B :=
  ⟨h.os, h.tape, h.output, h.size, fun k hk hn hc => h.block k hk (fun g => hn (hs k g)) hc⟩
theorem GroX.row {base p : Nat} {ex : List Nat} {A B : World} {e : TypeId} {xs : List Value} (h : GroX base ex A B) (r : RowAt A p e xs) (hn : p ∉ ex) (he : p < base ∨ e ≠ 72 ∨ xs.length ≤ 8) : RowAt B p e xs := by
  refine (h.block p r.lt hn ?_).trans r
  rcases he with he | he | he
  · exact .inl he
  · refine .inr fun cs hcs => ?_
    unfold RowAt at r
    rw [r] at hcs
    injection hcs with hcs
    injection hcs with _ hcs
    exact absurd hcs he
  · refine .inr fun cs hcs => ?_
    unfold RowAt at r
    rw [r] at hcs
    injection hcs with hcs
    injection hcs with hcs
    subst hcs
    simpa using he
theorem GroX.bel {base : Nat} {ex : List Nat} {w A B : World} (h : GroX base ex A B) (hb : Bel w A) (h1 : w.heap.size ≤ base) (h2 : ∀ p, p ∈ ex → w.heap.size ≤ p) : Bel w B :=
  ⟨h.os.trans hb.os, h.tape.trans hb.tape, h.output.trans hb.output, Nat.le_trans hb.size h.size, fun k hk => (h.block k (Nat.lt_of_lt_of_le hk hb.size) (fun g => absurd (h2 k g) (by omega)) (.inl (by omega))).trans (hb.block k hk)⟩
theorem OutAt.bel {base : Nat} {W W' : World} {v : Value} {cs : List Ln} (h : OutAt base W v cs) (hb : Bel W W') : OutAt base W' v cs := ⟨ownsRow_bel h.own hb, h.nn⟩
theorem OutAt.lns {base : Nat} {W : World} {v : Value} {cs : List Ln} (h : OutAt base W v cs) : LnsAt W W.heap.size v cs := RdAt.of_own cells8 rfl h.own
theorem OutAt.snoc {base : Nat} {W : World} {v : Value} {cs : List Ln} {X : Ln} (h : W.ownsRow base 72 8 v (cs.length + 1) (cs.flatMap Ln.cells ++ X.cells)) : OutAt base W v (cs ++ [X]) :=
  ⟨by rw [List.length_append, List.flatMap_append]; simpa using h, fun g => absurd g (by simp)⟩
/-- a line is appended -/
theorem out_append {base : Nat} {W : World} {v : Value} {cs : List Ln} {q : Nat} {e2 : TypeId} {X : Ln} (h : OutAt base W v cs) (hl : cs.length ≤ 1000000) (hb : base ≤ W.heap.size) (r : RowAt W q e2 X.cells) :
    ∃ A c W', (∀ ty, (Builtin.append_ #[61, 61] ty #[v, .slice (some ⟨q, 0, none⟩) 1 1]).run Try.prog W = .ok (.slice A (cs.length + 1) c) W') ∧ OutAt base W' (.slice A (cs.length + 1) c) (cs ++ [X]) ∧ GroX base [] W W' ∧ W.grownBy W' v.ownBlock := by
  obtain ⟨i0, hi, hz0, hz1, hz2⟩ := info_parts3 Try.infoLine
  have hu := Try.underlying61
  have hone : ∀ u ∈ X.cells, u.oneCell' = true := fun u hu => by
    simp only [Ln.cells, List.mem_cons, List.not_mem_nil, or_false] at hu
    rcases hu with rfl | rfl | rfl | rfl | rfl | rfl | rfl | rfl <;> rfl
  have hnew : ∀ j u, X.cells[j]? = some u → W.cell? ((⟨q, 0, none⟩ : Addr).add j) = some u := fun j u hj => by rw [add_ofs, r.cell?, hj]
  have hfl : (cs ++ [X]).flatMap Ln.cells = cs.flatMap Ln.cells ++ X.cells := by simp
  have hm1 : cs.length + 1 ≤ maxLen := by unfold maxLen; omega
  rcases Nat.eq_zero_or_pos cs.length with h0 | h0
  · have e := h.nn h0
    subst e
    have e2 : cs = [] := List.eq_nil_of_length_eq_zero h0
    subst e2
    have hr := fun ty => run_append_nil (P := Try.prog) (w := W) 61 ty 72 i0 _ hu hi hz0 ⟨q, 0, none⟩ 1 1 X.cells (by rw [hz1]; rfl) hnew (by decide) (by decide) (by rw [hz2]; decide)
    have hge := grownCap_ge W 1 0 72
    refine ⟨_, _, _, hr, OutAt.snoc ⟨rfl, .inr ⟨W.heap.size, _, _, rfl, hb, heap_alloc_new W.drew _, hge, grownCap_le_maxLen W 1 0 72 (by decide), ?_, ?_⟩⟩, ⟨rfl, rfl, rfl, by simp, fun k hk _ _ => lv_old W.drew _ k hk⟩, ⟨rfl, rfl, rfl, by simp, fun k hk _ => lv_old W.drew _ k hk⟩⟩
    · simp only [Array.size_append, List.size_toArray, size_zeroCells, cells8]
      rw [show zeroLn.V.cells.size = 8 from rfl]
      omega
    · simp only [Array.toList_append]
      exact List.take_left (l₁ := X.cells)
  · rcases h.own.2 with ⟨_, hn⟩ | ⟨g, cap, cur, rfl, hbg, hgh, hnc, hcm, hcs, htk⟩
    · omega
    · have hlen : (cs.length + 1) * 8 = (cs.flatMap Ln.cells ++ X.cells).length := by rw [List.length_append, flat_len cells8, cells8]; omega
      by_cases hroom : cs.length + 1 ≤ cap
      · have hr := fun ty => run_append_room (P := Try.prog) W 61 ty 72 i0 hu hi g cs.length cap cur hgh ⟨q, 0, none⟩ 1 1 X.cells (by rw [hz1]; rfl) hnew hone hroom (by rw [hz1, cells8, hcs]; omega)
        refine ⟨_, _, _, hr, OutAt.snoc ⟨by rw [← hlen], .inr ⟨g, cap, _, rfl, hbg, setRow_heap W g cur _ _ _ hgh, hroom, hcm, ?_, ?_⟩⟩, ⟨rfl, rfl, rfl, by simp, fun k hk _ hc => setRow_other W g k _ (fun e => ?_)⟩, ⟨rfl, rfl, rfl, by simp, fun k _ hk => setRow_other W g k _ (fun e => hk (by rw [e]; rfl))⟩⟩
        · simp only [List.size_toArray, List.length_append, List.length_take, List.length_drop, Array.length_toList, cells8, hz1]; omega
        · rw [hz1, htk, hlen]
          exact List.take_left
        · subst e
          rcases hc with hc | hc
          · omega
          · have := hc cur hgh
            omega
      · have hr := fun ty => run_append_grow (P := Try.prog) (w := W) 61 ty 72 i0 _ hu hi hz0 ⟨g, 0, none⟩ cs.length cap (cs.flatMap Ln.cells) (by rw [flat_len cells8, hz1]) (fun j u hj => by rw [add_ofs]; exact (h.own.cellAt j (by rw [← flat_len cells8]; exact (List.getElem?_eq_some_iff.1 hj).1)).trans hj) ⟨q, 0, none⟩ 1 1 X.cells (by rw [hz1]; rfl) hnew (by omega) (by omega) (growslice_fits (by omega) (by rw [hz2]; omega))
        have hge := grownCap_ge W (cs.length + 1) cap 72
        refine ⟨_, _, _, hr, OutAt.snoc ⟨by rw [← hlen], .inr ⟨W.heap.size, _, _, rfl, hb, heap_alloc_new W.drew _, hge, grownCap_le_maxLen W _ cap 72 hm1, ?_, ?_⟩⟩, ⟨rfl, rfl, rfl, by simp, fun k hk _ _ => lv_old W.drew _ k hk⟩, ⟨rfl, rfl, rfl, by simp, fun k hk _ => lv_old W.drew _ k hk⟩⟩
        · simp only [Array.size_append, List.size_toArray, size_zeroCells, cells8, flat_len cells8]
          rw [show zeroLn.V.cells.size = 8 from rfl]
          omega
        · simp only [Array.toList_append]
          rw [hlen]
          exact List.take_left
end Go.Proofs.Ytalphoebmefgoaa
