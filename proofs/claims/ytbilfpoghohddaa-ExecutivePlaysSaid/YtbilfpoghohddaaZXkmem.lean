/- executive: two executives and what the law keeps beside them. -/
import Derived.Test.YtbilfpoghohddaaZXtick
import Derived.Test.YtbilfpoghohddaaZXnew
import Derived.Test.YtbilfpoghohddaaZXkp
import Derived.Test.YtbilfpoghohddaaZTaket
namespace Go.Proofs.Ytbilfpoghohddaa
open Go Go.RowKit
theorem kp_row_ne {w : World} {b c : Nat} {e1 e2 : TypeId} {xs ys : List Value} (h1 : RowAt w b e1 xs) (h2 : RowAt w c e2 ys) (hne : e1 ≠ e2) : b ≠ c := by
  rintro rfl
  unfold RowAt at h1 h2
  rw [h1] at h2
  injection h2 with h2
  injection h2 with _ h2
  exact hne h2
theorem ExAt.grown {wb w w' : World} {be : Nat} {lv tv : Value} {l : List Tsk} {xs : List Int} {st : ExS} (h : ExAt wb w be lv tv l xs st) {row : Option Nat} (g : w.grownBy w' row) (hp : ∀ k, row = some k → wb.heap.size ≤ k) (h1 : row ≠ some be) (h2 : lv.ownBlock = none ∨ lv.ownBlock ≠ row) (h3 : tv.ownBlock = none ∨ tv.ownBlock ≠ row) : ExAt wb w' be lv tv l xs st :=
  ⟨bel_gro h.bl g hp, h.be_, let ⟨sv, a, b⟩ := h.own; ⟨sv, a, b.kept g h2⟩, h.ox.kept g h3, h.row.gro g (fun e => h1 (by rw [← e]))⟩
structure KpAt (ws w : World) (bE bF bo : Nat) (le te lf tf : Value) (l : List Tsk) (xs : List Int) (sE sF : ExS) (op : List Int) : Prop where
  e : ExAt ws w bE le te l xs sE
  f : ExAt ws w bF lf tf l xs sF
  ne : bE ≠ bF
  o : RowAt w bo 3 (intsC op)
  ob : ws.heap.size ≤ bo
  le_ : ∀ k, le.ownBlock = some k → k < bo
  te_ : ∀ k, te.ownBlock = some k → k < bo
  lf_ : ∀ k, lf.ownBlock = some k → k < bo
  tf_ : ∀ k, tf.ownBlock = some k → k < bo
theorem ne_lt {v : Value} {b : Nat} (h : ∀ k, v.ownBlock = some k → k < b) : v.ownBlock = none ∨ v.ownBlock ≠ some b := .inr (fun e => by have := h b e; omega)
section
variable {ws w w' : World} {bE bF bo : Nat} {le te lf tf : Value} {l : List Tsk} {xs : List Int} {sE sF : ExS} {op : List Int}
theorem KpAt.bel (h : KpAt ws w bE bF bo le te lf tf l xs sE sF op) (hb : Bel w w') : KpAt ws w' bE bF bo le te lf tf l xs sE sF op := ⟨h.e.bel hb, h.f.bel hb, h.ne, h.o.bel hb, h.ob, h.le_, h.te_, h.lf_, h.tf_⟩
theorem KpAt.neE (h : KpAt ws w bE bF bo le te lf tf l xs sE sF op) : bo ≠ bE := kp_row_ne h.o h.e.row (by decide)
theorem KpAt.neF (h : KpAt ws w bE bF bo le te lf tf l xs sE sF op) : bo ≠ bF := kp_row_ne h.o h.f.row (by decide)
theorem intsC_set (op : List Int) (i : Nat) (v : Int) : (intsC op).set i (.int .i64 v) = intsC (op.set i v) := by unfold intsC; rw [List.map_set]
theorem intsC_at {op : List Int} {i : Nat} (h : i < op.length) : (intsC op)[i]? = some (.int .i64 (op.getD i 0)) := by unfold intsC; rw [List.getElem?_map]; simp [List.getD, h]
theorem KpAt.put (h : KpAt ws w bE bF bo le te lf tf l xs sE sF op) (i : Nat) (v : Int) : KpAt ws (w.setCell ⟨bo, i, none⟩ (.int .i64 v)) bE bF bo le te lf tf l xs sE sF (op.set i v) := by
  have g : w.grownBy (w.setCell ⟨bo, i, none⟩ (.int .i64 v)) (some bo) := gro_set (gro_refl _) i _
  have hp : ∀ k, some bo = some k → ws.heap.size ≤ k := fun k e => by injection e with e; rw [← e]; exact h.ob
  exact ⟨h.e.grown g hp (fun e => by injection e with e; exact h.neE e) (ne_lt h.le_) (ne_lt h.te_), h.f.grown g hp (fun e => by injection e with e; exact h.neF e) (ne_lt h.lf_) (ne_lt h.tf_), h.ne, by have := h.o.set i (.int .i64 v); rwa [intsC_set] at this, h.ob, h.le_, h.te_, h.lf_, h.tf_⟩
theorem KpAt.grow (h : KpAt ws w bE bF bo le te lf tf l xs sE sF op) {base n : Nat} {v : Value} {ys : List Value} (ho : w.ownsRow base 2 1 v n ys) (hb : ws.heap.size ≤ base) (g : w.grownBy w' v.ownBlock) : KpAt ws w' bE bF bo le te lf tf l xs sE sF op := by
  have hp : ∀ k, v.ownBlock = some k → ws.heap.size ≤ k := fun k e => Nat.le_trans hb (ho.lt k e).1
  refine ⟨h.e.grown g hp (fun e => box_row_ne h.e.row ho (by decide) e.symm) (let ⟨_, _, b⟩ := h.e.own; own_types_ne b ho (by decide)) (own_types_ne h.e.ox ho (by decide)), h.f.grown g hp (fun e => box_row_ne h.f.row ho (by decide) e.symm) (let ⟨_, _, b⟩ := h.f.own; own_types_ne b ho (by decide)) (own_types_ne h.f.ox ho (by decide)), h.ne, h.o.gro g (fun e => box_row_ne h.o ho (by decide) e), h.ob, h.le_, h.te_, h.lf_, h.tf_⟩
theorem KpAt.turnE (h : KpAt ws w bE bF bo le te lf tf l xs sE sF op) {sE' : ExS} (he : ExAt ws w' bE le te l xs sE') (g : w.grownBy w' (some bE)) : KpAt ws w' bE bF bo le te lf tf l xs sE' sF op :=
  ⟨he, h.f.gro g h.e.be_ h.e.row (Ne.symm h.ne), h.ne, h.o.gro g (fun e => by injection e with e; exact h.neE e), h.ob, h.le_, h.te_, h.lf_, h.tf_⟩
theorem KpAt.turnF (h : KpAt ws w bE bF bo le te lf tf l xs sE sF op) {sF' : ExS} (hf : ExAt ws w' bF lf tf l xs sF') (g : w.grownBy w' (some bF)) : KpAt ws w' bE bF bo le te lf tf l xs sE sF' op :=
  ⟨h.e.gro g h.f.be_ h.f.row h.ne, hf, h.ne, h.o.gro g (fun e => by injection e with e; exact h.neF e), h.ob, h.le_, h.te_, h.lf_, h.tf_⟩
theorem KpAt.bl (h : KpAt ws w bE bF bo le te lf tf l xs sE sF op) : Bel ws w := h.e.bl
end
/-! region 26: two appends in any order -/
theorem grs_alloc {wc w : World} {rs : List Nat} (h : GrsOk wc rs w) (o : Obj) : GrsOk wc rs (w.alloc o) :=
  ⟨h.os, h.tape, h.output, Nat.le_trans h.size (by simp [go_sem]), fun k hk hr => (Below.heap_alloc w o k (Nat.lt_of_lt_of_le hk h.size)).trans (h.block k hk hr)⟩
theorem grs_grown {wc w w' : World} {rs : List Nat} {row : Option Nat} (h : GrsOk wc rs w) (g : w.grownBy w' row) (hr : ∀ k, row = some k → k < wc.heap.size → k ∈ rs) : GrsOk wc rs w' :=
  ⟨g.os.trans h.os, g.tape.trans h.tape, g.output.trans h.output, Nat.le_trans h.size g.size, fun k hk hn => (g.block k (Nat.lt_of_lt_of_le hk h.size) (fun e => hn (hr k e.symm hk))).trans (h.block k hk hn)⟩
section
variable {P : Program} {Q : Exit → Act → World → Prop}
theorem wp_region_ES {id : Nat} {a : Act} {w : World} {l : List Oper} (n : Nat) (rs : List Nat) (hm : P.follows .mixedOrders = true)
    (h : wpAnyE P .any l.toArray (NoPanic Q) (fun w' => ∃ y : Grs w rs, w' = y.w) n l.toArray.size (Array.replicate l.toArray.size false) a w.drew) : (Code.region id l.toArray true).wp P Q a w :=
  wp_region_noPanic (wp_region_any hm (wpAny_of_anyE (n := n) (S := fun w' => ∃ y : Grs w rs, w' = y.w) _ _ _ _ h))
end
/-- what holds in the midst of the region -/
structure St26 (ws wd : World) (rs : List Nat) (bE bF bo : Nat) (le te lf tf : Value) (l : List Tsk) (xs : List Int) (sE sF : ExS) (op : List Int) (rb : Nat) (vr : Value) (r : List Nat) (v1 v2 : Value) (ns cs : List Int) (g1 g2 : Option Nat) (x1 x2 : Int) (W : World) : Prop where
  k : KpAt ws W bE bF bo le te lf tf l xs sE sF op
  gs : GrsOk wd rs W
  r : W.ownsRow rb 3 1 vr r.length (natC r)
  o1 : W.ownsRow ws.heap.size 2 1 v1 ns.length (intsC ns)
  o2 : W.ownsRow ws.heap.size 2 1 v2 cs.length (intsC cs)
  d1 : ∀ k, v1.ownBlock = some k → v2.ownBlock ≠ some k ∧ (k < wd.heap.size → k ∈ rs)
  d2 : ∀ k, v2.ownBlock = some k → v1.ownBlock ≠ some k ∧ (k < wd.heap.size → k ∈ rs)
  c1 : ∀ g, g1 = some g → W.cell? ⟨g, 0, none⟩ = some (.int .i64 x1) ∧ g < W.heap.size ∧ v1.ownBlock ≠ some g ∧ v2.ownBlock ≠ some g
  c2 : ∀ g, g2 = some g → W.cell? ⟨g, 0, none⟩ = some (.int .i64 x2) ∧ g < W.heap.size ∧ v1.ownBlock ≠ some g ∧ v2.ownBlock ≠ some g
section
variable {ws wd W W' : World} {rs : List Nat} {bE bF bo : Nat} {le te lf tf : Value} {l : List Tsk} {xs : List Int} {sE sF : ExS} {op : List Int} {rb : Nat} {vr : Value} {r : List Nat} {v1 v2 : Value} {ns cs : List Int} {g1 g2 : Option Nat} {x1 x2 : Int}
theorem cell_alloc_old {w : World} {g : Nat} {u : Value} (o : Obj) (h : w.cell? ⟨g, 0, none⟩ = some u) (hl : g < w.heap.size) : (w.alloc o).cell? ⟨g, 0, none⟩ = some u := (cell_block (Below.heap_alloc w o g hl)).trans h
theorem cell_grown {w w' : World} {row : Option Nat} {g : Nat} {u : Value} (h : w.cell? ⟨g, 0, none⟩ = some u) (hl : g < w.heap.size) (hg : w.grownBy w' row) (hn : row ≠ some g) : w'.cell? ⟨g, 0, none⟩ = some u := (cell_block (hg.block g hl (fun e => hn e.symm))).trans h
theorem own_lt {base k : Nat} {e : TypeId} {size n : Nat} {v : Value} {ys : List Value} {w : World} (h : w.ownsRow base e size v n ys) (hk : v.ownBlock = some k) : k < w.heap.size := (h.lt k hk).2
theorem one_new (w : World) (u : Value) (e : TypeId) : (w.alloc (.cells #[u] e)).cell? ⟨w.heap.size, 0, none⟩ = some u := by
  exact (RowAt.new w e [u]).cell (i := 0) rfl
theorem St26.make1 (h : St26 ws wd rs bE bF bo le te lf tf l xs sE sF op rb vr r v1 v2 ns cs none g2 x1 x2 W) : St26 ws wd rs bE bF bo le te lf tf l xs sE sF op rb vr r v1 v2 ns cs (some W.heap.size) g2 x1 x2 (W.alloc (.cells #[.int .i64 x1] 2)) :=
  ⟨h.k.bel (Bel.refl.alloc _), grs_alloc h.gs _, h.r.alloc _, h.o1.alloc _, h.o2.alloc _, h.d1, h.d2, fun g e => by
    injection e with e; subst e
    exact ⟨one_new _ _ _, by simp [go_sem], fun e => by have := own_lt h.o1 e; omega, fun e => by have := own_lt h.o2 e; omega⟩, fun g e => by
    obtain ⟨a, b, c, d⟩ := h.c2 g e
    exact ⟨cell_alloc_old _ a b, by simp [go_sem]; omega, c, d⟩⟩
theorem St26.make2 (h : St26 ws wd rs bE bF bo le te lf tf l xs sE sF op rb vr r v1 v2 ns cs g1 none x1 x2 W) : St26 ws wd rs bE bF bo le te lf tf l xs sE sF op rb vr r v1 v2 ns cs g1 (some W.heap.size) x1 x2 (W.alloc (.cells #[.int .i64 x2] 2)) :=
  ⟨h.k.bel (Bel.refl.alloc _), grs_alloc h.gs _, h.r.alloc _, h.o1.alloc _, h.o2.alloc _, h.d1, h.d2, fun g e => by
    obtain ⟨a, b, c, d⟩ := h.c1 g e
    exact ⟨cell_alloc_old _ a b, by simp [go_sem]; omega, c, d⟩, fun g e => by
    injection e with e; subst e
    exact ⟨one_new _ _ _, by simp [go_sem], fun e => by have := own_lt h.o1 e; omega, fun e => by have := own_lt h.o2 e; omega⟩⟩
theorem intsC_snoc (ns : List Int) (x : Int) : intsC ns ++ [.int .i64 x] = intsC (ns ++ [x]) := by simp [intsC]
theorem St26.app1 (h : St26 ws wd rs bE bF bo le te lf tf l xs sE sF op rb vr r v1 v2 ns cs g1 g2 x1 x2 W) {g cap : Nat} (ho : W'.ownsRow ws.heap.size 2 1 (.slice (some ⟨g, 0, none⟩) (ns.length + 1) cap) (ns.length + 1) (intsC ns ++ [.int .i64 x1])) (hg : W.grownBy W' v1.ownBlock) (hat : v1.ownBlock = some g ∨ g = W.heap.size) :
    St26 ws wd rs bE bF bo le te lf tf l xs sE sF op rb vr r (.slice (some ⟨g, 0, none⟩) (ns.length + 1) cap) v2 (ns ++ [x1]) cs none g2 x1 x2 W' := by
  have hob : (Value.slice (some ⟨g, 0, none⟩) (ns.length + 1) cap).ownBlock = some g := rfl
  have hn2 : v2.ownBlock ≠ some g := fun e => by
    rcases hat with h1 | h1
    · exact (h.d2 g e).1 h1
    · have := own_lt h.o2 e; omega
  refine ⟨h.k.grow h.o1 (Nat.le_refl _) hg, grs_grown h.gs hg (fun k e => (h.d1 k e).2), h.r.kept hg (own_types_ne h.r h.o1 (by decide)), ?_, h.o2.kept hg ?_, fun k e => ?_, fun k e => ?_, fun _ e => (by cases e), fun q e => ?_⟩
  · rw [intsC_snoc] at ho
    rw [List.length_append]; exact ho
  · by_cases hz : v2.ownBlock = none
    · exact .inl hz
    · exact .inr (fun e => by
        cases hb : v2.ownBlock with
        | none => exact hz hb
        | some k => rw [hb] at e; exact (h.d2 k hb).1 e.symm)
  · rw [hob] at e; injection e with e; subst e
    refine ⟨hn2, fun hlt => ?_⟩
    rcases hat with h1 | h1
    · exact (h.d1 g h1).2 hlt
    · have := h.gs.size; omega
  · refine ⟨fun e2 => ?_, (h.d2 k e).2⟩
    rw [hob] at e2; injection e2 with e2; subst e2
    exact hn2 e
  · obtain ⟨a, b, c, d⟩ := h.c2 q e
    refine ⟨cell_grown a b hg c, Nat.lt_of_lt_of_le b hg.size, fun e2 => ?_, d⟩
    rw [hob] at e2; injection e2 with e2; subst e2
    rcases hat with h1 | h1
    · exact c h1
    · omega
theorem St26.app2 (h : St26 ws wd rs bE bF bo le te lf tf l xs sE sF op rb vr r v1 v2 ns cs g1 g2 x1 x2 W) {g cap : Nat} (ho : W'.ownsRow ws.heap.size 2 1 (.slice (some ⟨g, 0, none⟩) (cs.length + 1) cap) (cs.length + 1) (intsC cs ++ [.int .i64 x2])) (hg : W.grownBy W' v2.ownBlock) (hat : v2.ownBlock = some g ∨ g = W.heap.size) :
    St26 ws wd rs bE bF bo le te lf tf l xs sE sF op rb vr r v1 (.slice (some ⟨g, 0, none⟩) (cs.length + 1) cap) ns (cs ++ [x2]) g1 none x1 x2 W' := by
  have hob : (Value.slice (some ⟨g, 0, none⟩) (cs.length + 1) cap).ownBlock = some g := rfl
  have hn1 : v1.ownBlock ≠ some g := fun e => by
    rcases hat with h1 | h1
    · exact (h.d1 g e).1 h1
    · have := own_lt h.o1 e; omega
  refine ⟨h.k.grow h.o2 (Nat.le_refl _) hg, grs_grown h.gs hg (fun k e => (h.d2 k e).2), h.r.kept hg (own_types_ne h.r h.o2 (by decide)), h.o1.kept hg ?_, ?_, fun k e => ?_, fun k e => ?_, fun q e => ?_, fun _ e => (by cases e)⟩
  · by_cases hz : v1.ownBlock = none
    · exact .inl hz
    · exact .inr (fun e => by
        cases hb : v1.ownBlock with
        | none => exact hz hb
        | some k => rw [hb] at e; exact (h.d1 k hb).1 e.symm)
  · rw [intsC_snoc] at ho
    rw [List.length_append]; exact ho
  · refine ⟨fun e2 => ?_, (h.d1 k e).2⟩
    rw [hob] at e2; injection e2 with e2; subst e2
    exact hn1 e
  · rw [hob] at e; injection e with e; subst e
    refine ⟨hn1, fun hlt => ?_⟩
    rcases hat with h1 | h1
    · exact (h.d2 g h1).2 hlt
    · have := h.gs.size; omega
  · obtain ⟨a, b, c, d⟩ := h.c1 q e
    refine ⟨cell_grown a b hg d, Nat.lt_of_lt_of_le b hg.size, c, fun e2 => ?_⟩
    rw [hob] at e2; injection e2 with e2; subst e2
    rcases hat with h1 | h1
    · exact d h1
    · omega
end
theorem need_snoc (l : List Tsk) (i : Nat) (n : Int) : ∀ (is : List Nat) (ns : List Int), ns.length = is.length → needOk l (is ++ [i]) (ns ++ [n]) = (needOk l is ns && (decide (0 ≤ n) && decide (n ≤ (tskAt l i).cost)))
  | [], [], _ => by simp [needOk]
  | j :: is, m :: ns, h => by
    simp only [List.cons_append, needOk, need_snoc l i n is ns (by simpa using h)]
    simp only [Bool.and_assoc]
  | [], _ :: _, h => by simp at h
  | _ :: _, [], h => by simp at h
def obL (v : Value) : List Nat := match v.ownBlock with | some k => [k] | none => []
theorem mem_obL {v : Value} {k : Nat} : k ∈ obL v ↔ v.ownBlock = some k := by
  unfold obL
  cases v.ownBlock with
  | none => simp
  | some m => simp [eq_comm]
/-- what holds in the midst of the releases of a tick -/
structure InKp (ws w : World) (bE bF bo : Nat) (le te lf tf : Value) (l : List Tsk) (xs : List Int) (t : Nat) (sE sF : ExS) (rb : Nat) (vr : Value) (r : List Nat) (op1 : List Int) (j k : Nat) (op : List Int) (v1 v2 : Value) (ns cs : List Int) : Prop where
  m : KpAt ws w bE bF bo le te lf tf l xs sE sF op
  rb_ : bo < rb
  rr : w.ownsRow rb 3 1 vr r.length (natC r)
  o1 : w.ownsRow ws.heap.size 2 1 v1 ns.length (intsC ns)
  o2 : w.ownsRow ws.heap.size 2 1 v2 cs.length (intsC cs)
  d1 : ∀ k, v1.ownBlock = some k → v2.ownBlock ≠ some k
  j_ : j ≤ r.length
  op_ : Opn l t op (r.drop j) op1
  ol : op.length = l.length
  nl : ns.length = j
  nn : needOk l (r.take j) ns = true
  cc : cs = (r.take j).map fun i => (tskAt l i).cost
  kt : k ≤ 8 * t + j
section
variable {ws w : World} {bE bF bo : Nat} {le te lf tf : Value} {l : List Tsk} {xs : List Int} {t : Nat} {sE sF : ExS} {rb : Nat} {vr : Value} {r : List Nat} {op1 : List Int} {j k : Nat} {op : List Int} {v1 v2 : Value} {ns cs : List Int}
theorem InKp.next (h : InKp ws w bE bF bo le te lf tf l xs t sE sF rb vr r op1 j k op v1 v2 ns cs) (hj : j < r.length) : ∃ i, r[j]? = some i ∧ i < l.length ∧ (t : Int) % (tskAt l i).per = 0 ∧ op.getD i 0 = 0 ∧ Opn l t (op.set i 1) (r.drop (j + 1)) op1 ∧ r.take (j + 1) = r.take j ++ [i] := by
  have ho := h.op_
  rw [List.drop_eq_getElem_cons hj] at ho
  cases ho with
  | cons a b c d => exact ⟨_, List.getElem?_eq_getElem hj, a, b, c, d, by rw [List.take_add_one, List.getElem?_eq_getElem hj]; rfl⟩
/-- the store into open -/
theorem InKp.stored (h : InKp ws w bE bF bo le te lf tf l xs t sE sF rb vr r op1 j k op v1 v2 ns cs) (i : Nat) (x : Int) :
    KpAt ws (w.setCell ⟨bo, i, none⟩ (.int .i64 x)) bE bF bo le te lf tf l xs sE sF (op.set i x) ∧ (w.setCell ⟨bo, i, none⟩ (.int .i64 x)).ownsRow rb 3 1 vr r.length (natC r) ∧ (w.setCell ⟨bo, i, none⟩ (.int .i64 x)).ownsRow ws.heap.size 2 1 v1 ns.length (intsC ns) ∧ (w.setCell ⟨bo, i, none⟩ (.int .i64 x)).ownsRow ws.heap.size 2 1 v2 cs.length (intsC cs) := by
  have g : w.grownBy (w.setCell ⟨bo, i, none⟩ (.int .i64 x)) (some bo) := gro_set (gro_refl _) i _
  exact ⟨h.m.put i x, h.rr.kept g (.inr (fun e => by have := (h.rr.lt bo e).1; have := h.rb_; omega)), h.o1.kept g (own_box_ne h.m.o h.o1 (by decide)), h.o2.kept g (own_box_ne h.m.o h.o2 (by decide))⟩
theorem st26_start {wd : World} (hk : KpAt ws wd bE bF bo le te lf tf l xs sE sF op) (hr : wd.ownsRow rb 3 1 vr r.length (natC r)) (h1 : wd.ownsRow ws.heap.size 2 1 v1 ns.length (intsC ns)) (h2 : wd.ownsRow ws.heap.size 2 1 v2 cs.length (intsC cs)) (hd : ∀ k, v1.ownBlock = some k → v2.ownBlock ≠ some k) (x1 x2 : Int) :
    St26 ws wd (obL v1 ++ obL v2) bE bF bo le te lf tf l xs sE sF op rb vr r v1 v2 ns cs none none x1 x2 wd.drew :=
  ⟨hk.bel (Bel.refl.drew), grs_drew _ _, hr.drew, h1.drew, h2.drew, fun k e => ⟨hd k e, fun _ => List.mem_append_left _ (mem_obL.mpr e)⟩, fun k e => ⟨fun e2 => hd k e2 e, fun _ => List.mem_append_right _ (mem_obL.mpr e)⟩, fun _ e => (by cases e), fun _ e => (by cases e)⟩
theorem InKp.made {W : World} {wd : World} {rs : List Nat} {op' : List Int} {v1' v2' : Value} {i k' : Nat} {n x : Int} (h : InKp ws w bE bF bo le te lf tf l xs t sE sF rb vr r op1 j k op v1 v2 ns cs) (hj : j < r.length) (hi : r.take (j + 1) = r.take j ++ [i]) (hop : Opn l t op' (r.drop (j + 1)) op1) (hol : op'.length = op.length) (hn0 : 0 ≤ n) (hn1 : n ≤ (tskAt l i).cost) (hx : x = (tskAt l i).cost) (hk : k' ≤ k + 1)
    (s : St26 ws wd rs bE bF bo le te lf tf l xs sE sF op' rb vr r v1' v2' (ns ++ [n]) (cs ++ [x]) none none n x W) : InKp ws W bE bF bo le te lf tf l xs t sE sF rb vr r op1 (j + 1) k' op' v1' v2' (ns ++ [n]) (cs ++ [x]) := by
  have hnl := h.nl
  have hkt := h.kt
  refine ⟨s.k, h.rb_, s.r, s.o1, s.o2, fun k e => (s.d1 k e).1, hj, hop, by rw [hol]; exact h.ol, by simp [hnl], ?_, ?_, by omega⟩
  · rw [hi, need_snoc _ _ _ _ _ (by rw [hnl, List.length_take]; omega), h.nn]
    simp [hn0, hn1]
  · rw [hi, List.map_append, ← h.cc, hx]; rfl
theorem InKp.fin (h : InKp ws w bE bF bo le te lf tf l xs t sE sF rb vr r op1 r.length k op v1 v2 ns cs) : op = op1 ∧ needOk l r ns = true ∧ cs = r.map fun i => (tskAt l i).cost := by
  have ho := h.op_
  have h1 := h.nn
  have h2 := h.cc
  rw [List.drop_length] at ho
  rw [List.take_length] at h1 h2
  cases ho
  exact ⟨rfl, h1, h2⟩
theorem InKp.out_ (h : InKp ws w bE bF bo le te lf tf l xs t sE sF rb vr r op1 j k op v1 v2 ns cs) {b : Nat} (hb : b < ws.heap.size ∨ vr.ownBlock = some b) : b ∉ obL v1 ++ obL v2 := by
  intro hm
  rcases hb with hb | hb
  · rcases List.mem_append.mp hm with e | e
    · have := (h.o1.lt b (mem_obL.mp e)).1; omega
    · have := (h.o2.lt b (mem_obL.mp e)).1; omega
  · rcases List.mem_append.mp hm with e | e
    · rcases own_types_ne h.rr h.o1 (by decide) with e2 | e2
      · rw [e2] at hb; cases hb
      · exact e2 (by rw [hb, mem_obL.mp e])
    · rcases own_types_ne h.rr h.o2 (by decide) with e2 | e2
      · rw [e2] at hb; cases hb
      · exact e2 (by rw [hb, mem_obL.mp e])
end
/-- what holds in the midst of the responses of a tick -/
structure DnKp (ws w : World) (bE bF bo : Nat) (le te lf tf : Value) (l : List Tsk) (xs : List Int) (t : Nat) (sE sF : ExS) (db : Nat) (dv : Value) (ds : List Don) (op2 : List Int) (m : Nat) (op : List Int) : Prop where
  k : KpAt ws w bE bF bo le te lf tf l xs sE sF op
  db_ : bo < db
  d : w.ownsRow db 60 5 dv ds.length (ds.flatMap donC)
  m_ : m ≤ ds.length
  ea : Eat l t op (ds.drop m) op2
  ol : op.length = l.length
section
variable {ws w : World} {bE bF bo : Nat} {le te lf tf : Value} {l : List Tsk} {xs : List Int} {t : Nat} {sE sF : ExS} {db : Nat} {dv : Value} {ds : List Don} {op2 : List Int} {m : Nat} {op : List Int}
theorem DnKp.next (h : DnKp ws w bE bF bo le te lf tf l xs t sE sF db dv ds op2 m op) (hm : m < ds.length) : ∃ d, ds[m]? = some d ∧ DoneOk l t op d ∧ Eat l t (op.set d.tk 0) (ds.drop (m + 1)) op2 := by
  have ho := h.ea
  rw [List.drop_eq_getElem_cons hm] at ho
  cases ho with
  | cons a b => exact ⟨_, List.getElem?_eq_getElem hm, a, b⟩
theorem DnKp.cell (h : DnKp ws w bE bF bo le te lf tf l xs t sE sF db dv ds op2 m op) {g n c : Nat} (hv : dv = .slice (some ⟨g, 0, none⟩) n c) {d : Don} (hd : ds[m]? = some d) (r : Nat) (hr : r < 5) : w.cell? ⟨g, m * 5 + r, none⟩ = (donC d)[r]? := by
  subst hv
  have hm : m < ds.length := (List.getElem?_eq_some_iff.1 hd).1
  have h5 := h.d
  obtain ⟨_, _, e, _⟩ := own_form h5 (by omega)
  injection e with e1 e2 e3
  rw [e2] at h5
  rw [h5.cellAt (m * 5 + r) (by omega), flat_at donC_len ds m r hm hr]
  rw [List.getElem?_eq_getElem hm] at hd
  injection hd with hd
  rw [hd]
theorem DnKp.step {W : World} (h : DnKp ws w bE bF bo le te lf tf l xs t sE sF db dv ds op2 m op) (hm : m < ds.length) {d : Don} (he : Eat l t (op.set d.tk 0) (ds.drop (m + 1)) op2) (hb : Bel w W) : DnKp ws (W.setCell ⟨bo, d.tk, none⟩ (.int .i64 0)) bE bF bo le te lf tf l xs t sE sF db dv ds op2 (m + 1) (op.set d.tk 0) := by
  have g : W.grownBy (W.setCell ⟨bo, d.tk, none⟩ (.int .i64 0)) (some bo) := gro_set (gro_refl _) d.tk _
  have hd := ownsRow_bel h.d hb
  exact ⟨(h.k.bel hb).put d.tk 0, h.db_, hd.kept g (.inr (fun e => by have := (hd.lt bo e).1; have := h.db_; omega)), hm, he, by rw [List.length_set]; exact h.ol⟩
theorem DnKp.fin (h : DnKp ws w bE bF bo le te lf tf l xs t sE sF db dv ds op2 ds.length op) : op = op2 := by
  have ho := h.ea
  rw [List.drop_length] at ho
  cases ho
  rfl
end
end Go.Proofs.Ytbilfpoghohddaa
