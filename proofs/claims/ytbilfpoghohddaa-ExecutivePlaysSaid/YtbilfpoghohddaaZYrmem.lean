/- foliotref38: the reference's executive in memory. -/
import Derived.Test.YtbilfpoghohddaaZXkmem
import Derived.Test.YtbilfpoghohddaaG15
namespace Go.Proofs.Ytbilfpoghohddaa
open Go Region Go.RowKit
section
variable {P : Program} {md : Region.Mode} {ops : Array Oper} {S : World → Prop} {n : Nat} {Q : Exit → Act → World → Prop}
theorem anyE_three {a : Act} {w : World} {done : Array Bool} {f : Nat} (i j k : Nat) (oi oj ok : Oper) (hr : ready md ops done = [i, j, k]) (hoi : ops[i]? = some oi) (hoj : ops[j]? = some oj) (hok : ops[k]? = some ok)
    (hi : StepE P md ops Q S n f done i oi a w) (hj : StepE P md ops Q S n f done j oj a w) (hk : StepE P md ops Q S n f done k ok a w) : wpAnyE P md ops Q S n (f + 1) done a w := by
  refine ⟨fun h0 => (by rw [hr] at h0; cases h0), fun q hq => ?_⟩
  rw [hr] at hq
  rcases List.mem_cons.mp hq with rfl | hq
  · exact stepE_op hoi hi
  rcases List.mem_cons.mp hq with rfl | hq
  · exact stepE_op hoj hj
  · obtain rfl : q = k := by simpa using hq
    exact stepE_op hok hk
end
def Apt (v u : Value) : Prop := ∀ k, v.ownBlock = some k → u.ownBlock ≠ some k
theorem Apt.symm {v u : Value} (h : Apt v u) : Apt u v := fun k e e2 => h k e2 e
theorem Apt.row {v u : Value} (h : Apt v u) : v.ownBlock = none ∨ v.ownBlock ≠ u.ownBlock := by
  by_cases hz : v.ownBlock = none
  · exact .inl hz
  · exact .inr (fun e => by
      cases hb : v.ownBlock with
      | none => exact hz hb
      | some k => rw [hb] at e; exact h k hb e.symm)
theorem apt_types {w : World} {base base' s1 s2 n1 n2 : Nat} {e1 e2 : TypeId} {v1 v2 : Value} {xs ys : List Value} (h1 : w.ownsRow base e1 s1 v1 n1 xs) (h2 : w.ownsRow base' e2 s2 v2 n2 ys) (hne : e1 ≠ e2) : Apt v1 v2 := fun k a b => by
  rcases own_types_ne h1 h2 hne with h | h
  · rw [h] at a; cases a
  · exact h (by rw [a, b])
/-- the source of an append: a row of one cell -/
def Src (W : World) (g : Nat) (x : Int) (v1 v2 v3 : Value) : Prop := W.cell? ⟨g, 0, none⟩ = some (.int .i64 x) ∧ g < W.heap.size ∧ v1.ownBlock ≠ some g ∧ v2.ownBlock ≠ some g ∧ v3.ownBlock ≠ some g
theorem Src.alloc {W : World} {g : Nat} {x : Int} {v1 v2 v3 : Value} (h : Src W g x v1 v2 v3) (o : Obj) : Src (W.alloc o) g x v1 v2 v3 :=
  ⟨cell_alloc_old _ h.1 h.2.1, by have := h.2.1; simp [go_sem]; omega, h.2.2.1, h.2.2.2.1, h.2.2.2.2⟩
structure Rows3 (N : Nat) (W : World) (ns rls fs : List Int) (v1 v2 v3 : Value) : Prop where
  o1 : W.ownsRow N 3 1 v1 ns.length (intsC ns)
  o2 : W.ownsRow N 2 1 v2 rls.length (intsC rls)
  o3 : W.ownsRow N 2 1 v3 fs.length (intsC fs)
  d : Apt v2 v3
section
variable {N : Nat} {W W' : World} {ns rls fs : List Int} {v1 v2 v3 : Value}
theorem Rows3.bel (h : Rows3 N W ns rls fs v1 v2 v3) (hb : Bel W W') : Rows3 N W' ns rls fs v1 v2 v3 := ⟨ownsRow_bel h.o1 hb, ownsRow_bel h.o2 hb, ownsRow_bel h.o3 hb, h.d⟩
theorem Rows3.new {g : Nat} (h : Rows3 N W ns rls fs v1 v2 v3) (x : Int) (e : TypeId) (hg : g = W.heap.size) : Src (W.alloc (.cells #[.int .i64 x] e)) g x v1 v2 v3 := by
  subst hg
  exact ⟨one_new _ _ _, by simp [go_sem], fun e => by have := own_lt h.o1 e; omega, fun e => by have := own_lt h.o2 e; omega, fun e => by have := own_lt h.o3 e; omega⟩
end
/-- what holds in the midst of New's region of three appends -/
structure St8 (N : Nat) (w0 ws wd : World) (rs : List Nat) (br : Nat) (cs0 : List Value) (ns rls fs : List Int) (v1 v2 v3 : Value) (g1 g2 g3 : Option Nat) (W : World) : Prop where
  b0 : Bel w0 W
  n0 : w0.heap.size = N
  bl : Bel ws W
  nb0 : ws.heap.size ≤ N
  nb : N ≤ br
  gs : GrsOk wd rs W
  row : RowAt W br 41 cs0
  o : Rows3 N W ns rls fs v1 v2 v3
  r1 : ∀ k, v1.ownBlock = some k → k < wd.heap.size → k ∈ rs
  r2 : ∀ k, v2.ownBlock = some k → k < wd.heap.size → k ∈ rs
  r3 : ∀ k, v3.ownBlock = some k → k < wd.heap.size → k ∈ rs
  c1 : ∀ g, g1 = some g → Src W g (-1) v1 v2 v3
  c2 : ∀ g, g2 = some g → Src W g 0 v1 v2 v3
  c3 : ∀ g, g3 = some g → Src W g 0 v1 v2 v3
section
variable {N : Nat} {w0 ws wd W W' : World} {rs : List Nat} {br : Nat} {cs0 : List Value} {ns rls fs : List Int} {v1 v2 v3 : Value} {g1 g2 g3 : Option Nat}
theorem St8.nw (h : St8 N w0 ws wd rs br cs0 ns rls fs v1 v2 v3 g1 g2 g3 W) : N ≤ W.heap.size := by have := h.row.lt; have := h.nb; omega
theorem St8.make1 (h : St8 N w0 ws wd rs br cs0 ns rls fs v1 v2 v3 none g2 g3 W) : St8 N w0 ws wd rs br cs0 ns rls fs v1 v2 v3 (some W.heap.size) g2 g3 (W.alloc (.cells #[.int .i64 (-1)] 3)) :=
  ⟨h.b0.alloc _, h.n0, h.bl.alloc _, h.nb0, h.nb, grs_alloc h.gs _, h.row.alloc _, h.o.bel (Bel.refl.alloc _), h.r1, h.r2, h.r3, fun g e => h.o.new _ _ (by injection e with e; exact e.symm), fun g e => (h.c2 g e).alloc _, fun g e => (h.c3 g e).alloc _⟩
theorem St8.make2 (h : St8 N w0 ws wd rs br cs0 ns rls fs v1 v2 v3 g1 none g3 W) : St8 N w0 ws wd rs br cs0 ns rls fs v1 v2 v3 g1 (some W.heap.size) g3 (W.alloc (.cells #[.int .i64 0] 2)) :=
  ⟨h.b0.alloc _, h.n0, h.bl.alloc _, h.nb0, h.nb, grs_alloc h.gs _, h.row.alloc _, h.o.bel (Bel.refl.alloc _), h.r1, h.r2, h.r3, fun g e => (h.c1 g e).alloc _, fun g e => h.o.new _ _ (by injection e with e; exact e.symm), fun g e => (h.c3 g e).alloc _⟩
theorem St8.make3 (h : St8 N w0 ws wd rs br cs0 ns rls fs v1 v2 v3 g1 g2 none W) : St8 N w0 ws wd rs br cs0 ns rls fs v1 v2 v3 g1 g2 (some W.heap.size) (W.alloc (.cells #[.int .i64 0] 2)) :=
  ⟨h.b0.alloc _, h.n0, h.bl.alloc _, h.nb0, h.nb, grs_alloc h.gs _, h.row.alloc _, h.o.bel (Bel.refl.alloc _), h.r1, h.r2, h.r3, fun g e => (h.c1 g e).alloc _, fun g e => (h.c2 g e).alloc _, fun g e => h.o.new _ _ (by injection e with e; exact e.symm)⟩
/-- the row that grows lies where it lay, or anew -/
theorem apt_grown {w : World} {base n : Nat} {e : TypeId} {v u : Value} {xs : List Value} {g m cap : Nat} (hu : w.ownsRow base e 1 u n xs) (ha : Apt u v) (hat : v.ownBlock = some g ∨ g = w.heap.size) : Apt u (.slice (some ⟨g, 0, none⟩) m cap) := fun k a b => by
  have hob : (Value.slice (some ⟨g, 0, none⟩) m cap).ownBlock = some g := rfl
  rw [hob] at b; injection b with b; subst b
  rcases hat with h | h
  · exact ha g a h
  · have := own_lt hu a; omega
theorem src_ne {W : World} {v : Value} {b g m cap : Nat} (hb : v.ownBlock ≠ some b) (hl : b < W.heap.size) (hat : v.ownBlock = some g ∨ g = W.heap.size) : (Value.slice (some ⟨g, 0, none⟩) m cap).ownBlock ≠ some b := fun e => by
  have hob : (Value.slice (some ⟨g, 0, none⟩) m cap).ownBlock = some g := rfl
  rw [hob] at e; injection e with e; subst e
  rcases hat with h | h
  · exact hb h
  · omega
theorem in_grown {wd W : World} {rs : List Nat} {v : Value} {g m cap : Nat} (hs : wd.heap.size ≤ W.heap.size) (hr : ∀ k, v.ownBlock = some k → k < wd.heap.size → k ∈ rs) (hat : v.ownBlock = some g ∨ g = W.heap.size) : ∀ k, (Value.slice (some ⟨g, 0, none⟩) m cap).ownBlock = some k → k < wd.heap.size → k ∈ rs := fun k e hk => by
  have hob : (Value.slice (some ⟨g, 0, none⟩) m cap).ownBlock = some g := rfl
  rw [hob] at e; injection e with e; subst e
  rcases hat with h | h
  · exact hr g h hk
  · omega
theorem St8.app1 (h : St8 N w0 ws wd rs br cs0 ns rls fs v1 v2 v3 g1 g2 g3 W) {g cap : Nat} (ho : W'.ownsRow N 3 1 (.slice (some ⟨g, 0, none⟩) (ns.length + 1) cap) (ns.length + 1) (intsC ns ++ [.int .i64 (-1)])) (hg : W.grownBy W' v1.ownBlock) (hat : v1.ownBlock = some g ∨ g = W.heap.size) :
    St8 N w0 ws wd rs br cs0 (ns ++ [-1]) rls fs (.slice (some ⟨g, 0, none⟩) (ns.length + 1) cap) v2 v3 none g2 g3 W' := by
  have h12 := apt_types h.o.o1 h.o.o2 (by decide)
  have h13 := apt_types h.o.o1 h.o.o3 (by decide)
  refine ⟨bel_gro h.b0 hg (fun k e => by rw [h.n0]; exact (h.o.o1.lt k e).1), h.n0, bel_gro h.bl hg (fun k e => Nat.le_trans h.nb0 (h.o.o1.lt k e).1), h.nb0, h.nb, grs_grown h.gs hg h.r1, h.row.gro hg (box_row_ne h.row h.o.o1 (by decide)), ⟨?_, h.o.o2.kept hg h12.symm.row, h.o.o3.kept hg h13.symm.row, h.o.d⟩, in_grown h.gs.size h.r1 hat, h.r2, h.r3, fun _ e => (by cases e), fun q e => ?_, fun q e => ?_⟩
  · rw [intsC_snoc] at ho
    rw [List.length_append]; exact ho
  · obtain ⟨a, b, c1, c2, c3⟩ := h.c2 q e
    exact ⟨cell_grown a b hg c1, Nat.lt_of_lt_of_le b hg.size, src_ne c1 b hat, c2, c3⟩
  · obtain ⟨a, b, c1, c2, c3⟩ := h.c3 q e
    exact ⟨cell_grown a b hg c1, Nat.lt_of_lt_of_le b hg.size, src_ne c1 b hat, c2, c3⟩
theorem St8.app2 (h : St8 N w0 ws wd rs br cs0 ns rls fs v1 v2 v3 g1 g2 g3 W) {g cap : Nat} (ho : W'.ownsRow N 2 1 (.slice (some ⟨g, 0, none⟩) (rls.length + 1) cap) (rls.length + 1) (intsC rls ++ [.int .i64 0])) (hg : W.grownBy W' v2.ownBlock) (hat : v2.ownBlock = some g ∨ g = W.heap.size) :
    St8 N w0 ws wd rs br cs0 ns (rls ++ [0]) fs v1 (.slice (some ⟨g, 0, none⟩) (rls.length + 1) cap) v3 g1 none g3 W' := by
  have h12 := apt_types h.o.o1 h.o.o2 (by decide)
  refine ⟨bel_gro h.b0 hg (fun k e => by rw [h.n0]; exact (h.o.o2.lt k e).1), h.n0, bel_gro h.bl hg (fun k e => Nat.le_trans h.nb0 (h.o.o2.lt k e).1), h.nb0, h.nb, grs_grown h.gs hg h.r2, h.row.gro hg (box_row_ne h.row h.o.o2 (by decide)), ⟨h.o.o1.kept hg h12.row, ?_, h.o.o3.kept hg h.o.d.symm.row, (apt_grown h.o.o3 h.o.d.symm hat).symm⟩, h.r1, in_grown h.gs.size h.r2 hat, h.r3, fun q e => ?_, fun _ e => (by cases e), fun q e => ?_⟩
  · rw [intsC_snoc] at ho
    rw [List.length_append]; exact ho
  · obtain ⟨a, b, c1, c2, c3⟩ := h.c1 q e
    exact ⟨cell_grown a b hg c2, Nat.lt_of_lt_of_le b hg.size, c1, src_ne c2 b hat, c3⟩
  · obtain ⟨a, b, c1, c2, c3⟩ := h.c3 q e
    exact ⟨cell_grown a b hg c2, Nat.lt_of_lt_of_le b hg.size, c1, src_ne c2 b hat, c3⟩
theorem St8.app3 (h : St8 N w0 ws wd rs br cs0 ns rls fs v1 v2 v3 g1 g2 g3 W) {g cap : Nat} (ho : W'.ownsRow N 2 1 (.slice (some ⟨g, 0, none⟩) (fs.length + 1) cap) (fs.length + 1) (intsC fs ++ [.int .i64 0])) (hg : W.grownBy W' v3.ownBlock) (hat : v3.ownBlock = some g ∨ g = W.heap.size) :
    St8 N w0 ws wd rs br cs0 ns rls (fs ++ [0]) v1 v2 (.slice (some ⟨g, 0, none⟩) (fs.length + 1) cap) g1 g2 none W' := by
  have h13 := apt_types h.o.o1 h.o.o3 (by decide)
  refine ⟨bel_gro h.b0 hg (fun k e => by rw [h.n0]; exact (h.o.o3.lt k e).1), h.n0, bel_gro h.bl hg (fun k e => Nat.le_trans h.nb0 (h.o.o3.lt k e).1), h.nb0, h.nb, grs_grown h.gs hg h.r3, h.row.gro hg (box_row_ne h.row h.o.o3 (by decide)), ⟨h.o.o1.kept hg h13.row, h.o.o2.kept hg h.o.d.row, ?_, apt_grown h.o.o2 h.o.d hat⟩, h.r1, h.r2, in_grown h.gs.size h.r3 hat, fun q e => ?_, fun q e => ?_, fun _ e => (by cases e)⟩
  · rw [intsC_snoc] at ho
    rw [List.length_append]; exact ho
  · obtain ⟨a, b, c1, c2, c3⟩ := h.c1 q e
    exact ⟨cell_grown a b hg c3, Nat.lt_of_lt_of_le b hg.size, c1, c2, src_ne c3 b hat⟩
  · obtain ⟨a, b, c1, c2, c3⟩ := h.c2 q e
    exact ⟨cell_grown a b hg c3, Nat.lt_of_lt_of_le b hg.size, c1, c2, src_ne c3 b hat⟩
end
/-- the reference's executive -/
structure RxAt (N : Nat) (wb w : World) (br : Nat) (lv xv nv rv fv : Value) (l : List Tsk) (xs : List Int) (st : ExS) : Prop where
  bl : Bel wb w
  nb0 : wb.heap.size ≤ N
  nb : N ≤ br
  tl : TsksAt wb wb.heap.size lv l
  tx : IntsAt wb wb.heap.size xv xs
  row : RowAt w br 41 [lv, xv, .int .i64 st.now, nv, rv, fv]
  o : Rows3 N w (st.js.map JobX.num) (st.js.map JobX.rel) (st.js.map JobX.lft) nv rv fv
section
variable {N : Nat} {wb w w' : World} {br : Nat} {lv xv nv rv fv : Value} {l : List Tsk} {xs : List Int} {st : ExS}
theorem RxAt.bel (h : RxAt N wb w br lv xv nv rv fv l xs st) (hb : Bel w w') : RxAt N wb w' br lv xv nv rv fv l xs st := ⟨h.bl.trans hb, h.nb0, h.nb, h.tl, h.tx, h.row.bel hb, h.o.bel hb⟩
theorem RxAt.lt (h : RxAt N wb w br lv xv nv rv fv l xs st) : br < w.heap.size := h.row.lt
theorem RxAt.nw (h : RxAt N wb w br lv xv nv rv fv l xs st) : N ≤ w.heap.size := by have := h.row.lt; have := h.nb; omega
/-- the program's executive is turned -/
theorem RxAt.gro (h : RxAt N wb w br lv xv nv rv fv l xs st) {p : Nat} (g : w.grownBy w' (some p)) (hp : wb.heap.size ≤ p) (hN : p < N) : RxAt N wb w' br lv xv nv rv fv l xs st :=
  ⟨bel_gro h.bl g (fun k e => by injection e with e; omega), h.nb0, h.nb, h.tl, h.tx, h.row.gro g (fun e => by injection e with e; have := h.nb; omega),
    ⟨h.o.o1.kept g (.inr fun e => by have := (h.o.o1.lt p e).1; omega), h.o.o2.kept g (.inr fun e => by have := (h.o.o2.lt p e).1; omega), h.o.o3.kept g (.inr fun e => by have := (h.o.o3.lt p e).1; omega), h.o.d⟩⟩
/-- the beginning of New's region -/
theorem RxAt.start {w0 : World} (h : RxAt N wb w br lv xv nv rv fv l xs st) (hb : Bel w0 w) (hN : w0.heap.size = N) : St8 N w0 wb w (obL nv ++ obL rv ++ obL fv) br [lv, xv, .int .i64 st.now, nv, rv, fv] (st.js.map JobX.num) (st.js.map JobX.rel) (st.js.map JobX.lft) nv rv fv none none none w.drew :=
  ⟨hb.drew, hN, h.bl.drew, h.nb0, h.nb, grs_drew _ _, h.row.drew, h.o.bel Bel.refl.drew, fun k e _ => by simp [mem_obL, e], fun k e _ => by simp [mem_obL, e], fun k e _ => by simp [mem_obL, e], fun _ e => (by cases e), fun _ e => (by cases e), fun _ e => (by cases e)⟩
theorem RxAt.br_out (h : RxAt N wb w br lv xv nv rv fv l xs st) : br ∉ obL nv ++ obL rv ++ obL fv := by
  intro hm
  simp only [List.mem_append, mem_obL] at hm
  rcases hm with (e | e) | e
  · exact box_row_ne h.row h.o.o1 (by decide) e.symm
  · exact box_row_ne h.row h.o.o2 (by decide) e.symm
  · exact box_row_ne h.row h.o.o3 (by decide) e.symm
theorem Rows3.box {w : World} {ns rls fs : List Int} {v1 v2 v3 : Value} {p : Nat} {cs : List Value} (h : Rows3 N w ns rls fs v1 v2 v3) (hr : RowAt w p 41 cs) (i : Nat) (u : Value) : Rows3 N (w.setCell ⟨p, i, none⟩ u) ns rls fs v1 v2 v3 := by
  have g : w.grownBy (w.setCell ⟨p, i, none⟩ u) (some p) := gro_set (gro_refl _) i _
  exact ⟨h.o1.kept g (own_box_ne hr h.o1 (by decide)), h.o2.kept g (own_box_ne hr h.o2 (by decide)), h.o3.kept g (own_box_ne hr h.o3 (by decide)), h.d⟩
/-- the end of New's region -/
theorem St8.fin {w0 ws wd W : World} {rs : List Nat} {v1 v2 v3 : Value} {js : List JobX} {g1 g2 g3 : Option Nat} (h : St8 N w0 ws wd rs br [lv, xv, .int .i64 0, nv, rv, fv] (js.map JobX.num ++ [-1]) (js.map JobX.rel ++ [0]) (js.map JobX.lft ++ [0]) v1 v2 v3 g1 g2 g3 W) (tl : TsksAt ws ws.heap.size lv l) (tx : IntsAt ws ws.heap.size xv xs) :
    RxAt N ws (((W.setCell ⟨br, 3, none⟩ v1).setCell ⟨br, 4, none⟩ v2).setCell ⟨br, 5, none⟩ v3) br lv xv v1 v2 v3 l xs ⟨0, js ++ [⟨-1, 0, 0⟩]⟩ ∧ Bel w0 (((W.setCell ⟨br, 3, none⟩ v1).setCell ⟨br, 4, none⟩ v2).setCell ⟨br, 5, none⟩ v3) := by
  refine ⟨?_, ((h.b0.set (p := ⟨br, 3, none⟩) (by rw [h.n0]; exact h.nb) v1).set (p := ⟨br, 4, none⟩) (by rw [h.n0]; exact h.nb) v2).set (p := ⟨br, 5, none⟩) (by rw [h.n0]; exact h.nb) v3⟩
  have r3 := h.row.set 3 v1
  have r4 := r3.set 4 v2
  have r5 := r4.set 5 v3
  have o3 := h.o.box h.row 3 v1
  have o4 := o3.box r3 4 v2
  have o5 := o4.box r4 5 v3
  refine ⟨((h.bl.set (p := ⟨br, 3, none⟩) (Nat.le_trans h.nb0 h.nb) v1).set (p := ⟨br, 4, none⟩) (Nat.le_trans h.nb0 h.nb) v2).set (p := ⟨br, 5, none⟩) (Nat.le_trans h.nb0 h.nb) v3, h.nb0, h.nb, tl, tx, r5, ?_⟩
  have e1 : (js ++ [(⟨-1, 0, 0⟩ : JobX)]).map JobX.num = js.map JobX.num ++ [-1] := by simp
  have e2 : (js ++ [(⟨-1, 0, 0⟩ : JobX)]).map JobX.rel = js.map JobX.rel ++ [0] := by simp
  have e3 : (js ++ [(⟨-1, 0, 0⟩ : JobX)]).map JobX.lft = js.map JobX.lft ++ [0] := by simp
  dsimp only
  rw [e1, e2, e3]
  exact o5
end
end Go.Proofs.Ytbilfpoghohddaa
