/- foliotref38.Tick: memory. -/
import Derived.Test.YtbilfpoghohddaaZYrmem
namespace Go.Proofs.Ytbilfpoghohddaa
open Go Go.RowKit
theorem map_set_same {α β : Type} (f : α → β) (js : List α) (k : Nat) (j : α) (d : α) (h : f j = f (js.getD k d)) : (js.set k j).map f = js.map f := by
  rw [List.map_set, h]
  apply List.ext_getElem?
  intro i
  rw [List.getElem?_set]
  split
  · next e =>
    subst e
    by_cases hk : k < js.length
    · simp [hk]
    · simp [hk]
  · rfl
def sl3 (g n c : Nat) : Value := .slice (some ⟨g, 0, none⟩) n c
section
variable {N : Nat} {wb w w' : World} {br g1 g2 g3 c1 c2 c3 n : Nat} {lv xv : Value} {l : List Tsk} {xs : List Int} {st : ExS}
theorem own_i_put {e : TypeId} {W : World} {g c : Nat} {ns : List Int} (h : W.ownsRow N e 1 (.slice (some ⟨g, 0, none⟩) n c) ns.length (intsC ns)) (hn : n = ns.length) (k : Nat) (v : Int) :
    (W.setCell ⟨g, k, none⟩ (.int .i64 v)).ownsRow N e 1 (.slice (some ⟨g, 0, none⟩) n c) (ns.set k v).length (intsC (ns.set k v)) ∧ W.grownBy (W.setCell ⟨g, k, none⟩ (.int .i64 v)) (some g) := by
  subst hn
  obtain ⟨h1, h2⟩ := h.stored k (.int .i64 v)
  rw [intsC_set] at h1
  rw [List.length_set]
  exact ⟨h1, h2⟩
/-- the reference's executive with its rows at hand -/
structure RyAt (N : Nat) (wb w : World) (br g1 g2 g3 c1 c2 c3 n : Nat) (lv xv : Value) (l : List Tsk) (xs : List Int) (st : ExS) : Prop where
  x : RxAt N wb w br lv xv (.slice (some ⟨g1, 0, none⟩) n c1) (.slice (some ⟨g2, 0, none⟩) n c2) (.slice (some ⟨g3, 0, none⟩) n c3) l xs st
  jn : n = st.js.length
theorem RyAt.bel (h : RyAt N wb w br g1 g2 g3 c1 c2 c3 n lv xv l xs st) (hb : Bel w w') : RyAt N wb w' br g1 g2 g3 c1 c2 c3 n lv xv l xs st := ⟨h.x.bel hb, h.jn⟩
theorem RyAt.n1 (h : RyAt N wb w br g1 g2 g3 c1 c2 c3 n lv xv l xs st) : N ≤ g1 ∧ g1 < w.heap.size := h.x.o.o1.lt g1 rfl
theorem RyAt.n2 (h : RyAt N wb w br g1 g2 g3 c1 c2 c3 n lv xv l xs st) : N ≤ g2 ∧ g2 < w.heap.size := h.x.o.o2.lt g2 rfl
theorem RyAt.n3 (h : RyAt N wb w br g1 g2 g3 c1 c2 c3 n lv xv l xs st) : N ≤ g3 ∧ g3 < w.heap.size := h.x.o.o3.lt g3 rfl
theorem jx_map {js : List JobX} {f : JobX → Int} {k : Nat} (hk : k < js.length) : (intsC (js.map f))[k]? = some (.int .i64 (f (jxAt js k))) := by
  unfold intsC
  simp [jxAt, List.getD, hk]
theorem RyAt.k1 (h : RyAt N wb w br g1 g2 g3 c1 c2 c3 n lv xv l xs st) {k : Nat} (hk : k < st.js.length) : w.cell? ⟨g1, k, none⟩ = some (.int .i64 (jxAt st.js k).num) := by
  have := h.x.o.o1
  rw [List.length_map, ← h.jn] at this
  rw [this.cellAt k (by have := h.jn; omega), jx_map hk]
theorem RyAt.k2 (h : RyAt N wb w br g1 g2 g3 c1 c2 c3 n lv xv l xs st) {k : Nat} (hk : k < st.js.length) : w.cell? ⟨g2, k, none⟩ = some (.int .i64 (jxAt st.js k).rel) := by
  have := h.x.o.o2
  rw [List.length_map, ← h.jn] at this
  rw [this.cellAt k (by have := h.jn; omega), jx_map hk]
theorem RyAt.k3 (h : RyAt N wb w br g1 g2 g3 c1 c2 c3 n lv xv l xs st) {k : Nat} (hk : k < st.js.length) : w.cell? ⟨g3, k, none⟩ = some (.int .i64 (jxAt st.js k).lft) := by
  have := h.x.o.o3
  rw [List.length_map, ← h.jn] at this
  rw [this.cellAt k (by have := h.jn; omega), jx_map hk]
theorem own_froz {W : World} {e : TypeId} {g c m : Nat} {ys : List Value} (h : W.ownsRow N e 1 (.slice (some ⟨g, 0, none⟩) n c) m ys) (k : Nat) : W.frozen? ⟨g, k, none⟩ = false := by
  rcases h.2 with ⟨h', _⟩ | ⟨g', cap', cur, h', _, hg, _⟩
  · simp at h'
  · simp only [Value.slice.injEq, Option.some.injEq, Addr.mk.injEq, and_true, true_and] at h'
    obtain ⟨rfl, _⟩ := h'
    simp [World.frozen?, hg]
theorem RyAt.f1 (h : RyAt N wb w br g1 g2 g3 c1 c2 c3 n lv xv l xs st) (k : Nat) : w.frozen? ⟨g1, k, none⟩ = false := own_froz h.x.o.o1 k
theorem RyAt.f2 (h : RyAt N wb w br g1 g2 g3 c1 c2 c3 n lv xv l xs st) (k : Nat) : w.frozen? ⟨g2, k, none⟩ = false := own_froz h.x.o.o2 k
theorem RyAt.f3 (h : RyAt N wb w br g1 g2 g3 c1 c2 c3 n lv xv l xs st) (k : Nat) : w.frozen? ⟨g3, k, none⟩ = false := own_froz h.x.o.o3 k
theorem ne_row {v : Value} {p : Nat} {W : World} {base m : Nat} {e : TypeId} {ys : List Value} (_ : W.ownsRow base e 1 v m ys) (h : some p ≠ v.ownBlock) : v.ownBlock = none ∨ v.ownBlock ≠ some p := .inr (fun e => h e.symm)
theorem RyAt.put1 (h : RyAt N wb w br g1 g2 g3 c1 c2 c3 n lv xv l xs st) {k : Nat} (hk : k < st.js.length) (v : Int) :
    RyAt N wb (w.setCell ⟨g1, k, none⟩ (.int .i64 v)) br g1 g2 g3 c1 c2 c3 n lv xv l xs ⟨st.now, st.js.set k ⟨v, (jxAt st.js k).rel, (jxAt st.js k).lft⟩⟩ ∧ w.grownBy (w.setCell ⟨g1, k, none⟩ (.int .i64 v)) (some g1) := by
  obtain ⟨o, g⟩ := own_i_put h.x.o.o1 (by simpa using h.jn) k v
  have h12 := apt_types h.x.o.o1 h.x.o.o2 (by decide)
  have h13 := apt_types h.x.o.o1 h.x.o.o3 (by decide)
  refine ⟨⟨⟨bel_gro h.x.bl g (fun q e => by injection e with e; have := h.n1; have := h.x.nb0; omega), h.x.nb0, h.x.nb, h.x.tl, h.x.tx, h.x.row.gro g (fun e => box_row_ne h.x.row h.x.o.o1 (by decide) e), ⟨?_, ?_, ?_, h.x.o.d⟩⟩, by simpa using h.jn⟩, g⟩
  · dsimp only; rw [List.map_set]; exact o
  · dsimp only; rw [show (st.js.set k ⟨v, (jxAt st.js k).rel, (jxAt st.js k).lft⟩).map JobX.rel = st.js.map JobX.rel from map_set_same _ _ _ _ ⟨0, 0, 0⟩ rfl]; exact h.x.o.o2.kept g h12.symm.row
  · dsimp only; rw [show (st.js.set k ⟨v, (jxAt st.js k).rel, (jxAt st.js k).lft⟩).map JobX.lft = st.js.map JobX.lft from map_set_same _ _ _ _ ⟨0, 0, 0⟩ rfl]; exact h.x.o.o3.kept g h13.symm.row
theorem RyAt.put2 (h : RyAt N wb w br g1 g2 g3 c1 c2 c3 n lv xv l xs st) {k : Nat} (hk : k < st.js.length) (v : Int) :
    RyAt N wb (w.setCell ⟨g2, k, none⟩ (.int .i64 v)) br g1 g2 g3 c1 c2 c3 n lv xv l xs ⟨st.now, st.js.set k ⟨(jxAt st.js k).num, v, (jxAt st.js k).lft⟩⟩ ∧ w.grownBy (w.setCell ⟨g2, k, none⟩ (.int .i64 v)) (some g2) := by
  obtain ⟨o, g⟩ := own_i_put h.x.o.o2 (by simpa using h.jn) k v
  have h12 := apt_types h.x.o.o1 h.x.o.o2 (by decide)
  refine ⟨⟨⟨bel_gro h.x.bl g (fun q e => by injection e with e; have := h.n2; have := h.x.nb0; omega), h.x.nb0, h.x.nb, h.x.tl, h.x.tx, h.x.row.gro g (fun e => box_row_ne h.x.row h.x.o.o2 (by decide) e), ⟨?_, ?_, ?_, h.x.o.d⟩⟩, by simpa using h.jn⟩, g⟩
  · dsimp only; rw [show (st.js.set k ⟨(jxAt st.js k).num, v, (jxAt st.js k).lft⟩).map JobX.num = st.js.map JobX.num from map_set_same _ _ _ _ ⟨0, 0, 0⟩ rfl]; exact h.x.o.o1.kept g h12.row
  · dsimp only; rw [List.map_set]; exact o
  · dsimp only; rw [show (st.js.set k ⟨(jxAt st.js k).num, v, (jxAt st.js k).lft⟩).map JobX.lft = st.js.map JobX.lft from map_set_same _ _ _ _ ⟨0, 0, 0⟩ rfl]; exact h.x.o.o3.kept g h.x.o.d.symm.row
theorem RyAt.put3 (h : RyAt N wb w br g1 g2 g3 c1 c2 c3 n lv xv l xs st) {k : Nat} (hk : k < st.js.length) (v : Int) :
    RyAt N wb (w.setCell ⟨g3, k, none⟩ (.int .i64 v)) br g1 g2 g3 c1 c2 c3 n lv xv l xs ⟨st.now, st.js.set k ⟨(jxAt st.js k).num, (jxAt st.js k).rel, v⟩⟩ ∧ w.grownBy (w.setCell ⟨g3, k, none⟩ (.int .i64 v)) (some g3) := by
  obtain ⟨o, g⟩ := own_i_put h.x.o.o3 (by simpa using h.jn) k v
  have h13 := apt_types h.x.o.o1 h.x.o.o3 (by decide)
  refine ⟨⟨⟨bel_gro h.x.bl g (fun q e => by injection e with e; have := h.n3; have := h.x.nb0; omega), h.x.nb0, h.x.nb, h.x.tl, h.x.tx, h.x.row.gro g (fun e => box_row_ne h.x.row h.x.o.o3 (by decide) e), ⟨?_, ?_, ?_, h.x.o.d⟩⟩, by simpa using h.jn⟩, g⟩
  · dsimp only; rw [show (st.js.set k ⟨(jxAt st.js k).num, (jxAt st.js k).rel, v⟩).map JobX.num = st.js.map JobX.num from map_set_same _ _ _ _ ⟨0, 0, 0⟩ rfl]; exact h.x.o.o1.kept g h13.row
  · dsimp only; rw [show (st.js.set k ⟨(jxAt st.js k).num, (jxAt st.js k).rel, v⟩).map JobX.rel = st.js.map JobX.rel from map_set_same _ _ _ _ ⟨0, 0, 0⟩ rfl]; exact h.x.o.o2.kept g h.x.o.d.row
  · dsimp only; rw [List.map_set]; exact o
theorem RyAt.putT (h : RyAt N wb w br g1 g2 g3 c1 c2 c3 n lv xv l xs st) (t : Int) :
    RyAt N wb (w.setCell ⟨br, 2, none⟩ (.int .i64 t)) br g1 g2 g3 c1 c2 c3 n lv xv l xs ⟨t, st.js⟩ ∧ w.grownBy (w.setCell ⟨br, 2, none⟩ (.int .i64 t)) (some br) := by
  have g : w.grownBy (w.setCell ⟨br, 2, none⟩ (.int .i64 t)) (some br) := gro_set (gro_refl _) 2 _
  exact ⟨⟨⟨bel_gro h.x.bl g (fun q e => by injection e with e; have := h.x.nb; have := h.x.nb0; omega), h.x.nb0, h.x.nb, h.x.tl, h.x.tx, h.x.row.set 2 _, h.x.o.box h.x.row 2 _⟩, h.jn⟩, g⟩
theorem RyAt.grow (h : RyAt N wb w br g1 g2 g3 c1 c2 c3 n lv xv l xs st) {m k : Nat} {dv : Value} {ys : List Value} (ho : w.ownsRow m 60 5 dv k ys) (hm : wb.heap.size ≤ m) (g : w.grownBy w' dv.ownBlock) : RyAt N wb w' br g1 g2 g3 c1 c2 c3 n lv xv l xs st :=
  ⟨⟨bel_gro h.x.bl g (fun q e => Nat.le_trans hm (ho.lt q e).1), h.x.nb0, h.x.nb, h.x.tl, h.x.tx, h.x.row.gro g (box_row_ne h.x.row ho (by decide)),
    ⟨h.x.o.o1.kept g (own_types_ne h.x.o.o1 ho (by decide)), h.x.o.o2.kept g (own_types_ne h.x.o.o2 ho (by decide)), h.x.o.o3.kept g (own_types_ne h.x.o.o3 ho (by decide)), h.x.o.d⟩⟩, h.jn⟩
end
theorem grs_bel {w0 W W' : World} {rs : List Nat} (h : GrsOk w0 rs W) (hb : Bel W W') : GrsOk w0 rs W' :=
  ⟨hb.os.trans h.os, hb.tape.trans h.tape, hb.output.trans h.output, Nat.le_trans h.size hb.le, fun k hk hr => (hb.block k (Nat.lt_of_lt_of_le hk h.size)).trans (h.block k hk hr)⟩
/-- blocks that hold no responses -/
def NoDon (N : Nat) (w0 : World) (rs : List Nat) : Prop := ∀ k ∈ rs, N ≤ k ∧ ∀ (base : Nat) (v : Value) (n : Nat) (ys : List Value), w0.ownsRow base 60 5 v n ys → v.ownBlock ≠ some k
theorem RyAt.noDon {N : Nat} {wb w : World} {br g1 g2 g3 c1 c2 c3 n : Nat} {lv xv : Value} {l : List Tsk} {xs : List Int} {st : ExS} (h : RyAt N wb w br g1 g2 g3 c1 c2 c3 n lv xv l xs st) : NoDon N w [br, g1, g2, g3] := by
  intro k hk
  simp only [List.mem_cons, List.not_mem_nil, or_false] at hk
  rcases hk with rfl | rfl | rfl | rfl
  · exact ⟨h.x.nb, fun _ _ _ _ ho e => box_row_ne h.x.row ho (by decide) e.symm⟩
  · exact ⟨h.n1.1, fun _ _ _ _ ho e => (apt_types h.x.o.o1 ho (by decide)) _ rfl e⟩
  · exact ⟨h.n2.1, fun _ _ _ _ ho e => (apt_types h.x.o.o2 ho (by decide)) _ rfl e⟩
  · exact ⟨h.n3.1, fun _ _ _ _ ho e => (apt_types h.x.o.o3 ho (by decide)) _ rfl e⟩
/-- in the midst of a tick -/
structure RkAt (N : Nat) (wb w0 : World) (m3 : Nat) (W : World) (br g1 g2 g3 c1 c2 c3 n : Nat) (lv xv : Value) (l : List Tsk) (xs : List Int) (st : ExS) (dv : Value) (ds : List Don) (rv : Value) (is : List Nat) : Prop where
  y : RyAt N wb W br g1 g2 g3 c1 c2 c3 n lv xv l xs st
  rr : W.ownsRow w0.heap.size 3 1 rv is.length (natC is)
  d : W.ownsRow m3 60 5 dv ds.length (ds.flatMap donC)
  b0 : GrsOk w0 [br, g1, g2, g3] W
  nd : NoDon N w0 [br, g1, g2, g3]
  m0 : w0.heap.size ≤ m3
  m1 : m3 ≤ W.heap.size
  lo1 : g1 < w0.heap.size
  lo2 : g2 < w0.heap.size
  lo3 : g3 < w0.heap.size
  lob : br < w0.heap.size
section
variable {N : Nat} {wb w0 W W' : World} {m3 br g1 g2 g3 c1 c2 c3 n : Nat} {lv xv : Value} {l : List Tsk} {xs : List Int} {st : ExS} {dv : Value} {ds : List Don} {rv : Value} {is : List Nat}
theorem RkAt.bel (h : RkAt N wb w0 m3 W br g1 g2 g3 c1 c2 c3 n lv xv l xs st dv ds rv is) (hb : Bel W W') : RkAt N wb w0 m3 W' br g1 g2 g3 c1 c2 c3 n lv xv l xs st dv ds rv is :=
  ⟨h.y.bel hb, ownsRow_bel h.rr hb, ownsRow_bel h.d hb, grs_bel h.b0 hb, h.nd, h.m0, Nat.le_trans h.m1 hb.le, h.lo1, h.lo2, h.lo3, h.lob⟩
theorem RkAt.turn (h : RkAt N wb w0 m3 W br g1 g2 g3 c1 c2 c3 n lv xv l xs st dv ds rv is) {st' : ExS} {p : Nat} (hy : RyAt N wb W' br g1 g2 g3 c1 c2 c3 n lv xv l xs st' ∧ W.grownBy W' (some p)) (hp : p < w0.heap.size) (hN : p ∈ [br, g1, g2, g3]) : RkAt N wb w0 m3 W' br g1 g2 g3 c1 c2 c3 n lv xv l xs st' dv ds rv is :=
  ⟨hy.1, h.rr.kept hy.2 (.inr fun e => by have := (h.rr.lt p e).1; omega), h.d.kept hy.2 (.inr fun e => by have := (h.d.lt p e).1; have := h.m0; omega), grs_grown h.b0 hy.2 (fun k e _ => by injection e with e; rw [← e]; exact hN), h.nd, h.m0, Nat.le_trans h.m1 hy.2.size, h.lo1, h.lo2, h.lo3, h.lob⟩
/-- a job is released -/
theorem RkAt.release (h : RkAt N wb w0 m3 W br g1 g2 g3 c1 c2 c3 n lv xv l xs st dv ds rv is) {k : Nat} (hk : k < st.js.length) (a b c : Int) :
    RkAt N wb w0 m3 (((W.setCell ⟨g1, k, none⟩ (.int .i64 a)).setCell ⟨g2, k, none⟩ (.int .i64 b)).setCell ⟨g3, k, none⟩ (.int .i64 c)) br g1 g2 g3 c1 c2 c3 n lv xv l xs ⟨st.now, st.js.set k ⟨a, b, c⟩⟩ dv ds rv is := by
  have h1 := h.turn (h.y.put1 hk a) h.lo1 (by simp)
  have h2 := h1.turn (h1.y.put2 (k := k) (by simpa using hk) b) h1.lo2 (by simp)
  have h3 := h2.turn (h2.y.put3 (k := k) (by simpa using hk) c) h2.lo3 (by simp)
  simp only [List.set_set, jxAt_set hk, ↓reduceIte] at h3
  exact h3
theorem RkAt.execute (h : RkAt N wb w0 m3 W br g1 g2 g3 c1 c2 c3 n lv xv l xs st dv ds rv is) {k : Nat} (hk : k < st.js.length) (c : Int) :
    RkAt N wb w0 m3 (W.setCell ⟨g3, k, none⟩ (.int .i64 c)) br g1 g2 g3 c1 c2 c3 n lv xv l xs ⟨st.now, st.js.set k ⟨(jxAt st.js k).num, (jxAt st.js k).rel, c⟩⟩ dv ds rv is :=
  h.turn (h.y.put3 hk c) h.lo3 (by simp)
theorem RkAt.bump (h : RkAt N wb w0 m3 W br g1 g2 g3 c1 c2 c3 n lv xv l xs st dv ds rv is) (t : Int) :
    RkAt N wb w0 m3 (W.setCell ⟨br, 2, none⟩ (.int .i64 t)) br g1 g2 g3 c1 c2 c3 n lv xv l xs ⟨t, st.js⟩ dv ds rv is :=
  h.turn (h.y.putT t) h.lob (by simp)
theorem RkAt.grow (h : RkAt N wb w0 m3 W br g1 g2 g3 c1 c2 c3 n lv xv l xs st dv ds rv is) (hN : N ≤ w0.heap.size) {dv' : Value} {ds' : List Don} (g : W.grownBy W' dv.ownBlock) (ho : W'.ownsRow m3 60 5 dv' ds'.length (ds'.flatMap donC)) : RkAt N wb w0 m3 W' br g1 g2 g3 c1 c2 c3 n lv xv l xs st dv' ds' rv is :=
  ⟨h.y.grow h.d (by have := h.y.x.nb0; have := h.m0; omega) g, h.rr.kept g (own_types_ne h.rr h.d (by decide)), ho, grs_grown h.b0 g (fun k e hk => by have := (h.d.lt k e).1; have := h.m0; omega), h.nd, h.m0, Nat.le_trans h.m1 g.size, h.lo1, h.lo2, h.lo3, h.lob⟩
def RTickPost (N : Nat) (wb w : World) (br : Nat) (lv xv v1 v2 v3 : Value) (l : List Tsk) (xs : List Int) (R : TickR) (e : Ending) (w' : World) : Prop :=
  ∃ dv, e = .returned (.tuple #[.int .i64 R.run, dv, .int .i64 R.err]) ∧ RxAt N wb w' br lv xv v1 v2 v3 l xs R.st ∧ w'.ownsRow w.heap.size 60 5 dv R.done.length (R.done.flatMap donC) ∧ ∃ rs, GrsOk w rs w' ∧ NoDon N w rs
theorem rtick_of {R : TickR} {r er : Int} (hR : R = ⟨r, ds, er, st⟩) (h : RkAt N wb w0 m3 W br g1 g2 g3 c1 c2 c3 n lv xv l xs st dv ds rv is) :
    RTickPost N wb w0 br lv xv (.slice (some ⟨g1, 0, none⟩) n c1) (.slice (some ⟨g2, 0, none⟩) n c2) (.slice (some ⟨g3, 0, none⟩) n c3) l xs R (.returned (.tuple #[.int .i64 r, dv, .int .i64 er])) W := by
  subst hR
  exact ⟨dv, rfl, h.y.x, ⟨h.d.1, h.d.2.imp id (fun ⟨g, cap, cur, a, b, c⟩ => ⟨g, cap, cur, a, Nat.le_trans h.m0 b, c⟩)⟩, _, h.b0, h.nd⟩
end
end Go.Proofs.Ytbilfpoghohddaa
