import Derived.Test.YtalphoebmefgoaaG1
import Derived.Test.YtalphoebmefgoaaRows
import Derived.Deep.Cut
namespace Go.Proofs.Ytalphoebmefgoaa
/-- a block that the call itself has made -/
def Own (w : World) (b : Nat) : Prop := w.heap.size ≤ b
end Go.Proofs.Ytalphoebmefgoaa
namespace Go.Proofs.Ytalphoebmefgoaa
open Go.RowKit
/-- a constraint of a guard -/
structure PC where
  clk : Int
  low : Bool
  str : Bool
  c : Int
  deriving DecidableEq
/-- an edge -/
structure PE where
  frm : Int
  to : Int
  ev : Int
  grd : List PC
  rst : List Int
  deriving DecidableEq
/-- a property -/
structure PP where
  evs : Int
  clks : Int
  ini : Int
  good : List Bool
  edges : List PE
  deriving DecidableEq
/-- a stamp -/
structure PS where
  at_ : Int
  ev : Int
  deriving DecidableEq
def PC.dflt : PC := ⟨0, false, false, 0⟩
def PE.dflt : PE := ⟨0, 0, 0, [], []⟩
def PS.dflt : PS := ⟨0, 0⟩
def pcAt (l : List PC) (i : Nat) : PC := l.getD i PC.dflt
def peAt (l : List PE) (i : Nat) : PE := l.getD i PE.dflt
def psAt (l : List PS) (i : Nat) : PS := l.getD i PS.dflt
structure PC.wf (c : PC) : Prop where
  k : i64 c.clk
  c : i64 c.c
structure PE.wf (e : PE) : Prop where
  f : i64 e.frm
  t : i64 e.to
  v : i64 e.ev
  g : ∀ c ∈ e.grd, c.wf
  r : ∀ c ∈ e.rst, i64 c
structure PP.wf (p : PP) : Prop where
  e : i64 p.evs
  c : i64 p.clks
  i : i64 p.ini
  l : ∀ x ∈ p.edges, x.wf
structure PS.wf (s : PS) : Prop where
  a : i64 s.at_
  e : i64 s.ev
structure ConCells (w : World) (b o : Nat) (c : PC) : Prop where
  c0 : w.cell? ⟨b, o, none⟩ = some (.int .i64 c.clk)
  c1 : w.cell? ⟨b, o + 1, none⟩ = some (.bool c.low)
  c2 : w.cell? ⟨b, o + 2, none⟩ = some (.bool c.str)
  c3 : w.cell? ⟨b, o + 3, none⟩ = some (.int .i64 c.c)
structure EdgeCells (w : World) (b o : Nat) (e : PE) (gv rv : Value) : Prop where
  c0 : w.cell? ⟨b, o, none⟩ = some (.int .i64 e.frm)
  c1 : w.cell? ⟨b, o + 1, none⟩ = some (.int .i64 e.to)
  c2 : w.cell? ⟨b, o + 2, none⟩ = some (.int .i64 e.ev)
  c3 : w.cell? ⟨b, o + 3, none⟩ = some gv
  c4 : w.cell? ⟨b, o + 4, none⟩ = some rv
structure StampCells (w : World) (b o : Nat) (s : PS) : Prop where
  c0 : w.cell? ⟨b, o, none⟩ = some (.int .i64 s.at_)
  c1 : w.cell? ⟨b, o + 1, none⟩ = some (.int .i64 s.ev)
/-- a slice value whose elements are as R says -/
def RowOf (B : Nat) (v : Value) (n size : Nat) (R : Nat → Nat → Nat → Prop) : Prop :=
  ∃ A c, v = .slice A n c ∧ n ≤ c ∧ (0 < n → ∃ b off, A = some ⟨b, off, none⟩ ∧ b < B ∧ ∀ i, i < n → R b (off + i * size) i)
section
variable {B B' n size : Nat} {v : Value} {R R' : Nat → Nat → Nat → Prop}
theorem RowOf.form (h : RowOf B v n size R) : ∃ A c, v = .slice A n c ∧ n ≤ c := let ⟨A, c, e, hc, _⟩ := h; ⟨A, c, e, hc⟩
theorem RowOf.at_ {A : Option Addr} {m c : Nat} (h : RowOf B (.slice A m c) n size R) (h0 : 0 < n) : ∃ b off, A = some ⟨b, off, none⟩ ∧ b < B ∧ ∀ i, i < n → R b (off + i * size) i := by
  obtain ⟨A', c', e, _, h⟩ := h
  injection e with e
  subst e
  exact h h0
theorem RowOf.mono (h : RowOf B v n size R) (hB : B ≤ B') (hR : ∀ b o i, b < B → i < n → R b o i → R' b o i) : RowOf B' v n size R' := by
  obtain ⟨A, c, rfl, hc, h⟩ := h
  refine ⟨A, c, rfl, hc, fun h0 => ?_⟩
  obtain ⟨b, off, rfl, hb, h⟩ := h h0
  exact ⟨b, off, rfl, by omega, fun i hi => hR _ _ _ hb hi (h i hi)⟩
end
def ConsAt (w : World) (B : Nat) (v : Value) (l : List PC) : Prop := RowOf B v l.length 4 fun b o i => ConCells w b o (pcAt l i)
def StampsAt (w : World) (B : Nat) (v : Value) (l : List PS) : Prop := RowOf B v l.length 2 fun b o i => StampCells w b o (psAt l i)
def BoolsAt (w : World) (B : Nat) (v : Value) (l : List Bool) : Prop := RowOf B v l.length 1 fun b o i => w.cell? ⟨b, o, none⟩ = some (.bool (l.getD i false))
def EdgesAt (w : World) (B : Nat) (v : Value) (l : List PE) : Prop := RowOf B v l.length 5 fun b o i => ∃ gv rv, EdgeCells w b o (peAt l i) gv rv ∧ ConsAt w B gv (peAt l i).grd ∧ IntsAt w B rv (peAt l i).rst
/-- the two slices of a property -/
structure PropAt (w : World) (B : Nat) (gv ev : Value) (p : PP) : Prop where
  g : BoolsAt w B gv p.good
  e : EdgesAt w B ev p.edges
def propV (p : PP) (gv ev : Value) : Value := .agg #[.int .i64 p.evs, .int .i64 p.clks, .int .i64 p.ini, gv, ev]
section
variable {w w' : World} {B B' : Nat} {v gv ev : Value}
theorem ConsAt.keep {l : List PC} (h : ConsAt w B v l) (hk : Keeps B w w') (hB : B ≤ B') : ConsAt w' B' v l :=
  RowOf.mono h hB fun _ _ _ hb _ ⟨a, b, c, d⟩ => ⟨(hk _ _ hb).trans a, (hk _ _ hb).trans b, (hk _ _ hb).trans c, (hk _ _ hb).trans d⟩
theorem StampsAt.keep {l : List PS} (h : StampsAt w B v l) (hk : Keeps B w w') (hB : B ≤ B') : StampsAt w' B' v l :=
  RowOf.mono h hB fun _ _ _ hb _ ⟨a, b⟩ => ⟨(hk _ _ hb).trans a, (hk _ _ hb).trans b⟩
theorem BoolsAt.keep {l : List Bool} (h : BoolsAt w B v l) (hk : Keeps B w w') (hB : B ≤ B') : BoolsAt w' B' v l :=
  RowOf.mono h hB fun _ _ _ hb _ a => (hk _ _ hb).trans a
theorem EdgesAt.keep {l : List PE} (h : EdgesAt w B v l) (hk : Keeps B w w') (hB : B ≤ B') : EdgesAt w' B' v l :=
  RowOf.mono h hB fun _ _ _ hb _ ⟨gv, rv, ⟨a, b, c, d, e⟩, hg, hr⟩ => ⟨gv, rv, ⟨(hk _ _ hb).trans a, (hk _ _ hb).trans b, (hk _ _ hb).trans c, (hk _ _ hb).trans d, (hk _ _ hb).trans e⟩, hg.keep hk hB, hr.keep hk hB⟩
theorem PropAt.keep {p : PP} (h : PropAt w B gv ev p) (hk : Keeps B w w') (hB : B ≤ B') : PropAt w' B' gv ev p := ⟨h.g.keep hk hB, h.e.keep hk hB⟩
theorem ConsAt.bel {l : List PC} (h : ConsAt w w.heap.size v l) (hb : Bel w w') : ConsAt w' w'.heap.size v l := h.keep hb.keeps hb.le
theorem StampsAt.bel {l : List PS} (h : StampsAt w w.heap.size v l) (hb : Bel w w') : StampsAt w' w'.heap.size v l := h.keep hb.keeps hb.le
theorem IntsAt.bel {l : List Int} (h : IntsAt w w.heap.size v l) (hb : Bel w w') : IntsAt w' w'.heap.size v l := h.keep hb.keeps hb.le
theorem PropAt.bel {p : PP} (h : PropAt w w.heap.size gv ev p) (hb : Bel w w') : PropAt w' w'.heap.size gv ev p := h.keep hb.keeps hb.le
end
theorem pc_drop {l : List PC} {k : Nat} (h : k < l.length) : l.drop k = pcAt l k :: l.drop (k + 1) := by
  rw [List.drop_eq_getElem_cons h]; simp [pcAt, List.getD, h]
theorem pe_drop {l : List PE} {k : Nat} (h : k < l.length) : l.drop k = peAt l k :: l.drop (k + 1) := by
  rw [List.drop_eq_getElem_cons h]; simp [peAt, List.getD, h]
theorem ps_drop {l : List PS} {k : Nat} (h : k < l.length) : l.drop k = psAt l k :: l.drop (k + 1) := by
  rw [List.drop_eq_getElem_cons h]; simp [psAt, List.getD, h]
theorem int_drop {l : List Int} {k : Nat} (h : k < l.length) : l.drop k = l.getD k 0 :: l.drop (k + 1) := by
  rw [List.drop_eq_getElem_cons h]; simp [List.getD, h]
theorem pc_mem {l : List PC} {k : Nat} (h : k < l.length) : pcAt l k ∈ l := by
  have : pcAt l k = l[k] := by simp [pcAt, List.getD, h]
  rw [this]; exact List.getElem_mem h
theorem pe_mem {l : List PE} {k : Nat} (h : k < l.length) : peAt l k ∈ l := by
  have : peAt l k = l[k] := by simp [peAt, List.getD, h]
  rw [this]; exact List.getElem_mem h
theorem ps_mem {l : List PS} {k : Nat} (h : k < l.length) : psAt l k ∈ l := by
  have : psAt l k = l[k] := by simp [psAt, List.getD, h]
  rw [this]; exact List.getElem_mem h
theorem int_mem {l : List Int} {k : Nat} (h : k < l.length) : l.getD k 0 ∈ l := by
  have : l.getD k 0 = l[k] := by simp [List.getD, h]
  rw [this]; exact List.getElem_mem h
theorem pe_take {l : List PE} {i k : Nat} (h : k < i) (hi : i ≤ l.length) : (l.take i).drop k = peAt l k :: (l.take i).drop (k + 1) := by
  rw [List.drop_eq_getElem_cons (by simp; omega)]; simp [peAt, List.getD, show k < l.length by omega]
theorem pe_snoc {l : List PE} {i : Nat} (h : i < l.length) : l.take (i + 1) = l.take i ++ [peAt l i] := by
  rw [List.take_succ_eq_append_getElem h]; simp [peAt, List.getD, h]
end Go.Proofs.Ytalphoebmefgoaa
