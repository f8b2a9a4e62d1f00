import Derived.Test.YtcnjojhbcijdmaaPhw
/- property: the invariant and the memory of Hope of the reference. -/
namespace Go.Proofs.Ytcnjojhbcijdmaa
open Go.RowKit Go.Maps
def DoneR (p : PP) (F : List Pt) (y : Pt) (a e : Nat) : Prop := ∀ b ev : Nat, (b < a ∨ (b = a ∧ ev < e)) → b < 32 → (ev : Int) < p.evs → step p.clks.toNat p.edges y b ev ∈ F
theorem DoneR.mono {p : PP} {F G : List Pt} {y : Pt} {a e : Nat} (h : DoneR p F y a e) (hs : ∀ z ∈ F, z ∈ G) : DoneR p G y a e := fun b ev h1 h2 h3 => hs _ (h b ev h1 h2 h3)
def ptAt (L : List Pt) (i : Nat) : Pt := L.getD i ⟨-1, [0, 0, 0]⟩
theorem ptAt_mem {L : List Pt} {i : Nat} (h : i < L.length) : ptAt L i ∈ L := by
  unfold ptAt
  rw [List.getD_eq_getElem?_getD, List.getElem?_eq_getElem h]
  simp
theorem ptAt_snoc {L : List Pt} {i : Nat} (h : i < L.length) (y : Pt) : ptAt (L ++ [y]) i = ptAt L i := by
  unfold ptAt
  rw [List.getD_eq_getElem?_getD, List.getD_eq_getElem?_getD, List.getElem?_append_left h]
structure RInv (p : PP) (x0 : Pt) (L : List Pt) (i : Nat) : Prop where
  st : x0 ∈ L
  rc : ∀ y ∈ L, Reach p x0 y ∧ PtOk p y
  il : i ≤ L.length
  cl : ∀ j < i, goodM p (ptAt L j) = false ∧ (0 ≤ (ptAt L j).loc → DoneR p L (ptAt L j) 32 0)
  nd : L.Nodup
structure RMid (p : PP) (x0 : Pt) (L : List Pt) (i a e : Nat) : Prop extends RInv p x0 L i where
  lt : i < L.length
  gx : goodM p (ptAt L i) = false
  px : 0 ≤ (ptAt L i).loc
  dn : DoneR p L (ptAt L i) a e
theorem RInv.init {p : PP} {x : Pt} (h : PtOk p x) : RInv p x [x] 0 where
  st := by simp
  rc := fun y hy => by simp at hy; subst hy; exact ⟨.here, h⟩
  il := by simp
  cl := fun j hj => by omega
  nd := by simp
theorem RInv.good {p : PP} {x0 : Pt} {L : List Pt} {i : Nat} (h : RInv p x0 L i) (hi : i < L.length) (hg : goodM p (ptAt L i) = true) : hopeB p x0 = true :=
  hopeB_t ⟨_, (h.rc _ (ptAt_mem hi)).1, hg⟩
theorem RInv.pit {p : PP} {x0 : Pt} {L : List Pt} {i : Nat} (h : RInv p x0 L i) (hi : i < L.length) (hg : goodM p (ptAt L i) = false) (hp : (ptAt L i).loc < 0) : RInv p x0 L (i + 1) where
  st := h.st
  rc := h.rc
  il := hi
  cl := fun j hj => by
    by_cases e : j = i
    · subst e; exact ⟨hg, fun h1 => by omega⟩
    · exact h.cl j (by omega)
  nd := h.nd
theorem RInv.mid {p : PP} {x0 : Pt} {L : List Pt} {i : Nat} (h : RInv p x0 L i) (hi : i < L.length) (hg : goodM p (ptAt L i) = false) (hp : 0 ≤ (ptAt L i).loc) : RMid p x0 L i 0 0 :=
  { h with lt := hi, gx := hg, px := hp, dn := fun b ev h1 => by omega }
theorem RMid.row {p : PP} {x0 : Pt} {L : List Pt} {i a e : Nat} (h : RMid p x0 L i a e) (he : p.evs ≤ e) : RMid p x0 L i (a + 1) 0 :=
  { h with dn := fun b ev h1 h2 h3 => h.dn b ev (by omega) h2 h3 }
theorem RMid.skip {p : PP} {x0 : Pt} {L : List Pt} {i a e : Nat} (h : RMid p x0 L i a e) (hs : step p.clks.toNat p.edges (ptAt L i) a e ∈ L) : RMid p x0 L i a (e + 1) := by
  have hd : DoneR p L (ptAt L i) a (e + 1) := fun b ev h1 h2 h3 => by
    by_cases hb : b = a ∧ ev = e
    · obtain ⟨rfl, rfl⟩ := hb
      exact hs
    · exact h.dn b ev (by omega) h2 h3
  exact { h with dn := hd }
theorem RMid.push {p : PP} (hv : PValid p p.clks.toNat) {x0 : Pt} {L : List Pt} {i a e : Nat} (h : RMid p x0 L i a e) (ha : a < 32) (he : (e : Int) < p.evs) (hn : step p.clks.toNat p.edges (ptAt L i) a e ∉ L) :
    RMid p x0 (L ++ [step p.clks.toNat p.edges (ptAt L i) a e]) i a (e + 1) := by
  have hx := ptAt_mem h.lt
  have hs : ∀ z ∈ L, z ∈ L ++ [step p.clks.toNat p.edges (ptAt L i) a e] := fun z hz => List.mem_append_left _ hz
  refine { st := hs _ h.st, rc := fun y hy => ?_, il := ?_, cl := fun j hj => ?_, nd := ?_, lt := ?_, gx := ?_, px := ?_, dn := ?_ }
  · rcases List.mem_append.mp hy with hy | hy
    · exact h.rc y hy
    · simp at hy; subst hy
      exact ⟨.next a e (h.rc _ hx).1 h.px ha he, step_pt hv (h.rc _ hx).2 a e⟩
  · have := h.il; simp; omega
  · have := h.lt
    rw [ptAt_snoc (by omega)]
    exact ⟨(h.cl j hj).1, fun hp => ((h.cl j hj).2 hp).mono hs⟩
  · rw [List.nodup_append]
    refine ⟨h.nd, by simp, fun y hy z hz => ?_⟩
    simp at hz; subst hz
    rintro rfl; exact hn hy
  · have := h.lt; simp; omega
  · rw [ptAt_snoc h.lt]; exact h.gx
  · rw [ptAt_snoc h.lt]; exact h.px
  · rw [ptAt_snoc h.lt]
    intro b ev h1 h2 h3
    by_cases hb : b = a ∧ ev = e
    · obtain ⟨rfl, rfl⟩ := hb; simp
    · exact hs _ (h.dn b ev (by omega) h2 h3)
theorem RMid.done {p : PP} {x0 : Pt} {L : List Pt} {i : Nat} (h : RMid p x0 L i 32 0) : RInv p x0 L (i + 1) where
  st := h.st
  rc := h.rc
  il := h.lt
  cl := fun j hj => by
    by_cases e : j = i
    · subst e; exact ⟨h.gx, fun _ => h.dn⟩
    · exact h.cl j (by omega)
  nd := h.nd
theorem RInv.empty {p : PP} {x0 : Pt} {L : List Pt} (h : RInv p x0 L L.length) : hopeB p x0 = false := by
  have hat : ∀ y ∈ L, ∃ j, j < L.length ∧ ptAt L j = y := fun y hy => by
    obtain ⟨j, hj, rfl⟩ := List.mem_iff_getElem.mp hy
    exact ⟨j, hj, by unfold ptAt; simp [List.getD_eq_getElem?_getD, hj]⟩
  have hr : ∀ y, Reach p x0 y → y ∈ L := by
    intro y hy
    induction hy with
    | here => exact h.st
    | next a ev hr hl ha he ih =>
      obtain ⟨j, hj, hy⟩ := hat _ ih
      have := (h.cl j hj).2 (by rw [hy]; exact hl)
      rw [hy] at this
      exact this a ev (.inl ha) ha he
  refine hopeB_f fun ⟨y, h1, h2⟩ => ?_
  obtain ⟨j, hj, hy⟩ := hat _ (hr y h1)
  have := (h.cl j hj).1
  rw [hy, h2] at this
  cases this
theorem PSet.congr {w : World} {k e : TypeId} {b n : Nat} {F G : List Pt} (h : PSet w k e b n F) (hs : ∀ y, y ∈ F ↔ y ∈ G) : PSet w k e b n G :=
  let ⟨m, h1, h2⟩ := h; ⟨m, h1, fun y hy x hx => (h2 y hy x hx).trans (hs y)⟩
theorem ptCs_get (L : List Pt) (i j : Nat) (hi : i < L.length) (hj : j < 4) : (ptCs L)[i * 4 + j]? = (ptC (ptAt L i))[j]? := by
  have h := ptCs_at (L.take i) (L.drop (i + 1)) (ptAt L i) j hj
  have e : L.take i ++ ptAt L i :: L.drop (i + 1) = L := by
    have : ptAt L i = L[i] := by unfold ptAt; simp [List.getD_eq_getElem?_getD, hi]
    rw [this]
    simp
  rw [e, List.length_take, Nat.min_eq_left (Nat.le_of_lt hi)] at h
  exact h
/-- the memory of Hope of the reference: the property, the set of the points that were found, the list -/
structure RW (w wx : World) (p : PP) (gv ev : Value) (bm : Nat) (v : Value) (L : List Pt) : Prop where
  bel : Bel w wx
  pb : RowAt wx w.heap.size 25 [.int .i64 p.evs, .int .i64 p.clks, .int .i64 p.ini, gv, ev]
  st : PSet wx 56 4 bm L.length L
  ls : wx.ownsRow w.heap.size 56 4 v L.length (ptCs L)
  bm : w.heap.size ≤ bm
section
variable {w wx wy : World} {p : PP} {gv ev v : Value} {bm : Nat} {L : List Pt}
theorem RW.trans (h : RW w wx p gv ev bm v L) (hb : Bel wx wy) : RW w wy p gv ev bm v L :=
  ⟨h.bel.trans hb, h.pb.bel hb, h.st.bel hb, ownsRow_bel h.ls hb, h.bm⟩
theorem RW.look (h : RW w wx p gv ev bm v L) (hz : (zeroValue 4).run Try.prog wx = .ok (.bool false) wx) {y : Pt} (hy : PtWf y) :
    ∃ c : Bool, (Instr.lookup 72 (.map (some bm)) y.V false).run Try.prog wx = .ok (.bool c) wx ∧ (c = true ↔ y ∈ L) :=
  h.st.look pkey_r (by kernel_rfl) (by kernel_rfl) hz hy
theorem RW.put (h : RW w wx p gv ev bm v L) (hF : L.length < 1000000) {y : Pt} (hy : PtWf y) :
    ∃ w', (Instr.mapUpdate 72 (.map (some bm)) y.V (.bool true)).run Try.prog wx = .ok () w' ∧ Bel w w' ∧ RowAt w' w.heap.size 25 [.int .i64 p.evs, .int .i64 p.clks, .int .i64 p.ini, gv, ev] ∧ PSet w' 56 4 bm (L.length + 1) (L ++ [y]) ∧ w'.ownsRow w.heap.size 56 4 v L.length (ptCs L) ∧ wx.grownBy w' (some bm) := by
  obtain ⟨w', hput, HM, hg⟩ := h.st.put pkey_r (t := 72) (by kernel_rfl) (by kernel_rfl) (by unfold maxLen; omega) hy
  refine ⟨w', hput, h.bel.grown hg h.bm, h.pb.grown hg (fun he => row_ne_set h.pb h.st (Option.some.inj he)), HM.congr (fun z => by simp [or_comm]), h.ls.kept hg (.inr (own_ne_set h.ls h.st)), hg⟩
/-- behind the map's store and the append -/
theorem RW.push {w1 w2 : World} {y : Pt} {v' : Value} (hb : Bel w w1) (hp : RowAt w1 w.heap.size 25 [.int .i64 p.evs, .int .i64 p.clks, .int .i64 p.ini, gv, ev]) (hs : PSet w1 56 4 bm (L.length + 1) (L ++ [y])) (hl : w1.ownsRow w.heap.size 56 4 v L.length (ptCs L)) (hbm : w.heap.size ≤ bm)
    (ho : w2.ownsRow w.heap.size 56 4 v' (L.length + 1) (ptCs L ++ ptC y)) (hg : w1.grownBy w2 v.ownBlock) : RW w w2 p gv ev bm v' (L ++ [y]) := by
  refine ⟨hb.grownV hg (fun k hk => (hl.lt k hk).1), hp.grown hg (own_ne_row hl hp (by decide)).symm, ?_, ?_, hbm⟩
  · rw [List.length_append]
    exact hs.grown hg (own_ne_set hl hs).symm
  · rw [List.length_append, ptCs_snoc]
    exact ho
theorem RW.at_ (h : RW w wx p gv ev bm v L) {i : Nat} (hi : i < L.length) :
    ∃ g c, v = .slice (some ⟨g, 0, none⟩) L.length c ∧ L.length ≤ c ∧ g < wx.heap.size ∧ (∀ j, j < 4 → wx.cell? ⟨g, i * 4 + j, none⟩ = (ptC (ptAt L i))[j]?) := by
  have hl := h.ls
  obtain ⟨m, hm⟩ : ∃ m, L.length = m + 1 := ⟨L.length - 1, by omega⟩
  rw [hm] at hl
  obtain ⟨g, c, rfl, hc⟩ := ownsRow_form1 hl
  rw [hm]
  refine ⟨g, c, rfl, hc, (hl.lt g rfl).2, fun j hj => ?_⟩
  have h1 := ptCs_get L i j hi hj
  have h2 : ∃ u, (ptC (ptAt L i))[j]? = some u := by
    match j, hj with
    | 0, _ => exact ⟨_, rfl⟩
    | 1, _ => exact ⟨_, rfl⟩
    | 2, _ => exact ⟨_, rfl⟩
    | 3, _ => exact ⟨_, rfl⟩
  obtain ⟨u, hu⟩ := h2
  rw [hu] at h1 ⊢
  have := hl.cells (g := g) rfl _ _ h1
  rwa [add_ofs] at this
end
end Go.Proofs.Ytcnjojhbcijdmaa
