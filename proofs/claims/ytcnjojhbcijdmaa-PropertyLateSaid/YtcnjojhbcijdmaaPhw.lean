import Derived.Test.YtcnjojhbcijdmaaPset
import Derived.Test.YtcnjojhbcijdmaaPrun
import Derived.Test.YtcnjojhbcijdmaaPgood
import Derived.Test.YtcnjojhbcijdmaaPhm
import Derived.Test.YtcnjojhbcijdmaaOwng
namespace Go.Proofs.Ytcnjojhbcijdmaa
open Go.RowKit Go.Maps
theorem Bel.grown {w w' w'' : World} {b : Nat} (h : Bel w w') (hg : w'.grownBy w'' (some b)) (hb : w.heap.size ≤ b) : Bel w w'' :=
  Below.grown h hg h.size (fun j hj => by cases hj; exact hb)
theorem Bel.grownV {w w' w'' : World} {v : Value} (h : Bel w w') (hg : w'.grownBy w'' v.ownBlock) (hb : ∀ k, v.ownBlock = some k → w.heap.size ≤ k) : Bel w w'' :=
  Below.grown h hg h.size hb
theorem RowAt.grown {w w' : World} {p : Nat} {e : TypeId} {xs : List Value} {row : Option Nat} (h : RowAt w p e xs) (hg : w.grownBy w' row) (hne : some p ≠ row) : RowAt w' p e xs := h.block (hg.block p h.lt hne)
section
variable {w w' : World} {base e size n m cap g b : Nat} {v : Value} {xs ys : List Value} {ty : TypeId}
theorem ownsRow_cut (h : w.ownsRow base ty size (.slice (some ⟨g, 0, none⟩) (n + m) cap) (n + m) (xs ++ ys)) (hl : xs.length = n * size) : w.ownsRow base ty size (.slice (some ⟨g, 0, none⟩) n cap) n xs := by
  refine ⟨hl, ?_⟩
  rcases h.2 with ⟨h, _⟩ | ⟨g', cap', cur, h1, h2, h3, h4, h5, h6, h7⟩
  · cases h
  · injection h1 with h1 h8 h9
    injection h1 with h1
    injection h1 with h1
    subst h1; subst h9
    refine .inr ⟨g, cap, cur, rfl, h2, h3, by omega, h5, h6, ?_⟩
    have : cur.toList.take (n * size) = (xs ++ ys).take (n * size) := by
      rw [← h7, List.take_take, Nat.min_eq_left (Nat.mul_le_mul_right _ (by omega))]
    rw [this, ← hl, List.take_left]
theorem ownsRow_form (h : w.ownsRow base ty size v n xs) : ∃ A c, v = .slice A n c ∧ n ≤ c := by
  rcases h.2 with ⟨rfl, rfl⟩ | ⟨g, cap, cur, rfl, _, _, h4, _⟩
  · exact ⟨none, 0, rfl, by omega⟩
  · exact ⟨_, cap, rfl, h4⟩
theorem ownsRow_form1 (h : w.ownsRow base ty size v (n + 1) xs) : ∃ g c, v = .slice (some ⟨g, 0, none⟩) (n + 1) c ∧ n + 1 ≤ c := by
  rcases h.2 with ⟨_, h⟩ | ⟨g, cap, cur, rfl, _, _, h4, _⟩
  · omega
  · exact ⟨g, cap, rfl, h4⟩
theorem own_ne_row {p : Nat} {ty' : TypeId} {zs : List Value} (ho : w.ownsRow base ty size v n xs) (hr : RowAt w p ty' zs) (hne : ty ≠ ty') : v.ownBlock ≠ some p := by
  rcases ho.2 with ⟨rfl, _⟩ | ⟨g, cap, cur, rfl, _, h3, _⟩
  · simp [Value.ownBlock]
  · intro he
    simp [Value.ownBlock] at he
    subst he
    unfold RowAt at hr
    rw [h3] at hr
    simp at hr
    exact hne hr.2
theorem own_ne_set {k e : TypeId} {F : List Pt} {b c : Nat} (ho : w.ownsRow base ty size v n xs) (hr : PSet w k e b c F) : v.ownBlock ≠ some b := by
  rcases ho.2 with ⟨rfl, _⟩ | ⟨g, cap, cur, rfl, _, h3, _⟩
  · simp [Value.ownBlock]
  · intro he
    simp [Value.ownBlock] at he
    subst he
    obtain ⟨_, ⟨_, ⟨es, clock, h4, _⟩, _⟩, _⟩ := hr
    rw [h3] at h4
    simp at h4
theorem row_ne_set {k e ty' : TypeId} {F : List Pt} {b c p : Nat} {zs : List Value} (hr : RowAt w p ty' zs) (hs : PSet w k e b c F) : p ≠ b := by
  intro he
  subst he
  obtain ⟨_, ⟨_, ⟨es, clock, h4, _⟩, _⟩, _⟩ := hs
  unfold RowAt at hr
  rw [hr] at h4
  simp at h4
end
def ptC (y : Pt) : List Value := [.int .i64 y.loc, .int .i64 (y.cl.getD 0 0), .int .i64 (y.cl.getD 1 0), .int .i64 (y.cl.getD 2 0)]
def ptCs (L : List Pt) : List Value := L.flatMap ptC
theorem ptCs_len (L : List Pt) : (ptCs L).length = L.length * 4 := by
  induction L with
  | nil => rfl
  | cons y L ih => simp only [ptCs, List.flatMap_cons, List.length_append, List.length_cons] at ih ⊢; rw [ih]; simp [ptC]; omega
theorem ptCs_snoc (L : List Pt) (y : Pt) : ptCs (L ++ [y]) = ptCs L ++ ptC y := by simp [ptCs]
theorem ptCs_at (L L2 : List Pt) (y : Pt) (j : Nat) (hj : j < 4) : (ptCs (L ++ y :: L2))[L.length * 4 + j]? = (ptC y)[j]? := by
  have : ptCs (L ++ y :: L2) = ptCs L ++ (ptC y ++ ptCs L2) := by simp [ptCs]
  rw [this, List.getElem?_append_right (by rw [ptCs_len]; omega), ptCs_len, List.getElem?_append_left (by simp [ptC]; omega)]
  congr 1
  omega
/-- the memory of Hope of the program: the property, the runner, the set of the points that were found, the list -/
structure HW (w wx : World) (p : PP) (gv ev : Value) (br bm : Nat) (x0 : Pt) (at0 : Int) (v : Value) (F L : List Pt) : Prop where
  bel : Bel w wx
  pb : RowAt wx w.heap.size 25 [.int .i64 p.evs, .int .i64 p.clks, .int .i64 p.ini, gv, ev]
  rn : RowAt wx br 54 (runnerL p gv ev x0 at0)
  st : PSet wx 52 4 bm F.length F
  ls : wx.ownsRow w.heap.size 52 4 v L.length (ptCs L)
  bm : w.heap.size ≤ bm
section
variable {w wx wy : World} {p : PP} {gv ev v : Value} {br bm : Nat} {x0 : Pt} {at0 : Int} {F L : List Pt}
theorem HW.trans (h : HW w wx p gv ev br bm x0 at0 v F L) (hb : Bel wx wy) : HW w wy p gv ev br bm x0 at0 v F L :=
  ⟨h.bel.trans hb, h.pb.bel hb, h.rn.bel hb, h.st.bel hb, ownsRow_bel h.ls hb, h.bm⟩
theorem HW.alloc (h : HW w wx p gv ev br bm x0 at0 v F L) (o : Obj) : HW w (wx.alloc o) p gv ev br bm x0 at0 v F L := h.trans (Bel.refl.alloc o)
theorem HW.drew (h : HW w wx p gv ev br bm x0 at0 v F L) : HW w wx.drew p gv ev br bm x0 at0 v F L := h.trans Bel.refl.drew
theorem HW.put (h : HW w wx p gv ev br bm x0 at0 v F L) (hF : F.length < 1000000) {y : Pt} (hy : PtWf y) :
    ∃ w', (Instr.mapUpdate 69 (.map (some bm)) y.V (.bool true)).run Try.prog wx = .ok () w' ∧ HW w w' p gv ev br bm x0 at0 v (y :: F) L ∧ wx.grownBy w' (some bm) := by
  obtain ⟨w', hput, HM, hg⟩ := h.st.put pkey_p (t := 69) (by kernel_rfl) (by kernel_rfl) (by unfold maxLen; omega) hy
  refine ⟨w', hput, ⟨h.bel.grown hg h.bm, h.pb.grown hg ?_, h.rn.grown hg ?_, HM, h.ls.kept hg (.inr (own_ne_set h.ls h.st)), h.bm⟩, hg⟩
  · intro he; exact row_ne_set h.pb h.st (Option.some.inj he)
  · intro he; exact row_ne_set h.rn h.st (Option.some.inj he)
theorem HW.look (h : HW w wx p gv ev br bm x0 at0 v F L) (hz : (zeroValue 4).run Try.prog wx = .ok (.bool false) wx) {y : Pt} (hy : PtWf y) :
    ∃ c : Bool, (Instr.lookup 69 (.map (some bm)) y.V false).run Try.prog wx = .ok (.bool c) wx ∧ (c = true ↔ y ∈ F) :=
  h.st.look pkey_p (by kernel_rfl) (by kernel_rfl) hz hy
theorem HW.push (h : HW w wx p gv ev br bm x0 at0 v F L) {y : Pt} {v' : Value} (ho : wy.ownsRow w.heap.size 52 4 v' (L.length + 1) (ptCs L ++ ptC y)) (hg : wx.grownBy wy v.ownBlock) :
    HW w wy p gv ev br bm x0 at0 v' F (L ++ [y]) := by
  refine ⟨h.bel.grownV hg (fun k hk => (h.ls.lt k hk).1), h.pb.grown hg (own_ne_row h.ls h.pb (by decide)).symm, h.rn.grown hg (own_ne_row h.ls h.rn (by decide)).symm, h.st.grown hg (own_ne_set h.ls h.st).symm, ?_, h.bm⟩
  rw [List.length_append, ptCs_snoc]
  exact ho
theorem HW.pop {y : Pt} (h : HW w wx p gv ev br bm x0 at0 v F (L ++ [y])) :
    ∃ g c, v = .slice (some ⟨g, 0, none⟩) (L.length + 1) c ∧ L.length + 1 ≤ c ∧ g < wx.heap.size ∧ (∀ j, j < 4 → wx.cell? ⟨g, L.length * 4 + j, none⟩ = (ptC y)[j]?) ∧ HW w wx p gv ev br bm x0 at0 (.slice (some ⟨g, 0, none⟩) L.length c) F L := by
  have hl := h.ls
  rw [List.length_append, List.length_singleton] at hl
  obtain ⟨g, c, rfl, hc⟩ := ownsRow_form1 hl
  refine ⟨g, c, rfl, hc, (hl.lt g rfl).2, fun j hj => ?_, ⟨h.bel, h.pb, h.rn, h.st, ?_, h.bm⟩⟩
  · have h1 := ptCs_at L [] y j hj
    have h2 : ∃ u, (ptC y)[j]? = some u := by
      match j, hj with
      | 0, _ => exact ⟨_, rfl⟩
      | 1, _ => exact ⟨_, rfl⟩
      | 2, _ => exact ⟨_, rfl⟩
      | 3, _ => exact ⟨_, rfl⟩
    obtain ⟨u, hu⟩ := h2
    rw [hu] at h1 ⊢
    have := hl.cells (g := g) rfl _ _ h1
    rwa [add_ofs] at this
  · rw [ptCs_snoc] at hl
    exact ownsRow_cut hl (ptCs_len L)
theorem HW.pc (h : HW w wx p gv ev br bm x0 at0 v F L) : PropCells wx br p gv ev := ⟨h.rn.lt, h.rn.cell rfl, h.rn.cell rfl, h.rn.cell rfl, h.rn.cell rfl, h.rn.cell rfl⟩
end
end Go.Proofs.Ytcnjojhbcijdmaa
