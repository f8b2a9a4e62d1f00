/- poly: a list of lists of lines of the call's own; what poly.Minus holds while it runs. -/
import Derived.Test.YtalphoebmefgoaaG45
import Derived.Test.YtalphoebmefgoaaG46
import Derived.Test.YtalphoebmefgoaaG41
namespace Go.Proofs.Ytalphoebmefgoaa
open Go.RowKit
set_option maxRecDepth 100000 in
theorem Try.infoLsA : (Try.prog.info? 22).map (fun i => (i.zero, i.size, i.bytes)) = some (some (.slice none 0 0), 1, 24) := by kernel_rfl
theorem i64_ne_ls : 2 ≠ 22 := by decide
theorem al_ne_ls : 25 ≠ 22 := by decide
/-- a row of lists of lines; the lists are the call's own too -/
structure MsAt (W : World) (base : Nat) (v : Value) (L : List (Value × List (Value × AL))) : Prop where
  own : W.ownsRow base 22 1 v L.length (L.map Prod.fst)
  at_ : ∀ p, p ∈ L → AO W base p.1 p.2
theorem MsAt.nil {W : World} {base : Nat} : MsAt W base (.slice none 0 0) [] := ⟨World.ownsRow_nil _ _ _ _, fun p h => absurd h (by simp)⟩
theorem MsAt.bel {W W' : World} {base : Nat} {v : Value} {L : List (Value × List (Value × AL))} (h : MsAt W base v L) (hb : Bel W W') : MsAt W' base v L := ⟨ownsRow_bel h.own hb, fun p hp => (h.at_ p hp).bel hb⟩
theorem MsAt.base {W : World} {base base' : Nat} {v : Value} {L : List (Value × List (Value × AL))} (h : MsAt W base v L) (hb : base' ≤ base) : MsAt W base' v L := ⟨own_base h.own hb, fun p hp => (h.at_ p hp).base hb⟩
theorem MsAt.form {W : World} {base : Nat} {v : Value} {L : List (Value × List (Value × AL))} (h : MsAt W base v L) : ∃ A c, v = .slice A L.length c ∧ L.length ≤ c := own_slice h.own
theorem AO.kept {W W' : World} {base b n s : Nat} {e : TypeId} {v v2 : Value} {xs : List Value} {L : List (Value × AL)} (h : AO W base v L) (ho : W.ownsRow b e s v2 n xs) (h1 : 25 ≠ e) (h2 : 2 ≠ e) (hg : W.grownBy W' v2.ownBlock) : AO W' base v L :=
  ⟨h.own.kept hg (own_ne h.own ho h1), fun p hp => (h.at_ p hp).kept hg (own_ne (h.at_ p hp) ho h2)⟩
theorem AO.lines {W : World} {base : Nat} {v : Value} {L : List (Value × AL)} (h : AO W base v L) (hs : base ≤ W.heap.size) : LinesAt W W.heap.size v (L.map Prod.snd) := h.ar.lines hs
/-- the list number i -/
theorem MsAt.get {W : World} {base i : Nat} {v : Value} {L : List (Value × List (Value × AL))} (h : MsAt W base v L) (hi : i < L.length) :
    ∃ g c, v = .slice (some ⟨g, 0, none⟩) L.length c ∧ base ≤ g ∧ g < W.heap.size ∧ W.cell? ⟨g, i, none⟩ = some L[i].1 := by
  have ho := h.own
  obtain ⟨g, c, rfl, hc, hb, hlt⟩ := own_form ho (by omega)
  refine ⟨g, c, rfl, hb, hlt, ?_⟩
  rw [ho.cellAt _ (by omega)]
  simp [hi]
/-- a list is appended -/
theorem ms_append {w0 W : World} {v : Value} {L : List (Value × List (Value × AL))} {p : Value × List (Value × AL)} {q : Nat} {e2 : TypeId} (hb : Bel w0 W) (h : MsAt W w0.heap.size v L) (hl : L.length ≤ 1000000) (r : RowAt W q e2 [p.1]) (hp : AO W w0.heap.size p.1 p.2) :
    ∃ A c W', (Builtin.append_ #[50, 50] 50 #[v, .slice (some ⟨q, 0, none⟩) 1 1]).run Try.prog W = .ok (.slice A (L.length + 1) c) W' ∧ MsAt W' w0.heap.size (.slice A (L.length + 1) c) (L ++ [p]) ∧ Bel w0 W' ∧ W.grownBy W' v.ownBlock := by
  obtain ⟨i0, hi, hz0, hz1, hz2⟩ := info_parts3 Try.infoLsA
  obtain ⟨A1, c1, e1, _⟩ := own_slice hp.own
  obtain ⟨v', W', hrn, ho, hg⟩ := append_row (P := Try.prog) W w0.heap.size 50 50 22 i0 (.slice none 0 0) 1 24 Try.underlying50 hi hz0 hz1 hz2 rfl (by decide) v L.length (L.map Prod.fst) h.own
    (some ⟨q, 0, none⟩) 1 1 [p.1] (.inr ⟨_, rfl, fun j u hj => by rw [add_ofs, r.cell?, hj]⟩) rfl (fun u hu => by
      obtain rfl : u = p.1 := by simpa using hu
      rw [e1]; rfl) (by unfold maxLen; omega) (by omega) hb.le
  obtain ⟨g, c, rfl⟩ := ownsRow_succ ho
  refine ⟨_, c, W', hrn, ⟨?_, fun x hx => ?_⟩, bel_grown hb h.own hg, hg⟩
  · rw [List.length_append, List.map_append]
    simpa using ho
  · rcases List.mem_append.1 hx with hx | hx
    · exact (h.at_ x hx).kept h.own al_ne_ls i64_ne_ls hg
    · obtain rfl : x = p := by simpa using hx
      exact hp.kept h.own al_ne_ls i64_ne_ls hg
/-- a line behind a row of the call's own, and where it lies -/
theorem own_snoc_lies {w0 W : World} {v : Value} {l : List Ln} {X : Ln} {q : Nat} {e2 : TypeId} (hb : Bel w0 W) (h : W.ownsRow w0.heap.size 72 8 v l.length (l.flatMap Ln.cells)) (hl : l.length ≤ 1000000) (r : RowAt W q e2 X.cells) :
    ∃ g c W', (Builtin.append_ #[61, 61] 61 #[v, .slice (some ⟨q, 0, none⟩) 1 1]).run Try.prog W = .ok (.slice (some ⟨g, 0, none⟩) (l.length + 1) c) W' ∧ W'.ownsRow w0.heap.size 72 8 (.slice (some ⟨g, 0, none⟩) (l.length + 1) c) (l ++ [X]).length ((l ++ [X]).flatMap Ln.cells) ∧ Bel w0 W' ∧ W.grownBy W' v.ownBlock ∧ (v.ownBlock = some g ∨ g = W.heap.size) := by
  obtain ⟨i0, hi, hz0, hz1, hz2⟩ := info_parts3 Try.infoLine
  obtain ⟨g, c, W', hrn, ho, hg, hl, _⟩ := run_append_lies (P := Try.prog) W 61 61 w0.heap.size 72 i0 zeroLn.V 8 64 Try.underlying61 hi hz0 hz1 hz2 rfl (by decide) v l.length (l.flatMap Ln.cells) h
    ⟨q, 0, none⟩ 1 1 X.cells rfl (fun j u hj => by rw [add_ofs, r.cell?, hj]) cells_one (by decide) (by unfold maxLen; omega) (by omega) hb.le _ rfl
  refine ⟨g, c, W', hrn, ?_, bel_grown hb h hg, hg, hl⟩
  rw [List.length_append, List.flatMap_append]
  simpa using ho
theorem ln_ne_ls : 72 ≠ 22 := by decide
theorem al_ne_ln : 25 ≠ 72 := by decide
theorem i64_ne_ln : 2 ≠ 72 := by decide
theorem ls_ne_ln : 22 ≠ 72 := by decide
/-- what Minus holds: the lines of the second list, those of the first with some of the second's, the pieces -/
structure MiAt (W : World) (base : Nat) (vb vr vo : Value) (lb rest : List Ln) (L : List (Value × List (Value × AL))) : Prop where
  lb : W.ownsRow base 72 8 vb lb.length (lb.flatMap Ln.cells)
  rest : W.ownsRow base 72 8 vr rest.length (rest.flatMap Ln.cells)
  ne : NeB vb vr
  out : MsAt W base vo L
theorem MiAt.bel {W W' : World} {base : Nat} {vb vr vo : Value} {lb rest : List Ln} {L : List (Value × List (Value × AL))} (h : MiAt W base vb vr vo lb rest L) (hb : Bel W W') : MiAt W' base vb vr vo lb rest L := ⟨ownsRow_bel h.lb hb, ownsRow_bel h.rest hb, h.ne, h.out.bel hb⟩
/-- a piece more -/
theorem mi_out {w0 W : World} {vb vr vo : Value} {lb rest : List Ln} {L : List (Value × List (Value × AL))} {p : Value × List (Value × AL)} {q : Nat} {e2 : TypeId} (hb : Bel w0 W) (h : MiAt W w0.heap.size vb vr vo lb rest L) (hl : L.length ≤ 1000000) (r : RowAt W q e2 [p.1]) (hp : AO W w0.heap.size p.1 p.2) :
    ∃ A c W', (Builtin.append_ #[50, 50] 50 #[vo, .slice (some ⟨q, 0, none⟩) 1 1]).run Try.prog W = .ok (.slice A (L.length + 1) c) W' ∧ MiAt W' w0.heap.size vb vr (.slice A (L.length + 1) c) lb rest (L ++ [p]) ∧ Bel w0 W' ∧ W.grownBy W' vo.ownBlock := by
  obtain ⟨A, c, W', hr, hm, hb2, hg⟩ := ms_append hb h.out hl r hp
  exact ⟨A, c, W', hr, ⟨h.lb.kept hg (own_ne h.lb h.out.own ln_ne_ls), h.rest.kept hg (own_ne h.rest h.out.own ln_ne_ls), h.ne, hm⟩, hb2, hg⟩
/-- a line more -/
theorem mi_rest {w0 W : World} {vb vr vo : Value} {lb rest : List Ln} {L : List (Value × List (Value × AL))} {X : Ln} {q : Nat} {e2 : TypeId} (hb : Bel w0 W) (h : MiAt W w0.heap.size vb vr vo lb rest L) (hl : rest.length ≤ 1000000) (r : RowAt W q e2 X.cells) :
    ∃ g c W', (Builtin.append_ #[61, 61] 61 #[vr, .slice (some ⟨q, 0, none⟩) 1 1]).run Try.prog W = .ok (.slice (some ⟨g, 0, none⟩) (rest.length + 1) c) W' ∧ MiAt W' w0.heap.size vb (.slice (some ⟨g, 0, none⟩) (rest.length + 1) c) vo lb (rest ++ [X]) L ∧ Bel w0 W' := by
  obtain ⟨g, c, W', hr, ho, hb2, hg, hlies⟩ := own_snoc_lies hb h.rest hl r
  refine ⟨g, c, W', hr, ⟨h.lb.kept hg h.ne.kept, ho, ?_, ⟨h.out.own.kept hg (own_ne h.out.own h.rest ls_ne_ln), fun p hp => (h.out.at_ p hp).kept h.rest al_ne_ln i64_ne_ln hg⟩⟩, hb2⟩
  intro x hx hx2
  obtain rfl : g = x := by simpa [Value.ownBlock] using hx2
  rcases hlies with hl | hl
  · exact h.ne g hx hl
  · have := (h.lb.lt g hx).2; omega
/-- what Minus hands back -/
def MsPost (M : List (List AL) × Int) (w : World) (e : Ending) (w' : World) : Prop :=
  ∃ v' L, e = .returned (.tuple #[v', .int .i64 M.2]) ∧ MsAt w' w.heap.size v' L ∧ L.map (fun p => p.2.map Prod.snd) = M.1 ∧ Bel w w'
theorem ms_nil {M : List (List AL) × Int} {w W : World} {er : Int} (h : M = ([], er)) (hb : Bel w W) : MsPost M w (.returned (.tuple #[.slice none 0 0, .int .i64 er])) W := by
  subst h; exact ⟨_, [], rfl, MsAt.nil, rfl, hb⟩
end Go.Proofs.Ytalphoebmefgoaa
