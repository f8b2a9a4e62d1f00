/- poly, the reference: behind. -/
import Derived.Test.YtalphoebmefgoaaZVrop
import Derived.Test.YtalphoebmefgoaaZVms
namespace Go.Proofs.Ytalphoebmefgoaa
open Go.RowKit

/-- lines that are read; their coefficients lie below the base or in a row of the call's own -/
def LinesK (W : World) (base : Nat) (v : Value) (l : List AL) : Prop := RowOf W.heap.size v l.length 3 fun b o i => ∃ rv, AlCells W b o (alAt l i) rv ∧ IntsK W base rv (alAt l i).a
theorem LinesK.form {W : World} {base : Nat} {v : Value} {l : List AL} (h : LinesK W base v l) : ∃ A c, v = .slice A l.length c ∧ l.length ≤ c := let ⟨A, c, e, hc, _⟩ := h; ⟨A, c, e, hc⟩
theorem LinesK.bel {W W' : World} {base : Nat} {v : Value} {l : List AL} (h : LinesK W base v l) (hb : Bel W W') (hs : base ≤ W.heap.size) : LinesK W' base v l :=
  RowOf.mono h hb.le fun _ _ _ hlt _ ⟨rv, c, hr⟩ => ⟨rv, ⟨(hb.keeps _ _ hlt).trans c.c0, (hb.keeps _ _ hlt).trans c.c1, (hb.keeps _ _ hlt).trans c.c2⟩, hr.bel hb hs⟩
theorem LinesK.of {w W : World} {v : Value} {l : List AL} (h : LinesAt w w.heap.size v l) (hb : Bel w W) : LinesK W w.heap.size v l :=
  RowOf.mono h hb.le fun _ _ _ hlt _ ⟨rv, c, hr⟩ => ⟨rv, ⟨(hb.keeps _ _ hlt).trans c.c0, (hb.keeps _ _ hlt).trans c.c1, (hb.keeps _ _ hlt).trans c.c2⟩, IntsK.below hr hb⟩
theorem AR.linesK {W : World} {base : Nat} {v : Value} {L : List (Value × AL)} (h : AR W base v L) : LinesK W base v (L.map Prod.snd) := by
  obtain ⟨A, c, rfl, hc⟩ := h.form
  refine ⟨A, c, by rw [List.length_map], by rw [List.length_map]; exact hc, fun h0 => ?_⟩
  rw [List.length_map] at h0
  obtain ⟨g, c', e, hb, hlt, _⟩ := h.get h0
  injection e with e _ _
  subst e
  refine ⟨g, 0, rfl, hlt, fun i hi => ?_⟩
  rw [List.length_map] at hi
  obtain ⟨g2, c2, e2, _, _, h1, h2, h3, _⟩ := h.get hi
  injection e2 with e2 _ _
  injection e2 with e2
  injection e2 with e2 _ _
  subst e2
  show ∃ rv, AlCells W g (0 + i * 3) (alAt (L.map Prod.snd) i) rv ∧ IntsK W base rv (alAt (L.map Prod.snd) i).a
  rw [alAt_get (by rw [List.length_map]; exact hi), List.getElem_map, Nat.zero_add]
  exact ⟨L[i].1, ⟨h1, h2, h3⟩, h.at_ _ (List.getElem_mem hi)⟩
theorem IntsK.form {W : World} {base : Nat} {rv : Value} {a : List Int} (h : IntsK W base rv a) : ∃ A c, rv = .slice A a.length c ∧ a.length ≤ c := by
  rcases h with h | h
  · exact IntsAt.form h
  · exact own_slice h
/-- as AR; the coefficients' base apart -/
structure ARB (W : World) (b0 base : Nat) (v : Value) (L : List (Value × AL)) : Prop where
  own : W.ownsRow b0 25 3 v L.length (L.flatMap arC)
  at_ : ∀ p, p ∈ L → IntsK W base p.1 p.2.a
theorem ARB.bel {W W' : World} {b0 base : Nat} {v : Value} {L : List (Value × AL)} (h : ARB W b0 base v L) (hb : Bel W W') (hs : base ≤ W.heap.size) : ARB W' b0 base v L :=
  ⟨ownsRow_bel h.own hb, fun p hp => (h.at_ p hp).bel hb hs⟩
theorem ARB.ar {W : World} {b0 base : Nat} {v : Value} {L : List (Value × AL)} (h : ARB W b0 base v L) (hb : base ≤ b0) : AR W base v L := ⟨own_base h.own hb, h.at_⟩
theorem ar_nil_ne {W : World} {base bs q5 q9 : Nat} {e : TypeId} {p : Value × AL} (h : ARB W base bs (.slice (some ⟨q5, 0, none⟩) 0 0) []) (r : RowAt W q9 e (arC p)) : some q9 ≠ (Value.slice (some ⟨q5, 0, none⟩) 0 0).ownBlock := by
  intro e9
  obtain rfl : q9 = q5 := by simpa [Value.ownBlock] using e9
  rcases h.own.2 with ⟨e1, _⟩ | ⟨g, cap, cur, e1, _, hcur, _, _, hcs, _⟩
  · cases e1
  · injection e1 with e1 _ e2
    injection e1 with e1
    injection e1 with e1 _ _
    subst e1 e2
    unfold RowAt at r
    rw [r] at hcur
    injection hcur with hcur
    injection hcur with hcur _ _
    rw [← hcur] at hcs
    simp [arC] at hcs
theorem arb_append {w0 W : World} {base : Nat} {v : Value} {L : List (Value × AL)} {p : Value × AL} {q : Nat} {e2 : TypeId} (hbs : base ≤ w0.heap.size) (hb : Bel w0 W) (h : ARB W w0.heap.size base v L) (hl : L.length ≤ 1000000) (r : RowAt W q e2 (arC p)) (hp : IntsK W base p.1 p.2.a) (h1 : p.1.oneCell' = true) :
    ∃ A c W', (∀ ty, (Builtin.append_ #[22, 22] ty #[v, .slice (some ⟨q, 0, none⟩) 1 1]).run Try.prog W = .ok (.slice A (L.length + 1) c) W') ∧ ARB W' w0.heap.size base (.slice A (L.length + 1) c) (L ++ [p]) ∧ Bel w0 W' := by
  obtain ⟨i0, hi, hz0, hz1, hz2⟩ := info_parts3 Try.infoALine
  obtain ⟨v', W', hrn, ho, hg⟩ := append_row (P := Try.prog) W w0.heap.size 22 22 25 i0 (.agg #[.slice none 0 0, .int .i64 0, .bool false]) 3 40 Try.underlying22 hi hz0 hz1 hz2 rfl (by decide) v L.length (L.flatMap arC) h.own
    (some ⟨q, 0, none⟩) 1 1 (arC p) (.inr ⟨_, rfl, fun j u hj => by rw [add_ofs, r.cell?, hj]⟩) rfl (arC_one h1) (by unfold maxLen; omega) (by omega) hb.le
  obtain ⟨g, c, rfl⟩ := ownsRow_succ ho
  refine ⟨_, c, W', fun ty => hrn, ⟨?_, fun x hx => ?_⟩, bel_grown hb h.own hg⟩
  · rw [List.length_append, List.flatMap_append]
    simpa using ho
  · rcases List.mem_append.1 hx with hx | hx
    · exact (h.at_ x hx).gro h.own hbs (Nat.le_trans hbs hb.le) hg
    · obtain rfl : x = p := by simpa using hx
      exact hp.gro h.own hbs (Nat.le_trans hbs hb.le) hg
set_option maxRecDepth 100000 in
/-- the lines of a list behind an empty row of the call's own -/
theorem ar_all {w0 W : World} {base : Nat} {v sv : Value} {l : List AL} (hbs : base ≤ w0.heap.size) (hb : Bel w0 W) (h : ARB W w0.heap.size base v []) (hs : LinesK w0 base sv l) (hl : l.length ≤ 100000) :
    ∃ A c W' L, (∀ ty, (Builtin.append_ #[22, 22] ty #[v, sv]).run Try.prog W = .ok (.slice A l.length c) W') ∧ ARB W' w0.heap.size base (.slice A l.length c) L ∧ L.map Prod.snd = l ∧ Bel w0 W' ∧ W.grownBy W' v.ownBlock := by
  obtain ⟨i0, hi, hz0, hz1, hz2⟩ := info_parts3 Try.infoALine
  obtain ⟨A, c, rfl, hc⟩ := hs.form
  have hch : ∃ f : Nat → Value, ∀ i, i < l.length → ∃ g off, A = some ⟨g, off, none⟩ ∧ AlCells w0 g (off + i * 3) (alAt l i) (f i) ∧ IntsK w0 base (f i) (alAt l i).a ∧ g < w0.heap.size := by
    rcases Nat.eq_zero_or_pos l.length with h0 | h0
    · exact ⟨fun _ => .slice none 0 0, fun i hi => absurd hi (by omega)⟩
    · obtain ⟨A', c', e', _, hA'⟩ := hs
      injection e' with e1 _ e3
      subst e1 e3
      obtain ⟨g, off, rfl, hg, hA⟩ := hA' h0
      have hA2 : ∀ i, ∃ rv, i < l.length → AlCells w0 g (off + i * 3) (alAt l i) rv ∧ IntsK w0 base rv (alAt l i).a := fun i => by
        by_cases hi : i < l.length
        · obtain ⟨rv, h1, h2⟩ := hA i hi
          exact ⟨rv, fun _ => ⟨h1, h2⟩⟩
        · exact ⟨.slice none 0 0, fun h => absurd h hi⟩
      obtain ⟨f, hf⟩ := Classical.axiomOfChoice hA2
      exact ⟨f, fun i hi => ⟨g, off, rfl, (hf i hi).1, (hf i hi).2, hg⟩⟩
  obtain ⟨f, hf⟩ := hch
  obtain ⟨L, hL⟩ : ∃ L, L = (List.range l.length).map (fun i => (f i, alAt l i)) := ⟨_, rfl⟩
  have hLl : L.length = l.length := by rw [hL]; simp
  have hLi : ∀ i (h : i < L.length), L[i] = (f i, alAt l i) := fun i h => by subst hL; simp
  have hLm : L.map Prod.snd = l := by
    apply List.ext_getElem
    · simp [hLl]
    · intro i h1 h2
      rw [List.getElem_map, hLi, alAt_get h2]
  have hfl : (L.flatMap arC).length = L.length * 3 := flat_len arC_len L
  have hsrc : (A = none ∧ l.length = 0) ∨ ∃ ad, A = some ad ∧ ∀ j u, (L.flatMap arC)[j]? = some u → W.cell? (ad.add j) = some u := by
    rcases Nat.eq_zero_or_pos l.length with h0 | h0
    · cases A with
      | none => exact .inl ⟨rfl, h0⟩
      | some ad => exact .inr ⟨ad, rfl, fun j u hj => by
          have := (List.getElem?_eq_some_iff.1 hj).1
          omega⟩
    · obtain ⟨g, off, rfl, _, _, hg⟩ := hf 0 h0
      refine .inr ⟨_, rfl, fun j u hj => ?_⟩
      have hj2 : j < L.length * 3 := by have := (List.getElem?_eq_some_iff.1 hj).1; rwa [hfl] at this
      have hi2 : j / 3 < L.length := by omega
      have h3 : j % 3 < 3 := Nat.mod_lt _ (by decide)
      have hj3 : j = j / 3 * 3 + j % 3 := by omega
      obtain ⟨g2, off2, e2, ⟨d0, d1, d2⟩, _, _⟩ := hf (j / 3) (by omega)
      injection e2 with e2
      injection e2 with e2 e3 _
      subst e2 e3
      rw [hj3, flat_at arC_len _ _ _ hi2 h3, hLi] at hj
      have hbl := hb.cells
      rw [add_ofs2, hbl _ _ hg]
      have hr : j % 3 = 0 ∨ j % 3 = 1 ∨ j % 3 = 2 := by omega
      rcases hr with hr | hr | hr
      · rw [hr] at hj
        rw [show off + j = off + j / 3 * 3 by omega, d0, ← hj]; rfl
      · rw [hr] at hj
        rw [show off + j = off + j / 3 * 3 + 1 by omega, d1, ← hj]; rfl
      · rw [hr] at hj
        rw [show off + j = off + j / 3 * 3 + 2 by omega, d2, ← hj]; rfl
  have hK : ∀ p, p ∈ L → IntsK w0 base p.1 p.2.a := fun p hp => by
    obtain ⟨i, hi, rfl⟩ := List.mem_iff_getElem.1 hp
    rw [hLi]
    obtain ⟨_, _, _, _, q, _⟩ := hf i (by omega)
    exact q
  obtain ⟨v', W', hrn, ho, hg⟩ := append_row (P := Try.prog) W w0.heap.size 22 22 25 i0 (.agg #[.slice none 0 0, .int .i64 0, .bool false]) 3 40 Try.underlying22 hi hz0 hz1 hz2 rfl (by decide) v 0 [] h.own
    A l.length c (L.flatMap arC) hsrc (by rw [hfl, hLl]) (fun u hu => by
      obtain ⟨p, hp, hq⟩ := List.mem_flatMap.1 hu
      obtain ⟨Ap, cp, ep, _⟩ := (hK p hp).form
      exact arC_one (by rw [ep]; rfl) u hq) (by unfold maxLen; omega) (by omega) hb.le
  rw [Nat.zero_add, List.nil_append] at ho
  obtain ⟨A', c', rfl, _⟩ := own_slice ho
  refine ⟨A', c', W', L, fun ty => hrn, ⟨by rw [hLl]; exact ho, fun p hp => (hK p hp).bel (bel_grown hb h.own hg) hbs⟩, hLm, bel_grown hb h.own hg, hg⟩
def BhPost (base : Nat) (l : List AL) (w : World) (e : Ending) (w' : World) : Prop := ∃ v' L, e = .returned v' ∧ AR w' base v' L ∧ L.map Prod.snd = l ∧ Bel w w'
set_option maxRecDepth 100000 in
set_option maxHeartbeats 8000000 in
theorem rbehindB_any (base : Nat) (v xv : Value) (l : List AL) (x : AL) (w : World) (hbs : base ≤ w.heap.size) (h : LinesK w base v l) (hl : l.length ≤ 100000) (hx : IntsK w base xv x.a) :
    Calls Try.prog 54 #[v, .agg #[xv, .int .i64 x.b, .bool x.s]] w (BhPost base (l ++ [x]) w) := by
  have H := Lib.hid h
  have HI := Lib.hid hx
  obtain ⟨A, c, rfl, hc⟩ := h.form
  obtain ⟨Ax, cx, hxv, _⟩ := hx.form
  subst hxv
  clear h hx
  go_enter Try.func54, Try.ntmps54
  go_upto_region 1 with (fail)
  generalize hW : World.alloc w _ = w1 at *
  have rx : RowAt w1 w.heap.size 25 [.slice Ax x.a.length cx, .int .i64 x.b, .bool x.s] := by rw [← hW]; exact RowAt.new _ _ _
  have hb1 : Bel w w1 := by rw [← hW]; exact Bel.refl.alloc _
  clear hW
  have HB := Lib.hid hb1
  have H1 := Lib.hid (H.out.bel hb1 hbs)
  have HI1 := Lib.hid (HI.out.bel hb1 hbs)
  have HBS := Lib.hid (Nat.le_trans hbs hb1.le)
  have x0 := rx.cell (i := 0) rfl
  have x1 := rx.cell (i := 1) rfl
  have x2 := rx.cell (i := 2) rfl
  have lx := rx.lt
  clear hb1 rx H HI
  (refine wp_region_E 6 none (by kernel_rfl) ?_; refine anyE_takes [1, 3] (fun _ _ _ _ _ h => h) ⟨⟨_, gro_drew (gro_refl _)⟩, rfl⟩ (by kernel_rfl) (by rfl) ?_; simp only [opsOf, List.filterMap_cons, List.filterMap_nil, List.getElem?_toArray, List.getElem?_cons_succ, List.getElem?_cons_zero, List.foldl_cons, List.foldl_nil]; (repeat (any_goals (first | go_big_quiet_step (fail) | quiet_step (fail)))); refine wpQuiet_nil ?_)
  have HB0 : Hid (Bel w1 w1.drew) := Lib.hid Bel.refl.drew
  clear x0 x1 x2 lx
  generalize w1.drew = W0 at *
  refine anyE_two 0 4 _ _ (by kernel_rfl) (by rfl) (by rfl) ?_ ?_
  · intro K hK
    rw [if_pos (by rfl)]
    go_simp
    refine hK _ _ (fun _ => ⟨⟨_, gro_alloc (gro_of_bel2 HB0.out) _⟩, rfl⟩) ?_
    clear hK K
    obtain ⟨W1, hW⟩ : ∃ W', W' = World.alloc W0 (.cells #[] 25) := ⟨_, rfl⟩
    have HE1 : Hid (ARB W1 w1.heap.size base (.slice (some ⟨W0.heap.size, 0, none⟩) 0 0) []) := Lib.hid (by rw [hW]; exact ⟨World.ownsRow_made W0 #[] 0 HB0.out.le (by unfold maxLen; omega) (by simp), fun p h => absurd h (by simp)⟩)
    have HB1 : Hid (Bel w1 W1) := Lib.hid (by rw [hW]; exact HB0.out.alloc _)
    rw [← hW]
    clear hW
    generalize W0.heap.size = q5 at *
    refine anyE_two 2 4 _ _ (by kernel_rfl) (by rfl) (by rfl) ?_ ?_
    · intro K hK
      obtain ⟨A7, c7, W2, L7, hap, ha7, hm7, hb7, hg7⟩ := ar_all HBS.out HB1.out HE1.out H1.out hl
      rw [if_pos (by rfl)]
      refine oper_append_run _ _ 22 rfl _ _ _ rfl rfl (hap _) (hK _ _ (fun _ => ⟨⟨_, gro_of_bel2 hb7⟩, rfl⟩) ?_)
      simp only [Act.put, List.setIfInBounds_toArray]
      clear hK K hap
      have HB2 := Lib.hid hb7
      have HA2 := Lib.hid ha7
      have HM7 := Lib.hid hm7
      clear ha7 hm7 hb7 hg7
      (refine anyE_one 4 _ (by kernel_rfl) (by rfl) (fun K hK => ?_))
      rw [if_pos (by rfl)]
      go_simp
      refine hK _ _ (fun _ => ⟨⟨_, gro_alloc (gro_of_bel2 HB2.out) _⟩, rfl⟩) ?_
      clear hK K
      obtain ⟨W3, hW⟩ : ∃ W', W' = World.alloc W2 (.cells #[.slice Ax x.a.length cx, .int .i64 x.b, .bool x.s] 25) := ⟨_, rfl⟩
      have HR3 : Hid (RowAt W3 W2.heap.size 25 (arC (.slice Ax x.a.length cx, x))) := Lib.hid (by rw [hW]; exact RowAt.new W2 25 (arC (.slice Ax x.a.length cx, x)))
      have hb : Bel W2 W3 := by rw [hW]; exact Bel.refl.alloc _
      have HB3 : Hid (Bel w1 W3) := Lib.hid (HB2.out.trans hb)
      have HA3 := Lib.hid (HA2.out.bel hb (Nat.le_trans HBS.out HB2.out.le))
      rw [← hW]
      clear hW hb
      generalize W2.heap.size = q9 at *
      (refine anyE_one 5 _ (by kernel_rfl) (by rfl) (fun K hK => ?_))
      obtain ⟨A9, c9, W9, hap, ha9, hb9⟩ := arb_append HBS.out HB3.out HA3.out (by have := congrArg List.length HM7.out; rw [List.length_map] at this; omega) HR3.out (HI1.out.bel HB3.out HBS.out) rfl
      rw [if_pos (by rfl)]
      have HL7 : L7.length = l.length := by have := congrArg List.length HM7.out; rwa [List.length_map] at this
      rw [HL7] at hap ha9
      refine oper_append_run _ _ 22 rfl _ _ _ rfl rfl (hap _) (hK _ _ (fun _ => ⟨⟨_, gro_of_bel2 hb9⟩, rfl⟩) ?_)
      simp only [Act.put, List.setIfInBounds_toArray]
      clear hK K hap
      have HLN : Hid ((L7 ++ [((.slice Ax x.a.length cx, x) : Value × AL)]).map Prod.snd = l ++ [x]) := Lib.hid (by
        rw [List.map_append, HM7.out]; rfl)
      have HAR9 := Lib.hid (ha9.ar HBS.out)
      have HB9 := Lib.hid hb9
      clear ha9 hb9
      (refine anyE_tail 6 (by decide) (by rfl) (by kernel_rfl) ?_; simp only [List.drop_succ_cons, List.drop_zero])
      go_wp2
      refine NoPanic.normal ?_
      go_wp2
      go_ret
      exact ⟨_, _, rfl, HAR9.out, HLN.out, HB.out.trans HB9.out⟩
    · intro K hK
      rw [if_pos (by rfl)]
      go_simp
      refine hK _ _ (fun _ => ⟨⟨_, gro_alloc (gro_of_bel2 HB1.out) _⟩, rfl⟩) ?_
      clear hK K
      obtain ⟨W2, hW⟩ : ∃ W', W' = World.alloc W1 (.cells #[.slice Ax x.a.length cx, .int .i64 x.b, .bool x.s] 25) := ⟨_, rfl⟩
      have HR2 : Hid (RowAt W2 W1.heap.size 25 (arC (.slice Ax x.a.length cx, x))) := Lib.hid (by rw [hW]; exact RowAt.new W1 25 (arC (.slice Ax x.a.length cx, x)))
      have hb : Bel W1 W2 := by rw [hW]; exact Bel.refl.alloc _
      have HB2 : Hid (Bel w1 W2) := Lib.hid (HB1.out.trans hb)
      have HE2 := Lib.hid (HE1.out.bel hb (Nat.le_trans HBS.out HB1.out.le))
      rw [← hW]
      clear hW hb
      generalize W1.heap.size = q9 at *
      (refine anyE_one 2 _ (by kernel_rfl) (by rfl) (fun K hK => ?_))
      obtain ⟨A7, c7, W3, L7, hap, ha7, hm7, hb7, hg7⟩ := ar_all HBS.out HB2.out HE2.out H1.out hl
      rw [if_pos (by rfl)]
      refine oper_append_run _ _ 22 rfl _ _ _ rfl rfl (hap _) (hK _ _ (fun _ => ⟨⟨_, gro_of_bel2 hb7⟩, rfl⟩) ?_)
      simp only [Act.put, List.setIfInBounds_toArray]
      clear hK K hap
      have HB3 := Lib.hid hb7
      have HA3 := Lib.hid ha7
      have HM7 := Lib.hid hm7
      have HR3 : Hid (RowAt W3 q9 25 (arC (.slice Ax x.a.length cx, x))) := Lib.hid (HR2.out.gro hg7 (ar_nil_ne HE2.out HR2.out))
      clear ha7 hm7 hb7 hg7
      (refine anyE_one 5 _ (by kernel_rfl) (by rfl) (fun K hK => ?_))
      obtain ⟨A9, c9, W9, hap, ha9, hb9⟩ := arb_append HBS.out HB3.out HA3.out (by have := congrArg List.length HM7.out; rw [List.length_map] at this; omega) HR3.out (HI1.out.bel HB3.out HBS.out) rfl
      rw [if_pos (by rfl)]
      have HL7 : L7.length = l.length := by have := congrArg List.length HM7.out; rwa [List.length_map] at this
      rw [HL7] at hap ha9
      refine oper_append_run _ _ 22 rfl _ _ _ rfl rfl (hap _) (hK _ _ (fun _ => ⟨⟨_, gro_of_bel2 hb9⟩, rfl⟩) ?_)
      simp only [Act.put]
      clear hK K hap
      have HLN : Hid ((L7 ++ [((.slice Ax x.a.length cx, x) : Value × AL)]).map Prod.snd = l ++ [x]) := Lib.hid (by
        rw [List.map_append, HM7.out]; rfl)
      have HAR9 := Lib.hid (ha9.ar HBS.out)
      have HB9 := Lib.hid hb9
      clear ha9 hb9
      (refine anyE_tail 6 (by decide) (by rfl) (by kernel_rfl) ?_; simp only [List.drop_succ_cons, List.drop_zero])
      go_wp2
      refine NoPanic.normal ?_
      go_wp2
      go_ret
      exact ⟨_, _, rfl, HAR9.out, HLN.out, HB.out.trans HB9.out⟩
  · intro K hK
    rw [if_pos (by rfl)]
    go_simp
    refine hK _ _ (fun _ => ⟨⟨_, gro_alloc (gro_of_bel2 HB0.out) _⟩, rfl⟩) ?_
    clear hK K
    obtain ⟨W1, hW⟩ : ∃ W', W' = World.alloc W0 (.cells #[.slice Ax x.a.length cx, .int .i64 x.b, .bool x.s] 25) := ⟨_, rfl⟩
    have HR1 : Hid (RowAt W1 W0.heap.size 25 (arC (.slice Ax x.a.length cx, x))) := Lib.hid (by rw [hW]; exact RowAt.new W0 25 (arC (.slice Ax x.a.length cx, x)))
    have hb : Bel W0 W1 := by rw [hW]; exact Bel.refl.alloc _
    have HB1 : Hid (Bel w1 W1) := Lib.hid (HB0.out.trans hb)
    rw [← hW]
    clear hW hb
    generalize W0.heap.size = q9 at *
    (refine anyE_one 0 _ (by kernel_rfl) (by rfl) (fun K hK => ?_))
    rw [if_pos (by rfl)]
    go_simp
    refine hK _ _ (fun _ => ⟨⟨_, gro_alloc (gro_of_bel2 HB1.out) _⟩, rfl⟩) ?_
    clear hK K
    obtain ⟨W2, hW⟩ : ∃ W', W' = World.alloc W1 (.cells #[] 25) := ⟨_, rfl⟩
    have HE2 : Hid (ARB W2 w1.heap.size base (.slice (some ⟨W1.heap.size, 0, none⟩) 0 0) []) := Lib.hid (by rw [hW]; exact ⟨World.ownsRow_made W1 #[] 0 HB1.out.le (by unfold maxLen; omega) (by simp), fun p h => absurd h (by simp)⟩)
    have HB2 : Hid (Bel w1 W2) := Lib.hid (by rw [hW]; exact HB1.out.alloc _)
    have HR2 : Hid (RowAt W2 q9 25 (arC (.slice Ax x.a.length cx, x))) := Lib.hid (by rw [hW]; exact HR1.out.alloc _)
    rw [← hW]
    clear hW
    generalize W1.heap.size = q5 at *
    (refine anyE_one 2 _ (by kernel_rfl) (by rfl) (fun K hK => ?_))
    obtain ⟨A7, c7, W3, L7, hap, ha7, hm7, hb7, hg7⟩ := ar_all HBS.out HB2.out HE2.out H1.out hl
    rw [if_pos (by rfl)]
    refine oper_append_run _ _ 22 rfl _ _ _ rfl rfl (hap _) (hK _ _ (fun _ => ⟨⟨_, gro_of_bel2 hb7⟩, rfl⟩) ?_)
    simp only [Act.put, List.setIfInBounds_toArray]
    clear hK K hap
    have HB3 := Lib.hid hb7
    have HA3 := Lib.hid ha7
    have HM7 := Lib.hid hm7
    have HR3 : Hid (RowAt W3 q9 25 (arC (.slice Ax x.a.length cx, x))) := Lib.hid (HR2.out.gro hg7 (ar_nil_ne HE2.out HR2.out))
    clear ha7 hm7 hb7 hg7
    (refine anyE_one 5 _ (by kernel_rfl) (by rfl) (fun K hK => ?_))
    obtain ⟨A9, c9, W9, hap, ha9, hb9⟩ := arb_append HBS.out HB3.out HA3.out (by have := congrArg List.length HM7.out; rw [List.length_map] at this; omega) HR3.out (HI1.out.bel HB3.out HBS.out) rfl
    rw [if_pos (by rfl)]
    have HL7 : L7.length = l.length := by have := congrArg List.length HM7.out; rwa [List.length_map] at this
    rw [HL7] at hap ha9
    refine oper_append_run _ _ 22 rfl _ _ _ rfl rfl (hap _) (hK _ _ (fun _ => ⟨⟨_, gro_of_bel2 hb9⟩, rfl⟩) ?_)
    simp only [Act.put]
    clear hK K hap
    have HLN : Hid ((L7 ++ [((.slice Ax x.a.length cx, x) : Value × AL)]).map Prod.snd = l ++ [x]) := Lib.hid (by
      rw [List.map_append, HM7.out]; rfl)
    have HAR9 := Lib.hid (ha9.ar HBS.out)
    have HB9 := Lib.hid hb9
    clear ha9 hb9
    (refine anyE_tail 6 (by decide) (by rfl) (by kernel_rfl) ?_; simp only [List.drop_succ_cons, List.drop_zero])
    go_wp2
    refine NoPanic.normal ?_
    go_wp2
    go_ret
    exact ⟨_, _, rfl, HAR9.out, HLN.out, HB.out.trans HB9.out⟩
theorem rbehind_any (v xv : Value) (l : List AL) (x : AL) (w : World) (h : LinesAt w w.heap.size v l) (hl : l.length ≤ 100000) (hx : IntsAt w w.heap.size xv x.a) :
    Calls Try.prog 54 #[v, .agg #[xv, .int .i64 x.b, .bool x.s]] w (LinPost (l ++ [x]) w) := by
  refine (rbehindB_any w.heap.size v xv l x w (Nat.le_refl _) (LinesK.of h Bel.refl) hl (.inl hx)).mono ?_
  rintro e w' ⟨v', L, rfl, ha, hm, hb⟩
  exact ⟨v', rfl, by rw [← hm]; exact ha.lines hb.le, hb⟩
end Go.Proofs.Ytalphoebmefgoaa
