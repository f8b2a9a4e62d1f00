/- poly: a row of api.Line of the call's own; each line's coefficients lie in a block of their own kind, or there are none. -/
import Derived.Test.YtalphoebmefgoaaG44
import Derived.Test.YtalphoebmefgoaaZVms
namespace Go.Proofs.Ytalphoebmefgoaa
open Go.RowKit
def IntsK0 (W : World) (_base : Nat) (rv : Value) (a : List Int) : Prop := IntsK W 0 rv a
theorem IntsK0.bel {W W' : World} {base : Nat} {rv : Value} {a : List Int} (h : IntsK0 W base rv a) (hb : Bel W W') (_hs : base ≤ W.heap.size) : IntsK0 W' base rv a := IntsK.bel (base := 0) h hb (Nat.zero_le _)
theorem IntsK0.ints {W : World} {base : Nat} {rv : Value} {a : List Int} (h : IntsK0 W base rv a) (_hs : base ≤ W.heap.size) : IntsAt W W.heap.size rv a := IntsK.ints (base := 0) h (Nat.zero_le _)
theorem IntsK0.mine {W : World} {base b : Nat} {rv : Value} {a : List Int} (h : W.ownsRow b 2 1 rv a.length (a.map (Value.int .i64))) : IntsK0 W base rv a := .inr (own_base h (Nat.zero_le _))
theorem IntsK0.nil {W : World} {base : Nat} : IntsK0 W base (.slice none 0 0) [] := .inl ⟨none, 0, rfl, Nat.le_refl _, fun h => absurd h (by simp)⟩
theorem IntsK0.grot {W W' : World} {base b s n : Nat} {e : TypeId} {rv v : Value} {a : List Int} {xs : List Value} (h : IntsK0 W base rv a) (ho : W.ownsRow b e s v n xs) (hne : 2 ≠ e) (hg : W.grownBy W' v.ownBlock) : IntsK0 W' base rv a := by
  rcases h with h | h
  · exact .inl (h.keep (fun q o hlt => absurd hlt (by omega)) (Nat.le_refl _))
  · exact .inr (h.kept hg (own_ne h ho hne))
theorem IntsK0.gro {W W' : World} {base b n : Nat} {rv v : Value} {a : List Int} {xs : List Value} (h : IntsK0 W base rv a) (ho : W.ownsRow b 25 3 v n xs) (_hb : base ≤ b) (_hs : base ≤ W.heap.size) (hg : W.grownBy W' v.ownBlock) : IntsK0 W' base rv a := h.grot ho i64_ne_line hg
structure AR0 (W : World) (base : Nat) (v : Value) (L : List (Value × AL)) : Prop where
  own : W.ownsRow base 25 3 v L.length (L.flatMap arC)
  at_ : ∀ p, p ∈ L → IntsK0 W base p.1 p.2.a
theorem AR0.nil {W : World} {base : Nat} : AR0 W base (.slice none 0 0) [] := ⟨World.ownsRow_nil _ _ _ _, fun p h => absurd h (by simp)⟩
theorem AR0.bel {W W' : World} {base : Nat} {v : Value} {L : List (Value × AL)} (h : AR0 W base v L) (hb : Bel W W') (hs : base ≤ W.heap.size) : AR0 W' base v L :=
  ⟨ownsRow_bel h.own hb, fun p hp => (h.at_ p hp).bel hb hs⟩
theorem AR0.form {W : World} {base : Nat} {v : Value} {L : List (Value × AL)} (h : AR0 W base v L) : ∃ A c, v = .slice A L.length c ∧ L.length ≤ c := own_slice h.own
theorem AR0.base {W : World} {base base' : Nat} {v : Value} {L : List (Value × AL)} (h : AR0 W base v L) (hb : base' ≤ base) : AR0 W base' v L := ⟨own_base h.own hb, h.at_⟩
theorem AR0.lt {W : World} {base : Nat} {v : Value} {L : List (Value × AL)} (h : AR0 W base v L) : ∀ g, v.ownBlock = some g → base ≤ g ∧ g < W.heap.size := h.own.lt
theorem AR0.kept {W W' : World} {base b n s : Nat} {e : TypeId} {v v2 : Value} {xs : List Value} {L : List (Value × AL)} (h : AR0 W base v L) (ho : W.ownsRow b e s v2 n xs) (h1 : 25 ≠ e) (h2 : 2 ≠ e) (hg : W.grownBy W' v2.ownBlock) : AR0 W' base v L :=
  ⟨h.own.kept hg (own_ne h.own ho h1), fun p hp => (h.at_ p hp).grot ho h2 hg⟩
theorem AR0.get {W : World} {base i : Nat} {v : Value} {L : List (Value × AL)} (h : AR0 W base v L) (hi : i < L.length) :
    ∃ g c, v = .slice (some ⟨g, 0, none⟩) L.length c ∧ base ≤ g ∧ g < W.heap.size ∧ W.cell? ⟨g, i * 3, none⟩ = some L[i].1 ∧ W.cell? ⟨g, i * 3 + 1, none⟩ = some (.int .i64 L[i].2.b) ∧ W.cell? ⟨g, i * 3 + 2, none⟩ = some (.bool L[i].2.s) ∧ (∀ j, W.frozen? ⟨g, j, none⟩ = false) := by
  have ho := h.own
  obtain ⟨g, c, rfl, hc, hb, hlt⟩ := own_form ho (by omega)
  refine ⟨g, c, rfl, hb, hlt, ?_, ?_, ?_, fun j => ho.frozenAt j⟩
  · rw [ho.cellAt _ (by omega), show i * 3 = i * 3 + 0 from rfl, flat_at arC_len _ _ _ hi (by decide)]; rfl
  · rw [ho.cellAt _ (by omega), flat_at arC_len _ _ _ hi (by decide)]; rfl
  · rw [ho.cellAt _ (by omega), flat_at arC_len _ _ _ hi (by decide)]; rfl
theorem AR0.lines {W : World} {base : Nat} {v : Value} {L : List (Value × AL)} (h : AR0 W base v L) (hs : base ≤ W.heap.size) : LinesAt W W.heap.size v (L.map Prod.snd) := by
  obtain ⟨A, c, rfl, hc⟩ := h.form
  refine ⟨A, c, by rw [List.length_map], by rw [List.length_map]; exact hc, fun h0 => ?_⟩
  rw [List.length_map] at h0
  obtain ⟨g, c', e, hb, hlt, _⟩ := h.get h0
  injection e with e _ _
  subst e
  refine ⟨g, 0, rfl, hlt, fun i hi => ?_⟩
  rw [List.length_map] at hi
  obtain ⟨g2, c2, e2, _, _, h1, h2, h3, _⟩ := h.get hi
  injection e2 with e2 _ _
  injection e2 with e2
  injection e2 with e2 _ _
  subst e2
  show ∃ rv, AlCells W g (0 + i * 3) (alAt (L.map Prod.snd) i) rv ∧ IntsAt W W.heap.size rv (alAt (L.map Prod.snd) i).a
  rw [alAt_get (by rw [List.length_map]; exact hi), List.getElem_map, Nat.zero_add]
  exact ⟨L[i].1, ⟨h1, h2, h3⟩, (h.at_ _ (List.getElem_mem hi)).ints hs⟩
theorem ar0_lies {w0 W : World} {v : Value} {L : List (Value × AL)} {p : Value × AL} {q : Nat} {e2 : TypeId} (hb : Bel w0 W) (h : AR0 W w0.heap.size v L) (hl : L.length ≤ 1000000) (r : RowAt W q e2 (arC p)) (hp : IntsK0 W w0.heap.size p.1 p.2.a) (h1 : p.1.oneCell' = true) :
    ∃ g c W', (∀ ty, (Builtin.append_ #[22, 22] ty #[v, .slice (some ⟨q, 0, none⟩) 1 1]).run Try.prog W = .ok (.slice (some ⟨g, 0, none⟩) (L.length + 1) c) W') ∧ AR0 W' w0.heap.size (.slice (some ⟨g, 0, none⟩) (L.length + 1) c) (L ++ [p]) ∧ Bel w0 W' ∧ W.grownBy W' v.ownBlock ∧ (v.ownBlock = some g ∨ g = W.heap.size) := by
  obtain ⟨i0, hi, hz0, hz1, hz2⟩ := info_parts3 Try.infoALine
  obtain ⟨g, c, W', hrn, ho, hg, hl, _⟩ := run_append_lies (P := Try.prog) W 22 22 w0.heap.size 25 i0 (.agg #[.slice none 0 0, .int .i64 0, .bool false]) 3 40 Try.underlying22 hi hz0 hz1 hz2 rfl (by decide) v L.length (L.flatMap arC) h.own
    ⟨q, 0, none⟩ 1 1 (arC p) rfl (fun j u hj => by rw [add_ofs, r.cell?, hj]) (arC_one h1) (by decide) (by unfold maxLen; omega) (by omega) hb.le _ rfl
  refine ⟨g, c, W', fun ty => hrn, ⟨?_, fun x hx => ?_⟩, bel_grown hb h.own hg, hg, hl⟩
  · rw [List.length_append, List.flatMap_append]
    simpa using ho
  · rcases List.mem_append.1 hx with hx | hx
    · exact (h.at_ x hx).gro h.own (Nat.le_refl _) hb.le hg
    · obtain rfl : x = p := by simpa using hx
      exact hp.gro h.own (Nat.le_refl _) hb.le hg
theorem ar0_put {w0 W : World} {g c i : Nat} {L : List (Value × AL)} {p : Value × AL} (hb : Bel w0 W) (h : AR0 W w0.heap.size (.slice (some ⟨g, 0, none⟩) L.length c) L) (hi : i < L.length) (hp : IntsK0 W w0.heap.size p.1 p.2.a) :
    AR0 (putA W g i p) w0.heap.size (.slice (some ⟨g, 0, none⟩) L.length c) (L.set i p) ∧ Bel w0 (putA W g i p) ∧ W.grownBy (putA W g i p) (some g) := by
  obtain ⟨h1, g1⟩ := h.own.stored (i * 3) p.1
  obtain ⟨h2, g2⟩ := h1.stored (i * 3 + 1) (.int .i64 p.2.b)
  obtain ⟨h3, g3⟩ := h2.stored (i * 3 + 2) (.bool p.2.s)
  have hg : W.grownBy (putA W g i p) (some g) := (g1.trans g2).trans g3
  refine ⟨⟨?_, fun x hx => ?_⟩, bel_grown hb h.own hg, hg⟩
  · have e : ((((L.flatMap arC).set (i * 3) p.1).set (i * 3 + 1) (.int .i64 p.2.b)).set (i * 3 + 2) (.bool p.2.s)) = (L.set i p).flatMap arC := by
      have hm1 : i < (L.set i (p.1, L[i].2)).length := by simpa using hi
      rw [show i * 3 = i * 3 + 0 from rfl]
      rw [flat_set arC_len L i 0 (p.1, L[i].2) p.1 hi (by decide) rfl]
      rw [Nat.add_zero]
      rw [flat_set arC_len (L.set i (p.1, L[i].2)) i 1 (p.1, { L[i].2 with b := p.2.b }) (.int .i64 p.2.b) hm1 (by decide) (by simp [arC])]
      rw [flat_set arC_len _ i 2 p (.bool p.2.s) (by simpa using hi) (by decide) (by simp [arC])]
      rw [List.set_set, List.set_set]
    rw [← e, List.length_set]
    exact h3
  · have hx2 : IntsK0 W w0.heap.size x.1 x.2.a := by
      rcases List.mem_or_eq_of_mem_set hx with k | rfl
      · exact h.at_ x k
      · exact hp
    exact hx2.gro h.own (Nat.le_refl _) hb.le hg
/-- a block known whole, as a slice of the call's own -/
theorem own_row {W : World} {B g n size : Nat} {e : TypeId} {xs : List Value} (h : RowAt W g e xs) (hb : B ≤ g) (hl : xs.length = n * size) (hn : n ≤ 1000000) : W.ownsRow B e size (.slice (some ⟨g, 0, none⟩) n n) n xs := by
  unfold RowAt at h
  refine ⟨hl, .inr ⟨g, n, xs.toArray, rfl, hb, h, Nat.le_refl _, by unfold maxLen; omega, by simpa using hl, ?_⟩⟩
  rw [List.toList_toArray, ← hl, List.take_length]
def TiPost (l : List AL) (w : World) (e : Ending) (w' : World) : Prop := ∃ v' L, e = .returned v' ∧ AR0 w' w.heap.size v' L ∧ L.map Prod.snd = l ∧ Bel w w'
/-- a row of lists of lines, as the reference makes it -/
structure Ms0 (W : World) (base : Nat) (v : Value) (L : List (Value × List (Value × AL))) : Prop where
  own : W.ownsRow base 22 1 v L.length (L.map Prod.fst)
  at_ : ∀ p, p ∈ L → AR0 W base p.1 p.2
theorem Ms0.nil {W : World} {base : Nat} : Ms0 W base (.slice none 0 0) [] := ⟨World.ownsRow_nil _ _ _ _, fun p h => absurd h (by simp)⟩
theorem Ms0.bel {W W' : World} {base : Nat} {v : Value} {L : List (Value × List (Value × AL))} (h : Ms0 W base v L) (hb : Bel W W') (hs : base ≤ W.heap.size) : Ms0 W' base v L := ⟨ownsRow_bel h.own hb, fun p hp => (h.at_ p hp).bel hb hs⟩
theorem Ms0.form {W : World} {base : Nat} {v : Value} {L : List (Value × List (Value × AL))} (h : Ms0 W base v L) : ∃ A c, v = .slice A L.length c ∧ L.length ≤ c := own_slice h.own
theorem Ms0.get {W : World} {base i : Nat} {v : Value} {L : List (Value × List (Value × AL))} (h : Ms0 W base v L) (hi : i < L.length) :
    ∃ g c, v = .slice (some ⟨g, 0, none⟩) L.length c ∧ base ≤ g ∧ g < W.heap.size ∧ W.cell? ⟨g, i, none⟩ = some L[i].1 := by
  have ho := h.own
  obtain ⟨g, c, rfl, hc, hb, hlt⟩ := own_form ho (by omega)
  refine ⟨g, c, rfl, hb, hlt, ?_⟩
  rw [ho.cellAt _ (by omega)]
  simp [hi]
/-- a list is appended; what else is the call's own stays -/
theorem ms0_append {w0 W : World} {v : Value} {L : List (Value × List (Value × AL))} {p : Value × List (Value × AL)} {q : Nat} {e2 : TypeId} (hb : Bel w0 W) (h : Ms0 W w0.heap.size v L) (hl : L.length ≤ 1000000) (r : RowAt W q e2 [p.1]) (hp : AR0 W w0.heap.size p.1 p.2) :
    ∃ A c W', (∀ ty, (Builtin.append_ #[50, 50] ty #[v, .slice (some ⟨q, 0, none⟩) 1 1]).run Try.prog W = .ok (.slice A (L.length + 1) c) W') ∧ Ms0 W' w0.heap.size (.slice A (L.length + 1) c) (L ++ [p]) ∧ Bel w0 W' ∧ (∀ vr R, AR W w0.heap.size vr R → AR W' w0.heap.size vr R) := by
  obtain ⟨i0, hi, hz0, hz1, hz2⟩ := info_parts3 Try.infoLsA
  obtain ⟨A1, c1, e1, _⟩ := own_slice hp.own
  obtain ⟨v', W', hrn, ho, hg⟩ := append_row (P := Try.prog) W w0.heap.size 50 50 22 i0 (.slice none 0 0) 1 24 Try.underlying50 hi hz0 hz1 hz2 rfl (by decide) v L.length (L.map Prod.fst) h.own
    (some ⟨q, 0, none⟩) 1 1 [p.1] (.inr ⟨_, rfl, fun j u hj => by rw [add_ofs, r.cell?, hj]⟩) rfl (fun u hu => by
      obtain rfl : u = p.1 := by simpa using hu
      rw [e1]; rfl) (by unfold maxLen; omega) (by omega) hb.le
  obtain ⟨g, c, rfl⟩ := ownsRow_succ ho
  refine ⟨_, c, W', fun ty => hrn, ⟨?_, fun x hx => ?_⟩, bel_grown hb h.own hg, fun vr R ha => ⟨ha.own.kept hg (own_ne ha.own h.own al_ne_ls), fun x hx => ?_⟩⟩
  · rw [List.length_append, List.map_append]
    simpa using ho
  · rcases List.mem_append.1 hx with hx | hx
    · exact (h.at_ x hx).kept h.own al_ne_ls i64_ne_ls hg
    · obtain rfl : x = p := by simpa using hx
      exact hp.kept h.own al_ne_ls i64_ne_ls hg
  · rcases ha.at_ x hx with k | k
    · refine .inl (k.keep (fun b o hlt => ?_) (Nat.le_refl _))
      refine hg.cell_far ⟨b, o, none⟩ (Nat.lt_of_lt_of_le hlt hb.le) (fun e => ?_)
      have := (h.own.lt b e.symm).1
      omega
    · exact .inr (k.kept hg (own_ne k h.own i64_ne_ls))
/-- what the reference's Minus hands back -/
def M0Post (M : List (List AL) × Int) (w : World) (e : Ending) (w' : World) : Prop :=
  ∃ v' L, e = .returned (.tuple #[v', .int .i64 M.2]) ∧ Ms0 w' w.heap.size v' L ∧ L.map (fun p => p.2.map Prod.snd) = M.1 ∧ Bel w w'
theorem m0_nil {M : List (List AL) × Int} {w W : World} {er : Int} (h : M = ([], er)) (hb : Bel w W) : M0Post M w (.returned (.tuple #[.slice none 0 0, .int .i64 er])) W := by
  subst h; exact ⟨_, [], rfl, Ms0.nil, rfl, hb⟩
end Go.Proofs.Ytalphoebmefgoaa
