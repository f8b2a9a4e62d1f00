import Derived.Test.YtalphoebmefgoaaG38
import Derived.Test.YtalphoebmefgoaaG1
import Derived.Laws.OwnMore
import Derived.RangeFuncBox
import Derived.Test.YtalphoebmefgoaaG15
import Derived.Deep.CutBlock
/- poly: a row of api.Line of the call's own; each line's coefficients lie below the base or in a block of the call's own. -/
namespace Go.Proofs.Ytalphoebmefgoaa
open Go.RowKit
theorem arC_len (p : Value × AL) : (arC p).length = 3 := rfl
def IntsK (W : World) (base : Nat) (rv : Value) (a : List Int) : Prop := IntsAt W base rv a ∨ W.ownsRow base 2 1 rv a.length (a.map (Value.int .i64))
structure AR (W : World) (base : Nat) (v : Value) (L : List (Value × AL)) : Prop where
  own : W.ownsRow base 25 3 v L.length (L.flatMap arC)
  at_ : ∀ p, p ∈ L → IntsK W base p.1 p.2.a
theorem own_ne {W : World} {b1 b2 s1 s2 n1 n2 : Nat} {e1 e2 : TypeId} {v1 v2 : Value} {x1 x2 : List Value} (h1 : W.ownsRow b1 e1 s1 v1 n1 x1) (h2 : W.ownsRow b2 e2 s2 v2 n2 x2) (hne : e1 ≠ e2) : v1.ownBlock = none ∨ v1.ownBlock ≠ v2.ownBlock := by
  rcases h1.2 with ⟨rfl, _⟩ | ⟨g, c1, cu1, rfl, _, hg1, _⟩
  · exact .inl rfl
  · rcases h2.2 with ⟨rfl, _⟩ | ⟨g2, c2, cu2, rfl, _, hg2, _⟩
    · exact .inr (by simp [Value.ownBlock])
    · refine .inr fun e => ?_
      simp only [Value.ownBlock, Option.some.injEq] at e
      subst e
      rw [hg1] at hg2
      injection hg2 with hg2
      injection hg2 with _ hg2
      exact hne hg2
theorem i64_ne_line : 2 ≠ 25 := by decide
theorem Bel.keeps_base {w w' : World} {base : Nat} (h : Bel w w') (hb : base ≤ w.heap.size) : Keeps base w w' := fun b o hlt => h.cells b o (Nat.lt_of_lt_of_le hlt hb)
theorem IntsK.bel {W W' : World} {base : Nat} {rv : Value} {a : List Int} (h : IntsK W base rv a) (hb : Bel W W') (hs : base ≤ W.heap.size) : IntsK W' base rv a :=
  h.imp (fun h => h.keep (hb.keeps_base hs) (Nat.le_refl _)) (fun h => ownsRow_bel h hb)
theorem IntsK.ints {W : World} {base : Nat} {rv : Value} {a : List Int} (h : IntsK W base rv a) (hs : base ≤ W.heap.size) : IntsAt W W.heap.size rv a := by
  rcases h with h | h
  · exact h.keep Keeps.refl hs
  · exact IntsAt.of_own h
theorem IntsK.below {w W : World} {rv : Value} {a : List Int} (h : IntsAt w w.heap.size rv a) (hb : Bel w W) : IntsK W w.heap.size rv a := .inl (h.keep hb.keeps (Nat.le_refl _))
theorem IntsK.of_own {W : World} {base b : Nat} {rv : Value} {a : List Int} (h : W.ownsRow b 2 1 rv a.length (a.map (Value.int .i64))) (hb : base ≤ b) : IntsK W base rv a := .inr (own_base h hb)
/-- a row of lines grows: the coefficients stay -/
theorem IntsK.gro {W W' : World} {base b n : Nat} {rv v : Value} {a : List Int} {xs : List Value} (h : IntsK W base rv a) (ho : W.ownsRow b 25 3 v n xs) (hb : base ≤ b) (hs : base ≤ W.heap.size) (hg : W.grownBy W' v.ownBlock) : IntsK W' base rv a := by
  rcases h with h | h
  · refine .inl (h.keep (fun q o hlt => ?_) (Nat.le_refl _))
    refine hg.cell_far ⟨q, o, none⟩ (Nat.lt_of_lt_of_le hlt hs) (fun e => ?_)
    have := (ho.lt q e.symm).1
    omega
  · exact .inr (h.kept hg (own_ne h ho i64_ne_line))
theorem AR.nil {W : World} {base : Nat} : AR W base (.slice none 0 0) [] := ⟨World.ownsRow_nil _ _ _ _, fun p h => absurd h (by simp)⟩
theorem AR.bel {W W' : World} {base : Nat} {v : Value} {L : List (Value × AL)} (h : AR W base v L) (hb : Bel W W') (hs : base ≤ W.heap.size) : AR W' base v L :=
  ⟨ownsRow_bel h.own hb, fun p hp => (h.at_ p hp).bel hb hs⟩
theorem AR.form {W : World} {base : Nat} {v : Value} {L : List (Value × AL)} (h : AR W base v L) : ∃ A c, v = .slice A L.length c ∧ L.length ≤ c := own_slice h.own
/-- the element number i -/
theorem AR.get {W : World} {base i : Nat} {v : Value} {L : List (Value × AL)} (h : AR W base v L) (hi : i < L.length) :
    ∃ g c, v = .slice (some ⟨g, 0, none⟩) L.length c ∧ base ≤ g ∧ g < W.heap.size ∧ W.cell? ⟨g, i * 3, none⟩ = some L[i].1 ∧ W.cell? ⟨g, i * 3 + 1, none⟩ = some (.int .i64 L[i].2.b) ∧ W.cell? ⟨g, i * 3 + 2, none⟩ = some (.bool L[i].2.s) ∧ (∀ j, W.frozen? ⟨g, j, none⟩ = false) := by
  have ho := h.own
  obtain ⟨g, c, rfl, hc, hb, hlt⟩ := own_form ho (by omega)
  refine ⟨g, c, rfl, hb, hlt, ?_, ?_, ?_, fun j => ho.frozenAt j⟩
  · rw [ho.cellAt _ (by omega), show i * 3 = i * 3 + 0 from rfl, flat_at arC_len _ _ _ hi (by decide)]; rfl
  · rw [ho.cellAt _ (by omega), flat_at arC_len _ _ _ hi (by decide)]; rfl
  · rw [ho.cellAt _ (by omega), flat_at arC_len _ _ _ hi (by decide)]; rfl
theorem AR.lines {W : World} {base : Nat} {v : Value} {L : List (Value × AL)} (h : AR W base v L) (hs : base ≤ W.heap.size) : LinesAt W W.heap.size v (L.map Prod.snd) := by
  obtain ⟨A, c, rfl, hc⟩ := h.form
  refine ⟨A, c, by rw [List.length_map], by rw [List.length_map]; exact hc, fun h0 => ?_⟩
  rw [List.length_map] at h0
  obtain ⟨g, c', e, hb, hlt, _⟩ := h.get h0
  injection e with e _ _
  subst e
  refine ⟨g, 0, rfl, hlt, fun i hi => ?_⟩
  rw [List.length_map] at hi
  obtain ⟨g2, c2, e2, _, _, h1, h2, h3, _⟩ := h.get hi
  injection e2 with e2 _ _
  injection e2 with e2
  injection e2 with e2 _ _
  subst e2
  show ∃ rv, AlCells W g (0 + i * 3) (alAt (L.map Prod.snd) i) rv ∧ IntsAt W W.heap.size rv (alAt (L.map Prod.snd) i).a
  rw [alAt_get (by rw [List.length_map]; exact hi), List.getElem_map, Nat.zero_add]
  exact ⟨L[i].1, ⟨h1, h2, h3⟩, (h.at_ _ (List.getElem_mem hi)).ints hs⟩
theorem arC_one {p : Value × AL} (h : p.1.oneCell' = true) : ∀ u ∈ arC p, u.oneCell' = true := fun u hu => by
  simp only [arC, List.mem_cons, List.not_mem_nil, or_false] at hu
  rcases hu with rfl | rfl | rfl
  · exact h
  · rfl
  · rfl
/-- one line is appended -/
theorem ar_append {w0 W : World} {v : Value} {L : List (Value × AL)} {p : Value × AL} {q : Nat} {e2 : TypeId} (hb : Bel w0 W) (h : AR W w0.heap.size v L) (hl : L.length ≤ 1000000) (r : RowAt W q e2 (arC p)) (hp : IntsK W w0.heap.size p.1 p.2.a) (h1 : p.1.oneCell' = true) :
    ∃ A c W', (∀ ty, (Builtin.append_ #[22, 22] ty #[v, .slice (some ⟨q, 0, none⟩) 1 1]).run Try.prog W = .ok (.slice A (L.length + 1) c) W') ∧ AR W' w0.heap.size (.slice A (L.length + 1) c) (L ++ [p]) ∧ Bel w0 W' ∧ W.grownBy W' v.ownBlock := by
  obtain ⟨i0, hi, hz0, hz1, hz2⟩ := info_parts3 Try.infoALine
  obtain ⟨v', W', hrn, ho, hg⟩ := append_row (P := Try.prog) W w0.heap.size 22 22 25 i0 (.agg #[.slice none 0 0, .int .i64 0, .bool false]) 3 40 Try.underlying22 hi hz0 hz1 hz2 rfl (by decide) v L.length (L.flatMap arC) h.own
    (some ⟨q, 0, none⟩) 1 1 (arC p) (.inr ⟨_, rfl, fun j u hj => by rw [add_ofs, r.cell?, hj]⟩) rfl (arC_one h1) (by unfold maxLen; omega) (by omega) hb.le
  obtain ⟨g, c, rfl⟩ := ownsRow_succ ho
  refine ⟨_, c, W', fun ty => hrn, ⟨?_, fun x hx => ?_⟩, bel_grown hb h.own hg, hg⟩
  · rw [List.length_append, List.flatMap_append]
    simpa using ho
  · rcases List.mem_append.1 hx with hx | hx
    · exact (h.at_ x hx).gro h.own (Nat.le_refl _) hb.le hg
    · obtain rfl : x = p := by simpa using hx
      exact hp.gro h.own (Nat.le_refl _) hb.le hg
/-- the element number i is written -/
def putA (W : World) (g i : Nat) (p : Value × AL) : World := ((W.setCell ⟨g, i * 3, none⟩ p.1).setCell ⟨g, i * 3 + 1, none⟩ (.int .i64 p.2.b)).setCell ⟨g, i * 3 + 2, none⟩ (.bool p.2.s)
theorem ar_put {w0 W : World} {g c i : Nat} {L : List (Value × AL)} {p : Value × AL} (hb : Bel w0 W) (h : AR W w0.heap.size (.slice (some ⟨g, 0, none⟩) L.length c) L) (hi : i < L.length) (hp : IntsK W w0.heap.size p.1 p.2.a) :
    AR (putA W g i p) w0.heap.size (.slice (some ⟨g, 0, none⟩) L.length c) (L.set i p) ∧ Bel w0 (putA W g i p) ∧ W.grownBy (putA W g i p) (some g) := by
  obtain ⟨h1, g1⟩ := h.own.stored (i * 3) p.1
  obtain ⟨h2, g2⟩ := h1.stored (i * 3 + 1) (.int .i64 p.2.b)
  obtain ⟨h3, g3⟩ := h2.stored (i * 3 + 2) (.bool p.2.s)
  have hg : W.grownBy (putA W g i p) (some g) := (g1.trans g2).trans g3
  refine ⟨⟨?_, fun x hx => ?_⟩, bel_grown hb h.own hg, hg⟩
  · have e : ((((L.flatMap arC).set (i * 3) p.1).set (i * 3 + 1) (.int .i64 p.2.b)).set (i * 3 + 2) (.bool p.2.s)) = (L.set i p).flatMap arC := by
      have hm1 : i < (L.set i (p.1, L[i].2)).length := by simpa using hi
      rw [show i * 3 = i * 3 + 0 from rfl]
      rw [flat_set arC_len L i 0 (p.1, L[i].2) p.1 hi (by decide) rfl]
      rw [Nat.add_zero]
      rw [flat_set arC_len (L.set i (p.1, L[i].2)) i 1 (p.1, { L[i].2 with b := p.2.b }) (.int .i64 p.2.b) hm1 (by decide) (by simp [arC])]
      rw [flat_set arC_len _ i 2 p (.bool p.2.s) (by simpa using hi) (by decide) (by simp [arC])]
      rw [List.set_set, List.set_set]
    rw [← e, List.length_set]
    exact h3
  · have hx2 : IntsK W w0.heap.size x.1 x.2.a := by
      rcases List.mem_or_eq_of_mem_set hx with k | rfl
      · exact h.at_ x k
      · exact hp
    exact hx2.gro h.own (Nat.le_refl _) hb.le hg
end Go.Proofs.Ytalphoebmefgoaa
/- poly, the reference: zero, order. -/
namespace Go.Proofs.Ytalphoebmefgoaa
open Go.RowKit
def zeroB (a : List Int) : Bool := a.all fun c => decide (c = 0)
theorem getD_drop {a : List Int} {i : Nat} (h : i < a.length) : a.drop i = a.getD i 0 :: a.drop (i + 1) := by
  rw [List.drop_eq_getElem_cons h, List.getD_eq_getElem?_getD, List.getElem?_eq_getElem h]; rfl
set_option maxRecDepth 100000 in
set_option maxHeartbeats 4000000 in
theorem rzero_any (v : Value) (a : List Int) (w : World) (h : IntsAt w w.heap.size v a) (hl : a.length ≤ 1000000) : Calls Try.prog 90 #[v] w fun e w' => e = .returned (.bool (zeroB a)) ∧ Bel w w' := by
  have H := Lib.hid h
  obtain ⟨A, c, rfl, _⟩ := h.form
  clear h
  go_enter Try.func90, Try.ntmps90
  go_wp2
  go_loopw [3] (fun si wq => ∃ (i : Nat) (y : Ext w), i ≤ a.length ∧ si = .int .i64 i ∧ wq = y.w ∧ zeroB (a.drop i) = zeroB a) (fun si _ => a.length - (intOf si).toNat)
  case atStart => exact ⟨0, ⟨w, Bel.refl⟩, by omega, rfl, rfl, rfl⟩
  case round =>
    obtain ⟨i, y, hi, rfl, rfl, ha⟩ := hrel
    by_cases hlt : i < a.length
    · have hd : decide ((i : Int) < (a.length : Int)) = true := by simp; omega
      have hil : (i : Int) < (a.length : Int) := by omega
      have hw : IntKind.i64.wrap ((i : Int) + 1) = (i : Int) + 1 := IntWalk.i64_in _ (by omega)
      obtain ⟨b, off, rfl, hb, hA⟩ := H.out.at_ (by omega)
      have a0 := hA i hlt
      rw [getD_drop hlt] at ha
      have HA := Lib.hid ha
      clear ha hA
      generalize a.getD i 0 = q at *
      by_cases h1 : q = 0
      · subst h1
        have d1 : ((0 : Int) != 0) = false := rfl
        have HR : Hid (zeroB (a.drop (i + 1)) = zeroB a) := Lib.hid (by rw [← HA.out]; rfl)
        go_wp2
        go_roundw
        case rel => exact ⟨i + 1, y, by omega, by go_num, rfl, HR.out⟩
        case measure => simp [intOf]; omega
      · have d1 : (q != 0) = true := by simp [h1]
        have HR : Hid (zeroB a = false) := Lib.hid (by rw [← HA.out]; simp [zeroB, h1])
        clear h1
        go_wp2
        go_ret
        exact ⟨ret_bool HR.out.symm, y.bel⟩
    · obtain rfl : i = a.length := by omega
      have HR : Hid (zeroB a = true) := Lib.hid (by rw [← ha, List.drop_length]; rfl)
      clear ha
      go_wp2
      go_ret
      exact ⟨ret_bool HR.out.symm, y.bel⟩
theorem lex_nil (a : List Int) : lexL a [] = 0 := by cases a <;> rfl
set_option maxRecDepth 100000 in
set_option maxHeartbeats 4000000 in
theorem rorder_any (v1 v2 : Value) (a b : List Int) (w : World) (h1 : IntsAt w w.heap.size v1 a) (h2 : IntsAt w w.heap.size v2 b) (hl1 : a.length ≤ 1000000) (hl2 : b.length ≤ 1000000) :
    Calls Try.prog 91 #[v1, v2] w fun e w' => e = .returned (.int .i64 (lexL a b)) ∧ Bel w w' := by
  have H1 := Lib.hid h1
  have H2 := Lib.hid h2
  obtain ⟨A, c, rfl, _⟩ := h1.form
  obtain ⟨A2, c2, rfl, _⟩ := h2.form
  clear h1 h2
  go_enter Try.func91, Try.ntmps91
  go_wp2
  go_loopw [5] (fun si wq => ∃ (i : Nat) (y : Ext w), i ≤ a.length ∧ i ≤ b.length ∧ si = .int .i64 i ∧ wq = y.w ∧ lexL (a.drop i) (b.drop i) = lexL a b) (fun si _ => a.length - (intOf si).toNat)
  case atStart => exact ⟨0, ⟨w, Bel.refl⟩, by omega, by omega, rfl, rfl, rfl⟩
  case round =>
    obtain ⟨i, y, hi, hi2, rfl, rfl, ha⟩ := hrel
    by_cases hlt : i < a.length
    · by_cases hlt2 : i < b.length
      · have hw : IntKind.i64.wrap ((i : Int) + 1) = (i : Int) + 1 := IntWalk.i64_in _ (by omega)
        obtain ⟨q1, o1, rfl, hb1, hA1⟩ := H1.out.at_ (by omega)
        obtain ⟨q2, o2, rfl, hb2, hA2⟩ := H2.out.at_ (by omega)
        have a1 := hA1 i hlt
        have a2 := hA2 i hlt2
        rw [getD_drop hlt, getD_drop hlt2] at ha
        have HA := Lib.hid ha
        clear ha hA1 hA2
        generalize a.getD i 0 = p at *
        generalize b.getD i 0 = q at *
        by_cases c1 : p < q
        · have d1 : decide (p < q) = true := decide_eq_true c1
          have HR : Hid (lexL a b = -1) := Lib.hid (by rw [← HA.out, lexL, cmpI, if_pos c1]; simp)
          clear c1 HA
          go_wp2
          (refine wp_region_ext (wb := w) (by (repeat (first | exact Ext.bel _ | exact Bel.refl | refine Bel.alloc ?_ _ | refine Bel.drew ?_ | refine Bel.drewN ?_ _))) (by kernel_rfl) (by kernel_rfl) ?_; (repeat (any_goals (first | go_big_quiet_step (fail) | quiet_step (fail) | (refine wpQuiet_step (fun K hK => ?_); go_simp; split <;> (refine hK _ ?_; clear hK K))))); all_goals (refine wpQuiet_nil ?_; intro _ hw'; obtain ⟨y, hw''⟩ := hw'; subst hw''))
          go_wp2
          go_ret
          exact ⟨by rw [HR.out]; rfl, y.bel⟩
        · have d1 : decide (p < q) = false := decide_eq_false c1
          by_cases c2 : q < p
          · have d2 : decide (q < p) = true := decide_eq_true c2
            have HR : Hid (lexL a b = 1) := Lib.hid (by rw [← HA.out, lexL, cmpI, if_neg c1, if_pos c2]; simp)
            clear c1 c2 HA
            go_wp2
            (refine wp_region_ext (wb := w) (by (repeat (first | exact Ext.bel _ | exact Bel.refl | refine Bel.alloc ?_ _ | refine Bel.drew ?_ | refine Bel.drewN ?_ _))) (by kernel_rfl) (by kernel_rfl) ?_; (repeat (any_goals (first | go_big_quiet_step (fail) | quiet_step (fail) | (refine wpQuiet_step (fun K hK => ?_); go_simp; split <;> (refine hK _ ?_; clear hK K))))); all_goals (refine wpQuiet_nil ?_; intro _ hw'; obtain ⟨y, hw''⟩ := hw'; subst hw''))
            go_wp2
            (refine wp_region_ext (wb := w) (by (repeat (first | exact Ext.bel _ | exact Bel.refl | refine Bel.alloc ?_ _ | refine Bel.drew ?_ | refine Bel.drewN ?_ _))) (by kernel_rfl) (by kernel_rfl) ?_; (repeat (any_goals (first | go_big_quiet_step (fail) | quiet_step (fail) | (refine wpQuiet_step (fun K hK => ?_); go_simp; split <;> (refine hK _ ?_; clear hK K))))); all_goals (refine wpQuiet_nil ?_; intro _ hw'; obtain ⟨y, hw''⟩ := hw'; subst hw''))
            go_wp2
            go_ret
            exact ⟨by rw [HR.out]; rfl, y.bel⟩
          · have d2 : decide (q < p) = false := decide_eq_false c2
            have HR : Hid (lexL (a.drop (i + 1)) (b.drop (i + 1)) = lexL a b) := Lib.hid (by rw [← HA.out, lexL, cmpI, if_neg c1, if_neg c2]; simp)
            clear c1 c2 HA
            go_wp2
            (refine wp_region_ext (wb := w) (by (repeat (first | exact Ext.bel _ | exact Bel.refl | refine Bel.alloc ?_ _ | refine Bel.drew ?_ | refine Bel.drewN ?_ _))) (by kernel_rfl) (by kernel_rfl) ?_; (repeat (any_goals (first | go_big_quiet_step (fail) | quiet_step (fail) | (refine wpQuiet_step (fun K hK => ?_); go_simp; split <;> (refine hK _ ?_; clear hK K))))); all_goals (refine wpQuiet_nil ?_; intro _ hw'; obtain ⟨y, hw''⟩ := hw'; subst hw''))
            go_wp2
            (refine wp_region_ext (wb := w) (by (repeat (first | exact Ext.bel _ | exact Bel.refl | refine Bel.alloc ?_ _ | refine Bel.drew ?_ | refine Bel.drewN ?_ _))) (by kernel_rfl) (by kernel_rfl) ?_; (repeat (any_goals (first | go_big_quiet_step (fail) | quiet_step (fail) | (refine wpQuiet_step (fun K hK => ?_); go_simp; split <;> (refine hK _ ?_; clear hK K))))); all_goals (refine wpQuiet_nil ?_; intro _ hw'; obtain ⟨y, hw''⟩ := hw'; subst hw''))
            go_wp2
            go_roundw
            case rel => exact ⟨i + 1, y, by omega, by omega, by go_num, rfl, HR.out⟩
            case measure => simp [intOf]; omega
      · obtain rfl : i = b.length := by omega
        have HR : Hid (lexL a b = 0) := Lib.hid (by rw [← ha, List.drop_length, lex_nil])
        clear ha
        go_wp2
        go_ret
        exact ⟨by rw [HR.out]; rfl, y.bel⟩
    · obtain rfl : i = a.length := by omega
      have HR : Hid (lexL a b = 0) := Lib.hid (by rw [← ha, List.drop_length]; rfl)
      clear ha
      go_wp2
      go_ret
      exact ⟨by rw [HR.out]; rfl, y.bel⟩
end Go.Proofs.Ytalphoebmefgoaa
/- poly, the reference: integers in a slice of the call's own. -/
namespace Go.Proofs.Ytalphoebmefgoaa
open Go.RowKit
set_option maxRecDepth 100000 in
theorem Try.infoI64a : (Try.prog.info? 2).map (fun i => (i.zero, i.size, i.bytes)) = some (some (.int .i64 0), 1, 8) := by kernel_rfl
def intsV (a : List Int) : List Value := a.map (Value.int .i64)
theorem intsV_len (a : List Int) : (intsV a).length = a.length := by simp [intsV]
theorem ints_append {w0 W : World} {v sv : Value} {p a : List Int} (hb : Bel w0 W) (h : W.ownsRow w0.heap.size 2 1 v p.length (intsV p)) (hs : IntsAt W W.heap.size sv a) (hp : p.length ≤ 1000000) (ha : a.length ≤ 1000000) :
    ∃ A c W', (∀ ty, (Builtin.append_ #[23, 23] ty #[v, sv]).run Try.prog W = .ok (.slice A (p.length + a.length) c) W') ∧ W'.ownsRow w0.heap.size 2 1 (.slice A (p.length + a.length) c) (p ++ a).length (intsV (p ++ a)) ∧ Bel w0 W' ∧ W.grownBy W' v.ownBlock := by
  obtain ⟨i0, hi, hz0, hz1, hz2⟩ := info_parts3 Try.infoI64a
  obtain ⟨A, c, rfl, hc⟩ := hs.form
  have hsrc : (A = none ∧ a.length = 0) ∨ ∃ ad, A = some ad ∧ ∀ j u, (intsV a)[j]? = some u → W.cell? (ad.add j) = some u := by
    rcases Nat.eq_zero_or_pos a.length with h0 | h0
    · cases A with
      | none => exact .inl ⟨rfl, h0⟩
      | some ad => exact .inr ⟨ad, rfl, fun j u hj => by
          have := (List.getElem?_eq_some_iff.1 hj).1
          rw [intsV_len] at this; omega⟩
    · obtain ⟨b, off, rfl, hlt, hcl⟩ := hs.at_ h0
      refine .inr ⟨_, rfl, fun j u hj => ?_⟩
      have hj2 : j < a.length := by have := (List.getElem?_eq_some_iff.1 hj).1; rwa [intsV_len] at this
      rw [add_ofs2, hcl j hj2, ← hj]
      simp [intsV, List.getD, hj2]
  obtain ⟨v', W', hrn, ho, hg⟩ := append_row (P := Try.prog) W w0.heap.size 23 23 2 i0 (.int .i64 0) 1 8 Try.underlying23 hi hz0 hz1 hz2 rfl (by decide) v p.length (intsV p) h
    A a.length c (intsV a) hsrc (by rw [intsV_len, Nat.mul_one]) (fun u hu => by obtain ⟨q, _, rfl⟩ := List.mem_map.1 hu; rfl) (by unfold maxLen; omega) (by omega) hb.le
  obtain ⟨A', c', rfl, _⟩ := own_slice ho
  refine ⟨A', c', W', fun ty => hrn, ?_, bel_grown hb h hg, hg⟩
  rw [List.length_append, show intsV (p ++ a) = intsV p ++ intsV a by simp [intsV]]
  exact ho
theorem own_farB {W : World} {base size n p o : Nat} {e e2 : TypeId} {v u : Value} {xs ys : List Value} (h : W.ownsRow base e size v n xs) (r : RowAt W p e2 ys) (hne : e2 ≠ e) : (W.setCell ⟨p, o, none⟩ u).ownsRow base e size v n xs := by
  refine ⟨h.1, ?_⟩
  rcases h.2 with h0 | ⟨g, cap, cur, h1, h2, h3, h4⟩
  · exact .inl h0
  · refine .inr ⟨g, cap, cur, h1, h2, (Below.heap_setCell W _ _ g (fun e0 => ?_)).trans h3, h4⟩
    have e1 : g = p := e0
    subst e1
    unfold RowAt at r
    rw [r] at h3
    injection h3 with h3
    injection h3 with _ h3
    exact hne h3
theorem line_ne_i64 : 25 ≠ 2 := by decide
/-- an element of an own slice of integers -/
theorem ints_at {W : World} {base i : Nat} {v : Value} {a : List Int} (h : W.ownsRow base 2 1 v a.length (intsV a)) (hi : i < a.length) :
    ∃ g c, v = .slice (some ⟨g, 0, none⟩) a.length c ∧ base ≤ g ∧ g < W.heap.size ∧ W.cell? ⟨g, i, none⟩ = some (.int .i64 (a.getD i 0)) ∧ W.frozen? ⟨g, i, none⟩ = false ∧
      ∀ x, (W.setCell ⟨g, i, none⟩ (.int .i64 x)).ownsRow base 2 1 v (a.set i x).length (intsV (a.set i x)) ∧ W.grownBy (W.setCell ⟨g, i, none⟩ (.int .i64 x)) (some g) := by
  obtain ⟨g, c, rfl, hc, hb, hlt⟩ := own_form h (by omega)
  refine ⟨g, c, rfl, hb, hlt, ?_, h.frozenAt i, fun x => ?_⟩
  · rw [h.cellAt _ (by omega), intsV, List.getElem?_map, List.getElem?_eq_getElem hi, List.getD_eq_getElem?_getD, List.getElem?_eq_getElem hi]; rfl
  · obtain ⟨h1, h2⟩ := h.stored i (.int .i64 x)
    refine ⟨?_, h2⟩
    rw [List.length_set, show intsV (a.set i x) = (intsV a).set i (.int .i64 x) by simp [intsV, List.map_set]]
    exact h1
/-- a line that a function hands back: its coefficients are the call's own -/
def AlPost (x : AL) (w : World) (e : Ending) (w' : World) : Prop := ∃ rv, e = .returned (.agg #[rv, .int .i64 x.b, .bool x.s]) ∧ w'.ownsRow w.heap.size 2 1 rv x.a.length (intsV x.a) ∧ Bel w w'
def AL.wf (x : AL) : Prop := ∀ c, c ∈ x.a ++ [x.b] → c.natAbs < 9223372036854775808
end Go.Proofs.Ytalphoebmefgoaa
/- poly, the reference: a line in lowest terms. -/
namespace Go.Proofs.Ytalphoebmefgoaa
open Go.RowKit
def gcdF : List Int → Nat → Nat
  | [], g => g
  | c :: t, g => gcdF t (Nat.gcd g c.natAbs)
def gcdA (x : AL) : Nat := gcdF x.a x.b.natAbs
def lowA (x : AL) : AL := if gcdA x = 0 then x else ⟨x.a.map (fun c => c.tdiv (gcdA x)), x.b.tdiv (gcdA x), x.s⟩
theorem gcdN_lt {a b : Nat} (ha : a < 9223372036854775808) (hb : b < 9223372036854775808) : Nat.gcd a b < 9223372036854775808 := by
  rcases Nat.eq_zero_or_pos a with h | h
  · rw [h, Nat.gcd_zero_left]; exact hb
  · exact Nat.lt_of_le_of_lt (Nat.gcd_le_left _ h) ha
theorem gcdF_lt : ∀ (t : List Int) (g : Nat), g < 9223372036854775808 → (∀ c, c ∈ t → c.natAbs < 9223372036854775808) → gcdF t g < 9223372036854775808
  | [], _g, hg, _ => hg
  | c :: t, _g, hg, h => gcdF_lt t _ (gcdN_lt hg (h c (List.mem_cons_self ..))) (fun q hq => h q (List.mem_cons_of_mem _ hq))
theorem AL.wf.at_ {x : AL} (h : x.wf) (i : Nat) : (x.a.getD i 0).natAbs < 9223372036854775808 := by
  rw [List.getD_eq_getElem?_getD]
  cases e : x.a[i]? with
  | none => simp
  | some c => exact h c (List.mem_append_left _ (List.mem_of_getElem? e))
/-- the first k numbers are divided -/
def divK (a : List Int) (g : Int) (k : Nat) : List Int := (a.take k).map (fun c => c.tdiv g) ++ a.drop k
theorem divK_len (a : List Int) (g : Int) {k : Nat} (h : k ≤ a.length) : (divK a g k).length = a.length := by simp [divK]; omega
theorem divK_get (a : List Int) (g : Int) {k : Nat} (h : k < a.length) : (divK a g k).getD k 0 = a.getD k 0 := by
  unfold divK
  rw [List.getD_eq_getElem?_getD, List.getElem?_append_right (by simp; omega), List.getD_eq_getElem?_getD]
  simp [Nat.min_eq_left (Nat.le_of_lt h)]
theorem divK_set (a : List Int) (g : Int) {k : Nat} (h : k < a.length) : (divK a g k).set k ((a.getD k 0).tdiv g) = divK a g (k + 1) := by
  unfold divK
  apply List.ext_getElem?
  intro j
  have hl : ((a.take k).map (fun c => c.tdiv g)).length = k := by simp; omega
  rw [List.getElem?_set, List.length_append, hl]
  by_cases hj : k = j
  · subst hj
    rw [if_pos rfl, if_pos (by simp; omega), List.getElem?_append_left (by simp; omega), List.getElem?_map, List.getElem?_take, if_pos (by omega), List.getD_eq_getElem?_getD, List.getElem?_eq_getElem h]; rfl
  · rw [if_neg hj]
    rcases Nat.lt_or_ge j k with q | q
    · rw [List.getElem?_append_left (by omega), List.getElem?_append_left (by simp; omega), List.getElem?_map, List.getElem?_map, List.getElem?_take, List.getElem?_take, if_pos q, if_pos (by omega)]
    · rw [List.getElem?_append_right (by omega), List.getElem?_append_right (by simp; omega), hl, List.getElem?_drop, List.getElem?_drop]
      simp only [List.length_map, List.length_take]
      congr 1; omega
theorem divK_all (a : List Int) (g : Int) : divK a g a.length = a.map (fun c => c.tdiv g) := by simp [divK]
theorem rlow_st {w U : World} {p5 p2 gb k n c5 : Nat} {a : List Int} {x5 x2 : List Value} (h5 : RowAt U p5 25 x5) (h2 : RowAt U p2 25 x2) (ho : U.ownsRow w.heap.size 2 1 (.slice (some ⟨gb, 0, none⟩) n c5) a.length (intsV a)) (hb : Bel w U) (hk : k < a.length) (t : Int) :
    RowAt (U.setCell ⟨gb, k, none⟩ (.int .i64 t)) p5 25 x5 ∧ RowAt (U.setCell ⟨gb, k, none⟩ (.int .i64 t)) p2 25 x2 ∧ (U.setCell ⟨gb, k, none⟩ (.int .i64 t)).ownsRow w.heap.size 2 1 (.slice (some ⟨gb, 0, none⟩) n c5) (a.set k t).length (intsV (a.set k t)) ∧ Bel w (U.setCell ⟨gb, k, none⟩ (.int .i64 t)) := by
  obtain ⟨g2, c2, ee, hgb, _, _, _, hst⟩ := ints_at ho hk
  injection ee with ee1 _ ee3
  injection ee1 with ee1
  injection ee1 with ee1 _ _
  subst ee1 ee3
  have hne : ∀ {q : Nat} {x : List Value}, RowAt U q 25 x → q ≠ gb := fun h e => by
    rcases own_box_ne h ho line_ne_i64 with h | h
    · simp [Value.ownBlock] at h
    · exact h (by simp [Value.ownBlock, e])
  exact ⟨h5.far (a := ⟨gb, k, none⟩) (hne h5) _, h2.far (a := ⟨gb, k, none⟩) (hne h2) _, (hst t).1, hb.set (p := ⟨gb, k, none⟩) hgb _⟩
set_option maxRecDepth 100000 in
theorem rlow_res {W : World} {tmps : Array Value} {p2 : Nat} {rv : Value} {b : Int} {s : Bool} (h : RowAt W p2 25 [rv, .int .i64 b, .bool s]) (t : tmps[2]? = some (.pointer (some ⟨p2, 0, none⟩))) :
    (results Try.f89 tmps).run Try.prog W = .ok (.agg #[rv, .int .i64 b, .bool s]) W := by
  have q0 := h.cell (i := 0) rfl
  have q1 := h.cell (i := 1) rfl
  have q2 := h.cell (i := 2) rfl
  simp [results, Try.f89, go_sem, q0, q1, q2, t]
theorem al_post {x : AL} {w W : World} {rv : Value} {b : Int} {s : Bool} {a : List Int} (h : x = ⟨a, b, s⟩) (ho : W.ownsRow w.heap.size 2 1 rv a.length (intsV a)) (hb : Bel w W) : AlPost x w (.returned (.agg #[rv, .int .i64 b, .bool s])) W := by subst h; exact ⟨rv, rfl, ho, hb⟩
set_option maxRecDepth 100000 in
set_option maxHeartbeats 8000000 in
theorem rlowest_any (x : AL) (xv : Value) (w : World) (h : IntsAt w w.heap.size xv x.a) (hl : x.a.length ≤ 1000000) (hx : x.wf) :
    Calls Try.prog 89 #[.agg #[xv, .int .i64 x.b, .bool x.s]] w (AlPost (lowA x) w) := by
  have H := Lib.hid h
  have HX := Lib.hid hx
  have HGL : Hid (gcdA x < 9223372036854775808) := Lib.hid (gcdF_lt _ _ (hx _ (by simp)) (fun c hc => hx c (List.mem_append_left _ hc)))
  have HMA : Hid (gcdA x = gcdF (x.a.drop 0) x.b.natAbs) := Lib.hid rfl
  have HLA : Hid (lowA x = if gcdA x = 0 then ⟨x.a, x.b, x.s⟩ else ⟨x.a.map (fun c => c.tdiv (gcdA x)), x.b.tdiv (gcdA x), x.s⟩) := Lib.hid rfl
  have HWB : Hid (x.b.natAbs < 9223372036854775808) := Lib.hid (hx _ (by simp))
  have HWA := Lib.hid hx.at_
  obtain ⟨A, c, rfl, hc⟩ := h.form
  clear h hx HX
  generalize lowA x = R at *
  generalize gcdA x = g at *
  obtain ⟨xa, xb, xs⟩ := x
  dsimp only at *
  go_enter Try.func89, Try.ntmps89
  go_upto_region 1 with (fail)
  generalize hW : World.alloc (World.alloc w _) _ = w1 at *
  have hb : Bel w w1 := by rw [← hW]; exact (Bel.refl.alloc _).alloc _
  have r1 : RowAt w1 w.heap.size 25 [.slice A xa.length c, .int .i64 xb, .bool xs] := by rw [← hW]; exact (RowAt.new _ _ _).alloc _
  have r2 : RowAt w1 (w.heap.size + 1) 25 [.slice none 0 0, .int .i64 0, .bool false] := by
    rw [← hW, ← size_alV w (.cells #[.slice A xa.length c, .int .i64 xb, .bool xs] 25)]; exact RowAt.new _ _ _
  clear hW
  obtain ⟨p2, hp2⟩ : ∃ p, p = w.heap.size + 1 := ⟨_, rfl⟩
  rw [← hp2] at r2 ⊢
  obtain ⟨p1, hp1⟩ : ∃ p, p = w.heap.size := ⟨_, rfl⟩
  rw [← hp1] at r1 ⊢
  have HN : Hid (w.heap.size ≤ p1 ∧ w.heap.size ≤ p2 ∧ p1 ≠ p2) := Lib.hid (by omega)
  clear hp1 hp2
  have HB := Lib.hid hb
  have HR1 := Lib.hid r1
  have HR2 := Lib.hid r2
  have HI := Lib.hid (H.out.keep hb.keeps hb.le)
  clear hb r2 H
  have x0 := r1.cell (i := 0) rfl
  have x1 := r1.cell (i := 1) rfl
  have x2 := r1.cell (i := 2) rfl
  have l1 := r1.lt
  clear r1
  have HSZ := Lib.hid (fun W => szr_any xb W HWB.out)
  go_wp2_with fail
  refine (HSZ.out _).mono ?_
  rintro e w2 ⟨rfl, hb2⟩
  obtain ⟨y1, rfl⟩ := ext_of hb2
  clear hb2 HSZ
  go_upto_block 0 with (fail)
  go_cut [3] from 10 to 24 (fun s3 wx => ∃ z : Ext w1, wx = z.w ∧ s3 = .int .i64 g)
  case first =>
    go_wp2
    go_loopw [3, 4] (fun s3 s4 wq => ∃ (k q : Nat) (z : Ext w1), k ≤ xa.length ∧ q < 9223372036854775808 ∧ s3 = .int .i64 q ∧ s4 = .int .i64 k ∧ wq = z.w ∧ gcdF (xa.drop k) q = g) (fun _ s4 _ => xa.length - (intOf s4).toNat)
    case atStart => exact ⟨0, xb.natAbs, y1, Nat.zero_le _, HWB.out, rfl, rfl, rfl, HMA.out.symm⟩
    case round =>
      obtain ⟨k, q, z, hk, hq, rfl, rfl, rfl, hf⟩ := hrel
      have HF := Lib.hid hf
      clear hf
      by_cases hlt : k < xa.length
      · have hd : decide ((k : Int) < (xa.length : Int)) = true := by simp; omega
        have hkl : (k : Int) < (xa.length : Int) := by omega
        have hw : IntKind.i64.wrap ((k : Int) + 1) = (k : Int) + 1 := IntWalk.i64_in _ (by omega)
        obtain ⟨b, off, rfl, hbb, hA⟩ := HI.out.at_ (by omega)
        have a0 := hA k hlt
        have HWK := Lib.hid (HWA.out k)
        have HF2 : Hid (gcdF (xa.drop (k + 1)) (Nat.gcd q (xa.getD k 0).natAbs) = g) := Lib.hid (by rw [← HF.out, getD_drop hlt]; rfl)
        clear hA HF
        generalize xa.getD k 0 = t at *
        have HSZ := Lib.hid (fun W => szr_any t W HWK.out)
        have HDV := Lib.hid (fun W => dvr_any q t.natAbs W hq HWK.out)
        have HLT := Lib.hid (gcdN_lt hq HWK.out)
        go_wp2_with fail
        refine (HSZ.out _).mono ?_
        rintro e w3 ⟨rfl, hb3⟩
        have HB3 := Lib.hid (z.bel.trans hb3)
        clear hb3
        go_wp2_with fail
        refine (HDV.out _).mono ?_
        rintro e w4 ⟨rfl, hb4⟩
        have HB4 := Lib.hid (HB3.out.trans hb4)
        clear hb4 HB3
        go_wp2
        go_roundw
        case rel => exact ⟨k + 1, _, ⟨_, HB4.out⟩, by omega, HLT.out, rfl, by go_num, rfl, HF2.out⟩
        case measure => simp [intOf]; omega
      · obtain rfl : k = xa.length := by omega
        have HE : Hid (q = g) := Lib.hid (by rw [← HF.out, List.drop_length]; rfl)
        clear HF
        go_wp2
        go_meet
        case rel => exact ⟨z, rfl, by rw [HE.out]⟩
  case rest =>
  obtain ⟨z, rfl, rfl⟩ := hcut
  have HRZ1 := Lib.hid (HR1.out.bel z.bel)
  have HRZ2 := Lib.hid (HR2.out.bel z.bel)
  have HBZ := Lib.hid (HB.out.trans z.bel)
  have HIZ := Lib.hid (HI.out.keep z.bel.keeps z.bel.le)
  clear HB HR1 HR2 HI x0 x1 x2 l1 HMA
  generalize z.w = wz at *
  have x0 := HRZ1.out.cell (i := 0) rfl
  have x1 := HRZ1.out.cell (i := 1) rfl
  have x2 := HRZ1.out.cell (i := 2) rfl
  have l1 := HRZ1.out.lt
  go_upto_region 6 with (fail)
  go_cut [5] from 25 (fun s5 wx => ∃ (z2 : Ext wz) (p5 : Nat) (rv : Value), wx = z2.w ∧ s5 = .pointer (some ⟨p5, 0, none⟩) ∧ wz.heap.size ≤ p5 ∧ RowAt z2.w p5 25 [rv, .int .i64 xb, .bool xs] ∧ z2.w.ownsRow wz.heap.size 2 1 rv xa.length (intsV xa))
  case first =>
    (refine wp_region_E 10 none (by kernel_rfl) ?_; refine anyE_takes [1, 2, 4, 5, 6, 7] (fun _ _ _ _ _ h => h) ⟨⟨_, gro_drew (gro_refl _)⟩, rfl⟩ (by kernel_rfl) (by rfl) ?_; simp only [opsOf, List.filterMap_cons, List.filterMap_nil, List.getElem?_toArray, List.getElem?_cons_succ, List.getElem?_cons_zero, List.foldl_cons, List.foldl_nil]; (repeat (any_goals (first | go_big_quiet_step (fail) | quiet_step (fail)))); refine wpQuiet_nil ?_)
    have G0 : Hid (wz.grownBy wz.drew none) := Lib.hid (gro_drew (gro_refl _))
    have B0 := Lib.hid ((Bel.refl (w := wz)).drew)
    clear x0 x1 x2 l1
    generalize wz.drew = W0 at *
    refine anyE_two 0 9 _ _ (by kernel_rfl) (by rfl) (by rfl) ?_ ?_
    · intro K hK
      rw [if_pos (by rfl)]
      go_simp
      refine hK _ _ (fun _ => ⟨⟨_, gro_alloc G0.out _⟩, rfl⟩) ?_
      clear hK K
      have G1 := Lib.hid (gro_alloc G0.out (.cells #[] 2))
      have B1 := Lib.hid (B0.out.alloc (.cells #[] 2))
      have O1 : Hid ((W0.alloc (.cells #[] 2)).ownsRow wz.heap.size 2 1 (.slice (some ⟨W0.heap.size, 0, none⟩) 0 0) ([] : List Int).length (intsV [])) := Lib.hid (World.ownsRow_made W0 #[] 0 B0.out.le (by unfold maxLen; omega) (by simp))
      generalize World.alloc W0 _ = W1 at *
      generalize W0.heap.size = b1 at *
      refine anyE_two 3 9 _ _ (by kernel_rfl) (by rfl) (by rfl) ?_ ?_
      · intro K hK
        rw [if_pos (by rfl)]
        obtain ⟨A2, c2, W2, hap, ho, hb, hg⟩ := ints_append (w0 := wz) B1.out O1.out (HIZ.out.keep B1.out.keeps B1.out.le) (by simp) hl
        rw [show ([] : List Int).length + xa.length = xa.length by simp] at hap ho
        rw [List.nil_append] at ho
        have G2 : Hid (wz.grownBy W2 none) := Lib.hid (gro_of_bel2 hb)
        have B2 := Lib.hid hb
        have O2 := Lib.hid ho
        refine oper_append_run _ _ 23 rfl _ _ _ rfl rfl (hap _) (hK _ _ (fun _ => ⟨⟨_, G2.out⟩, rfl⟩) ?_)
        simp only [Act.put, List.setIfInBounds_toArray]
        clear hK K hap ho hb hg
        refine anyE_two 8 9 _ _ (by kernel_rfl) (by rfl) (by rfl) ?_ ?_
        · intro K hK
          rw [if_pos (by rfl)]
          go_simp
          refine hK _ _ (fun _ => ⟨⟨_, G2.out⟩, rfl⟩) ?_
          clear hK K
          (refine anyE_one 9 _ (by kernel_rfl) (by rfl) (fun K hK => ?_))
          rw [if_pos (by rfl)]
          go_simp
          refine hK _ _ (fun _ => ⟨⟨_, gro_alloc G2.out _⟩, rfl⟩) ?_
          clear hK K
          have G4 := Lib.hid (gro_alloc G2.out (.cells #[.slice none 0 0, .int .i64 0, .bool false] 25))
          have B4 := Lib.hid (B2.out.alloc (.cells #[.slice none 0 0, .int .i64 0, .bool false] 25))
          have P4 : Hid (RowAt (W2.alloc (.cells #[.slice none 0 0, .int .i64 0, .bool false] 25)) W2.heap.size 25 [.slice none 0 0, .int .i64 0, .bool false]) := Lib.hid (RowAt.new W2 25 [.slice none 0 0, .int .i64 0, .bool false])
          have N4 : Hid (wz.heap.size ≤ W2.heap.size) := Lib.hid B2.out.le
          have O4 := Lib.hid (ownsRow_bel O2.out (Bel.refl.alloc (.cells #[.slice none 0 0, .int .i64 0, .bool false] 25)))
          generalize World.alloc W2 _ = W4 at *
          generalize W2.heap.size = b4 at *
          (refine anyE_tail 10 (by decide) (by rfl) (by kernel_rfl) ?_; simp only [List.drop_succ_cons, List.drop_zero])
          have q0 := P4.out.cell (i := 0) rfl
          have q1 := P4.out.cell (i := 1) rfl
          have q2 := P4.out.cell (i := 2) rfl
          have fq := fun k => P4.out.frozen k
          have lq := P4.out.lt
          go_wp2
          refine NoPanic.normal ?_
          go_wp2
          go_meet
          case rel => exact ⟨⟨_, ((B4.out.set (p := ⟨b4, 0, none⟩) N4.out _).set (p := ⟨b4, 1, none⟩) N4.out _).set (p := ⟨b4, 2, none⟩) N4.out _⟩, b4, (.slice A2 xa.length c2), rfl, rfl, N4.out, ((P4.out.set 0 _).set 1 _).set 2 _, own_farB (own_farB (own_farB O4.out P4.out line_ne_i64) (P4.out.set 0 _) line_ne_i64) ((P4.out.set 0 _).set 1 _) line_ne_i64⟩
        · intro K hK
          rw [if_pos (by rfl)]
          go_simp
          refine hK _ _ (fun _ => ⟨⟨_, gro_alloc G2.out _⟩, rfl⟩) ?_
          clear hK K
          have G5 := Lib.hid (gro_alloc G2.out (.cells #[.slice none 0 0, .int .i64 0, .bool false] 25))
          have B5 := Lib.hid (B2.out.alloc (.cells #[.slice none 0 0, .int .i64 0, .bool false] 25))
          have P5 : Hid (RowAt (W2.alloc (.cells #[.slice none 0 0, .int .i64 0, .bool false] 25)) W2.heap.size 25 [.slice none 0 0, .int .i64 0, .bool false]) := Lib.hid (RowAt.new W2 25 [.slice none 0 0, .int .i64 0, .bool false])
          have N5 : Hid (wz.heap.size ≤ W2.heap.size) := Lib.hid B2.out.le
          have O5 := Lib.hid (ownsRow_bel O2.out (Bel.refl.alloc (.cells #[.slice none 0 0, .int .i64 0, .bool false] 25)))
          generalize World.alloc W2 _ = W5 at *
          generalize W2.heap.size = b5 at *
          (refine anyE_one 8 _ (by kernel_rfl) (by rfl) (fun K hK => ?_))
          rw [if_pos (by rfl)]
          go_simp
          refine hK _ _ (fun _ => ⟨⟨_, G5.out⟩, rfl⟩) ?_
          clear hK K
          (refine anyE_tail 10 (by decide) (by rfl) (by kernel_rfl) ?_; simp only [List.drop_succ_cons, List.drop_zero])
          have q0 := P5.out.cell (i := 0) rfl
          have q1 := P5.out.cell (i := 1) rfl
          have q2 := P5.out.cell (i := 2) rfl
          have fq := fun k => P5.out.frozen k
          have lq := P5.out.lt
          go_wp2
          refine NoPanic.normal ?_
          go_wp2
          go_meet
          case rel => exact ⟨⟨_, ((B5.out.set (p := ⟨b5, 0, none⟩) N5.out _).set (p := ⟨b5, 1, none⟩) N5.out _).set (p := ⟨b5, 2, none⟩) N5.out _⟩, b5, (.slice A2 xa.length c2), rfl, rfl, N5.out, ((P5.out.set 0 _).set 1 _).set 2 _, own_farB (own_farB (own_farB O5.out P5.out line_ne_i64) (P5.out.set 0 _) line_ne_i64) ((P5.out.set 0 _).set 1 _) line_ne_i64⟩
      · intro K hK
        rw [if_pos (by rfl)]
        go_simp
        refine hK _ _ (fun _ => ⟨⟨_, gro_alloc G1.out _⟩, rfl⟩) ?_
        clear hK K
        have G7 := Lib.hid (gro_alloc G1.out (.cells #[.slice none 0 0, .int .i64 0, .bool false] 25))
        have B7 := Lib.hid (B1.out.alloc (.cells #[.slice none 0 0, .int .i64 0, .bool false] 25))
        have P7 : Hid (RowAt (W1.alloc (.cells #[.slice none 0 0, .int .i64 0, .bool false] 25)) W1.heap.size 25 [.slice none 0 0, .int .i64 0, .bool false]) := Lib.hid (RowAt.new W1 25 [.slice none 0 0, .int .i64 0, .bool false])
        have N7 : Hid (wz.heap.size ≤ W1.heap.size) := Lib.hid B1.out.le
        have O7 := Lib.hid (ownsRow_bel O1.out (Bel.refl.alloc (.cells #[.slice none 0 0, .int .i64 0, .bool false] 25)))
        generalize World.alloc W1 _ = W7 at *
        generalize W1.heap.size = b7 at *
        (refine anyE_one 3 _ (by kernel_rfl) (by rfl) (fun K hK => ?_))
        rw [if_pos (by rfl)]
        obtain ⟨A8, c8, W8, hap, ho, hb, hg⟩ := ints_append (w0 := wz) B7.out O7.out (HIZ.out.keep B7.out.keeps B7.out.le) (by simp) hl
        rw [show ([] : List Int).length + xa.length = xa.length by simp] at hap ho
        rw [List.nil_append] at ho
        have G8 : Hid (wz.grownBy W8 none) := Lib.hid (gro_of_bel2 hb)
        have B8 := Lib.hid hb
        have O8 := Lib.hid ho
        have P8 := Lib.hid (P7.out.gro hg (box_row_ne P7.out O7.out line_ne_i64))
        refine oper_append_run _ _ 23 rfl _ _ _ rfl rfl (hap _) (hK _ _ (fun _ => ⟨⟨_, G8.out⟩, rfl⟩) ?_)
        simp only [Act.put, List.setIfInBounds_toArray]
        clear hK K hap ho hb hg
        (refine anyE_one 8 _ (by kernel_rfl) (by rfl) (fun K hK => ?_))
        rw [if_pos (by rfl)]
        go_simp
        refine hK _ _ (fun _ => ⟨⟨_, G8.out⟩, rfl⟩) ?_
        clear hK K
        (refine anyE_tail 10 (by decide) (by rfl) (by kernel_rfl) ?_; simp only [List.drop_succ_cons, List.drop_zero])
        have q0 := P8.out.cell (i := 0) rfl
        have q1 := P8.out.cell (i := 1) rfl
        have q2 := P8.out.cell (i := 2) rfl
        have fq := fun k => P8.out.frozen k
        have lq := P8.out.lt
        go_wp2
        refine NoPanic.normal ?_
        go_wp2
        go_meet
        case rel => exact ⟨⟨_, ((B8.out.set (p := ⟨b7, 0, none⟩) N7.out _).set (p := ⟨b7, 1, none⟩) N7.out _).set (p := ⟨b7, 2, none⟩) N7.out _⟩, b7, (.slice A8 xa.length c8), rfl, rfl, N7.out, ((P8.out.set 0 _).set 1 _).set 2 _, own_farB (own_farB (own_farB O8.out P8.out line_ne_i64) (P8.out.set 0 _) line_ne_i64) ((P8.out.set 0 _).set 1 _) line_ne_i64⟩
    · intro K hK
      rw [if_pos (by rfl)]
      go_simp
      refine hK _ _ (fun _ => ⟨⟨_, gro_alloc G0.out _⟩, rfl⟩) ?_
      clear hK K
      have G10 := Lib.hid (gro_alloc G0.out (.cells #[.slice none 0 0, .int .i64 0, .bool false] 25))
      have B10 := Lib.hid (B0.out.alloc (.cells #[.slice none 0 0, .int .i64 0, .bool false] 25))
      have P10 : Hid (RowAt (W0.alloc (.cells #[.slice none 0 0, .int .i64 0, .bool false] 25)) W0.heap.size 25 [.slice none 0 0, .int .i64 0, .bool false]) := Lib.hid (RowAt.new W0 25 [.slice none 0 0, .int .i64 0, .bool false])
      have N10 : Hid (wz.heap.size ≤ W0.heap.size) := Lib.hid B0.out.le
      generalize World.alloc W0 _ = W10 at *
      generalize W0.heap.size = b10 at *
      (refine anyE_one 0 _ (by kernel_rfl) (by rfl) (fun K hK => ?_))
      rw [if_pos (by rfl)]
      go_simp
      refine hK _ _ (fun _ => ⟨⟨_, gro_alloc G10.out _⟩, rfl⟩) ?_
      clear hK K
      have G11 := Lib.hid (gro_alloc G10.out (.cells #[] 2))
      have B11 := Lib.hid (B10.out.alloc (.cells #[] 2))
      have O11 : Hid ((W10.alloc (.cells #[] 2)).ownsRow wz.heap.size 2 1 (.slice (some ⟨W10.heap.size, 0, none⟩) 0 0) ([] : List Int).length (intsV [])) := Lib.hid (World.ownsRow_made W10 #[] 0 B10.out.le (by unfold maxLen; omega) (by simp))
      have P11 := Lib.hid (P10.out.alloc (.cells #[] 2))
      generalize World.alloc W10 _ = W11 at *
      generalize W10.heap.size = b11 at *
      (refine anyE_one 3 _ (by kernel_rfl) (by rfl) (fun K hK => ?_))
      rw [if_pos (by rfl)]
      obtain ⟨A12, c12, W12, hap, ho, hb, hg⟩ := ints_append (w0 := wz) B11.out O11.out (HIZ.out.keep B11.out.keeps B11.out.le) (by simp) hl
      rw [show ([] : List Int).length + xa.length = xa.length by simp] at hap ho
      rw [List.nil_append] at ho
      have G12 : Hid (wz.grownBy W12 none) := Lib.hid (gro_of_bel2 hb)
      have B12 := Lib.hid hb
      have O12 := Lib.hid ho
      have P12 := Lib.hid (P11.out.gro hg (box_row_ne P11.out O11.out line_ne_i64))
      refine oper_append_run _ _ 23 rfl _ _ _ rfl rfl (hap _) (hK _ _ (fun _ => ⟨⟨_, G12.out⟩, rfl⟩) ?_)
      simp only [Act.put, List.setIfInBounds_toArray]
      clear hK K hap ho hb hg
      (refine anyE_one 8 _ (by kernel_rfl) (by rfl) (fun K hK => ?_))
      rw [if_pos (by rfl)]
      go_simp
      refine hK _ _ (fun _ => ⟨⟨_, G12.out⟩, rfl⟩) ?_
      clear hK K
      (refine anyE_tail 10 (by decide) (by rfl) (by kernel_rfl) ?_; simp only [List.drop_succ_cons, List.drop_zero])
      have q0 := P12.out.cell (i := 0) rfl
      have q1 := P12.out.cell (i := 1) rfl
      have q2 := P12.out.cell (i := 2) rfl
      have fq := fun k => P12.out.frozen k
      have lq := P12.out.lt
      go_wp2
      refine NoPanic.normal ?_
      go_wp2
      go_meet
      case rel => exact ⟨⟨_, ((B12.out.set (p := ⟨b10, 0, none⟩) N10.out _).set (p := ⟨b10, 1, none⟩) N10.out _).set (p := ⟨b10, 2, none⟩) N10.out _⟩, b10, (.slice A12 xa.length c12), rfl, rfl, N10.out, ((P12.out.set 0 _).set 1 _).set 2 _, own_farB (own_farB (own_farB O12.out P12.out line_ne_i64) (P12.out.set 0 _) line_ne_i64) ((P12.out.set 0 _).set 1 _) line_ne_i64⟩
  case rest =>
  obtain ⟨z2, p5, rv, rfl, rfl, hp5, hr5, ho5⟩ := hcut
  have HN5 : Hid (wz.heap.size ≤ p5 ∧ p5 ≠ p2 ∧ p5 ≠ p1) := Lib.hid (by have := HRZ2.out.lt; have := HRZ1.out.lt; omega)
  have HR5 := Lib.hid hr5
  have HO5 := Lib.hid (own_base ho5 HBZ.out.le)
  have HR2 := Lib.hid (HRZ2.out.bel z2.bel)
  have HB2 := Lib.hid (HBZ.out.trans z2.bel)
  have HP5 : Hid (w.heap.size ≤ p5) := Lib.hid (by have := HBZ.out.le; omega)
  clear hp5 hr5 ho5 x0 x1 x2 l1 HRZ1 HRZ2 HIZ HBZ
  obtain ⟨A5, c5, rfl, _⟩ := own_slice HO5.out
  by_cases hg : g = 0
  · subst hg
    have d0 : ((0 : Int) == 0) = true := rfl
    have HRE : Hid (R = ⟨xa, xb, xs⟩) := Lib.hid (by rw [HLA.out]; simp)
    have q0 := HR5.out.cell (i := 0) rfl
    have q1 := HR5.out.cell (i := 1) rfl
    have q2 := HR5.out.cell (i := 2) rfl
    have lq := HR5.out.lt
    have z0 := HR2.out.cell (i := 0) rfl
    have z1 := HR2.out.cell (i := 1) rfl
    have z3 := HR2.out.cell (i := 2) rfl
    have fz := fun k => HR2.out.frozen k
    have lz := HR2.out.lt
    go_wp2
    have r9 : RowAt (((z2.w.setCell ⟨p2, 0, none⟩ (.slice A5 xa.length c5)).setCell ⟨p2, 1, none⟩ (.int .i64 xb)).setCell ⟨p2, 2, none⟩ (.bool xs)) p2 25 [.slice A5 xa.length c5, .int .i64 xb, .bool xs] := ((HR2.out.set 0 _).set 1 _).set 2 _
    have o9 : (((z2.w.setCell ⟨p2, 0, none⟩ (.slice A5 xa.length c5)).setCell ⟨p2, 1, none⟩ (.int .i64 xb)).setCell ⟨p2, 2, none⟩ (.bool xs)).ownsRow w.heap.size 2 1 (.slice A5 xa.length c5) xa.length (intsV xa) := own_farB (own_farB (own_farB HO5.out HR2.out line_ne_i64) (HR2.out.set 0 _) line_ne_i64) ((HR2.out.set 0 _).set 1 _) line_ne_i64
    have b9 : Bel w (((z2.w.setCell ⟨p2, 0, none⟩ (.slice A5 xa.length c5)).setCell ⟨p2, 1, none⟩ (.int .i64 xb)).setCell ⟨p2, 2, none⟩ (.bool xs)) := ((HB2.out.set HN.out.2.1 _).set HN.out.2.1 _).set HN.out.2.1 _
    generalize World.setCell (World.setCell _ _ _) _ _ = W9 at *
    exact bodyPost_ret (rlow_res r9 rfl) rfl (al_post HRE.out o9 b9)
  · have d0 : ((g : Int) == 0) = false := by simp; omega
    have HRE : Hid (R = ⟨xa.map (fun c => c.tdiv g), xb.tdiv g, xs⟩) := Lib.hid (by rw [HLA.out, if_neg hg])
    have d1 : ¬ ((g : Int) = 0) := by omega
    clear hg HLA
    generalize (g : Int) = G at *
    go_wp2
    go_loopw [6] (fun s6 wq => ∃ (k : Nat) (U : World), k ≤ xa.length ∧ s6 = .int .i64 k ∧ U = wq ∧ RowAt U p5 25 [.slice A5 xa.length c5, .int .i64 xb, .bool xs] ∧ RowAt U p2 25 [.slice none 0 0, .int .i64 0, .bool false] ∧ U.ownsRow w.heap.size 2 1 (.slice A5 xa.length c5) (divK xa G k).length (intsV (divK xa G k)) ∧ Bel w U) (fun s6 _ => xa.length - (intOf s6).toNat)
    case atStart => exact ⟨0, _, Nat.zero_le _, rfl, rfl, HR5.out, HR2.out, HO5.out, HB2.out⟩
    case round =>
      clear HR5 HR2 HO5 HB2
      obtain ⟨k, U, hk, rfl, rfl, hr5, hr2, ho, hbu⟩ := hrel
      have HR5 := Lib.hid hr5
      have HR2 := Lib.hid hr2
      have HO := Lib.hid ho
      have HBU := Lib.hid hbu
      clear hr5 hr2 ho hbu
      have HDL := Lib.hid (divK_len xa G hk)
      by_cases hlt : k < xa.length
      · have hd : decide ((k : Int) < (xa.length : Int)) = true := by simp; omega
        have hkl : (k : Int) < (xa.length : Int) := by omega
        have hw : IntKind.i64.wrap ((k : Int) + 1) = (k : Int) + 1 := IntWalk.i64_in _ (by omega)
        obtain ⟨gb, gc, ee, hgb, hgl, hcl, hfz, hst⟩ := ints_at HO.out (show k < (divK xa G k).length by rw [HDL.out]; exact hlt)
        injection ee with ee1 _ ee3
        subst ee1 ee3
        rw [divK_get xa G hlt] at hcl
        have hq : ((xa.getD k 0).tdiv G).natAbs < 9223372036854775808 := by
          rw [Int.natAbs_tdiv]
          exact Nat.lt_of_le_of_lt (Nat.div_le_self _ _) (HWA.out k)
        have hwq : IntKind.i64.wrap ((xa.getD k 0).tdiv G) = (xa.getD k 0).tdiv G := IntWalk.i64_in _ (by omega)
        have HDS : Hid ((divK xa G k).set k ((xa.getD k 0).tdiv G) = divK xa G (k + 1)) := Lib.hid (divK_set xa G hlt)
        have HKL : Hid (k < (divK xa G k).length) := Lib.hid (by rw [HDL.out]; exact hlt)
        have q0 := HR5.out.cell (i := 0) rfl
        have lq := HR5.out.lt
        have HD2 := Lib.hid (divK_len xa G (show k + 1 ≤ xa.length by omega))
        clear hst hq HDL
        generalize xa.getD k 0 = t at *
        go_wp2
        (refine wp_region_qtail 11 (wb := U) (by (repeat (first | exact Ext.bel _ | exact Bel.refl | refine Bel.alloc ?_ _ | refine Bel.drew ?_ | refine Bel.drewN ?_ _))) (by kernel_rfl) (by kernel_rfl) ?_; simp only [List.take_succ_cons, List.take_zero, List.drop_succ_cons, List.drop_zero]; (repeat (any_goals (first | go_big_quiet_step (fail) | quiet_step (fail) | (refine wpQuiet_step (fun K hK => ?_); go_simp; split <;> (refine hK _ ?_; clear hK K))))); all_goals (refine wpQuiet_nil ?_; intro _ hw'; obtain ⟨y, hw''⟩ := hw'; subst hw''))
        have HST := Lib.hid (rlow_st (HR5.out.bel y.bel) (HR2.out.bel y.bel) (ownsRow_bel HO.out y.bel) (HBU.out.trans y.bel) HKL.out (t.tdiv G))
        rw [HDS.out] at HST
        go_wp2
        go_roundw
        case rel => exact ⟨k + 1, _, by omega, by go_num, rfl, HST.out.1, HST.out.2.1, HST.out.2.2.1, HST.out.2.2.2⟩
        case measure => simp [intOf]; omega
      · obtain rfl : k = xa.length := by omega
        have hd : decide ((xa.length : Int) < (xa.length : Int)) = false := by simp
        have HO1 := HO.out
        rw [divK_all] at HO1
        have q0 := HR5.out.cell (i := 0) rfl
        have q1 := HR5.out.cell (i := 1) rfl
        have fq := fun k => HR5.out.frozen k
        have lq := HR5.out.lt
        have hq : (xb.tdiv G).natAbs < 9223372036854775808 := by
          rw [Int.natAbs_tdiv]
          exact Nat.lt_of_le_of_lt (Nat.div_le_self _ _) HWB.out
        have hwq : IntKind.i64.wrap (xb.tdiv G) = xb.tdiv G := IntWalk.i64_in _ (by omega)
        have HO6 := Lib.hid (own_farB (o := 1) (u := .int .i64 (xb.tdiv G)) HO1 HR5.out line_ne_i64)
        have HR56 := Lib.hid (HR5.out.set 1 (.int .i64 (xb.tdiv G)))
        have HR26 := Lib.hid (HR2.out.far (a := ⟨p5, 1, none⟩) (fun e => HN5.out.2.1 e.symm) (.int .i64 (xb.tdiv G)))
        have HB6 := Lib.hid (HBU.out.set (p := ⟨p5, 1, none⟩) HP5.out (.int .i64 (xb.tdiv G)))
        clear HO1 HO HR5 HR2 HBU hq
        go_upto_region 14 with (fail)
        clear q0 q1 fq lq
        generalize World.setCell U _ _ = V at *
        have q0 := HR56.out.cell (i := 0) rfl
        have q1 := HR56.out.cell (i := 1) rfl
        have q2 := HR56.out.cell (i := 2) rfl
        have lq := HR56.out.lt
        have z0 := HR26.out.cell (i := 0) rfl
        have z1 := HR26.out.cell (i := 1) rfl
        have z3 := HR26.out.cell (i := 2) rfl
        have fz := fun k => HR26.out.frozen k
        have lz := HR26.out.lt
        go_wp2
        have r9 : RowAt (((V.setCell ⟨p2, 0, none⟩ (.slice A5 xa.length c5)).setCell ⟨p2, 1, none⟩ (.int .i64 (xb.tdiv G))).setCell ⟨p2, 2, none⟩ (.bool xs)) p2 25 [.slice A5 xa.length c5, .int .i64 (xb.tdiv G), .bool xs] := ((HR26.out.set 0 _).set 1 _).set 2 _
        have o9 : (((V.setCell ⟨p2, 0, none⟩ (.slice A5 xa.length c5)).setCell ⟨p2, 1, none⟩ (.int .i64 (xb.tdiv G))).setCell ⟨p2, 2, none⟩ (.bool xs)).ownsRow w.heap.size 2 1 (.slice A5 xa.length c5) (xa.map (fun c => c.tdiv G)).length (intsV (xa.map (fun c => c.tdiv G))) := own_farB (own_farB (own_farB HO6.out HR26.out line_ne_i64) (HR26.out.set 0 _) line_ne_i64) ((HR26.out.set 0 _).set 1 _) line_ne_i64
        have b9 : Bel w (((V.setCell ⟨p2, 0, none⟩ (.slice A5 xa.length c5)).setCell ⟨p2, 1, none⟩ (.int .i64 (xb.tdiv G))).setCell ⟨p2, 2, none⟩ (.bool xs)) := ((HB6.out.set HN.out.2.1 _).set HN.out.2.1 _).set HN.out.2.1 _
        generalize World.setCell (World.setCell _ _ _) _ _ = W9 at *
        exact bodyPost_ret (rlow_res r9 rfl) rfl (al_post HRE.out o9 b9)
end Go.Proofs.Ytalphoebmefgoaa
/- poly, the reference: a line without a coordinate. -/
namespace Go.Proofs.Ytalphoebmefgoaa
open Go.RowKit
def shortA (x : AL) (i : Nat) : AL := ⟨x.a.take i ++ x.a.drop (i + 1), x.b, x.s⟩
theorem ints_take {W : World} {B : Nat} {A : Option Addr} {n c i : Nat} {a : List Int} (h : IntsAt W B (.slice A n c) a) (hi : i ≤ a.length) (hc : i ≤ c) : IntsAt W B (.slice A i c) (a.take i) := by
  obtain ⟨A', c', e, hc', h⟩ := h
  injection e with e1 e2 e3
  subst e1 e2 e3
  have hl : (a.take i).length = i := by simp; omega
  refine ⟨A, c, by rw [hl], by rw [hl]; exact hc, fun h0 => ?_⟩
  rw [hl] at h0
  obtain ⟨b, off, rfl, hb, h⟩ := h (by omega)
  refine ⟨b, off, rfl, hb, fun j hj => ?_⟩
  rw [hl] at hj
  rw [h j (by omega)]
  simp [List.getD, hj]
theorem ints_drop {W : World} {B : Nat} {A : Option Addr} {n c i : Nat} {a : List Int} (h : IntsAt W B (.slice A n c) a) (hi : i ≤ a.length) : IntsAt W B (sliced A i a.length c 1) (a.drop i) := by
  obtain ⟨A', c', e, hc', h⟩ := h
  injection e with e1 e2 e3
  subst e1 e2 e3
  have hl : (a.drop i).length = a.length - i := by simp
  refine ⟨_, c - i, by rw [hl]; rfl, by rw [hl]; omega, fun h0 => ?_⟩
  rw [hl] at h0
  obtain ⟨b, off, rfl, hb, h⟩ := h (by omega)
  rw [if_neg (by omega)]
  refine ⟨b, off + i, by simp [add_ofs2], hb, fun j hj => ?_⟩
  rw [hl] at hj
  rw [Nat.add_assoc, h (i + j) (by omega)]
  simp [List.getD]
theorem ints_drop2 {W : World} {B b off n c i : Nat} {a : List Int} (h : IntsAt W B (.slice (some ⟨b, off, none⟩) n c) a) (hi : i ≤ a.length) : IntsAt W B (.slice (if c = i then some ⟨b, off, none⟩ else some ⟨b, off + i, none⟩) (a.length - i) (c - i)) (a.drop i) := by
  have h1 := ints_drop h hi
  unfold sliced at h1
  simp only [Option.map_some, Nat.mul_one, add_ofs2] at h1
  exact h1
set_option maxRecDepth 100000 in
theorem rsh_res {W : World} {tmps : Array Value} {p4 : Nat} {rv : Value} {b : Int} {s : Bool} (h : RowAt W p4 25 [rv, .int .i64 b, .bool s]) (t : tmps[4]? = some (.pointer (some ⟨p4, 0, none⟩))) :
    (results Try.f74 tmps).run Try.prog W = .ok (.agg #[rv, .int .i64 b, .bool s]) W := by
  have q0 := h.cell (i := 0) rfl
  have q1 := h.cell (i := 1) rfl
  have q2 := h.cell (i := 2) rfl
  simp [results, Try.f74, go_sem, q0, q1, q2, t]
set_option maxRecDepth 100000 in
set_option maxHeartbeats 8000000 in
theorem rshort_any (x : AL) (xv : Value) (i : Nat) (w : World) (h : IntsAt w w.heap.size xv x.a) (hl : x.a.length ≤ 1000000) (hi : i < x.a.length) :
    Calls Try.prog 74 #[.agg #[xv, .int .i64 x.b, .bool x.s], .int .i64 i] w (AlPost (shortA x i) w) := by
  have H := Lib.hid h
  obtain ⟨A, c, rfl, hc⟩ := h.form
  clear h
  obtain ⟨xa, xb, xs⟩ := x
  dsimp only at *
  have HRE : Hid (shortA ⟨xa, xb, xs⟩ i = ⟨xa.take i ++ xa.drop (i + 1), xb, xs⟩) := Lib.hid rfl
  go_enter Try.func74, Try.ntmps74
  obtain ⟨ab, ao, rfl, _, _⟩ := H.out.at_ (by omega)
  go_upto_region 1 with (fail)
  generalize hW : World.alloc (World.alloc w _) _ = w1 at *
  have hb : Bel w w1 := by rw [← hW]; exact (Bel.refl.alloc _).alloc _
  have r1 : RowAt w1 w.heap.size 25 [.slice (some ⟨ab, ao, none⟩) xa.length c, .int .i64 xb, .bool xs] := by rw [← hW]; exact (RowAt.new _ _ _).alloc _
  have r2 : RowAt w1 (w.heap.size + 1) 25 [.slice none 0 0, .int .i64 0, .bool false] := by
    rw [← hW, ← size_alV w (.cells #[.slice (some ⟨ab, ao, none⟩) xa.length c, .int .i64 xb, .bool xs] 25)]; exact RowAt.new _ _ _
  clear hW
  obtain ⟨p4, hp2⟩ : ∃ p, p = w.heap.size + 1 := ⟨_, rfl⟩
  rw [← hp2] at r2 ⊢
  obtain ⟨p2, hp1⟩ : ∃ p, p = w.heap.size := ⟨_, rfl⟩
  rw [← hp1] at r1 ⊢
  have HN : Hid (w.heap.size ≤ p2 ∧ w.heap.size ≤ p4 ∧ p2 ≠ p4) := Lib.hid (by omega)
  clear hp1 hp2
  have HB := Lib.hid hb
  have HR1 := Lib.hid r1
  have HR2 := Lib.hid r2
  have HI := Lib.hid (H.out.keep hb.keeps hb.le)
  clear hb r2 H
  have x0 := r1.cell (i := 0) rfl
  have x1 := r1.cell (i := 1) rfl
  have x2 := r1.cell (i := 2) rfl
  have l1 := r1.lt
  clear r1
  have b0 : (0 : Int) ≤ i := by omega
  have b1 : (i : Int) ≤ c := by omega
  have b2 : ¬ (i : Int) < 0 := by omega
  obtain ⟨A1, c1, W1, hap, ho, hb, _⟩ := ints_append (w0 := w1) (Bel.refl.alloc (.cells #[] 2)) (p := []) (World.ownsRow_made w1 #[] 0 (Nat.le_refl _) (by unfold maxLen; omega) (by simp)) (ints_take (HI.out.keep (Bel.refl.alloc (.cells #[] 2)).keeps (Bel.refl.alloc (.cells #[] 2)).le) (show i ≤ xa.length by omega) (show i ≤ c by omega)) (by simp) (by simp; omega)
  rw [show ([] : List Int).length + (xa.take i).length = i by simp; omega] at hap ho
  rw [List.nil_append] at ho
  have HO1 := Lib.hid (own_base ho HB.out.le)
  have HB1 := Lib.hid hb
  clear ho hb
  go_upto_region 2 with (at_builtin; go_must (refine wpList_append_run rfl _ _ 23 rfl _ _ _ rfl rfl (hap _) ?_))
  clear hap x0 x1 x2 l1
  have HRX := Lib.hid (HR1.out.bel HB1.out)
  have HRY := Lib.hid (HR2.out.bel HB1.out)
  have HIX := Lib.hid (HI.out.keep HB1.out.keeps HB1.out.le)
  have HBX := Lib.hid (HB.out.trans HB1.out)
  clear HB HB1 HR1 HR2 HI
  have x0 := HRX.out.cell (i := 0) rfl
  have x1 := HRX.out.cell (i := 1) rfl
  have x2 := HRX.out.cell (i := 2) rfl
  have l1 := HRX.out.lt
  have hrow := box_row_ne HRX.out HO1.out line_ne_i64
  have wi : IntKind.i64.wrap ((i : Int) + 1) = (i : Int) + 1 := IntWalk.i64_in _ (by omega)
  have b3 : (0 : Int) ≤ (i : Int) + 1 := by omega
  have b4 : (i : Int) + 1 ≤ (xa.length : Int) := by omega
  (refine wp_region_E 12 (Value.slice A1 i c1).ownBlock (by kernel_rfl) ?_; refine anyE_takes [0, 1, 2, 3, 4, 5, 7, 8, 9, 10] (fun _ _ _ _ _ h => h) ⟨⟨_, gro_drew (gro_refl _)⟩, rfl⟩ (by kernel_rfl) (by rfl) ?_; simp only [opsOf, List.filterMap_cons, List.filterMap_nil, List.getElem?_toArray, List.getElem?_cons_succ, List.getElem?_cons_zero, List.foldl_cons, List.foldl_nil]; (repeat (any_goals (first | go_big_quiet_step (fail) | quiet_step (fail)))); refine wpQuiet_nil ?_)
  have HAP := Lib.hid (ints_append (w0 := w) (W := W1.drew) HBX.out.drew (p := xa.take i) HO1.out (ints_drop2 (i := i + 1) HIX.out (by omega)) (by simp; omega) (by simp; omega))
  obtain ⟨A2, c2, W2, hap, ho, hb, hg⟩ := HAP.out
  have G2 : Hid (W1.grownBy W2 (Value.slice A1 i c1).ownBlock) := Lib.hid ((gro_drew (gro_refl W1)).trans hg)
  have HR2 := Lib.hid (HRY.out.gro G2.out (box_row_ne HRY.out HO1.out line_ne_i64))
  have HO2 := Lib.hid ho
  have HB2 := Lib.hid hb
  rw [← List.length_append] at hap HO2
  clear ho hb hg x0 x1 x2 l1 hrow HAP HRX HIX
  generalize xa.take i ++ xa.drop (i + 1) = R at *
  (refine anyE_one 6 _ (by kernel_rfl) (by rfl) (fun K hK => ?_))
  rw [if_pos (by rfl)]
  refine oper_append_run _ _ 23 rfl _ _ _ rfl rfl (hap _) (hK _ _ (fun _ => ⟨⟨_, G2.out⟩, rfl⟩) ?_)
  simp only [Act.put, List.setIfInBounds_toArray]
  clear hK K hap
  generalize (if c = i + 1 then some (⟨ab, ao, none⟩ : Addr) else some ⟨ab, ao + (i + 1), none⟩) = SA at *
  (refine anyE_one 11 _ (by kernel_rfl) (by rfl) (fun K hK => ?_))
  rw [if_pos (by rfl)]
  go_simp
  refine hK _ _ (fun _ => ⟨⟨_, G2.out⟩, rfl⟩) ?_
  clear hK K
  (refine anyE_tail 12 (by decide) (by rfl) (by kernel_rfl) ?_; simp only [List.drop_succ_cons, List.drop_zero])
  have z0 := HR2.out.cell (i := 0) rfl
  have z1 := HR2.out.cell (i := 1) rfl
  have z3 := HR2.out.cell (i := 2) rfl
  have fz := fun k => HR2.out.frozen k
  have lz := HR2.out.lt
  go_wp2
  refine NoPanic.normal ?_
  go_wp2
  have r9 : RowAt (((W2.setCell ⟨p4, 0, none⟩ (.slice A2 R.length c2)).setCell ⟨p4, 1, none⟩ (.int .i64 xb)).setCell ⟨p4, 2, none⟩ (.bool xs)) p4 25 [.slice A2 R.length c2, .int .i64 xb, .bool xs] := ((HR2.out.set 0 _).set 1 _).set 2 _
  have o9 : (((W2.setCell ⟨p4, 0, none⟩ (.slice A2 R.length c2)).setCell ⟨p4, 1, none⟩ (.int .i64 xb)).setCell ⟨p4, 2, none⟩ (.bool xs)).ownsRow w.heap.size 2 1 (.slice A2 R.length c2) R.length (intsV R) := own_farB (own_farB (own_farB HO2.out HR2.out line_ne_i64) (HR2.out.set 0 _) line_ne_i64) ((HR2.out.set 0 _).set 1 _) line_ne_i64
  have b9 : Bel w (((W2.setCell ⟨p4, 0, none⟩ (.slice A2 R.length c2)).setCell ⟨p4, 1, none⟩ (.int .i64 xb)).setCell ⟨p4, 2, none⟩ (.bool xs)) := ((HB2.out.set HN.out.2.1 _).set HN.out.2.1 _).set HN.out.2.1 _
  generalize World.setCell (World.setCell _ _ _) _ _ = W9 at *
  exact bodyPost_ret (rsh_res r9 rfl) rfl (al_post HRE.out o9 b9)
end Go.Proofs.Ytalphoebmefgoaa
