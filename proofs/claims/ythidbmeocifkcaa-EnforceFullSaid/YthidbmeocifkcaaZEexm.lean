/- enforce: shown. -/
import Derived.Test.YthidbmeocifkcaaZEnew
import Derived.Test.YthidbmeocifkcaaZErev
import Derived.Test.YthidbmeocifkcaaG26
import Derived.Test.YthidbmeocifkcaaG21
namespace Go.Proofs.Ythidbmeocifkcaa
open Go.RowKit
def exP : PP := ⟨2, 1, 0, [true, false], [⟨0, 1, 0, [], [1]⟩, ⟨1, 0, 1, [⟨1, false, false, 5⟩], []⟩]⟩
set_option maxRecDepth 100000 in
set_option maxHeartbeats 4000000 in
theorem example_any (w : World) : Calls Try.prog 25 #[] w fun e w' => ∃ gv ev, e = .returned (propV exP gv ev) ∧ Bel w w' ∧ PropAt w' w'.heap.size gv ev exP := by
  go_enter Try.func25, Try.ntmps25
  go_wp2
  refine bodyPost_ret (v := propV exP (.slice (some ⟨w.heap.size + 1, 0, none⟩) 2 2) (.slice (some ⟨w.heap.size + 1 + 1 + 1 + 1, 0, none⟩) 2 2)) (by simp [results, Try.results25, go_sem, propV, exP]) rfl ⟨_, _, rfl, ((((Bel.refl.alloc _).alloc _).alloc _).alloc _).alloc _, ?_⟩
  refine ⟨⟨_, 2, rfl, Nat.le_refl _, fun _ => ⟨_, 0, rfl, by simp [go_sem], fun i hi => ?_⟩⟩, ⟨_, 2, rfl, Nat.le_refl _, fun _ => ⟨_, 0, rfl, by simp [go_sem], fun i hi => ?_⟩⟩⟩
  · match i, hi with
    | 0, _ => simp [go_sem, exP]
    | 1, _ => simp [go_sem, exP]
  · match i, hi with
    | 0, _ =>
      refine ⟨.slice none 0 0, .slice (some ⟨w.heap.size + 1 + 1, 0, none⟩) 1 1, ⟨by simp [go_sem, exP, peAt], by simp [go_sem, exP, peAt], by simp [go_sem, exP, peAt], by simp [go_sem, exP, peAt], by simp [go_sem, exP, peAt]⟩, ?_, ?_⟩
      · exact ⟨none, 0, rfl, Nat.le_refl _, fun h => absurd h (by simp [exP, peAt])⟩
      · refine ⟨_, 1, rfl, Nat.le_refl _, fun _ => ⟨_, 0, rfl, by simp [go_sem], fun i hi => ?_⟩⟩
        match i, hi with
        | 0, _ => simp [go_sem, exP, peAt]
    | 1, _ =>
      refine ⟨.slice (some ⟨w.heap.size + 1 + 1 + 1, 0, none⟩) 1 1, .slice none 0 0, ⟨by simp [go_sem, exP, peAt], by simp [go_sem, exP, peAt], by simp [go_sem, exP, peAt], by simp [go_sem, exP, peAt], by simp [go_sem, exP, peAt]⟩, ?_, ?_⟩
      · refine ⟨_, 1, rfl, Nat.le_refl _, fun _ => ⟨_, 0, rfl, by simp [go_sem], fun i hi => ?_⟩⟩
        match i, hi with
        | 0, _ => exact ⟨by simp [go_sem, exP, peAt, pcAt], by simp [go_sem, exP, peAt, pcAt], by simp [go_sem, exP, peAt, pcAt], by simp [go_sem, exP, peAt, pcAt]⟩
      · exact ⟨none, 0, rfl, Nat.le_refl _, fun h => absurd h (by simp [exP, peAt])⟩
theorem example_out (w : World) : Calls Try.prog 25 #[] w fun e w' => ∃ A1 k1 A2 k2, e = .returned (.agg #[.int .i64 2, .int .i64 1, .int .i64 0, .slice A1 2 k1, .slice A2 2 k2]) ∧ Bel w w' ∧ PropAt w' w'.heap.size (.slice A1 2 k1) (.slice A2 2 k2) exP :=
  (example_any w).mono fun e w' ⟨gv, ev, h1, h2, h3⟩ => by
    obtain ⟨A1, k1, rfl, _⟩ := h3.g.form
    obtain ⟨A2, k2, rfl, _⟩ := h3.e.form
    exact ⟨A1, k1, A2, k2, h1, h2, h3⟩
instance i64_dec (a : Int) : Decidable (i64 a) := by unfold i64; exact inferInstance
theorem exP_sized : PSized exP where
  g := by decide
  e := by decide
  x := by decide
  wf := { e := by decide, c := by decide, i := by decide, l := fun x hx => by
            simp only [exP, List.mem_cons, List.not_mem_nil, or_false] at hx
            rcases hx with rfl | rfl
            · exact ⟨by decide, by decide, by decide, fun c hc => by simp at hc, fun c hc => by simp at hc; subst hc; decide⟩
            · exact ⟨by decide, by decide, by decide, fun c hc => by simp at hc; subst hc; exact ⟨by decide, by decide⟩, fun c hc => by simp at hc⟩ }
theorem exC : rpchk exP = 0 := by decide +kernel
theorem event_okP {p : PP} (hv : PValid p p.clks.toNat) {s : EnS} (h : EnOk p s) (a : PS) : EnOk p (eventP p s a).1 := event_ok hv h a
theorem event_okR {p : PP} (hv : PValid p p.clks.toNat) {s : EnS} (h : EnOk p s) (a : PS) : EnOk p (eventR p s a).1 := event_ok hv h a
theorem stamps_row {w : World} {b : Nat} {e : TypeId} {l : List PS} (h : RowAt w b e (l.flatMap psC)) : StampsAt w w.heap.size (.slice (some ⟨b, 0, none⟩) l.length l.length) l := by
  refine ⟨_, l.length, rfl, Nat.le_refl _, fun h0 => ⟨b, 0, rfl, h.lt, fun i hi => ?_⟩⟩
  have h1 := flat_at psC_len l i 0 hi (by omega)
  have h2 := flat_at psC_len l i 1 hi (by omega)
  refine ⟨?_, ?_⟩
  · rw [Nat.zero_add]; refine h.cell ?_; rw [← Nat.add_zero (i * 2), h1, ← psAt_eq]; rfl
  · rw [Nat.zero_add]; refine h.cell ?_; rw [h2, ← psAt_eq]; rfl
def exW : List PS := [⟨3, 0⟩, ⟨9, 1⟩, ⟨9, 0⟩]
theorem exB : bestP exP exW = ([⟨4, 0⟩, ⟨9, 1⟩], 0) := by decide +kernel
theorem exBN : ∀ k ≤ exW.length, putsM (stepP exP) (mostM exP) (endL 0 (exW.take k)) (exW.take k) (start exP) 0 + 1 < 9223372036854775807 := by
  intro k hk
  have : k = 0 ∨ k = 1 ∨ k = 2 ∨ k = 3 := by simp [exW] at hk; omega
  rcases this with rfl | rfl | rfl | rfl <;> decide +kernel
noncomputable def exS1 : EnS := (eventP exP (en0 exP) ⟨3, 0⟩).1
noncomputable def exS2 : EnS := (eventP exP (eventP exP (en0 exP) ⟨3, 0⟩).1 ⟨9, 1⟩).1
theorem exE1 : (eventP exP (en0 exP) ⟨3, 0⟩).2 = ([], 0) := by decide +kernel
theorem exE2 : (eventP exP (eventP exP (en0 exP) ⟨3, 0⟩).1 ⟨9, 1⟩).2 = ([⟨9, 0⟩, ⟨9, 1⟩], 0) := by decide +kernel
theorem exE3 : (eventP exP (eventP exP (eventP exP (en0 exP) ⟨3, 0⟩).1 ⟨9, 1⟩).1 ⟨12, 1⟩).2 = ([], 0) := by decide +kernel
theorem exE4 : (eventP exP (eventP exP (eventP exP (en0 exP) ⟨3, 0⟩).1 ⟨9, 1⟩).1 ⟨12, 1⟩).1.held.length = 1 ∧ (eventP exP (eventP exP (eventP exP (en0 exP) ⟨3, 0⟩).1 ⟨9, 1⟩).1 ⟨12, 1⟩).1.out.length = 2 := by decide +kernel
theorem exN1 : putsM (stepP exP) (mostM exP) 3 (heldW 3 ((en0 exP).held ++ [0])) (en0 exP).x (en0 exP).t + 1 < 9223372036854775807 := by decide +kernel
theorem exN2 : putsM (stepP exP) (mostM exP) 9 (heldW 9 ((eventP exP (en0 exP) ⟨3, 0⟩).1.held ++ [1])) (eventP exP (en0 exP) ⟨3, 0⟩).1.x (eventP exP (en0 exP) ⟨3, 0⟩).1.t + 1 < 9223372036854775807 := by decide +kernel
theorem exN3 : putsM (stepP exP) (mostM exP) 12 (heldW 12 ((eventP exP (eventP exP (en0 exP) ⟨3, 0⟩).1 ⟨9, 1⟩).1.held ++ [1])) (eventP exP (eventP exP (en0 exP) ⟨3, 0⟩).1 ⟨9, 1⟩).1.x (eventP exP (eventP exP (en0 exP) ⟨3, 0⟩).1 ⟨9, 1⟩).1.t + 1 < 9223372036854775807 := by decide +kernel
theorem exI : i64 3 ∧ i64 0 ∧ i64 9 ∧ i64 1 ∧ i64 12 := by unfold i64; omega
end Go.Proofs.Ythidbmeocifkcaa
