import Derived.Test.YtbncnadjlppknaaTex
import Derived.Test.YtbncnadjlppknaaTeq
import Derived.Test.YtbncnadjlppknaaThyp
import Derived.Test.YtbncnadjlppknaaTrblk
import Derived.Test.YtbncnadjlppknaaTphyp
import Derived.Test.YtbncnadjlppknaaOwng
namespace Go.Proofs.Ytbncnadjlppknaa
open Go.RowKit
theorem tsk0 (pr : Int) : tskAt (exT pr) 0 = ⟨⟨#[97]⟩, 4, 0, 4, 1, pr, []⟩ := rfl
theorem ex_chk3 : rchk (exT 3) = 0 := by
  simp [exT, rchk, rchkT, manySecs, tskBad, rsecsOk, okAll, noClash, clashAny, secBad, twinAny, twin, ByteArray.size, ByteArray.toList_eq, wrap64]
theorem ex_chk2 : rchk (exT 2) = 2 := by
  simp [exT, rchk, rchkT, manySecs, tskBad, rsecsOk, okAll, noClash, clashAny, secBad, twinAny, twin, ByteArray.size, ByteArray.toList_eq, wrap64]
theorem ex_ceils : ceils (exT 3) = [2, 0, 0, 0, 0, 0, 0, 0] := by decide
theorem ex_blocks : blocks (exT 3) = [0, 2, 0] := by decide
theorem ex_sized (pr : Int) (h : i64 pr) : Sized (exT pr) := by
  have e : ∀ i, i < (exT pr).length → i = 0 ∨ i = 1 ∨ i = 2 := by intro i hi; simp [exT] at hi; omega
  refine ⟨by simp [exT], fun i hi => ?_, fun i hi => ?_⟩
  · rcases e i hi with rfl | rfl | rfl <;> simp [tskAt, exT, ByteArray.size]
  · rcases e i hi with rfl | rfl | rfl
    · exact ⟨by simp [tskAt, exT, i64], by simp [tskAt, exT, i64], by simp [tskAt, exT, i64], by simp [tskAt, exT, i64], h, by simp [tskAt, exT]⟩
    · exact ⟨by simp [tskAt, exT, i64], by simp [tskAt, exT, i64], by simp [tskAt, exT, i64], by simp [tskAt, exT, i64], by simp [tskAt, exT, i64], by intro s hs; simp [tskAt, exT] at hs; subst hs; exact ⟨by simp [i64], by simp [i64], by simp [i64]⟩⟩
    · exact ⟨by simp [tskAt, exT, i64], by simp [tskAt, exT, i64], by simp [tskAt, exT, i64], by simp [tskAt, exT, i64], by simp [tskAt, exT, i64], by intro s hs; simp [tskAt, exT] at hs; subst hs; exact ⟨by simp [i64], by simp [i64], by simp [i64]⟩⟩
theorem nil_tsks (w : World) : TsksAt w w.heap.size (.slice none 0 0) [] := ⟨none, 0, rfl, by simp, fun h => by simp at h⟩
theorem nil_sized : Sized [] := ⟨by simp, fun i hi => by simp at hi, fun i hi => by simp at hi⟩
theorem nil_chk : rchk [] = 2 := by simp [rchk, manySecs]
theorem IntsAt.set {w : World} {B : Nat} {v : Value} {l : List Int} {p o : Nat} (h : IntsAt w B v l) (hp : ∀ k, v.ownBlock = some k → p ≠ k) (u : Value) : IntsAt (w.setCell ⟨p, o, none⟩ u) B v l := by
  obtain ⟨A, c, rfl, hc, h⟩ := h
  refine ⟨A, c, rfl, hc, fun h0 => ?_⟩
  obtain ⟨b, off, rfl, hb, h⟩ := h h0
  refine ⟨b, off, rfl, hb, fun i hi => ?_⟩
  rw [World.cell?_setCell_other _ _ _ _ (by intro e; injection e with e; exact hp b rfl e)]
  exact h i hi
theorem sameLongs_same (v1 v2 : Value) (xs : List Int) (w : World) (hx : IntsAt w w.heap.size v1 xs) (hy : IntsAt w w.heap.size v2 xs) (hlx : xs.length ≤ 1000000) :
    Calls Try.prog 10 #[v1, v2] w fun e w' => e = .returned (.bool true) ∧ Bel w w' := (sameLongs_any v1 v2 xs xs w hx hy hlx hlx).mono fun _ _ ⟨he, hb⟩ => ⟨by rw [he]; simp, hb⟩
theorem IntsAt.new (w : World) (l : List Int) (e : TypeId) : IntsAt (w.alloc (.cells (l.map (Value.int .i64)).toArray e)) (w.alloc (.cells (l.map (Value.int .i64)).toArray e)).heap.size (.slice (some ⟨w.heap.size, 0, none⟩) l.length l.length) l := by
  refine ⟨_, _, rfl, Nat.le_refl _, fun _ => ⟨_, 0, rfl, by simp, fun i hi => ?_⟩⟩
  have := cells_new w (l.map (Value.int .i64)) e i (.int .i64 (l.getD i 0)) (by simp [List.getD, hi])
  rw [add_ofs] at this
  simpa using this
end Go.Proofs.Ytbncnadjlppknaa
