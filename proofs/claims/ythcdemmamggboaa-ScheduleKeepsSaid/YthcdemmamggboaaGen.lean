import Derived.WalkKit
import Derived.WalkSpells
import Derived.WalkLawsBesides
import Derived.IntWalk
import Derived.Lib.Hide
import Derived.Deep.QuietTactic
import Derived.BigQuiet
namespace Go.Proofs.Ythcdemmamggboaa
open Go.RowKit

/-- a slice value reads as these ints -/
def IntsAt (w : World) (B : Nat) (v : Value) (l : List Int) : Prop :=
  ∃ A c, v = .slice A l.length c ∧ l.length ≤ c ∧ (0 < l.length → ∃ b off, A = some ⟨b, off, none⟩ ∧ b < B ∧ ∀ i, i < l.length → w.cell? ⟨b, off + i, none⟩ = some (.int .i64 (l.getD i 0)))

section
variable {w w' : World} {B B' : Nat} {v : Value}
def Keeps (B : Nat) (w w' : World) : Prop := ∀ b o, b < B → w'.cell? ⟨b, o, none⟩ = w.cell? ⟨b, o, none⟩
theorem keeps_below (h : Below B w w') : Keeps B w w' := fun b o hb => h.cell (p := ⟨b, o, none⟩) hb
theorem Keeps.refl : Keeps B w w := fun _ _ _ => rfl
theorem IntsAt.form {l : List Int} (h : IntsAt w B v l) : ∃ A c, v = .slice A l.length c ∧ l.length ≤ c := let ⟨A, c, e, hc, _⟩ := h; ⟨A, c, e, hc⟩
theorem IntsAt.at_ {A : Option Addr} {n c : Nat} {l : List Int} (h : IntsAt w B (.slice A n c) l) (h0 : 0 < l.length) : ∃ b off, A = some ⟨b, off, none⟩ ∧ b < B ∧ ∀ i, i < l.length → w.cell? ⟨b, off + i, none⟩ = some (.int .i64 (l.getD i 0)) := by
  obtain ⟨A', c', e, _, h⟩ := h
  injection e with e
  subst e
  exact h h0
theorem IntsAt.keep {l : List Int} (h : IntsAt w B v l) (hk : Keeps B w w') (hB : B ≤ B') : IntsAt w' B' v l := by
  obtain ⟨A, c, rfl, hc, h⟩ := h
  refine ⟨A, c, rfl, hc, fun h0 => ?_⟩
  obtain ⟨b, off, rfl, hb, h⟩ := h h0
  exact ⟨b, off, rfl, by omega, fun i hi => (hk _ _ hb).trans (h i hi)⟩
end

section
variable {w w' : World}
/-- nothing that was there before has changed -/
def Bel (w w' : World) : Prop := Below w.heap.size w w'
theorem Bel.refl : Bel w w := Below.refl _ _
theorem Bel.alloc (h : Bel w w') (o : Obj) : Bel w (w'.alloc o) := Below.alloc h h.size o
theorem Bel.drew (h : Bel w w') : Bel w w'.drew := Below.drew h
theorem Bel.drewN (h : Bel w w') (n : Nat) : Bel w (w'.drewN n) := ⟨h.os, h.tape, h.output, h.size, h.block⟩
theorem Bel.set (h : Bel w w') {p : Addr} (hp : w.heap.size ≤ p.block) (u : Value) : Bel w (w'.setCell p u) := Below.setCell h hp u
theorem Bel.trans {w'' : World} (h : Bel w w') (k : Bel w' w'') : Bel w w'' := Below.trans h (Below.mono k h.size)
theorem Bel.after {w'' : World} (k : Bel w' w'') (h : Bel w w') : Bel w w'' := h.trans k
theorem Bel.keeps (h : Bel w w') : Keeps w.heap.size w w' := keeps_below h
theorem Bel.cells (h : Bel w w') : ∀ b o, b < w.heap.size → w'.cell? ⟨b, o, none⟩ = w.cell? ⟨b, o, none⟩ := keeps_below h
theorem Bel.le (h : Bel w w') : w.heap.size ≤ w'.heap.size := h.size
end
/-- a world in which nothing that is in wb has changed -/
def Ext (wb : World) : Type := { w : World // Bel wb w }
section
variable {wb : World}
instance extSome : Nonempty (Ext wb) := ⟨⟨wb, Bel.refl⟩⟩
def Ext.w (x : Ext wb) : World := x.1
theorem Ext.bel (x : Ext wb) : Bel wb x.w := x.2
@[go_sem] theorem ext_cells (x : Ext wb) (b o : Nat) (h : b < wb.heap.size) : x.w.cell? ⟨b, o, none⟩ = wb.cell? ⟨b, o, none⟩ := x.2.cells b o h
@[go_sem] theorem ext_frozen (x : Ext wb) (b o : Nat) (h : b < wb.heap.size) : x.w.frozen? ⟨b, o, none⟩ = wb.frozen? ⟨b, o, none⟩ := Below.frozen (p := ⟨b, o, none⟩) x.2 h
@[go_sem] theorem ext_lt (x : Ext wb) {b : Nat} (h : b < wb.heap.size) : b < x.w.heap.size := Nat.lt_of_lt_of_le h x.2.size
theorem ext_of {w : World} (h : Bel wb w) : ∃ y : Ext wb, w = y.w := ⟨⟨w, h⟩, rfl⟩
theorem ext_call {P : Program} {f : FuncId} {args : Array Value} {x : Ext wb} {v : Value} (h : Calls P f args x.w fun e w' => e = .returned v ∧ Bel x.w w') :
    Calls P f args x.w fun e w'' => e = .returned v ∧ ∃ y : Ext wb, w'' = y.w := h.mono fun _ _ ⟨he, hb⟩ => ⟨he, ext_of (x.bel.trans hb)⟩
theorem wp_region_ext {P : Program} {id : Nat} {Q : Exit → Act → World → Prop} {a : Act} {w : World} {l : List Oper} (hb : Bel wb w) (hm : P.follows .mixedOrders = true) (hB : Region.lexB .any l.toArray = true)
    (h : wpQuiet P l.toArray (fun w' => ∃ y : Ext wb, w' = y.w) (fun a' => ∀ w', (∃ y : Ext wb, w' = y.w) → Q .normal a' w') l a) : (Code.region id l.toArray true).wp P Q a w :=
  wp_region_quiet (C := fun w' => ∃ y : Ext wb, w' = y.w) hm hB (ext_of hb.drew) (by simpa using h)
end
theorem ret_bool {a b : Bool} (h : a = b) : Ending.returned (.bool a) = .returned (.bool b) := by rw [h]
theorem ret_int {k : IntKind} {a b : Int} (h : a = b) : Ending.returned (.int k a) = .returned (.int k b) := by rw [h]
section
variable {P : Program} {ops : Array Oper} {C : World → Prop} {Q : Act → Prop} {Q' : Exit → Act → World → Prop}
theorem wpList_of_quiet (hQ : ∀ a w, C w → Q a → Q' .normal a w) : ∀ (l : List Oper) (a : Act) (w : World), C w → wpQuiet P ops C Q l a → wpList P ops Q' l a w
  | [], _, _, hw, h => hQ _ _ hw h
  | o :: rest, a, w, hw, h => by
    unfold wpList
    unfold wpQuiet at h
    by_cases hx : Region.wanted o (yielded ops a.tmps) = true
    · rw [if_pos hx] at h ⊢
      exact .inl (Oper.wp_of_quiet hw (fun a' w' hw' ha => wpList_of_quiet hQ rest a' w' hw' ha) h)
    · rw [if_neg hx] at h ⊢
      exact wpList_of_quiet hQ rest _ _ hw h
/-- a region in the text's order that makes no memory that it looks at -/
theorem wp_region_extp {wb : World} {id : Nat} {a : Act} {w : World} {l : List Oper} (hb : Bel wb w)
    (h : wpQuiet P l.toArray (fun w' => ∃ y : Ext wb, w' = y.w) (fun a' => ∀ w', (∃ y : Ext wb, w' = y.w) → Q' .normal a' w') l a) : (Code.region id l.toArray false).wp P Q' a w :=
  wp_region_lit (wpList_of_quiet (Q := fun a' => ∀ w', (∃ y : Ext wb, w' = y.w) → Q' .normal a' w') (fun _ w' hw' h => h w' hw') l a w (ext_of hb) h)
/-- a region's list is cut behind n operations -/
theorem wpQuiet_cut_aux {Q R : Act → Prop} {l2 : List Oper} (h2 : ∀ a', R a' → wpQuiet P ops C Q l2 a') : ∀ (l1 : List Oper) (a : Act), wpQuiet P ops C R l1 a → wpQuiet P ops C Q (l1 ++ l2) a
  | [], a, h => h2 a h
  | o :: l1, a, h => by
    show wpQuiet P ops C Q (o :: (l1 ++ l2)) a
    unfold wpQuiet at h ⊢
    by_cases hx : Region.wanted o (yielded ops a.tmps) = true
    · rw [if_pos hx] at h ⊢
      obtain ⟨v, hv, hn⟩ := h
      exact ⟨v, hv, wpQuiet_cut_aux h2 l1 _ hn⟩
    · rw [if_neg hx] at h ⊢
      exact wpQuiet_cut_aux h2 l1 _ h
theorem wpQuiet_cut {Q : Act → Prop} {l : List Oper} {a : Act} (n : Nat) (R : Act → Act → Prop) (h1 : wpQuiet P ops C (R a) (l.take n) a) (h2 : ∀ a', R a a' → wpQuiet P ops C Q (l.drop n) a') : wpQuiet P ops C Q l a := by
  have := wpQuiet_cut_aux h2 (l.take n) a h1
  rwa [List.take_append_drop] at this
end
/-- a number that an int64 can hold -/
def i64 (a : Int) : Prop := -9223372036854775808 ≤ a ∧ a ≤ 9223372036854775807
/-- a number that a uint64 can hold -/
def u64 (a : Int) : Prop := 0 ≤ a ∧ a ≤ 18446744073709551615
theorem wrap_small (a : Int) (h1 : -9223372036854775808 ≤ a) (h2 : a ≤ 9223372036854775807) : wrap64 a = a := by unfold wrap64; omega
theorem i64_lit {n : Int} (h : i64 n) : (Lit.int .i64 n).wf = true := by
  obtain ⟨h1, h2⟩ := h
  have e1 : IntKind.i64.min = -9223372036854775808 := by decide
  have e2 : IntKind.i64.max = 9223372036854775807 := by decide
  simp only [Lit.wf, e1, e2, Bool.and_eq_true, decide_eq_true_eq]
  omega
end Go.Proofs.Ythcdemmamggboaa
