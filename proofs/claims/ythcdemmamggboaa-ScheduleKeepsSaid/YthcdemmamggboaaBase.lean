import Derived.Test.YthcdemmamggboaaGen
import Derived.WalkKit
import Derived.WalkSpells
import Derived.WalkLawsBesides
import Derived.IntWalk
import Derived.Lib.Hide
import Derived.Deep.QuietTactic
import Derived.BigQuiet
namespace Go.Proofs.Ythcdemmamggboaa
open Go.RowKit

/-- what a section of a task is -/
structure Sec where
  res : Int
  frm : Int
  len : Int
  deriving DecidableEq
/-- what a task is -/
structure Tsk where
  name : ByteArray
  per : Int
  off : Int
  dl : Int
  cost : Int
  prio : Int
  secs : List Sec
  deriving DecidableEq

def Sec.dflt : Sec := ⟨0, 0, 0⟩
def Tsk.dflt : Tsk := ⟨.empty, 0, 0, 0, 0, 0, []⟩
def secAt (l : List Sec) (i : Nat) : Sec := l.getD i Sec.dflt
def tskAt (l : List Tsk) (i : Nat) : Tsk := l.getD i Tsk.dflt

/-- the cells of one section -/
structure SecCells (w : World) (b o : Nat) (s : Sec) : Prop where
  c0 : w.cell? ⟨b, o, none⟩ = some (.int .i64 s.res)
  c1 : w.cell? ⟨b, o + 1, none⟩ = some (.int .i64 s.frm)
  c2 : w.cell? ⟨b, o + 2, none⟩ = some (.int .i64 s.len)

/-- a slice value reads as these sections, all below block B -/
def SecsAt (w : World) (B : Nat) (v : Value) (l : List Sec) : Prop :=
  ∃ A c, v = .slice A l.length c ∧ l.length ≤ c ∧ (0 < l.length → ∃ b off, A = some ⟨b, off, none⟩ ∧ b < B ∧ ∀ i, i < l.length → SecCells w b (off + i * 3) (secAt l i))

structure TskCells (w : World) (b o : Nat) (t : Tsk) (sv : Value) : Prop where
  c0 : w.cell? ⟨b, o, none⟩ = some (.string t.name)
  c1 : w.cell? ⟨b, o + 1, none⟩ = some (.int .i64 t.per)
  c2 : w.cell? ⟨b, o + 2, none⟩ = some (.int .i64 t.off)
  c3 : w.cell? ⟨b, o + 3, none⟩ = some (.int .i64 t.dl)
  c4 : w.cell? ⟨b, o + 4, none⟩ = some (.int .i64 t.cost)
  c5 : w.cell? ⟨b, o + 5, none⟩ = some (.int .i64 t.prio)
  c6 : w.cell? ⟨b, o + 6, none⟩ = some sv

/-- a slice value reads as these tasks, all below block B -/
def TsksAt (w : World) (B : Nat) (v : Value) (l : List Tsk) : Prop :=
  ∃ A c, v = .slice A l.length c ∧ l.length ≤ c ∧ (0 < l.length → ∃ b off, A = some ⟨b, off, none⟩ ∧ b < B ∧ ∀ i, i < l.length → ∃ sv, TskCells w b (off + i * 7) (tskAt l i) sv ∧ SecsAt w B sv (tskAt l i).secs)

section
variable {w w' : World} {B B' : Nat} {v : Value}
theorem SecCells.keep {b o : Nat} {s : Sec} (h : SecCells w b o s) (hk : Keeps B w w') (hb : b < B) : SecCells w' b o s :=
  ⟨(hk _ _ hb).trans h.c0, (hk _ _ hb).trans h.c1, (hk _ _ hb).trans h.c2⟩
theorem TskCells.keep {b o : Nat} {s : Tsk} {sv : Value} (h : TskCells w b o s sv) (hk : Keeps B w w') (hb : b < B) : TskCells w' b o s sv :=
  ⟨(hk _ _ hb).trans h.c0, (hk _ _ hb).trans h.c1, (hk _ _ hb).trans h.c2, (hk _ _ hb).trans h.c3, (hk _ _ hb).trans h.c4, (hk _ _ hb).trans h.c5, (hk _ _ hb).trans h.c6⟩
theorem SecsAt.keep {l : List Sec} (h : SecsAt w B v l) (hk : Keeps B w w') (hB : B ≤ B') : SecsAt w' B' v l := by
  obtain ⟨A, c, rfl, hc, h⟩ := h
  refine ⟨A, c, rfl, hc, fun h0 => ?_⟩
  obtain ⟨b, off, rfl, hb, h⟩ := h h0
  exact ⟨b, off, rfl, by omega, fun i hi => (h i hi).keep hk hb⟩
theorem TsksAt.keep {l : List Tsk} (h : TsksAt w B v l) (hk : Keeps B w w') (hB : B ≤ B') : TsksAt w' B' v l := by
  obtain ⟨A, c, rfl, hc, h⟩ := h
  refine ⟨A, c, rfl, hc, fun h0 => ?_⟩
  obtain ⟨b, off, rfl, hb, h⟩ := h h0
  refine ⟨b, off, rfl, by omega, fun i hi => ?_⟩
  obtain ⟨sv, h1, h2⟩ := h i hi
  exact ⟨sv, h1.keep hk hb, h2.keep hk hB⟩
theorem SecsAt.form {l : List Sec} (h : SecsAt w B v l) : ∃ A c, v = .slice A l.length c ∧ l.length ≤ c := let ⟨A, c, e, hc, _⟩ := h; ⟨A, c, e, hc⟩
theorem TsksAt.form {l : List Tsk} (h : TsksAt w B v l) : ∃ A c, v = .slice A l.length c ∧ l.length ≤ c := let ⟨A, c, e, hc, _⟩ := h; ⟨A, c, e, hc⟩
theorem SecsAt.at_ {A : Option Addr} {n c : Nat} {l : List Sec} (h : SecsAt w B (.slice A n c) l) (h0 : 0 < l.length) : ∃ b off, A = some ⟨b, off, none⟩ ∧ b < B ∧ ∀ i, i < l.length → SecCells w b (off + i * 3) (secAt l i) := by
  obtain ⟨A', c', e, _, h⟩ := h
  injection e with e
  subst e
  exact h h0
theorem TsksAt.at_ {A : Option Addr} {n c : Nat} {l : List Tsk} (h : TsksAt w B (.slice A n c) l) (h0 : 0 < l.length) : ∃ b off, A = some ⟨b, off, none⟩ ∧ b < B ∧ ∀ i, i < l.length → ∃ sv, TskCells w b (off + i * 7) (tskAt l i) sv ∧ SecsAt w B sv (tskAt l i).secs := by
  obtain ⟨A', c', e, _, h⟩ := h
  injection e with e
  subst e
  exact h h0
end

def secV (s : Sec) : Value := .agg #[.int .i64 s.res, .int .i64 s.frm, .int .i64 s.len]
def secLap (a b : Sec) : Bool := decide (a.frm < wrap64 (b.frm + b.len)) && decide (b.frm < wrap64 (a.frm + a.len))
def secIn (a b : Sec) : Bool := decide (a.frm ≤ b.frm) && decide (wrap64 (b.frm + b.len) ≤ wrap64 (a.frm + a.len))
theorem secs_drop {l : List Sec} {i : Nat} (h : i < l.length) : l.drop i = secAt l i :: l.drop (i + 1) := by
  rw [List.drop_eq_getElem_cons h]; simp [secAt, List.getD, h]
theorem tsks_drop {l : List Tsk} {i : Nat} (h : i < l.length) : l.drop i = tskAt l i :: l.drop (i + 1) := by
  rw [List.drop_eq_getElem_cons h]; simp [tskAt, List.getD, h]
end Go.Proofs.Ythcdemmamggboaa
