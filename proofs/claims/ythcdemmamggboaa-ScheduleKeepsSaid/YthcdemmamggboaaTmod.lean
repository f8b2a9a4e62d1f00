import Derived.Test.YthcdemmamggboaaBase
namespace Go.Proofs.Ythcdemmamggboaa
open Go.RowKit
def secBad (cost : Int) (s : Sec) : Bool := decide (s.res < 0) || decide (8 ≤ s.res) || decide (s.frm < 0) || decide (s.len < 1) || decide (cost < s.frm) || decide (wrap64 (cost - s.frm) < s.len)
def okAll (cost : Int) : List Sec → Bool
  | [] => true
  | s :: ss => if secBad cost s then false else okAll cost ss
def clash (s o : Sec) : Bool := secLap s o && ((!secIn s o && !secIn o s) || s.res == o.res)
def clashAny (s : Sec) : List Sec → Bool
  | [] => false
  | o :: os => if clash s o then true else clashAny s os
def noClash : List Sec → List Sec → Bool
  | _, [] => true
  | pre, s :: ss => if clashAny s pre then false else noClash (pre ++ [s]) ss
def tskV (t : Tsk) (sv : Value) : Value := .agg #[.string t.name, .int .i64 t.per, .int .i64 t.off, .int .i64 t.dl, .int .i64 t.cost, .int .i64 t.prio, sv]
theorem secs_take {l : List Sec} {i k : Nat} (h : k < i) (hi : i ≤ l.length) : (l.take i).drop k = secAt l k :: (l.take i).drop (k + 1) := by
  rw [List.drop_eq_getElem_cons (by simp; omega)]; simp [secAt, List.getD, show k < l.length by omega]
theorem secs_snoc {l : List Sec} {i : Nat} (h : i < l.length) : l.take (i + 1) = l.take i ++ [secAt l i] := by
  rw [List.take_succ_eq_append_getElem h]; simp [secAt, List.getD, h]

def secBadP (cost : Int) (s : Sec) : Bool := decide (s.res < 0) || decide (8 ≤ s.res) || decide (s.frm < 0) || decide (cost ≤ s.frm) || decide (s.len < 1) || decide (cost < s.len) || decide (cost < wrap64 (s.frm + s.len))
def secsOkP (cost : Int) : List Sec → List Sec → Bool
  | _, [] => true
  | pre, s :: ss => if secBadP cost s then false else if clashAny s pre then false else secsOkP cost (pre ++ [s]) ss

def ceilS (r p : Int) : List Sec → Int → Int
  | [], m => m
  | s :: ss, m => ceilS r p ss (if s.res == r then (if m < p then p else m) else m)
def ceilT (r : Int) : List Tsk → Int → Int
  | [], m => m
  | t :: ts, m => ceilT r ts (ceilS r t.prio t.secs m)

/-- is a task by itself wrong? (its sections apart) -/
def tskBad (t : Tsk) : Bool := decide (t.name.size = 0) || decide (16 < t.name.size) || decide (t.prio < 1) || decide (t.per < 1) || decide (1000 < t.per) || decide (t.off < 0) || decide (t.per ≤ t.off) || decide (t.dl < 1) || decide (t.per < t.dl) || decide (t.cost < 1) || decide (t.dl < t.cost)
theorem tskBad_true {t : Tsk} : tskBad t = true ↔ (t.name.size = 0 ∨ 16 < t.name.size ∨ t.prio < 1 ∨ t.per < 1 ∨ 1000 < t.per ∨ t.off < 0 ∨ t.per ≤ t.off ∨ t.dl < 1 ∨ t.per < t.dl ∨ t.cost < 1 ∨ t.dl < t.cost) := by
  simp only [tskBad, Bool.or_eq_true, decide_eq_true_eq, or_assoc]
theorem tskBad_false {t : Tsk} : tskBad t = false ↔ (t.name.size ≠ 0 ∧ t.name.size ≤ 16 ∧ 1 ≤ t.prio ∧ 1 ≤ t.per ∧ t.per ≤ 1000 ∧ 0 ≤ t.off ∧ t.off < t.per ∧ 1 ≤ t.dl ∧ t.dl ≤ t.per ∧ 1 ≤ t.cost ∧ t.cost ≤ t.dl) := by
  simp only [tskBad, Bool.or_eq_false_iff, decide_eq_false_iff_not, and_assoc, Int.not_lt, Nat.not_lt, Int.not_le, ne_eq]
theorem bytes_empty {b : ByteArray} : b.toList.isEmpty = decide (b.size = 0) := by
  rw [ByteArray.toList_eq]
  cases h : b.data.toList with
  | nil => 
    have : b.data.size = 0 := by rw [← Array.length_toList, h]; rfl
    simp [ByteArray.size, this]
  | cons x y => 
    have : b.data.size = y.length + 1 := by rw [← Array.length_toList, h]; rfl
    simp [ByteArray.size, this]
def rsecsOk (t : Tsk) : Bool := okAll t.cost t.secs && noClash [] t.secs
def twin (t o : Tsk) : Bool := (o.name.toList == t.name.toList) || (o.prio == t.prio)
def twinAny (t : Tsk) : List Tsk → Bool
  | [] => false
  | o :: os => if twin t o then true else twinAny t os
def manySecs : List Tsk → Bool
  | [] => false
  | t :: ts => if 4 < t.secs.length then true else manySecs ts
def rchkT : List Tsk → List Tsk → Int
  | _, [] => 0
  | pre, t :: ts => if tskBad t || !rsecsOk t then 2 else if twinAny t pre then 2 else rchkT (pre ++ [t]) ts
def rchk (l : List Tsk) : Int := if 8 < l.length then 3 else if manySecs l then 3 else if l.length = 0 then 2 else rchkT [] l
theorem tsks_take {l : List Tsk} {i k : Nat} (h : k < i) (hi : i ≤ l.length) : (l.take i).drop k = tskAt l k :: (l.take i).drop (k + 1) := by
  rw [List.drop_eq_getElem_cons (by simp; omega)]; simp [tskAt, List.getD, show k < l.length by omega]
theorem tsks_snoc {l : List Tsk} {i : Nat} (h : i < l.length) : l.take (i + 1) = l.take i ++ [tskAt l i] := by
  rw [List.take_succ_eq_append_getElem h]; simp [tskAt, List.getD, h]
end Go.Proofs.Ythcdemmamggboaa
