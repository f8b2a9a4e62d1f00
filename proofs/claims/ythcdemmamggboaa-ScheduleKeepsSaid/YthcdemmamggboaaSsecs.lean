import Derived.Test.YthcdemmamggboaaSdem
import Derived.Test.YthcdemmamggboaaArr
import Derived.Deep.LoopGhost
namespace Go.Proofs.Ythcdemmamggboaa
open Go.RowKit
def hasSec (x : Tsk) : Bool := decide (0 < x.secs.length)
theorem secsB_eq (l : List Tsk) : secsB l = l.any hasSec := rfl
set_option maxRecDepth 100000 in
set_option maxHeartbeats 4000000 in
theorem rsecs_any (v : Value) (l : List Tsk) (w : World) (h : TsksAt w w.heap.size v l) (hl : l.length ≤ 1000000) :
    Calls Try.prog 17 #[v] w fun e w' => e = .returned (.bool (secsB l)) ∧ Bel w w' := by
  obtain ⟨A, c, rfl, hc, hA⟩ := h
  have HA := Lib.hid hA
  clear hA
  go_enter Try.func17, Try.ntmps17
  go_wp2
  go_loopg [3] l.length (fun gk s3 wr => ∃ (j : Nat) (z : Ext w), j + gk = l.length ∧ s3 = .int .i64 j ∧ wr = z.w ∧ (l.drop j).any hasSec = secsB l)
  case atStart => exact ⟨0, ⟨w, Bel.refl⟩, by omega, rfl, rfl, rfl⟩
  case round =>
    obtain ⟨j, z, hj, rfl, rfl, hd⟩ := hrel
    by_cases hlt : j < l.length
    · have hdl : decide ((j : Int) < (l.length : Int)) = true := by simp; omega
      rw [tsks_drop hlt] at hd
      obtain ⟨b, off, rfl, hb, hA⟩ := HA.out (by omega)
      obtain ⟨sv, ⟨t0, t1, t2, t3, t4, t5, t6⟩, hS⟩ := (hA j hlt)
      obtain ⟨A2, c2, rfl, _⟩ := hS.form
      clear hA hS t0 t1 t2 t3 t4 t5
      cases hh : hasSec (tskAt l j)
      · have HD : Hid ((l.drop (j + 1)).any hasSec = secsB l) := Lib.hid (by rw [← hd]; simp [hh])
        have hp : decide (0 < (tskAt l j).secs.length) = false := hh
        have hp2 : decide ((0 : Int) < ((tskAt l j).secs.length : Int)) = false := (decide_eq_decide.mpr (by omega)).trans hp
        clear hd hh
        go_wp2
        go_roundg (gk - 1)
        case measure => omega
        case rel => exact ⟨j + 1, z, by omega, by go_num, rfl, HD.out⟩
      · have HD : Hid (secsB l = true) := Lib.hid (by rw [← hd]; simp [hh])
        have hp : decide (0 < (tskAt l j).secs.length) = true := hh
        have hp2 : decide ((0 : Int) < ((tskAt l j).secs.length : Int)) = true := (decide_eq_decide.mpr (by omega)).trans hp
        clear hd hh
        go_wp2
        go_ret
        exact ⟨ret_bool HD.out.symm, z.bel⟩
    · obtain rfl : j = l.length := by omega
      have hdl : decide ((l.length : Int) < (l.length : Int)) = false := by simp
      have HD : Hid (secsB l = false) := Lib.hid (by rw [← hd]; simp)
      clear hd
      go_wp2
      go_ret
      exact ⟨ret_bool HD.out.symm, z.bel⟩
theorem ints_drop {l : List Int} {k : Nat} (h : k < l.length) : l.drop k = l.getD k 0 :: l.drop (k + 1) := by
  rw [List.drop_eq_getElem_cons h]; simp [List.getD, h]
def idxT (f : Tsk → Bool) : List Tsk → Nat → Int
  | [], _ => -1
  | x :: xs, k => if f x then (k : Int) else idxT f xs (k + 1)
theorem idxT_any (f : Tsk → Bool) : ∀ (l : List Tsk) (k : Nat), decide (0 ≤ idxT f l k) = l.any f
  | [], k => by simp [idxT]
  | x :: xs, k => by
    rw [List.any_cons, idxT]
    by_cases h : f x = true
    · rw [if_pos h, h]; simp
    · rw [if_neg h, idxT_any f xs (k + 1), show f x = false by simpa using h, Bool.false_or]
end Go.Proofs.Ythcdemmamggboaa
