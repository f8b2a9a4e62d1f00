import Derived.Test.YthcdemmamggboaaSsecs
import Derived.Test.YthcdemmamggboaaHwk
namespace Go.Proofs.Ythcdemmamggboaa
open Go.RowKit
def hasOff (x : Tsk) : Bool := !decide (x.off = 0)
set_option maxRecDepth 100000 in
set_option maxHeartbeats 4000000 in
theorem roffs_any (v : Value) (l : List Tsk) (w : World) (h : TsksAt w w.heap.size v l) (hl : l.length ≤ 1000000) :
    Calls Try.prog 18 #[v] w fun e w' => e = .returned (.bool (offsB l)) ∧ Bel w w' := by
  obtain ⟨A, c, rfl, hc, hA⟩ := h
  have HA := Lib.hid hA
  clear hA
  go_enter Try.func18, Try.ntmps18
  go_wp2
  go_loopg [3] l.length (fun gk s3 wr => ∃ (j : Nat) (z : Ext w), j + gk = l.length ∧ s3 = .int .i64 j ∧ wr = z.w ∧ (l.drop j).any hasOff = offsB l)
  case atStart => exact ⟨0, ⟨w, Bel.refl⟩, by omega, rfl, rfl, rfl⟩
  case round =>
    obtain ⟨j, z, hj, rfl, rfl, hd⟩ := hrel
    by_cases hlt : j < l.length
    · have hdl : decide ((j : Int) < (l.length : Int)) = true := by simp; omega
      have hjl : (j : Int) < (l.length : Int) := by omega
      rw [tsks_drop hlt] at hd
      obtain ⟨b, off, rfl, hb, hA⟩ := HA.out (by omega)
      obtain ⟨sv, ⟨t0, t1, t2, t3, t4, t5, t6⟩, hS⟩ := (hA j hlt)
      clear hA hS t0 t1 t3 t4 t5 t6
      by_cases hh : (tskAt l j).off = 0
      · have HD : Hid ((l.drop (j + 1)).any hasOff = offsB l) := Lib.hid (by rw [← hd]; simp [hasOff, hh])
        have hp : ((tskAt l j).off == 0) = true := by simpa using hh
        clear hd hh
        go_wp2
        go_roundg (gk - 1)
        case measure => omega
        case rel => exact ⟨j + 1, z, by omega, by go_num, rfl, HD.out⟩
      · have HD : Hid (offsB l = true) := Lib.hid (by rw [← hd]; simp [hasOff, hh])
        have hp : ((tskAt l j).off == 0) = false := by simpa using hh
        clear hd hh
        go_wp2
        go_ret
        exact ⟨ret_bool HD.out.symm, z.bel⟩
    · obtain rfl : j = l.length := by omega
      have hdl : decide ((l.length : Int) < (l.length : Int)) = false := by simp
      have HD : Hid (offsB l = false) := Lib.hid (by rw [← hd]; simp)
      clear hd
      go_wp2
      go_ret
      exact ⟨ret_bool HD.out.symm, z.bel⟩
end Go.Proofs.Ythcdemmamggboaa
