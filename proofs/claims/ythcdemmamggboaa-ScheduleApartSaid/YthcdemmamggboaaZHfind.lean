import Derived.Test.YthcdemmamggboaaG9
namespace Go.Proofs.Ythcdemmamggboaa
open Go.RowKit
set_option maxRecDepth 100000 in
set_option maxHeartbeats 4000000 in
theorem find_any (vj : Value) (js : List Don) (tk num : Int) (k : Nat) (w : World) (h : RdAt w w.heap.size vj 5 donC js) (hk : k < js.length) (hl : js.length ≤ 1000000) (hm : (dnAt js k).tk = tk ∧ (dnAt js k).job = num)
    (hu : ∀ i, i < js.length → (dnAt js i).tk = tk → (dnAt js i).job = num → i = k) :
    Calls Try.prog 15 #[vj, .int .i64 tk, .int .i64 num] w fun e w' => e = .returned (.int .i64 k) ∧ w = w' := by
  have H := Lib.hid h
  have HU := Lib.hid hu
  have HM := Lib.hid hm
  obtain ⟨A, c, rfl, _⟩ := h.form
  clear h hu hm
  go_enter Try.func15, Try.ntmps15
  go_wp2
  go_loopg [7] js.length (fun gk s7 wr => ∃ (i : Nat), i + gk = js.length ∧ s7 = .int .i64 i ∧ wr = w ∧ i ≤ k)
  case atStart => exact ⟨0, by omega, rfl, rfl, by omega⟩
  case round =>
    obtain ⟨i, hi, rfl, rfl, hik⟩ := hrel
    have hlt : i < js.length := by omega
    have hdl : decide ((i : Int) < (js.length : Int)) = true := by simp; omega
    have hil : (i : Int) < (js.length : Int) := by omega
    obtain ⟨b1, o1, rfl, hb1, k1⟩ := H.out.at_ (by omega)
    obtain ⟨x0, x1, _, _, _⟩ := rd_don hlt k1
    clear k1
    by_cases e : i = k
    · subst e
      obtain ⟨m1, m2⟩ := HM.out
      rw [m1] at x0
      rw [m2] at x1
      go_wp2
      go_ret
      exact ⟨rfl, rfl⟩
    · have hne : ¬ (((dnAt js i).tk : Int) = tk ∧ (dnAt js i).job = num) := fun h => e (HU.out i hlt h.1 h.2)
      by_cases e1 : ((dnAt js i).tk : Int) = tk
      · have q1 : (((dnAt js i).tk : Int) == tk) = true := by simpa using e1
        have q2 : ((dnAt js i).job == num) = false := by simpa using fun h => hne ⟨e1, h⟩
        clear e1 hne
        go_wp2
        go_roundg (gk - 1)
        case measure => omega
        case rel => exact ⟨i + 1, by omega, by go_num, rfl, by omega⟩
      · have q1 : (((dnAt js i).tk : Int) == tk) = false := by simpa using e1
        clear e1 hne
        go_wp2
        go_roundg (gk - 1)
        case measure => omega
        case rel => exact ⟨i + 1, by omega, by go_num, rfl, by omega⟩
end Go.Proofs.Ythcdemmamggboaa
