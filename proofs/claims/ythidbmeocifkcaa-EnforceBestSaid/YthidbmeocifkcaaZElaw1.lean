/- EnforceBest: the walk. -/
import Derived.Test.YthidbmeocifkcaaG23
import Derived.Test.YthidbmeocifkcaaZEshow
import Derived.Test.YthidbmeocifkcaaZErb
namespace Go.Proofs.Ythidbmeocifkcaa
open Go.RowKit
set_option maxRecDepth 100000 in
set_option maxHeartbeats 2000000 in
theorem ebest_any (p : PP) (gv ev sv : Value) (l : List PS) (W : World) (h : PropAt W W.heap.size gv ev p) (hw : p.wf) (hl : StampsAt W W.heap.size sv l) :
    Calls Try.prog 3 #[.agg #[.int .i64 p.evs, .int .i64 p.clks, .int .i64 p.ini, gv, ev], sv] W fun e w' => e = .returned (.bool true) ∧ Bel W w' := by
  have HP := Lib.hid h
  have HL := Lib.hid hl
  have HWF := Lib.hid hw
  have HBY := Lib.hid (fun (V : World) (hV : Bel W V) => beyond_any p gv ev V (h.bel hV))
  obtain ⟨A1, k1, rfl, _⟩ := h.g.form
  obtain ⟨A2, k2, rfl, _⟩ := h.e.form
  obtain ⟨A, c, rfl, _⟩ := hl.form
  clear h hl hw
  go_enter Try.func3, Try.ntmps3
  go_upto_region 1 with (fail)
  generalize hW1 : World.alloc W _ = W1 at *
  have rb : RowAt W1 W.heap.size 25 [.int .i64 p.evs, .int .i64 p.clks, .int .i64 p.ini, .slice A1 p.good.length k1, .slice A2 p.edges.length k2] := by rw [← hW1]; exact RowAt.new _ _ _
  have hB1 : Bel W W1 := by rw [← hW1]; exact Bel.refl.alloc _
  clear hW1
  obtain ⟨bp, hbp⟩ : ∃ b, b = W.heap.size := ⟨_, rfl⟩
  rw [← hbp] at rb ⊢
  clear hbp
  have HRB := Lib.hid rb
  have HB1 := Lib.hid hB1
  clear rb hB1
  go_wp2_with fail
  refine (shown36_any W1).mono ?_
  rintro e W2 ⟨rfl, hB⟩
  have HB2 := Lib.hid (HB1.out.trans hB)
  have HR2 := Lib.hid (HRB.out.bel hB)
  clear HB1 HRB hB
  have q0 := HR2.out.cell (i := 0) rfl
  have q1 := HR2.out.cell (i := 1) rfl
  have q2 := HR2.out.cell (i := 2) rfl
  have q3 := HR2.out.cell (i := 3) rfl
  have q4 := HR2.out.cell (i := 4) rfl
  have qz := HR2.out.lt
  go_wp2_with fail
  refine (HBY.out W2 HB2.out).mono ?_
  rintro e W3 ⟨rfl, hB⟩
  have HB3 := Lib.hid (HB2.out.trans hB)
  have HR3 := Lib.hid (HR2.out.bel hB)
  clear HB2 HR2 hB q0 q1 q2 q3 q4 qz HBY
  cases hby : beyondM p
  case true =>
    go_wp2
    go_ret
    exact ⟨rfl, HB3.out⟩
  have HS := Lib.hid (beyond_sized hby HWF.out)
  clear hby
  have q0 := HR3.out.cell (i := 0) rfl
  have q1 := HR3.out.cell (i := 1) rfl
  have q2 := HR3.out.cell (i := 2) rfl
  have q3 := HR3.out.cell (i := 3) rfl
  have q4 := HR3.out.cell (i := 4) rfl
  have qz := HR3.out.lt
  go_wp2_with fail
  refine (small_any p _ _ W3 (HP.out.bel HB3.out) HS.out).mono ?_
  rintro e W4 ⟨rfl, hB⟩
  have HB4 := Lib.hid (HB3.out.trans hB)
  have HR4 := Lib.hid (HR3.out.bel hB)
  clear HB3 HR3 hB q0 q1 q2 q3 q4 qz
  cases hsm : smallM p
  case false =>
    go_wp2
    go_ret
    exact ⟨rfl, HB4.out⟩
  have HSM := Lib.hid hsm
  clear hsm
  go_wp2_with fail
  refine (wide_any _ l W4 (HL.out.bel HB4.out)).mono ?_
  rintro e W5 ⟨rfl, hB⟩
  have HB5 := Lib.hid (HB4.out.trans hB)
  have HR5 := Lib.hid (HR4.out.bel hB)
  clear HB4 HR4 hB
  cases hwd : wideM l
  case true =>
    go_wp2
    go_ret
    exact ⟨rfl, HB5.out⟩
  have HWD := Lib.hid hwd
  have HLEN : Hid (l.length ≤ 500) := Lib.hid (by
    unfold wideM at hwd
    simp only [Bool.or_eq_false_iff, decide_eq_false_iff_not] at hwd
    omega)
  clear hwd
  obtain ⟨v6, W6, hap, ho6, hB6⟩ := copy_word (HL.out.bel HB5.out) (by have := HLEN.out; omega)
  obtain ⟨A6, c6, rfl, _⟩ := own_slice ho6
  have HAP := Lib.hid hap
  have HO6 := Lib.hid (stamps_own rfl ho6)
  have HB6 := Lib.hid (HB5.out.trans hB6)
  have HR6 := Lib.hid (HR5.out.bel hB6)
  clear hap ho6 hB6 HB5 HR5
  go_upto_region 6 with (at_builtin; refine wpList_append_run rfl _ _ _ rfl _ _ _ rfl rfl HAP.out ?_)
  clear HAP
  have q0 := HR6.out.cell (i := 0) rfl
  have q1 := HR6.out.cell (i := 1) rfl
  have q2 := HR6.out.cell (i := 2) rfl
  have q3 := HR6.out.cell (i := 3) rfl
  have q4 := HR6.out.cell (i := 4) rfl
  have qz := HR6.out.lt
  go_wp2_with fail
  refine (pbest_any p _ _ A6 c6 l W6 (HP.out.bel HB6.out) HS.out HO6.out (by have := HLEN.out; omega) (fun h1 h2 => best_puts h1 h2 HSM.out HWD.out)).mono ?_
  rintro e W7 ⟨v7, rfl, ho7, hB⟩
  obtain ⟨A7, c7, rfl, _⟩ := own_slice ho7
  have HB7 := Lib.hid (HB6.out.trans hB)
  have HR7 := Lib.hid (HR6.out.bel hB)
  have HO7 := Lib.hid (HO6.out.bel hB)
  have HV7 := Lib.hid (stamps_own rfl ho7)
  clear HB6 HR6 HO6 hB ho7 q0 q1 q2 q3 q4 qz
  have q0 := HR7.out.cell (i := 0) rfl
  have q1 := HR7.out.cell (i := 1) rfl
  have q2 := HR7.out.cell (i := 2) rfl
  have q3 := HR7.out.cell (i := 3) rfl
  have q4 := HR7.out.cell (i := 4) rfl
  have qz := HR7.out.lt
  go_wp2_with fail
  refine (rbest_any p _ _ A c l W7 (HP.out.bel HB7.out) HS.out (HL.out.bel HB7.out) (by have := HLEN.out; omega) (fun h1 h2 => best_puts h1 h2 HSM.out HWD.out)).mono ?_
  rintro e W8 ⟨v8, rfl, ho8, hB⟩
  obtain ⟨A8, c8, rfl, _⟩ := own_slice ho8
  rw [← best_eq] at ho8 ⊢
  have HB8 := Lib.hid (HB7.out.trans hB)
  have HO8 := Lib.hid (HO7.out.bel hB)
  have HV8 := Lib.hid (HV7.out.bel hB)
  have HU8 := Lib.hid (stamps_own rfl ho8)
  have HBL : Hid ((bestP p l).1.length ≤ 1000000) := Lib.hid (by have := best_len p l; have := HLEN.out; omega)
  clear HB7 HR7 HO7 HV7 hB ho8 q0 q1 q2 q3 q4 qz
  generalize bestP p l = r at *
  obtain ⟨u, er⟩ := r
  go_wp2_with fail
  refine (sameWord_any _ _ u W8 HV8.out HU8.out HBL.out).mono ?_
  rintro e W9 ⟨rfl, hB⟩
  have HB9 := Lib.hid (HB8.out.trans hB)
  have HO9 := Lib.hid (HO8.out.bel hB)
  clear HB8 HO8 HV8 HU8 hB
  have g1 : (er == er) = true := beq_self_eq_true _
  go_wp2_with fail
  refine (sameWord_any _ _ l W9 HO9.out (HL.out.bel HB9.out) (by have := HLEN.out; omega)).mono ?_
  rintro e Wa ⟨rfl, hB⟩
  have HBa := Lib.hid (HB9.out.trans hB)
  clear hB HB9 HO9
  go_wp2
  go_ret
  exact ⟨rfl, HBa.out⟩
end Go.Proofs.Ythidbmeocifkcaa
