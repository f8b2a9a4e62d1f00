import Derived.Test.YthcdemmamggboaaZHrrun
import Derived.Test.YthcdemmamggboaaZHshow
import Derived.Test.YthcdemmamggboaaZTsame
import Derived.Test.YthcdemmamggboaaG10
import Derived.Test.YthcdemmamggboaaG6
namespace Go.Proofs.Ythcdemmamggboaa
open Go.RowKit
theorem run_inv {l : List Tsk} (h0 : rchk l = 0) (pol : Int) : ∀ (n : Nat) (t : Int) (s : St), 0 ≤ t → Inv l (t - 1) s → Inv l (t + n - 1) (runS l pol n t s)
  | 0, t, s, _, h => by simpa [runS] using h
  | n + 1, t, s, ht, h => by
    have := run_inv h0 pol n (t + 1) (tickM l pol t s) (by omega) (by rw [show t + 1 - 1 = t by omega]; exact (tick_inv h0 ht h).2.2)
    rw [show t + ((n + 1 : Nat) : Int) - 1 = t + 1 + n - 1 by push_cast; omega]
    exact this
theorem sched_len (l : List Tsk) (pol ticks : Int) : (scheduleM l pol ticks).1.length ≤ 1000000 ∧ (scheduleM l pol ticks).2.1.length ≤ 1000000 := by
  unfold scheduleM
  split
  · next h0 =>
    split
    · simp
    · split
      · simp
      · next h1 h2 =>
        have hi := run_inv h0 pol ticks.toNat 0 ⟨[], [], []⟩ (by omega) (Inv0 l)
        have hl := (rchk_ok h0).1
        have hs := hi.sl
        have hj := hi.jl
        have hm : (l.length : Int) * (0 + (ticks.toNat : Int) - 1 + 1) ≤ 8 * 20000 := Int.mul_le_mul (by omega) (by omega) (by omega) (by omega)
        unfold endS
        dsimp only
        rw [List.length_map]
        omega
  · simp
set_option maxRecDepth 100000 in
set_option maxHeartbeats 8000000 in
theorem runs_any (v : Value) (l : List Tsk) (pol ticks : Int) (w : World) (h : TsksAt w w.heap.size v l) (hl : l.length ≤ 9223372036854775807)
    (hs : ∀ i, i < l.length → (tskAt l i).secs.length ≤ 9223372036854775807 ∧ (tskAt l i).name.size ≤ 9223372036854775807) (hwf : ∀ i, i < l.length → (tskAt l i).wf) :
    Calls Try.prog 3 #[v, .int .i64 pol, .int .i64 ticks] w fun e w' => e = .returned (.bool true) ∧ Bel w w' := by
  have HT := Lib.hid h
  have HS := Lib.hid hs
  have HW := Lib.hid hwf
  obtain ⟨A, c, rfl, _⟩ := h.form
  clear h hs hwf
  go_enter Try.func3, Try.ntmps3
  go_wp2_with fail
  refine (shown33_any _).mono ?_
  rintro e w1 ⟨rfl, hB⟩
  have HB1 := Lib.hid hB
  have HT1 := Lib.hid (HT.out.keep hB.keeps hB.le)
  clear hB
  go_wp2_with fail
  refine (beyond_any _ l w1 HT1.out HS.out hl).mono ?_
  rintro e w2 ⟨rfl, hw⟩
  obtain rfl : w1 = w2 := hw.symm
  cases hbe : beyond l
  case true =>
    go_wp2
    go_ret
    exact ⟨rfl, HB1.out⟩
  have HZ := Lib.hid (sized_of hbe HW.out)
  clear hbe
  by_cases hm : 1500 < ticks ∧ ticks ≤ 20000
  · have q1 : decide (1500 < ticks) = true := by simpa using hm.1
    have q2 : decide (ticks ≤ 20000) = true := by simpa using hm.2
    go_wp2
    go_ret
    exact ⟨rfl, HB1.out⟩
  have hq : decide (1500 < ticks) = false ∨ (decide (1500 < ticks) = true ∧ decide (ticks ≤ 20000) = false) := by
    by_cases h1 : 1500 < ticks
    · right; exact ⟨decide_eq_true h1, decide_eq_false (by omega)⟩
    · left; exact decide_eq_false h1
  clear hm
  rcases hq with q1 | ⟨q1, q2⟩
  all_goals
    go_wp2_with fail
    refine (copied_own _ l w1 HT1.out HZ.out.len (fun i hi => (HZ.out.parts i hi).1)).mono ?_
    rintro e w4 ⟨v7, rfl, ho, hB⟩
    have HO := Lib.hid ho.tsks
    obtain ⟨A7, c7, rfl, _⟩ := ho.tsks.form
    have HB4 := Lib.hid (HB1.out.trans hB)
    have HT4 := Lib.hid (HT1.out.keep hB.keeps hB.le)
    clear ho hB HB1 HT1
    go_wp2_with fail
    refine (run_any _ l pol ticks w4 HO.out HZ.out).mono ?_
    rintro e w5 ⟨vs, vj, rfl, hvs, hvj, hB⟩
    obtain ⟨A1, c1, rfl, _⟩ := hvs.form
    obtain ⟨A2, c2, rfl, _⟩ := hvj.form
    have HVS := Lib.hid hvs
    have HVJ := Lib.hid hvj
    have HB5 := Lib.hid (HB4.out.trans hB)
    have HT5 := Lib.hid (HT4.out.keep hB.keeps hB.le)
    have HO5 := Lib.hid (HO.out.keep hB.keeps hB.le)
    clear hvs hvj hB HB4 HT4 HO
    go_upto_region 7 with (fail)
    generalize hW : World.alloc w5 _ = w6 at *
    have r8 : RowAt w6 w5.heap.size 29 [.slice A1 (scheduleM l pol ticks).1.length c1, .slice A2 (scheduleM l pol ticks).2.1.length c2] := by rw [← hW]; exact RowAt.new _ _ _
    have hB : Bel w5 w6 := by rw [← hW]; exact Bel.refl.alloc _
    clear hW
    have HR8 := Lib.hid r8
    have HVS6 := Lib.hid (HVS.out.keep hB.keeps hB.le)
    have HVJ6 := Lib.hid (HVJ.out.keep hB.keeps hB.le)
    have HB6 := Lib.hid (HB5.out.trans hB)
    have HT6 := Lib.hid (HT5.out.keep hB.keeps hB.le)
    have HO6 := Lib.hid (HO5.out.keep hB.keeps hB.le)
    clear r8 hB HVS HVJ HB5 HT5 HO5
    generalize w5.heap.size = n8 at *
    go_wp2_with fail
    refine (rrun_any _ l pol ticks w6 HT6.out HZ.out).mono ?_
    rintro e w7 ⟨us, uj, rfl, hus, huj, hB⟩
    obtain ⟨A3, c3, rfl, _⟩ := hus.form
    obtain ⟨A4, c4, rfl, _⟩ := huj.form
    have HUS := Lib.hid hus
    have HUJ := Lib.hid huj
    have HR87 := Lib.hid (HR8.out.bel hB)
    have HVS7 := Lib.hid (HVS6.out.keep hB.keeps hB.le)
    have HVJ7 := Lib.hid (HVJ6.out.keep hB.keeps hB.le)
    have HB7 := Lib.hid (HB6.out.trans hB)
    have HT7 := Lib.hid (HT6.out.keep hB.keeps hB.le)
    have HO7 := Lib.hid (HO6.out.keep hB.keeps hB.le)
    clear hus huj hB HVS6 HVJ6 HB6 HT6 HO6 HR8
    go_upto_region 8 with (fail)
    generalize hW : World.alloc w7 _ = w8 at *
    have r10 : RowAt w8 w7.heap.size 29 [.slice A3 (scheduleM l pol ticks).1.length c3, .slice A4 (scheduleM l pol ticks).2.1.length c4] := by rw [← hW]; exact RowAt.new _ _ _
    have hB : Bel w7 w8 := by rw [← hW]; exact Bel.refl.alloc _
    clear hW
    have r8 := HR87.out.bel hB
    have x0 := r8.cell (i := 0) rfl
    have x1 := r8.cell (i := 1) rfl
    have xz := r8.lt
    have y0 := r10.cell (i := 0) rfl
    have y1 := r10.cell (i := 1) rfl
    have yz := r10.lt
    have HST := Lib.hid (sameTimeline_any _ _ _ _ (scheduleM l pol ticks).1 (scheduleM l pol ticks).2.1 w8 (HVS7.out.keep hB.keeps hB.le) (HVJ7.out.keep hB.keeps hB.le) (HUS.out.keep hB.keeps hB.le) (HUJ.out.keep hB.keeps hB.le) (sched_len l pol ticks).1 (sched_len l pol ticks).2)
    have HB8 := Lib.hid (HB7.out.trans hB)
    have HT8 := Lib.hid (HT7.out.keep hB.keeps hB.le)
    have HO8 := Lib.hid (HO7.out.keep hB.keeps hB.le)
    clear r8 r10 hB HVS7 HVJ7 HUS HUJ HB7 HT7 HO7 HR87
    generalize (scheduleM l pol ticks).1.length = N1 at *
    generalize (scheduleM l pol ticks).2.1.length = N2 at *
    generalize (scheduleM l pol ticks).2.2 = er at *
    generalize w7.heap.size = n10 at *
    go_wp2_with fail
    refine HST.out.mono ?_
    rintro e w9 ⟨rfl, hB⟩
    have HSM := Lib.hid (same_any _ _ l w9 (HO8.out.keep hB.keeps hB.le) (HT8.out.keep hB.keeps hB.le) HZ.out.len (fun i hi => (HZ.out.parts i hi).1))
    have HB9 := Lib.hid (HB8.out.trans hB)
    clear hB HST HB8 HT8 HO8 x0 x1 xz y0 y1 yz
    go_wp2_with fail
    refine HSM.out.mono ?_
    rintro e w10 ⟨rfl, hB⟩
    have HB10 := Lib.hid (HB9.out.trans hB)
    clear hB HSM HB9
    go_wp2
    go_ret
    exact ⟨rfl, HB10.out⟩
end Go.Proofs.Ythcdemmamggboaa
