import Derived.Test.YtbncnadjlppknaaSshow
import Derived.Test.YtbncnadjlppknaaTsz
namespace Go.Proofs.Ytbncnadjlppknaa
open Go.RowKit
set_option maxRecDepth 100000 in
set_option maxHeartbeats 8000000 in
theorem finds_any (v : Value) (l : List Tsk) (w : World) (h : TsksAt w w.heap.size v l) (hl : l.length ≤ 9223372036854775807)
    (hs : ∀ i, i < l.length → (tskAt l i).secs.length ≤ 9223372036854775807 ∧ (tskAt l i).name.size ≤ 9223372036854775807) (hwf : ∀ i, i < l.length → (tskAt l i).wf) :
    Calls Try.prog 3 #[v] w fun e w' => e = .returned (.bool true) ∧ Bel w w' := by
  have HT := Lib.hid h
  have HS := Lib.hid hs
  have HW := Lib.hid hwf
  obtain ⟨A, c, rfl, _⟩ := h.form
  clear h hs hwf
  go_enter Try.func3, Try.ntmps3
  go_wp2_with fail
  refine (shown32_any _).mono ?_
  rintro e w1 ⟨rfl, hB⟩
  have HB1 := Lib.hid hB
  have HT1 := Lib.hid (HT.out.keep hB.keeps hB.le)
  clear hB
  go_wp2_with fail
  refine (beyond_any _ l w1 HT1.out HS.out hl).mono ?_
  rintro e w2 ⟨rfl, hw⟩
  obtain rfl : w1 = w2 := hw.symm
  cases hbe : beyond l
  case true =>
    go_wp2
    go_ret
    exact ⟨rfl, HB1.out⟩
  have HZ := Lib.hid (sized_of hbe HW.out)
  clear hbe
  go_wp2_with fail
  refine (pfixed_any _ l w1 HT1.out HZ.out).mono ?_
  rintro e w2 ⟨va, rfl, hva, hB, _⟩
  obtain ⟨Aa, ca, rfl, _⟩ := hva.form
  have HVA := Lib.hid hva
  have HB2 := Lib.hid (HB1.out.trans hB)
  have HT2 := Lib.hid (HT1.out.keep hB.keeps hB.le)
  clear hva hB HB1 HT1
  go_wp2_with fail
  refine (rfixed_any _ l w2 HT2.out HZ.out).mono ?_
  rintro e w3 ⟨vb, rfl, hvb, hB, _⟩
  obtain ⟨Ab, cb, rfl, _⟩ := hvb.form
  have HVA3 := Lib.hid (HVA.out.keep hB.keeps hB.le)
  have HVB3 := Lib.hid hvb
  have HB3 := Lib.hid (HB2.out.trans hB)
  have HT3 := Lib.hid (HT2.out.keep hB.keeps hB.le)
  have hfl : (fixedM l).1.length ≤ 1000000 := by
    by_cases h0 : rchk l = 0
    · rw [fixedM_ok h0]; simp [respR]; have := (rchk_ok h0).1; omega
    · rw [fixedM_no h0]; simp
  clear hvb hB HB2 HT2 HVA
  generalize (fixedM l).1 = fl at *
  generalize (fixedM l).2.1 = fb at *
  generalize (fixedM l).2.2 = fe at *
  go_wp2_with fail
  refine (sameLongs_same _ _ fl _ HVA3.out HVB3.out hfl).mono ?_
  rintro e w4 ⟨rfl, hB⟩
  have HB4 := Lib.hid (HB3.out.trans hB)
  have HT4 := Lib.hid (HT3.out.keep hB.keeps hB.le)
  clear hB HVA3 HVB3 hfl HB3 HT3
  go_wp2_with fail
  refine (pBusy_any _ l w4 HT4.out HZ.out).mono ?_
  rintro e w5 ⟨rfl, hB⟩
  have HB5 := Lib.hid (HB4.out.trans hB)
  have HT5 := Lib.hid (HT4.out.keep hB.keeps hB.le)
  clear hB HB4 HT4
  go_wp2_with fail
  refine (rBusy_any _ l w5 HT5.out HZ.out).mono ?_
  rintro e w6 ⟨rfl, hB⟩
  have HB6 := Lib.hid (HB5.out.trans hB)
  have HT6 := Lib.hid (HT5.out.keep hB.keeps hB.le)
  clear hB HB5 HT5
  generalize (busyR l).1 = b1 at *
  generalize (busyR l).2 = b2 at *
  go_wp2_with fail
  refine (pDemand_any _ l w6 HT6.out HZ.out).mono ?_
  rintro e w7 ⟨rfl, hB⟩
  have HB7 := Lib.hid (HB6.out.trans hB)
  have HT7 := Lib.hid (HT6.out.keep hB.keeps hB.le)
  clear hB HB6 HT6
  go_wp2_with fail
  refine (rDemand_any _ l w7 HT7.out HZ.out).mono ?_
  rintro e w8 ⟨rfl, hB⟩
  have HB8 := Lib.hid (HB7.out.trans hB)
  clear hB HB7 HT7
  generalize (demandM l).1 = d0 at *
  generalize (demandM l).2.1 = d1 at *
  generalize (demandM l).2.2 = d2 at *
  go_wp2_with fail
  go_ret
  exact ⟨rfl, HB8.out⟩
end Go.Proofs.Ytbncnadjlppknaa
