import Derived.Test.YtcddgkoldffaaaaTshow
import Derived.Test.YtcddgkoldffaaaaTcopy
import Derived.Test.YtcddgkoldffaaaaTsame
namespace Go.Proofs.Ytcddgkoldffaaaa
open Go.RowKit
theorem beyondS_all : ∀ (l : List Tsk), beyondS l = false → ∀ i, i < l.length → (tskAt l i).secs.length ≤ 50 ∧ (tskAt l i).name.size ≤ 1000
  | [], _, i, hi => by simp at hi
  | t :: ts, h, i, hi => by
    unfold beyondS at h
    by_cases hc : (decide (50 < t.secs.length) || decide (1000 < t.name.size)) = true
    · rw [if_pos hc] at h; cases h
    · rw [if_neg hc] at h
      cases i with
      | zero => simp at hc; exact ⟨hc.1, hc.2⟩
      | succ i => exact beyondS_all ts h i (by simpa using hi)
theorem sized_of {l : List Tsk} (h : beyond l = false) (hwf : ∀ i, i < l.length → (tskAt l i).wf) : Sized l := by
  unfold beyond at h
  by_cases h5 : 50 < l.length
  · simp [h5] at h
  · rw [if_neg h5] at h
    exact ⟨by omega, fun i hi => by have := beyondS_all l h i hi; omega, hwf⟩
set_option maxRecDepth 100000 in
set_option maxHeartbeats 8000000 in
theorem taskSets_any (HCP : CheckP) (v : Value) (l : List Tsk) (w : World) (h : TsksAt w w.heap.size v l) (hl : l.length ≤ 9223372036854775807)
    (hs : ∀ i, i < l.length → (tskAt l i).secs.length ≤ 9223372036854775807 ∧ (tskAt l i).name.size ≤ 9223372036854775807) (hwf : ∀ i, i < l.length → (tskAt l i).wf) :
    Calls Try.prog 3 #[v] w fun e w' => e = .returned (.bool true) ∧ Bel w w' := by
  have HC := Lib.hid HCP
  have HSH := Lib.hid (shown_any HCP)
  have HT := Lib.hid h
  have HS := Lib.hid hs
  have HW := Lib.hid hwf
  clear HCP h hs hwf
  go_enter Try.func3, Try.ntmps3
  go_wp2_with fail
  refine (HSH.out _).mono ?_
  rintro e w1 ⟨rfl, hB⟩
  have HB1 := Lib.hid hB
  have HT1 := Lib.hid (HT.out.keep hB.keeps hB.le)
  clear hB
  go_wp2_with fail
  refine (beyond_any _ l w1 HT1.out HS.out hl).mono ?_
  rintro e w2 ⟨rfl, hw⟩
  obtain rfl : w1 = w2 := hw.symm
  cases hbe : beyond l
  case true =>
    go_wp2
    go_ret
    exact ⟨rfl, HB1.out⟩
  have HZ := Lib.hid (sized_of hbe HW.out)
  clear hbe
  go_wp2_with fail
  refine (copied_any _ l w1 HT1.out HZ.out.len (fun i hi => (HZ.out.parts i hi).1)).mono ?_
  rintro e w3 ⟨vo, rfl, ho, hB⟩
  have HB3 := Lib.hid (HB1.out.trans hB)
  have HT3 := Lib.hid (HT1.out.keep hB.keeps hB.le)
  have HO3 := Lib.hid ho
  clear hB ho
  go_wp2_with fail
  refine (ceilings_any HC.out _ l w3 HO3.out HZ.out).mono ?_
  rintro e w4 ⟨vc, rfl, hc, hB, _⟩
  have HB4 := Lib.hid (HB3.out.trans hB)
  have HT4 := Lib.hid (HT3.out.keep hB.keeps hB.le)
  have HO4 := Lib.hid (HO3.out.keep hB.keeps hB.le)
  have HVC4 := Lib.hid hc
  clear hB hc
  go_wp2_with fail
  refine (rceilings_any _ l w4 HT4.out HZ.out.len HZ.out.parts).mono ?_
  rintro e w5 ⟨vd, rfl, hd, hB, _⟩
  have HB5 := Lib.hid (HB4.out.trans hB)
  have HT5 := Lib.hid (HT4.out.keep hB.keeps hB.le)
  have HO5 := Lib.hid (HO4.out.keep hB.keeps hB.le)
  have HVC5 := Lib.hid (HVC4.out.keep hB.keeps hB.le)
  have HVD5 := Lib.hid hd
  clear hB hd
  go_wp2_with fail
  refine (sameInts_same _ _ _ _ HVC5.out HVD5.out (by split <;> simp [ceils])).mono ?_
  rintro e w6 ⟨rfl, hB⟩
  have HB6 := Lib.hid (HB5.out.trans hB)
  have HT6 := Lib.hid (HT5.out.keep hB.keeps hB.le)
  have HO6 := Lib.hid (HO5.out.keep hB.keeps hB.le)
  clear hB
  go_wp2_with fail
  refine (HC.out _ l w6 HO6.out HZ.out).mono ?_
  rintro e w7 ⟨rfl, hB⟩
  have HB7 := Lib.hid (HB6.out.trans hB)
  have HT7 := Lib.hid (HT6.out.keep hB.keeps hB.le)
  have HO7 := Lib.hid (HO6.out.keep hB.keeps hB.le)
  clear hB
  go_wp2_with fail
  refine (rcheck_any _ l w7 HT7.out HZ.out.len HZ.out.parts).mono ?_
  rintro e w8 ⟨rfl, hB⟩
  have HB8 := Lib.hid (HB7.out.trans hB)
  have HT8 := Lib.hid (HT7.out.keep hB.keeps hB.le)
  have HO8 := Lib.hid (HO7.out.keep hB.keeps hB.le)
  clear hB
  go_wp2_with fail
  refine (blocking_any HC.out _ l w8 HO8.out HZ.out).mono ?_
  rintro e w9 ⟨va, rfl, ha, hB, _⟩
  have HB9 := Lib.hid (HB8.out.trans hB)
  have HT9 := Lib.hid (HT8.out.keep hB.keeps hB.le)
  have HO9 := Lib.hid (HO8.out.keep hB.keeps hB.le)
  have HVA9 := Lib.hid ha
  clear hB ha
  go_wp2_with fail
  refine (rblocking_any _ l w9 HT9.out HZ.out).mono ?_
  rintro e wa ⟨vb, rfl, hb, hB, _⟩
  have HBa := Lib.hid (HB9.out.trans hB)
  have HTa := Lib.hid (HT9.out.keep hB.keeps hB.le)
  have HOa := Lib.hid (HO9.out.keep hB.keeps hB.le)
  have HVAa := Lib.hid (HVA9.out.keep hB.keeps hB.le)
  have HVBa := Lib.hid hb
  clear hB hb
  go_wp2_with fail
  refine (hyper_any HC.out _ l wa HOa.out HZ.out).mono ?_
  rintro e wb ⟨rfl, hB⟩
  have HBb := Lib.hid (HBa.out.trans hB)
  have HTb := Lib.hid (HTa.out.keep hB.keeps hB.le)
  have HOb := Lib.hid (HOa.out.keep hB.keeps hB.le)
  have HVAb := Lib.hid (HVAa.out.keep hB.keeps hB.le)
  have HVBb := Lib.hid (HVBa.out.keep hB.keeps hB.le)
  clear hB
  go_wp2_with fail
  refine (rhyper_any _ l wb HTb.out HZ.out.len HZ.out.parts).mono ?_
  rintro e wc ⟨rfl, hB⟩
  have HBc := Lib.hid (HBb.out.trans hB)
  have HTc := Lib.hid (HTb.out.keep hB.keeps hB.le)
  have HOc := Lib.hid (HOb.out.keep hB.keeps hB.le)
  have HVAc := Lib.hid (HVAb.out.keep hB.keeps hB.le)
  have HVBc := Lib.hid (HVBb.out.keep hB.keeps hB.le)
  clear hB
  go_wp2_with fail
  refine (sameLongs_same _ _ _ _ HVAc.out HVBc.out (by have := HZ.out.len; split <;> simp [blocks]; omega)).mono ?_
  rintro e wd ⟨rfl, hB⟩
  have HBd := Lib.hid (HBc.out.trans hB)
  have HTd := Lib.hid (HTc.out.keep hB.keeps hB.le)
  have HOd := Lib.hid (HOc.out.keep hB.keeps hB.le)
  clear hB
  go_wp2_with fail
  refine (same_any _ _ l wd HOd.out HTd.out HZ.out.len (fun i hi => (HZ.out.parts i hi).1)).mono ?_
  rintro e we ⟨rfl, hB⟩
  have HBe := Lib.hid (HBd.out.trans hB)
  clear hB
  go_wp2_with fail
  go_ret
  exact ⟨rfl, HBe.out⟩
end Go.Proofs.Ytcddgkoldffaaaa
