/- TablesMakes: the walk. -/
import Derived.Test.YtbilfpoghohddaaZWsh
import Derived.Test.YtbilfpoghohddaaG6
namespace Go.Proofs.Ytbilfpoghohddaa
open Go.RowKit
def longB (l : List Tsk) : Bool := decide ((hyp l).2 = 0) && decide (600 < (hyp l).1)
set_option maxRecDepth 100000 in
set_option maxHeartbeats 4000000 in
theorem long_any (v : Value) (l : List Tsk) (w : World) (h : TsksAt w w.heap.size v l) (hs : Sized l) :
    Calls Try.prog 23 #[v] w fun e w' => e = .returned (.bool (longB l)) ∧ Bel w w' := by
  have HH := Lib.hid (rhyper_any v l w h hs.len hs.parts)
  have HL : Hid (longB l = (decide ((hyp l).2 = 0) && decide (600 < (hyp l).1))) := Lib.hid rfl
  clear h
  generalize longB l = lb at *
  by_cases h1 : (hyp l).2 = 0
  · have q1 : ((hyp l).2 == 0) = true := by simpa using h1
    have q2 : decide ((hyp l).2 = 0) = true := by simpa using h1
    rw [q2, Bool.true_and] at HL
    generalize (hyp l).1 = H at *
    generalize (hyp l).2 = er at *
    clear h1 q2
    go_enter Try.func23, Try.ntmps23
    go_wp2_with (first | (go_at_call 28; (with_reducible refine (HH.out).mono ?_); rintro e w2 ⟨rfl, hb2⟩; obtain ⟨x, rfl⟩ : ∃ x : Ext w, w2 = x.w := ext_of (hb2.after (by (repeat (first | exact Ext.bel _ | exact Bel.refl | refine Bel.alloc ?_ _ | refine Bel.drew ?_ | refine Bel.drewN ?_ _)))); clear hb2))
    go_ret
    exact ⟨ret_bool HL.out.symm, x.bel⟩
  · have q1 : ((hyp l).2 == 0) = false := by simpa using h1
    have q2 : decide ((hyp l).2 = 0) = false := by simpa using h1
    rw [q2, Bool.false_and] at HL
    generalize (hyp l).1 = H at *
    generalize (hyp l).2 = er at *
    clear h1 q2
    go_enter Try.func23, Try.ntmps23
    go_wp2_with (first | (go_at_call 28; (with_reducible refine (HH.out).mono ?_); rintro e w2 ⟨rfl, hb2⟩; obtain ⟨x, rfl⟩ : ∃ x : Ext w, w2 = x.w := ext_of (hb2.after (by (repeat (first | exact Ext.bel _ | exact Bel.refl | refine Bel.alloc ?_ _ | refine Bel.drew ?_ | refine Bel.drewN ?_ _)))); clear hb2))
    go_ret
    exact ⟨ret_bool HL.out.symm, x.bel⟩
theorem makeT_len {l : List Tsk} {pol : Int} : (makeT l pol).1.length ≤ 1000000 := by
  unfold makeT
  split
  · next h =>
    split
    · split
      · simp
      · dsimp only
        rw [paintS_len, List.length_replicate]
        have hH : hypO l = hyp l := by
          unfold hypO at h ⊢
          split at h
          · cases h
          · next hn => rw [if_neg hn]
        rw [hH] at h ⊢
        have := hyp_dvd (rchk_pos_e h) h
        omega
    · simp
  · simp
set_option maxRecDepth 100000 in
set_option maxHeartbeats 8000000 in
theorem makes_any (v xv : Value) (l : List Tsk) (pol : Int) (xs : List Int) (w : World) (h : TsksAt w w.heap.size v l) (hl : l.length ≤ 9223372036854775807)
    (hs : ∀ i, i < l.length → (tskAt l i).secs.length ≤ 9223372036854775807 ∧ (tskAt l i).name.size ≤ 9223372036854775807) (hwf : ∀ i, i < l.length → (tskAt l i).wf) (hx : IntsAt w w.heap.size xv xs) :
    Calls Try.prog 6 #[v, .int .i64 pol, .agg #[xv]] w fun e w' => e = .returned (.bool true) ∧ Bel w w' := by
  have HS := Lib.hid hs
  have HW := Lib.hid hwf
  have HT := Lib.hid h
  have HX := Lib.hid hx
  obtain ⟨A, c, rfl, _⟩ := h.form
  obtain ⟨Ax, cx, rfl, _⟩ := hx.form
  clear h hs hwf hx
  go_enter Try.func6, Try.ntmps6
  go_wp2_with fail
  generalize hW : World.alloc w _ = w1 at *
  have hB : Bel w w1 := by rw [← hW]; exact Bel.refl.alloc _
  have r5 : RowAt w1 w.heap.size 25 [.slice Ax xs.length cx] := by rw [← hW]; exact RowAt.new _ _ _
  clear hW
  have HT1 := Lib.hid (HT.out.keep hB.keeps hB.le)
  have HX1 := Lib.hid (HX.out.keep hB.keeps hB.le)
  have HB1 := Lib.hid hB
  have HR1 := Lib.hid r5
  clear hB r5 HT HX
  obtain ⟨n5, hn5⟩ : ∃ n, n = w.heap.size := ⟨_, rfl⟩
  rw [← hn5] at HR1 ⊢
  clear hn5
  refine (shown37_any _).mono ?_
  rintro e w2 ⟨rfl, hB⟩
  have HT2 := Lib.hid (HT1.out.keep hB.keeps hB.le)
  have HX2 := Lib.hid (HX1.out.keep hB.keeps hB.le)
  have HB2 := Lib.hid (HB1.out.trans hB)
  have HR2 := Lib.hid (HR1.out.bel hB)
  clear hB HT1 HX1 HB1 HR1
  go_wp2_with fail
  refine (beyond_any _ l w2 HT2.out HS.out hl).mono ?_
  rintro e w2' ⟨rfl, hw⟩
  obtain rfl : w2' = w2 := hw
  cases hbe : beyond l
  case true =>
    go_wp2
    go_ret
    exact ⟨rfl, HB2.out⟩
  have HZ := Lib.hid (sized_of hbe HW.out)
  clear hbe
  go_wp2_with fail
  refine (long_any _ l w2' HT2.out HZ.out).mono ?_
  rintro e w3 ⟨rfl, hB⟩
  have HT3 := Lib.hid (HT2.out.keep hB.keeps hB.le)
  have HX3 := Lib.hid (HX2.out.keep hB.keeps hB.le)
  have HB3 := Lib.hid (HB2.out.trans hB)
  have HR3 := Lib.hid (HR2.out.bel hB)
  clear hB HT2 HX2 HB2 HR2
  cases hlo : longB l
  case true =>
    go_wp2
    go_ret
    exact ⟨rfl, HB3.out⟩
  clear hlo
  have x0 := HR3.out.cell (i := 0) rfl
  have x1 := HR3.out.lt
  by_cases hlen : 30000 < xs.length
  · have q1 : decide (30000 < xs.length) = true := by simpa using hlen
    have q2 : decide ((30000 : Int) < (xs.length : Int)) = true := by simp; omega
    go_wp2
    go_ret
    exact ⟨rfl, HB3.out⟩
  have q1 : decide (30000 < xs.length) = false := by simpa using hlen
  have q2 : decide ((30000 : Int) < (xs.length : Int)) = false := by simp; omega
  have HLX : Hid (xs.length ≤ 1000000) := Lib.hid (by omega)
  clear hlen
  go_wp2_with fail
  clear q1 q2 x0 x1
  refine (make_any _ l pol w3 HT3.out HZ.out).mono ?_
  rintro e w4 ⟨va, rfl, hm, hB⟩
  obtain ⟨Aa, ca, rfl, _⟩ := hm.ints.form
  have HA4 := Lib.hid hm.ints
  have HT4 := Lib.hid (HT3.out.keep hB.keeps hB.le)
  have HX4 := Lib.hid (HX3.out.keep hB.keeps hB.le)
  have HB4 := Lib.hid (HB3.out.trans hB)
  have HR4 := Lib.hid (HR3.out.bel hB)
  clear hB HT3 HX3 HB3 HR3 hm
  go_upto_region 6 with (fail)
  generalize hW : World.alloc w4 _ = w5 at *
  have hB : Bel w4 w5 := by rw [← hW]; exact Bel.refl.alloc _
  have r7 : RowAt w5 w4.heap.size 25 [.slice Aa (makeT l pol).1.length ca] := by rw [← hW]; exact RowAt.new _ _ _
  clear hW
  have HA5 := Lib.hid (HA4.out.keep hB.keeps hB.le)
  have HT5 := Lib.hid (HT4.out.keep hB.keeps hB.le)
  have HX5 := Lib.hid (HX4.out.keep hB.keeps hB.le)
  have HB5 := Lib.hid (HB4.out.trans hB)
  have HR5 := Lib.hid (HR4.out.bel hB)
  have HR75 := Lib.hid r7
  clear hB HT4 HX4 HB4 HR4 HA4 r7
  generalize w4.heap.size = n7 at *
  go_wp2_with fail
  refine (rmake_any _ l pol w5 HT5.out HZ.out).mono ?_
  rintro e w6 ⟨vb, rfl, hm, hB⟩
  obtain ⟨Ab, cb, rfl, _⟩ := hm.ints.form
  have HD6 := Lib.hid hm.ints
  have HA6 := Lib.hid (HA5.out.keep hB.keeps hB.le)
  have HT6 := Lib.hid (HT5.out.keep hB.keeps hB.le)
  have HX6 := Lib.hid (HX5.out.keep hB.keeps hB.le)
  have HB6 := Lib.hid (HB5.out.trans hB)
  have HR6 := Lib.hid (HR5.out.bel hB)
  have HR76 := Lib.hid (HR75.out.bel hB)
  clear hB HT5 HX5 HB5 HR5 HA5 HR75 hm
  go_upto_region 7 with (fail)
  generalize hW : World.alloc w6 _ = w7 at *
  have hB : Bel w6 w7 := by rw [← hW]; exact Bel.refl.alloc _
  have r9 : RowAt w7 w6.heap.size 25 [.slice Ab (makeT l pol).1.length cb] := by rw [← hW]; exact RowAt.new _ _ _
  clear hW
  have r7 := HR76.out.bel hB
  have r5 := HR6.out.bel hB
  have a0 := r9.cell (i := 0) rfl
  have a1 := r9.lt
  have b0 := r7.cell (i := 0) rfl
  have b1 := r7.lt
  have c0 := r5.cell (i := 0) rfl
  have c1 := r5.lt
  have HB7 := Lib.hid (HB6.out.trans hB)
  have hsame : ∀ y : Ext w7, Calls Try.prog 13 #[.slice Aa (makeT l pol).1.length ca, .slice Ab (makeT l pol).1.length cb] y.w fun e w' => e = .returned (.bool true) ∧ Bel y.w w' := fun y => by
    have hk := (hB.trans y.bel)
    have := sameInts_any _ _ _ _ y.w (HA6.out.keep hk.keeps hk.le) (HD6.out.keep hk.keeps hk.le) makeT_len makeT_len
    simpa using this
  have hc1 : ∀ y : Ext w7, Calls Try.prog 26 #[.slice A l.length c, .agg #[.slice Ax xs.length cx]] y.w fun e w' => e = .returned (.int .i64 (chkT l xs)) ∧ Bel y.w w' := fun y => by
    have hk := (hB.trans y.bel)
    exact checkT_any _ _ l xs y.w (HT6.out.keep hk.keeps hk.le) (HX6.out.keep hk.keeps hk.le) HLX.out HZ.out
  have hc2 : ∀ y : Ext w7, Calls Try.prog 20 #[.slice A l.length c, .agg #[.slice Ax xs.length cx]] y.w fun e w' => e = .returned (.int .i64 (chkT l xs)) ∧ Bel y.w w' := fun y => by
    have hk := (hB.trans y.bel)
    exact rcheckT_any _ _ l xs y.w (HT6.out.keep hk.keeps hk.le) (HX6.out.keep hk.keeps hk.le) HLX.out HZ.out
  have HSAME := Lib.hid hsame
  have HC1 := Lib.hid hc1
  have HC2 := Lib.hid hc2
  clear hsame hc1 hc2 hB r5 r7 r9
  generalize chkT l xs = ck at *
  generalize (makeT l pol).1.length = N1 at *
  generalize (makeT l pol).2 = er at *
  generalize w6.heap.size = n9 at *
  (refine wp_region_ext (wb := w7) (by (repeat (first | exact Ext.bel _ | exact Bel.refl | refine Bel.alloc ?_ _ | refine Bel.drew ?_ | refine Bel.drewN ?_ _))) (by kernel_rfl) (by kernel_rfl) ?_; (repeat (any_goals (first | go_big_quiet_step ((first | (go_at_call 13; with_reducible exact ext_call (HSAME.out _)) | (go_at_call 26; with_reducible exact ext_call (HC1.out _)) | (go_at_call 20; with_reducible exact ext_call (HC2.out _)))) | quiet_step ((first | (go_at_call 13; with_reducible exact ext_call (HSAME.out _)) | (go_at_call 26; with_reducible exact ext_call (HC1.out _)) | (go_at_call 20; with_reducible exact ext_call (HC2.out _)))) | (refine wpQuiet_step (fun K hK => ?_); go_simp; split <;> (refine hK _ ?_; clear hK K))))); all_goals (refine wpQuiet_nil ?_; intro _ hw'; obtain ⟨y, hw''⟩ := hw'; subst hw''))
  go_wp2
  go_ret
  exact ⟨rfl, HB7.out.trans y.bel⟩
end Go.Proofs.Ytbilfpoghohddaa
