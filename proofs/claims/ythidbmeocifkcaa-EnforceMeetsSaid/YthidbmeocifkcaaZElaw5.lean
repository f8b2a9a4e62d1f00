/- EnforceMeets: the walk. -/
import Derived.Test.YthidbmeocifkcaaG27
import Derived.Test.YthidbmeocifkcaaZEshow
import Derived.Test.YthidbmeocifkcaaZPwordr
namespace Go.Proofs.Ythidbmeocifkcaa
open Go.RowKit
theorem stamps_nil (w : World) (B : Nat) : StampsAt w B (.slice none 0 0) [] := ⟨none, 0, rfl, Nat.le_refl _, fun h => absurd h (by simp)⟩
set_option maxRecDepth 100000 in
set_option maxHeartbeats 2000000 in
theorem emeets_any (p : PP) (gv ev sv : Value) (l : List PS) (W : World) (h : PropAt W W.heap.size gv ev p) (hw : p.wf) (hl : StampsAt W W.heap.size sv l) :
    Calls Try.prog 7 #[.agg #[.int .i64 p.evs, .int .i64 p.clks, .int .i64 p.ini, gv, ev], sv] W fun e w' => e = .returned (.bool true) ∧ Bel W w' := by
  have HP := Lib.hid h
  have HL := Lib.hid hl
  have HWF := Lib.hid hw
  have HBY := Lib.hid (fun (V : World) (hV : Bel W V) => beyond_any p gv ev V (h.bel hV))
  obtain ⟨A1, k1, rfl, _⟩ := h.g.form
  obtain ⟨A2, k2, rfl, _⟩ := h.e.form
  obtain ⟨A, c, rfl, _⟩ := hl.form
  clear h hl hw
  go_enter Try.func7, Try.ntmps7
  go_upto_region 1 with (fail)
  generalize hW1 : World.alloc W _ = W1 at *
  have rb : RowAt W1 W.heap.size 25 [.int .i64 p.evs, .int .i64 p.clks, .int .i64 p.ini, .slice A1 p.good.length k1, .slice A2 p.edges.length k2] := by rw [← hW1]; exact RowAt.new _ _ _
  have hB1 : Bel W W1 := by rw [← hW1]; exact Bel.refl.alloc _
  clear hW1
  obtain ⟨bp, hbp⟩ : ∃ b, b = W.heap.size := ⟨_, rfl⟩
  rw [← hbp] at rb ⊢
  clear hbp
  have HRB := Lib.hid rb
  have HB1 := Lib.hid hB1
  clear rb hB1
  go_wp2_with fail
  refine (shown36_any W1).mono ?_
  rintro e W2 ⟨rfl, hB⟩
  have HB2 := Lib.hid (HB1.out.trans hB)
  have HR2 := Lib.hid (HRB.out.bel hB)
  clear HB1 HRB hB
  have q0 := HR2.out.cell (i := 0) rfl
  have q1 := HR2.out.cell (i := 1) rfl
  have q2 := HR2.out.cell (i := 2) rfl
  have q3 := HR2.out.cell (i := 3) rfl
  have q4 := HR2.out.cell (i := 4) rfl
  have qz := HR2.out.lt
  go_wp2_with fail
  refine (HBY.out W2 HB2.out).mono ?_
  rintro e W3 ⟨rfl, hB⟩
  have HB3 := Lib.hid (HB2.out.trans hB)
  have HR3 := Lib.hid (HR2.out.bel hB)
  clear HB2 HR2 hB q0 q1 q2 q3 q4 qz HBY
  cases hby : beyondM p
  case true =>
    go_wp2
    go_ret
    exact ⟨rfl, HB3.out⟩
  have HS := Lib.hid (beyond_sized hby HWF.out)
  clear hby
  have q0 := HR3.out.cell (i := 0) rfl
  have q1 := HR3.out.cell (i := 1) rfl
  have q2 := HR3.out.cell (i := 2) rfl
  have q3 := HR3.out.cell (i := 3) rfl
  have q4 := HR3.out.cell (i := 4) rfl
  have qz := HR3.out.lt
  go_wp2_with fail
  refine (small_any p _ _ W3 (HP.out.bel HB3.out) HS.out).mono ?_
  rintro e W4 ⟨rfl, hB⟩
  have HB4 := Lib.hid (HB3.out.trans hB)
  have HR4 := Lib.hid (HR3.out.bel hB)
  clear HB3 HR3 hB q0 q1 q2 q3 q4 qz
  cases hsm : smallM p
  case false =>
    go_wp2
    go_ret
    exact ⟨rfl, HB4.out⟩
  have HSM := Lib.hid hsm
  clear hsm
  go_wp2_with fail
  refine (wide_any _ l W4 (HL.out.bel HB4.out)).mono ?_
  rintro e W5 ⟨rfl, hB⟩
  have HB5 := Lib.hid (HB4.out.trans hB)
  have HR5 := Lib.hid (HR4.out.bel hB)
  clear HB4 HR4 hB
  cases hwd : wideM l
  case true =>
    go_wp2
    go_ret
    exact ⟨rfl, HB5.out⟩
  have HWD := Lib.hid hwd
  clear hwd
  by_cases h7 : 7 < l.length
  · have t1 : decide (7 < l.length) = true := decide_eq_true h7
    have t2 : decide ((7 : Int) < (l.length : Int)) = true := decide_eq_true (by omega)
    clear h7
    go_wp2
    go_ret
    exact ⟨rfl, HB5.out⟩
  have t1 : decide (7 < l.length) = false := decide_eq_false h7
  have t2 : decide ((7 : Int) < (l.length : Int)) = false := decide_eq_false (by omega)
  have HLEN : Hid (l.length ≤ 7) := Lib.hid (by omega)
  clear h7
  have q0 := HR5.out.cell (i := 0) rfl
  have q1 := HR5.out.cell (i := 1) rfl
  have q2 := HR5.out.cell (i := 2) rfl
  have q3 := HR5.out.cell (i := 3) rfl
  have q4 := HR5.out.cell (i := 4) rfl
  have qz := HR5.out.lt
  go_wp2_with fail
  refine (rword_any p _ _ _ l W5 (HP.out.bel HB5.out) HS.out (HL.out.bel HB5.out) (by have := HLEN.out; omega)).mono ?_
  rintro e W6 ⟨rfl, hB⟩
  have HB6 := Lib.hid (HB5.out.trans hB)
  have HR6 := Lib.hid (HR5.out.bel hB)
  clear HB5 HR5 hB q0 q1 q2 q3 q4 qz t1 t2
  by_cases hc : rpword p l = 0
  case neg =>
    have t1 : (rpword p l == 0) = false := by simpa using hc
    have t2 : (rpword p l != 0) = true := by simpa using hc
    generalize rpword p l = er at *
    clear hc
    go_wp2
    go_ret
    exact ⟨rfl, HB6.out⟩
  have HC := Lib.hid hc
  have HV := Lib.hid (pvalid_of (rpword_ok hc).1)
  rw [hc]
  clear hc
  have q0 := HR6.out.cell (i := 0) rfl
  have q1 := HR6.out.cell (i := 1) rfl
  have q2 := HR6.out.cell (i := 2) rfl
  have q3 := HR6.out.cell (i := 3) rfl
  have q4 := HR6.out.cell (i := 4) rfl
  have qz := HR6.out.lt
  go_wp2_with fail
  refine (pbest_any p _ _ A c l W6 (HP.out.bel HB6.out) HS.out (HL.out.bel HB6.out) (by have := HLEN.out; omega) (fun h1 h2 => best_puts h1 h2 HSM.out HWD.out)).mono ?_
  rintro e W7 ⟨v7, rfl, ho7, hB⟩
  have HB7 := Lib.hid (HB6.out.trans hB)
  have HR7 := Lib.hid (HR6.out.bel hB)
  have HGO := Lib.hid (fun (sv : Value) (u : List PS) (V : World) (hV : Bel W V) (hu : StampsAt V V.heap.size sv u) (hr : RiseW u) (hl : u.length ≤ 1000000) => good_any p _ _ sv u V (HP.out.bel hV) HS.out HV.out hu hr hl)
  clear HB6 HR6 hB q0 q1 q2 q3 q4 qz
  have q0 := HR7.out.cell (i := 0) rfl
  have q1 := HR7.out.cell (i := 1) rfl
  have q2 := HR7.out.cell (i := 2) rfl
  have q3 := HR7.out.cell (i := 3) rfl
  have q4 := HR7.out.cell (i := 4) rfl
  have qz := HR7.out.lt
  rcases best_meets HC.out with hb | ⟨hb, hg1, hg2⟩ | ⟨u, hb, hm⟩
  · rw [hb] at ho7 ⊢
    obtain ⟨A7, c7, rfl, _⟩ := own_slice ho7
    clear ho7 hb
    go_wp2
    go_ret
    exact ⟨rfl, HB7.out⟩
  · rw [hb] at ho7 ⊢
    obtain ⟨A7, c7, rfl, _⟩ := own_slice ho7
    have HG1 := Lib.hid hg1
    have HG2 := Lib.hid hg2
    clear ho7 hb hg1 hg2
    go_wp2_with fail
    refine (HGO.out (.slice none 0 0) [] W7 HB7.out (stamps_nil _ _) (fun i hi => absurd hi (by simp)) (by simp)).mono ?_
    rintro e W8 ⟨rfl, hB⟩
    rw [HG1.out]
    have HB8 := Lib.hid (HB7.out.trans hB)
    have HR8 := Lib.hid (HR7.out.bel hB)
    clear HB7 HR7 hB q0 q1 q2 q3 q4 qz
    have q0 := HR8.out.cell (i := 0) rfl
    have q1 := HR8.out.cell (i := 1) rfl
    have q2 := HR8.out.cell (i := 2) rfl
    have q3 := HR8.out.cell (i := 3) rfl
    have q4 := HR8.out.cell (i := 4) rfl
    have qz := HR8.out.lt
    go_wp2_with fail
    refine (HGO.out _ l W8 HB8.out (HL.out.bel HB8.out) (rise_of HC.out) (by have := HLEN.out; omega)).mono ?_
    rintro e W9 ⟨rfl, hB⟩
    rw [HG2.out]
    have HB9 := Lib.hid (HB8.out.trans hB)
    clear HB8 HR8 hB q0 q1 q2 q3 q4 qz
    go_wp2
    go_ret
    exact ⟨rfl, HB9.out⟩
  rw [hb] at ho7 ⊢
  obtain ⟨A7, c7, rfl, _⟩ := own_slice ho7
  have HU7 := Lib.hid (stamps_own rfl ho7)
  have HM := Lib.hid hm
  have HUL : Hid (u.length ≤ 7) := Lib.hid (by have := hm.del.len; have := HLEN.out; omega)
  clear ho7 hb hm
  dsimp only at HU7 ⊢
  go_upto_region 8 with (fail)
  go_cut [82] from 62 to 82 (fun s82 wx => s82 = .bool false ∧ ∃ z : Ext W7, wx = z.w)
  case first =>
    have HR00 := Lib.hid (Bel.refl (w := W7))
    go_wp2_with fail
    refine (HGO.out _ u W7 HB7.out HU7.out HM.out.rise (by have := HUL.out; omega)).mono ?_
    rintro e W8 ⟨rfl, hB⟩
    rw [HM.out.good]
    have HZ8 := Lib.hid hB
    have HB8 := Lib.hid (HB7.out.trans hB)
    have HR8 := Lib.hid (HR7.out.bel hB)
    have HU8 := Lib.hid (HU7.out.bel hB)
    clear HB7 HR7 hB q0 q1 q2 q3 q4 qz HU7
    go_wp2_with fail
    refine (delayed_any _ _ u l W8 HU8.out (HL.out.bel HB8.out) HM.out.del (by have := HUL.out; omega) (by have := HLEN.out; omega)).mono ?_
    rintro e W9 ⟨rfl, hB⟩
    have HZ9 := Lib.hid (HZ8.out.trans hB)
    have HB9 := Lib.hid (HB8.out.trans hB)
    have HR9 := Lib.hid (HR8.out.bel hB)
    have HU9 := Lib.hid (HU8.out.bel hB)
    clear HB8 HR8 hB HU8
    have q0 := HR9.out.cell (i := 0) rfl
    have q1 := HR9.out.cell (i := 1) rfl
    have q2 := HR9.out.cell (i := 2) rfl
    have q3 := HR9.out.cell (i := 3) rfl
    have q4 := HR9.out.cell (i := 4) rfl
    have qz := HR9.out.lt
    go_wp2_with fail
    refine (HGO.out _ l W9 HB9.out (HL.out.bel HB9.out) (rise_of HC.out) (by have := HLEN.out; omega)).mono ?_
    rintro e Wa ⟨rfl, hB⟩
    have HZa := Lib.hid (HZ9.out.trans hB)
    have HBa := Lib.hid (HB9.out.trans hB)
    have HRa := Lib.hid (HR9.out.bel hB)
    have HUa := Lib.hid (HU9.out.bel hB)
    clear HB9 HR9 hB HU9 q0 q1 q2 q3 q4 qz
    cases hg : goodW p l
    · obtain ⟨z, hz⟩ := ext_of HZa.out
      subst hz
      go_wp2
      go_meet
      case rel => exact ⟨rfl, z, rfl⟩
    · have HSA : Hid (StampsAt Wa Wa.heap.size (.slice A7 u.length c7) l) := Lib.hid (by have := HUa.out; rw [HM.out.same hg] at this ⊢; exact this)
      clear hg
      go_wp2_with fail
      refine (sameWord_any _ _ l Wa HSA.out (HL.out.bel HBa.out) (by have := HLEN.out; omega)).mono ?_
      rintro e Wb ⟨rfl, hB⟩
      obtain ⟨z, hz⟩ := ext_of (HZa.out.trans hB)
      subst hz
      go_wp2
      go_meet
      case rel => exact ⟨rfl, z, rfl⟩
  case rest =>
  obtain ⟨rfl, z, hz⟩ := hcut
  subst hz
  have HBb := Lib.hid (HB7.out.trans z.bel)
  have HRb := Lib.hid (HR7.out.bel z.bel)
  clear HB7 HR7 HU7 q0 q1 q2 q3 q4 qz
  generalize z.w = Wb at *
  clear z
  have hln := HLEN.out
  have hul := HUL.out
  have hul2 := HM.out.del.len
  go_wp2
  go_loopw [7] (fun s7 wq => ∃ (k : Nat) (z : Ext Wb), u.length < k ∧ k ≤ l.length + 1 ∧ s7 = .int .i64 k ∧ wq = z.w) (fun s7 _ => l.length + 1 - (intOf s7).toNat)
  case atStart => exact ⟨u.length + 1, ⟨Wb, Bel.refl⟩, by omega, by omega, rfl, rfl⟩
  case round =>
    obtain ⟨k, z, hk1, hk2, rfl, rfl⟩ := hrel
    by_cases hlt : k ≤ l.length
    · have hdl : decide ((k : Int) ≤ (l.length : Int)) = true := decide_eq_true (by omega)
      have hdl2 : decide (k ≤ l.length) = true := decide_eq_true hlt
      have hkL : (k : Int) ≤ (l.length : Int) := by omega
      have hk0 : (0 : Int) ≤ (k : Int) := by omega
      have hkc : k ≤ c := by
        obtain ⟨A', c', e, h1, _⟩ := HL.out
        injection e with _ _ e
        omega
      have hkC : (k : Int) ≤ (c : Int) := by omega
      have hgf := HM.out.less k hk1 hlt
      have htl : (l.take k).length = k := by simp; omega
      have HGK := Lib.hid (fun (V : World) (hV : Bel z.w V) => HGO.out (.slice A k c) (l.take k) V (HBb.out.trans (z.bel.trans hV)) (stamps_take (HL.out.bel (HBb.out.trans (z.bel.trans hV))) hlt) (rise_take (rise_of HC.out) k) (by omega))
      rw [hgf] at HGK
      have q0 := (HRb.out.bel z.bel).cell (i := 0) rfl
      have q1 := (HRb.out.bel z.bel).cell (i := 1) rfl
      have q2 := (HRb.out.bel z.bel).cell (i := 2) rfl
      have q3 := (HRb.out.bel z.bel).cell (i := 3) rfl
      have q4 := (HRb.out.bel z.bel).cell (i := 4) rfl
      have qz := (HRb.out.bel z.bel).lt
      clear hgf htl
      go_upto_region 13 with (fail)
      (refine wp_region_ext (wb := z.w) (by (repeat (first | exact Ext.bel _ | exact Bel.refl | refine Bel.alloc ?_ _ | refine Bel.drew ?_ | refine Bel.drewN ?_ _))) (by kernel_rfl) (by kernel_rfl) ?_; (repeat (any_goals (first | go_big_quiet_step ((go_at_call 23; with_reducible exact ext_call (HGK.out _ (Ext.bel _)))) | quiet_step ((go_at_call 23; with_reducible exact ext_call (HGK.out _ (Ext.bel _)))) | (refine wpQuiet_step (fun K hK => ?_); go_simp; split <;> (refine hK _ ?_; clear hK K))))); all_goals (refine wpQuiet_nil ?_; intro _ hw'; obtain ⟨y, hw''⟩ := hw'; subst hw''))
      obtain ⟨z2, hz2⟩ := ext_of (z.bel.trans y.bel)
      have HZ2 := Lib.hid hz2
      clear hz2 q0 q1 q2 q3 q4 qz HGK
      go_wp2
      go_roundw
      case rel => exact ⟨k + 1, z2, by omega, by omega, by go_num, HZ2.out⟩
      case measure => simp [intOf]; omega
    · have hdl : decide ((k : Int) ≤ (l.length : Int)) = false := decide_eq_false (by omega)
      have hdl2 : decide (k ≤ l.length) = false := decide_eq_false hlt
      go_wp2
      go_ret
      exact ⟨rfl, HBb.out.trans z.bel⟩
end Go.Proofs.Ythidbmeocifkcaa
