/- EnforcePasses: the walk. -/
import Derived.Test.YthidbmeocifkcaaG27
import Derived.Test.YthidbmeocifkcaaZElaw2
import Derived.Test.YthidbmeocifkcaaZPwordr
namespace Go.Proofs.Ythidbmeocifkcaa
open Go.RowKit
def passB (p : PP) (w : List PS) (i : Nat) : Bool := (List.range i).all (fun j => goodW p (w.take (j + 1)))
theorem passB_succ (p : PP) (w : List PS) (i : Nat) : passB p w (i + 1) = (passB p w i && goodW p (w.take (i + 1))) := by
  unfold passB
  rw [List.range_succ, List.all_append]
  simp
theorem passB_all {p : PP} {w : List PS} {i : Nat} (h : passB p w i = true) : ∀ j, j < i → goodW p (w.take (j + 1)) = true := fun j hj => List.all_eq_true.1 h j (List.mem_range.2 hj)
theorem pass_len {p : PP} {w : List PS} {i : Nat} {s : EnS} (h : PassI p w i s) (hi : i ≤ w.length) : s.out.length + s.held.length = i := by
  obtain ⟨w1, w2, e1, e2, _, e4, _⟩ := h.split
  have h1 := congrArg List.length e1
  have h2 := congrArg List.length e4
  simp at h1 h2
  omega
theorem pass_del {p : PP} {w : List PS} {i : Nat} {s : EnS} (h : PassI p w i s) : DelW s.out (w.take i) := by
  obtain ⟨w1, w2, e1, e2, e3, _⟩ := h.split
  exact delW_of (by rw [e1]; exact delL_more _ _ _ e3) h.ch
theorem pass_rise {p : PP} {w : List PS} {i : Nat} {s : EnS} (h : PassI p w i s) (hok : EnOk p s) : RiseW s.out := rise_chain h.ch (fun u hu => by
  have h1 := (chain_end s.out 0 h.ch).2 u hu
  rw [← h.t] at h1
  have h2 := hok.t
  have h3 := hok.came
  have h4 := hok.c200
  omega)
theorem pass_puts {stp : Pt → Int → Int → Pt} {p : PP} {w : List PS} {i : Nat} {s : EnS} {a : PS} (hc : rpchk p = 0) (hs : smallM p = true) (h : PassI p w i s) (hi : i < w.length) (hl : w.length ≤ 7) : putsM stp (mostM p) a.at_ (heldW a.at_ (s.held ++ [a.ev])) s.x s.t + 1 < 9223372036854775807 :=
  event_puts hc hs (by have := pass_len h (by omega); omega)
set_option maxRecDepth 100000 in
set_option maxHeartbeats 4000000 in
theorem epasses_any (p : PP) (gv ev sv : Value) (l : List PS) (W : World) (h : PropAt W W.heap.size gv ev p) (hw : p.wf) (hl : StampsAt W W.heap.size sv l) :
    Calls Try.prog 8 #[.agg #[.int .i64 p.evs, .int .i64 p.clks, .int .i64 p.ini, gv, ev], sv] W fun e w' => e = .returned (.bool true) ∧ Bel W w' := by
  have HP := Lib.hid h
  have HL := Lib.hid hl
  have HWF := Lib.hid hw
  have HBY := Lib.hid (fun (V : World) (hV : Bel W V) => beyond_any p gv ev V (h.bel hV))
  obtain ⟨A1, k1, rfl, _⟩ := h.g.form
  obtain ⟨A2, k2, rfl, _⟩ := h.e.form
  obtain ⟨A, c, rfl, _⟩ := hl.form
  clear h hl hw
  go_enter Try.func8, Try.ntmps8
  go_upto_region 1 with (fail)
  generalize hW1 : World.alloc W _ = W1 at *
  have rb : RowAt W1 W.heap.size 25 [.int .i64 p.evs, .int .i64 p.clks, .int .i64 p.ini, .slice A1 p.good.length k1, .slice A2 p.edges.length k2] := by rw [← hW1]; exact RowAt.new _ _ _
  have hB1 : Bel W W1 := by rw [← hW1]; exact Bel.refl.alloc _
  clear hW1
  obtain ⟨bp, hbp⟩ : ∃ b, b = W.heap.size := ⟨_, rfl⟩
  rw [← hbp] at rb ⊢
  clear hbp
  have HRB := Lib.hid rb
  have HB1 := Lib.hid hB1
  clear rb hB1
  go_wp2_with fail
  refine (shown36_any W1).mono ?_
  rintro e W2 ⟨rfl, hB⟩
  have HB2 := Lib.hid (HB1.out.trans hB)
  have HR2 := Lib.hid (HRB.out.bel hB)
  clear HB1 HRB hB
  have q0 := HR2.out.cell (i := 0) rfl
  have q1 := HR2.out.cell (i := 1) rfl
  have q2 := HR2.out.cell (i := 2) rfl
  have q3 := HR2.out.cell (i := 3) rfl
  have q4 := HR2.out.cell (i := 4) rfl
  have qz := HR2.out.lt
  go_wp2_with fail
  refine (HBY.out W2 HB2.out).mono ?_
  rintro e W3 ⟨rfl, hB⟩
  have HB3 := Lib.hid (HB2.out.trans hB)
  have HR3 := Lib.hid (HR2.out.bel hB)
  clear HB2 HR2 hB q0 q1 q2 q3 q4 qz HBY
  cases hby : beyondM p
  case true =>
    go_wp2
    go_ret
    exact ⟨rfl, HB3.out⟩
  have HS := Lib.hid (beyond_sized hby HWF.out)
  clear hby
  have q0 := HR3.out.cell (i := 0) rfl
  have q1 := HR3.out.cell (i := 1) rfl
  have q2 := HR3.out.cell (i := 2) rfl
  have q3 := HR3.out.cell (i := 3) rfl
  have q4 := HR3.out.cell (i := 4) rfl
  have qz := HR3.out.lt
  go_wp2_with fail
  refine (small_any p _ _ W3 (HP.out.bel HB3.out) HS.out).mono ?_
  rintro e W4 ⟨rfl, hB⟩
  have HB4 := Lib.hid (HB3.out.trans hB)
  have HR4 := Lib.hid (HR3.out.bel hB)
  clear HB3 HR3 hB q0 q1 q2 q3 q4 qz
  cases hsm : smallM p
  case false =>
    go_wp2
    go_ret
    exact ⟨rfl, HB4.out⟩
  have HSM := Lib.hid hsm
  clear hsm
  by_cases h7 : 7 < l.length
  · have t1 : decide (7 < l.length) = true := decide_eq_true h7
    have t2 : decide ((7 : Int) < (l.length : Int)) = true := decide_eq_true (by omega)
    clear h7
    go_wp2
    go_ret
    exact ⟨rfl, HB4.out⟩
  have t1 : decide (7 < l.length) = false := decide_eq_false h7
  have t2 : decide ((7 : Int) < (l.length : Int)) = false := decide_eq_false (by omega)
  have HLEN : Hid (l.length ≤ 7) := Lib.hid (by omega)
  clear h7
  have q0 := HR4.out.cell (i := 0) rfl
  have q1 := HR4.out.cell (i := 1) rfl
  have q2 := HR4.out.cell (i := 2) rfl
  have q3 := HR4.out.cell (i := 3) rfl
  have q4 := HR4.out.cell (i := 4) rfl
  have qz := HR4.out.lt
  go_wp2_with fail
  refine (rword_any p _ _ _ l W4 (HP.out.bel HB4.out) HS.out (HL.out.bel HB4.out) (by have := HLEN.out; omega)).mono ?_
  rintro e W6 ⟨rfl, hB⟩
  have HB6 := Lib.hid (HB4.out.trans hB)
  have HR6 := Lib.hid (HR4.out.bel hB)
  clear HB4 HR4 hB q0 q1 q2 q3 q4 qz t1 t2
  by_cases hc : rpword p l = 0
  case neg =>
    have t1 : (rpword p l == 0) = false := by simpa using hc
    have t2 : (rpword p l != 0) = true := by simpa using hc
    generalize rpword p l = er at *
    clear hc
    go_wp2
    go_ret
    exact ⟨rfl, HB6.out⟩
  have HC := Lib.hid hc
  have HCK := Lib.hid (rpword_ok hc).1
  have HV := Lib.hid (pvalid_of (rpword_ok hc).1)
  rw [hc]
  clear hc
  have q0 := HR6.out.cell (i := 0) rfl
  have q1 := HR6.out.cell (i := 1) rfl
  have q2 := HR6.out.cell (i := 2) rfl
  have q3 := HR6.out.cell (i := 3) rfl
  have q4 := HR6.out.cell (i := 4) rfl
  have qz := HR6.out.lt
  go_wp2_with fail
  refine (new_any p _ _ W6 (HP.out.bel HB6.out) HS.out).mono ?_
  rintro e W5 hN
  clear q0 q1 q2 q3 q4 qz
  rcases hN with ⟨hc, _⟩ | ⟨_, bf, bm, wm, rfl, hbm, hE⟩
  · exact absurd HCK.out hc
  have hB5 : Bel W6 W5 := hbm.trans hE.b.bel
  have HBM := Lib.hid (HB6.out.trans hbm)
  have HRM := Lib.hid (HR6.out.bel hbm)
  have HE5 := Lib.hid hE
  have HGO := Lib.hid (fun (sv : Value) (u : List PS) (V : World) (hV : Bel W V) (hu : StampsAt V V.heap.size sv u) (hr : RiseW u) (hl : u.length ≤ 1000000) => good_any p _ _ sv u V (HP.out.bel hV) HS.out HV.out hu hr hl)
  clear hbm hB5 hE HB6 HR6
  have HP0 : Hid (PassI p l 0 (en0 p) ∧ EnOk p (en0 p)) := Lib.hid ⟨pass_start HV.out HC.out, en0_ok⟩
  go_wp2
  go_loopw [7, 8] (fun s7 s8 wq => ∃ (i : Nat) (s : EnS) (hv ov : Value), i ≤ l.length ∧ s7 = .bool (passB p l i) ∧ s8 = .int .i64 i ∧ EfAt wm wq bf bm p s hv ov ∧ PassI p l i s ∧ EnOk p s) (fun _ s8 _ => l.length - (intOf s8).toNat)
  case atStart => exact ⟨0, _, _, _, Nat.zero_le _, rfl, rfl, HE5.out, HP0.out.1, HP0.out.2⟩
  case round =>
    clear HE5 HP0
    obtain ⟨i, s, hv, ov, hi, rfl, rfl, hE, hP, hok⟩ := hrel
    have HE := Lib.hid hE
    have HPI := Lib.hid hP
    have HOK := Lib.hid hok
    clear hE hP hok
    have hln := HLEN.out
    by_cases hlt : i < l.length
    case neg =>
      obtain rfl : i = l.length := by omega
      have hdl : decide ((l.length : Int) < (l.length : Int)) = false := by simp
      go_wp2
      go_ret
      exact ⟨rfl, HBM.out.trans HE.out.b.bel⟩
    have hdl : decide ((i : Int) < (l.length : Int)) = true := by simp; omega
    have hil : (i : Int) < (l.length : Int) := by omega
    have hw1 : IntKind.i64.wrap ((i : Int) + 1) = ((i + 1 : Nat) : Int) := IntWalk.i64_in _ (by omega)
    have hk0 : (0 : Int) ≤ ((i + 1 : Nat) : Int) := by omega
    have hkc : i + 1 ≤ c := by
      obtain ⟨A', c', e, h1, _⟩ := HL.out
      injection e with _ _ e
      omega
    have hkC : ((i + 1 : Nat) : Int) ≤ (c : Int) := by omega
    have HTL : Hid ((l.take (i + 1)).length = i + 1) := Lib.hid (by simp; omega)
    have HT := Lib.hid (fun (V : World) (hV : Bel wr V) => (stamps_take (HL.out.bel (HBM.out.trans (HE.out.b.bel.trans hV))) (k := i + 1) (by omega) : StampsAt V V.heap.size (.slice A (i + 1) c) (l.take (i + 1))))
    have HGK := Lib.hid (fun (V : World) (hV : Bel wr V) => HGO.out (.slice A (i + 1) c) (l.take (i + 1)) V (HBM.out.trans (HE.out.b.bel.trans hV)) (HT.out V hV) (rise_take (rise_of HC.out) (i + 1)) (by rw [HTL.out]; omega))
    have q0 := (HRM.out.bel HE.out.b.bel).cell (i := 0) rfl
    have q1 := (HRM.out.bel HE.out.b.bel).cell (i := 1) rfl
    have q2 := (HRM.out.bel HE.out.b.bel).cell (i := 2) rfl
    have q3 := (HRM.out.bel HE.out.b.bel).cell (i := 3) rfl
    have q4 := (HRM.out.bel HE.out.b.bel).cell (i := 4) rfl
    have qz := (HRM.out.bel HE.out.b.bel).lt
    go_upto_region 12 with (fail)
    go_cut [7] from 49 to 57 (fun s7 wx => s7 = .bool (passB p l (i + 1)) ∧ ∃ z : Ext wr, wx = z.w)
    case first =>
      cases hb : passB p l i
      · (refine wp_region_ext (wb := wr) (by (repeat (first | exact Ext.bel _ | exact Bel.refl | refine Bel.alloc ?_ _ | refine Bel.drew ?_ | refine Bel.drewN ?_ _))) (by kernel_rfl) (by kernel_rfl) ?_; (repeat (any_goals (first | go_big_quiet_step (fail) | quiet_step (fail) | (refine wpQuiet_step (fun K hK => ?_); go_simp; split <;> (refine hK _ ?_; clear hK K))))); all_goals (refine wpQuiet_nil ?_; intro _ hw'; obtain ⟨y, hw''⟩ := hw'; subst hw''))
        go_wp2
        go_meet
        case rel => exact ⟨by rw [passB_succ, hb]; rfl, y, rfl⟩
      · cases hg : goodW p (l.take (i + 1))
        · have HGG := HGK
          rw [hg] at HGG
          (refine wp_region_ext (wb := wr) (by (repeat (first | exact Ext.bel _ | exact Bel.refl | refine Bel.alloc ?_ _ | refine Bel.drew ?_ | refine Bel.drewN ?_ _))) (by kernel_rfl) (by kernel_rfl) ?_; (repeat (any_goals (first | go_big_quiet_step ((go_at_call 23; with_reducible exact ext_call (HGG.out _ (Ext.bel _)))) | quiet_step ((go_at_call 23; with_reducible exact ext_call (HGG.out _ (Ext.bel _)))) | (refine wpQuiet_step (fun K hK => ?_); go_simp; split <;> (refine hK _ ?_; clear hK K))))); all_goals (refine wpQuiet_nil ?_; intro _ hw'; obtain ⟨y, hw''⟩ := hw'; subst hw''))
          go_wp2
          go_meet
          case rel => exact ⟨by rw [passB_succ, hb, hg]; rfl, y, rfl⟩
        · have HGG := HGK
          rw [hg] at HGG
          (refine wp_region_ext (wb := wr) (by (repeat (first | exact Ext.bel _ | exact Bel.refl | refine Bel.alloc ?_ _ | refine Bel.drew ?_ | refine Bel.drewN ?_ _))) (by kernel_rfl) (by kernel_rfl) ?_; (repeat (any_goals (first | go_big_quiet_step ((go_at_call 23; with_reducible exact ext_call (HGG.out _ (Ext.bel _)))) | quiet_step ((go_at_call 23; with_reducible exact ext_call (HGG.out _ (Ext.bel _)))) | (refine wpQuiet_step (fun K hK => ?_); go_simp; split <;> (refine hK _ ?_; clear hK K))))); all_goals (refine wpQuiet_nil ?_; intro _ hw'; obtain ⟨y, hw''⟩ := hw'; subst hw''))
          go_wp2
          go_meet
          case rel => exact ⟨by rw [passB_succ, hb, hg]; rfl, y, rfl⟩
    case rest =>
    obtain ⟨rfl, y, hy⟩ := hcut
    subst hy
    have HE2 := Lib.hid (HE.out.after y.bel)
    clear q0 q1 q2 q3 q4 qz HGK HT HE
    generalize y.w = W2 at *
    clear y
    obtain ⟨bl, ol, rfl, hbl, hA⟩ := HL.out.at_ (by omega)
    obtain ⟨a0, a1⟩ := hA i hlt
    replace a0 := ((HBM.out.trans HE2.out.b.bel).cells _ _ hbl).trans a0
    replace a1 := ((HBM.out.trans HE2.out.b.bel).cells _ _ hbl).trans a1
    have az := Nat.lt_of_lt_of_le hbl (HBM.out.trans HE2.out.b.bel).le
    obtain ⟨ps1, ps2, ps3, ps4, ps5⟩ := pass_step HV.out HC.out HLEN.out hlt HOK.out HPI.out
    have HI4 := Lib.hid ps4
    have HI5 := Lib.hid ps5
    have HI3 := Lib.hid ps3
    have HOK2 := Lib.hid (event_okP HV.out HOK.out (psAt l i))
    have HOKW := Lib.hid ((wordOk HC.out).ok _ (ps_mem hlt))
    have HPU : Hid (putsM (stepP p) (mostM p) (psAt l i).at_ (heldW (psAt l i).at_ (s.held ++ [(psAt l i).ev])) s.x s.t + 1 < 9223372036854775807) := Lib.hid (pass_puts HCK.out HSM.out HPI.out hlt HLEN.out)
    clear hA ps1 ps2 ps3 ps4 ps5
    go_wp2_with fail
    refine (event_any (psAt l i) HE2.out HOK.out HV.out HS.out (rpchk_evs HCK.out) ⟨by have := HOKW.out; unfold i64; omega, HOKW.out.2.2⟩ (fun _ _ => HPU.out)).mono ?_
    rintro e W3 ⟨v3, hv3, ov3, rfl, hE3, _, _, ho3, _⟩
    obtain ⟨A3, c3, rfl, _⟩ := own_slice ho3
    rw [HI3.out]
    have HE3 := Lib.hid hE3
    have HUE : Hid ((eventP p s (psAt l i)).2.1.length = 0 ∨ (eventP p s (psAt l i)).1.held.length = 0) := Lib.hid (by
      rcases Nat.eq_zero_or_pos (eventP p s (psAt l i)).2.1.length with h | h
      · exact .inl h
      · right; rw [HI5.out (fun e => by rw [e] at h; simp at h)]; rfl)
    clear hE3 ho3 a0 a1 az HE2 HI5 HI3 HOK HPI HOKW HPU
    generalize eventP p s (psAt l i) = rP at *
    obtain ⟨s2, u, er⟩ := rP
    dsimp only at HE3 HI4 HOK2 HUE ⊢
    have HOL : Hid (s2.out.length ≤ 200) := Lib.hid (by have h1 := HOK2.out.came; have h2 := HOK2.out.c200; omega)
    go_wp2_with fail
    refine (eout_any HE3.out (by have := HOL.out; omega)).mono ?_
    rintro e W4 ⟨vo, rfl, hoo, hB⟩
    obtain ⟨Ao, co, rfl, _⟩ := own_slice hoo
    have HE4 := Lib.hid (HE3.out.after hB)
    have HSO := Lib.hid (stamps_own rfl hoo)
    clear hB hoo HE3
    have HT := Lib.hid (fun (V : World) (hV : Bel W4 V) => (stamps_take (HL.out.bel (HBM.out.trans (HE4.out.b.bel.trans hV))) (k := i + 1) (by omega) : StampsAt V V.heap.size (.slice (some ⟨bl, ol, none⟩) (i + 1) c) (l.take (i + 1))))
    have hlen2 := pass_len HI4.out (by omega)
    have g1 : (((s2.out.length : Int) + (s2.held.length : Int)) != ((i + 1 : Nat) : Int)) = false := by simp; omega
    have hw2 : IntKind.i64.wrap ((s2.out.length : Int) + (s2.held.length : Int)) = (s2.out.length : Int) + (s2.held.length : Int) := IntWalk.i64_in _ (by omega)
    have q0 := (HRM.out.bel HE4.out.b.bel).cell (i := 0) rfl
    have q1 := (HRM.out.bel HE4.out.b.bel).cell (i := 1) rfl
    have q2 := (HRM.out.bel HE4.out.b.bel).cell (i := 2) rfl
    have q3 := (HRM.out.bel HE4.out.b.bel).cell (i := 3) rfl
    have q4 := (HRM.out.bel HE4.out.b.bel).cell (i := 4) rfl
    have qz := (HRM.out.bel HE4.out.b.bel).lt
    go_upto_region 15 with (fail)
    go_cut [110] from 69 to 110 (fun s110 wx => s110 = .bool false ∧ ∃ z : Ext W4, wx = z.w)
    case first =>
      by_cases ho : 0 < s2.out.length
      · have d3 : decide (0 < s2.out.length) = true := decide_eq_true ho
        have d4 : decide ((0 : Int) < (s2.out.length : Int)) = true := decide_eq_true (by omega)
        have HGD : Hid (goodW p s2.out = true) := Lib.hid (HI4.out.good (fun e => by rw [e] at ho; simp at ho))
        clear ho
        go_wp2_with fail
        refine (HGO.out _ s2.out W4 (HBM.out.trans HE4.out.b.bel) HSO.out (pass_rise HI4.out HOK2.out) (by have := HOL.out; omega)).mono ?_
        rintro e W5 ⟨rfl, hB⟩
        rw [HGD.out]
        have HZ5 := Lib.hid hB
        clear hB q0 q1 q2 q3 q4 qz
        go_wp2_with fail
        refine (delayed_any _ _ s2.out (l.take (i + 1)) W5 (HSO.out.bel HZ5.out) (HT.out _ HZ5.out) (pass_del HI4.out) (by have := HOL.out; omega) (by rw [HTL.out]; omega)).mono ?_
        rintro e W7 ⟨rfl, hB⟩
        have HZ7 : Hid (Bel W4 W7) := Lib.hid (Bel.trans HZ5.out hB)
        clear hB
        go_wp2_with fail
        refine (eheld_any (HE4.out.after HZ7.out)).mono ?_
        rintro e W8 ⟨rfl, hw⟩
        have HZ8 : Hid (Bel W4 W8) := Lib.hid (by rw [← hw]; exact HZ7.out)
        clear hw
        by_cases hu : 0 < u.length
        · have d1 : decide (0 < u.length) = true := decide_eq_true hu
          have d2 : decide ((0 : Int) < (u.length : Int)) = true := decide_eq_true (by omega)
          have hh0 : s2.held.length = 0 := by have := HUE.out; omega
          have HH0 := Lib.hid hh0
          clear hu hh0
          go_wp2_with fail
          refine (eheld_any (HE4.out.after HZ8.out)).mono ?_
          rintro e W9 ⟨rfl, hw⟩
          have HZ9 : Hid (Bel W4 W9) := Lib.hid (by rw [← hw]; exact HZ8.out)
          clear hw
          rw [HH0.out]
          obtain ⟨z, hz⟩ := ext_of HZ9.out
          subst hz
          go_wp2
          go_meet
          case rel => exact ⟨rfl, z, rfl⟩
        · have d1 : decide (0 < u.length) = false := decide_eq_false hu
          have d2 : decide ((0 : Int) < (u.length : Int)) = false := decide_eq_false (by omega)
          obtain ⟨z, hz⟩ := ext_of HZ8.out
          subst hz
          clear hu
          go_wp2
          go_meet
          case rel => exact ⟨rfl, z, rfl⟩
      · have d3 : decide (0 < s2.out.length) = false := decide_eq_false ho
        have d4 : decide ((0 : Int) < (s2.out.length : Int)) = false := decide_eq_false (by omega)
        have HZ5 : Hid (Bel W4 W4) := Lib.hid Bel.refl
        clear ho q0 q1 q2 q3 q4 qz
        go_wp2_with fail
        refine (delayed_any _ _ s2.out (l.take (i + 1)) W4 (HSO.out.bel HZ5.out) (HT.out _ HZ5.out) (pass_del HI4.out) (by have := HOL.out; omega) (by rw [HTL.out]; omega)).mono ?_
        rintro e W7 ⟨rfl, hB⟩
        have HZ7 : Hid (Bel W4 W7) := Lib.hid (Bel.trans HZ5.out hB)
        clear hB
        go_wp2_with fail
        refine (eheld_any (HE4.out.after HZ7.out)).mono ?_
        rintro e W8 ⟨rfl, hw⟩
        have HZ8 : Hid (Bel W4 W8) := Lib.hid (by rw [← hw]; exact HZ7.out)
        clear hw
        by_cases hu : 0 < u.length
        · have d1 : decide (0 < u.length) = true := decide_eq_true hu
          have d2 : decide ((0 : Int) < (u.length : Int)) = true := decide_eq_true (by omega)
          have hh0 : s2.held.length = 0 := by have := HUE.out; omega
          have HH0 := Lib.hid hh0
          clear hu hh0
          go_wp2_with fail
          refine (eheld_any (HE4.out.after HZ8.out)).mono ?_
          rintro e W9 ⟨rfl, hw⟩
          have HZ9 : Hid (Bel W4 W9) := Lib.hid (by rw [← hw]; exact HZ8.out)
          clear hw
          rw [HH0.out]
          obtain ⟨z, hz⟩ := ext_of HZ9.out
          subst hz
          go_wp2
          go_meet
          case rel => exact ⟨rfl, z, rfl⟩
        · have d1 : decide (0 < u.length) = false := decide_eq_false hu
          have d2 : decide ((0 : Int) < (u.length : Int)) = false := decide_eq_false (by omega)
          obtain ⟨z, hz⟩ := ext_of HZ8.out
          subst hz
          clear hu
          go_wp2
          go_meet
          case rel => exact ⟨rfl, z, rfl⟩
    case rest =>
    obtain ⟨rfl, z, hz⟩ := hcut
    subst hz
    have HE6 := Lib.hid (HE4.out.after z.bel)
    have HS6 := Lib.hid (HSO.out.bel z.bel)
    have HT6 := Lib.hid (fun (V : World) (hV : Bel z.w V) => HT.out V (z.bel.trans hV))
    clear q0 q1 q2 q3 q4 qz g1 hw2 hlen2 HE4 HSO HT
    generalize z.w = W6 at *
    clear z
    cases hb : passB p l (i + 1)
    · go_wp2
      go_roundw
      case rel => exact ⟨i + 1, s2, _, _, by omega, by rw [hb], by go_num, HE6.out, HI4.out, HOK2.out⟩
      case measure => simp [intOf]; omega
    · have HSE : Hid (StampsAt W6 W6.heap.size (.slice (some ⟨bl, ol, none⟩) (i + 1) c) s2.out) := Lib.hid (by rw [HI4.out.pass (passB_all hb)]; exact HT6.out W6 Bel.refl)
      have HPB := Lib.hid hb
      clear hb
      go_wp2_with fail
      refine (sameWord_any _ _ s2.out W6 HS6.out HSE.out (by have := HOL.out; omega)).mono ?_
      rintro e W7 ⟨rfl, hB⟩
      have HE7 := Lib.hid (HE6.out.after hB)
      clear hB HE6 HS6 HT6 HSE
      go_wp2
      go_roundw
      case rel => exact ⟨i + 1, s2, _, _, by omega, by rw [HPB.out], by go_num, HE7.out, HI4.out, HOK2.out⟩
      case measure => simp [intOf]; omega
end Go.Proofs.Ythidbmeocifkcaa
