/- enforce: Best of the reference: the walk. -/
import Derived.Test.YthidbmeocifkcaaG26
import Derived.Test.YthidbmeocifkcaaZPwordr
import Derived.Deep.CutRange
namespace Go.Proofs.Ythidbmeocifkcaa
open Go.RowKit
theorem search_env {ws : World} {p : PP} {gv ev : Value} {A : Option Addr} {n c : Nat} {w : List PS} (hv : PValid p p.clks.toNat) (hs : PSized p) (hp : PropAt ws ws.heap.size gv ev p) (hw : StampsAt ws ws.heap.size (.slice A n c) w)
    (hok : ∀ s ∈ w, 0 ≤ s.at_ ∧ s.at_ ≤ 1000000 ∧ i64 s.ev) (hl : w.length ≤ 1000) (last : Int) : RtEnv ws p gv ev A c (endL last w) w :=
  ⟨hv, hs, hp, by obtain ⟨A', c', e, h1, h2⟩ := hw; injection e with e1 e2 e3; subst e1 e2 e3; exact ⟨A, c, rfl, h1, h2⟩, hok, hl, fun h => if_pos h⟩
theorem start_lost {sr : List PS → Pt → Int → Option (List Int)} {w : List PS} : LostR sr w (fun _ => false) := fun _ _ _ _ _ h => by simp at h
set_option maxRecDepth 100000 in
set_option maxHeartbeats 16000000 in
theorem rbest_any (p : PP) (gv ev : Value) (A : Option Addr) (c : Nat) (w : List PS) (W : World) (h : PropAt W W.heap.size gv ev p) (hs : PSized p) (hw : StampsAt W W.heap.size (.slice A w.length c) w) (hwl : w.length ≤ 1000000)
    (hN : rpword p w = 0 → longW w = false → ∀ k ≤ w.length, putsM (stepR p) (mostM p) (endL 0 (w.take k)) (w.take k) (start p) 0 + 1 < 9223372036854775807) :
    Calls Try.prog 14 #[.agg #[.int .i64 p.evs, .int .i64 p.clks, .int .i64 p.ini, gv, ev], .slice A w.length c] W (BestPost W (bestR p w)) := by
  have HWD := Lib.hid (fun (V : World) (hV : Bel W V) => rword_any p gv ev (.slice A w.length c) w V (h.bel hV) hs (hw.bel hV) hwl)
  have HP := Lib.hid h
  have HW := Lib.hid hw
  have HS := Lib.hid hs
  have HN := Lib.hid hN
  obtain ⟨A1, k1, rfl, _⟩ := h.g.form
  obtain ⟨A2, k2, rfl, _⟩ := h.e.form
  clear h hw hs hN
  go_enter Try.func14, Try.ntmps14
  go_upto_region 1 with (fail)
  generalize hW1 : World.alloc W _ = W1 at *
  have rb : RowAt W1 W.heap.size 25 [.int .i64 p.evs, .int .i64 p.clks, .int .i64 p.ini, .slice A1 p.good.length k1, .slice A2 p.edges.length k2] := by rw [← hW1]; exact RowAt.new _ _ _
  have hB1 : Bel W W1 := by rw [← hW1]; exact Bel.refl.alloc _
  clear hW1
  obtain ⟨bp, hbp⟩ : ∃ b, b = W.heap.size := ⟨_, rfl⟩
  rw [← hbp] at rb ⊢
  have HBP := Lib.hid hbp
  clear hbp
  have q0 := rb.cell (i := 0) rfl
  have q1 := rb.cell (i := 1) rfl
  have q2 := rb.cell (i := 2) rfl
  have q3 := rb.cell (i := 3) rfl
  have q4 := rb.cell (i := 4) rfl
  have qz := rb.lt
  have HRB := Lib.hid rb
  have HB1 := Lib.hid hB1
  clear rb hB1
  go_wp2_with fail
  refine (HWD.out W1 HB1.out).mono ?_
  rintro e W2 ⟨rfl, hB⟩
  clear q0 q1 q2 q3 q4 qz HWD
  have HB2 := Lib.hid (HB1.out.trans hB)
  have HR2 := Lib.hid (HRB.out.bel hB)
  clear HB1 HRB hB
  have q0 := HR2.out.cell (i := 0) rfl
  have q1 := HR2.out.cell (i := 1) rfl
  have q2 := HR2.out.cell (i := 2) rfl
  have q3 := HR2.out.cell (i := 3) rfl
  have q4 := HR2.out.cell (i := 4) rfl
  have qz := HR2.out.lt
  by_cases hwd : rpword p w = 0
  case neg =>
    have HPO := Lib.hid (bestPost_nil (W := W) (W' := W2) (bestR p w) (er := rpword p w) (by unfold bestR bestM; rw [if_neg hwd]) HB2.out)
    have t1 : (rpword p w == 0) = false := by simpa using hwd
    have t2 : (rpword p w != 0) = true := by simpa using hwd
    generalize rpword p w = er at *
    clear hwd
    go_wp2
    go_ret2
    exact HPO.out
  have HOK := Lib.hid (wordOk hwd)
  have HWD := Lib.hid hwd
  rw [hwd]
  clear hwd
  have hwl2 := HOK.out.len
  cases hlw : longW w
  case true =>
    have HPO := Lib.hid (fun (V : World) (hV : Bel W2 V) => bestPost_nil (W := W) (W' := V) (bestR p w) (er := 3) (by unfold bestR bestM; rw [if_pos HWD.out, hlw]; rfl) (HB2.out.trans hV))
    go_upto_region 4 with (fail)
    by_cases h40 : 40 < w.length
    · have t1 : decide (40 < w.length) = true := decide_eq_true h40
      have t2 : decide ((40 : Int) < (w.length : Int)) = true := decide_eq_true (by omega)
      clear hlw
      (refine wp_region_ext (wb := W2) (by (repeat (first | exact Ext.bel _ | exact Bel.refl | refine Bel.alloc ?_ _ | refine Bel.drew ?_ | refine Bel.drewN ?_ _))) (by kernel_rfl) (by kernel_rfl) ?_; (repeat (any_goals (first | go_big_quiet_step (fail) | quiet_step (fail) | (refine wpQuiet_step (fun K hK => ?_); go_simp; split <;> (refine hK _ ?_; clear hK K))))); all_goals (refine wpQuiet_nil ?_; intro _ hw'; obtain ⟨y, hw''⟩ := hw'; subst hw''))
      go_wp2
      go_ret2
      exact HPO.out _ y.bel
    · have t1 : decide (40 < w.length) = false := decide_eq_false h40
      have t2 : decide ((40 : Int) < (w.length : Int)) = false := decide_eq_false (by omega)
      unfold longW at hlw
      rw [t1, Bool.false_or] at hlw
      simp only [Bool.and_eq_true, decide_eq_true_eq] at hlw
      obtain ⟨hl0, hl1⟩ := hlw
      rw [endW_at hl0] at hl1
      have t3 : decide (0 < w.length) = true := decide_eq_true hl0
      have t4 : decide ((0 : Int) < (w.length : Int)) = true := decide_eq_true (by omega)
      obtain ⟨b, off, rfl, hb, hA⟩ := HW.out.at_ hl0
      obtain ⟨a0, _⟩ := hA 0 hl0
      obtain ⟨e0, _⟩ := hA (w.length - 1) (by omega)
      replace a0 := (HB2.out.cells _ _ hb).trans a0
      replace e0 := (HB2.out.cells _ _ hb).trans e0
      have az := Nat.lt_of_lt_of_le hb HB2.out.le
      have hw0 : IntKind.i64.wrap ((w.length : Int) - 1) = ((w.length - 1 : Nat) : Int) := by
        rw [show (w.length : Int) - 1 = ((w.length - 1 : Nat) : Int) by omega]
        exact IntWalk.i64_in _ (by omega)
      have ho1 := HOK.out.ok _ (ps_mem (l := w) (k := w.length - 1) (by omega))
      have ho2 := HOK.out.ok _ (ps_mem (l := w) (k := 0) (by omega))
      have hw1 : IntKind.i64.wrap ((psAt w (w.length - 1)).at_ - (psAt w 0).at_) = (psAt w (w.length - 1)).at_ - (psAt w 0).at_ := IntWalk.i64_in _ (by omega)
      have t5 : decide (200 < (psAt w (w.length - 1)).at_ - (psAt w 0).at_) = true := decide_eq_true hl1
      have hlt1 : ((w.length - 1 : Nat) : Int) < (w.length : Int) := by omega
      have hlt0 : (0 : Int) < (w.length : Int) := by omega
      generalize hq : w.length - 1 = q at *
      have HQ := Lib.hid hq
      simp only [Nat.zero_mul, Nat.add_zero] at a0
      clear hA ho1 ho2 hl1 hq h40
      (refine wp_region_ext (wb := W2) (by (repeat (first | exact Ext.bel _ | exact Bel.refl | refine Bel.alloc ?_ _ | refine Bel.drew ?_ | refine Bel.drewN ?_ _))) (by kernel_rfl) (by kernel_rfl) ?_; (repeat (any_goals (first | go_big_quiet_step (fail) | quiet_step (fail) | (refine wpQuiet_step (fun K hK => ?_); go_simp; split <;> (refine hK _ ?_; clear hK K))))); all_goals (refine wpQuiet_nil ?_; intro _ hw'; obtain ⟨y, hw''⟩ := hw'; subst hw''))
      go_wp2
      go_ret2
      exact HPO.out _ y.bel
  have HLW := Lib.hid hlw
  go_upto_region 4 with (fail)
  go_cut [39] from 17 to 39 (fun s39 wx => s39 = .bool false ∧ ∃ z : Ext W2, wx = z.w)
  case first =>
    unfold longW at hlw
    simp only [Bool.or_eq_false_iff, Bool.and_eq_false_iff, decide_eq_false_iff_not] at hlw
    obtain ⟨h40, hl1⟩ := hlw
    have t1 : decide (40 < w.length) = false := decide_eq_false h40
    have t2 : decide ((40 : Int) < (w.length : Int)) = false := decide_eq_false (by omega)
    by_cases hl0 : 0 < w.length
    · rw [endW_at hl0] at hl1
      have t3 : decide (0 < w.length) = true := decide_eq_true hl0
      have t4 : decide ((0 : Int) < (w.length : Int)) = true := decide_eq_true (by omega)
      obtain ⟨b, off, rfl, hb, hA⟩ := HW.out.at_ hl0
      obtain ⟨a0, _⟩ := hA 0 hl0
      obtain ⟨e0, _⟩ := hA (w.length - 1) (by omega)
      replace a0 := (HB2.out.cells _ _ hb).trans a0
      replace e0 := (HB2.out.cells _ _ hb).trans e0
      have az := Nat.lt_of_lt_of_le hb HB2.out.le
      have hw0 : IntKind.i64.wrap ((w.length : Int) - 1) = ((w.length - 1 : Nat) : Int) := by
        rw [show (w.length : Int) - 1 = ((w.length - 1 : Nat) : Int) by omega]
        exact IntWalk.i64_in _ (by omega)
      have ho1 := HOK.out.ok _ (ps_mem (l := w) (k := w.length - 1) (by omega))
      have ho2 := HOK.out.ok _ (ps_mem (l := w) (k := 0) (by omega))
      have hw1 : IntKind.i64.wrap ((psAt w (w.length - 1)).at_ - (psAt w 0).at_) = (psAt w (w.length - 1)).at_ - (psAt w 0).at_ := IntWalk.i64_in _ (by omega)
      have t5 : decide (200 < (psAt w (w.length - 1)).at_ - (psAt w 0).at_) = false := decide_eq_false (by omega)
      have hlt1 : ((w.length - 1 : Nat) : Int) < (w.length : Int) := by omega
      have hlt0 : (0 : Int) < (w.length : Int) := by omega
      generalize hq : w.length - 1 = q at *
      have HQ := Lib.hid hq
      simp only [Nat.zero_mul, Nat.add_zero] at a0
      clear hA ho1 ho2 hl1 hq h40
      (refine wp_region_ext (wb := W2) (by (repeat (first | exact Ext.bel _ | exact Bel.refl | refine Bel.alloc ?_ _ | refine Bel.drew ?_ | refine Bel.drewN ?_ _))) (by kernel_rfl) (by kernel_rfl) ?_; (repeat (any_goals (first | go_big_quiet_step (fail) | quiet_step (fail) | (refine wpQuiet_step (fun K hK => ?_); go_simp; split <;> (refine hK _ ?_; clear hK K))))); all_goals (refine wpQuiet_nil ?_; intro _ hw'; obtain ⟨y, hw''⟩ := hw'; subst hw''))
      go_wp2
      go_meet
      case rel => exact ⟨rfl, y, rfl⟩
    · have t3 : decide (0 < w.length) = false := decide_eq_false hl0
      have t4 : decide ((0 : Int) < (w.length : Int)) = false := decide_eq_false (by omega)
      clear hl1 h40
      (refine wp_region_ext (wb := W2) (by (repeat (first | exact Ext.bel _ | exact Bel.refl | refine Bel.alloc ?_ _ | refine Bel.drew ?_ | refine Bel.drewN ?_ _))) (by kernel_rfl) (by kernel_rfl) ?_; (repeat (any_goals (first | go_big_quiet_step (fail) | quiet_step (fail) | (refine wpQuiet_step (fun K hK => ?_); go_simp; split <;> (refine hK _ ?_; clear hK K))))); all_goals (refine wpQuiet_nil ?_; intro _ hw'; obtain ⟨y, hw''⟩ := hw'; subst hw''))
      go_wp2
      go_meet
      case rel => exact ⟨rfl, y, rfl⟩
  case rest =>
  obtain ⟨rfl, y, hy⟩ := hcut
  subst hy
  have HB3 := Lib.hid (HB2.out.trans y.bel)
  have HR3 := Lib.hid (HR2.out.bel y.bel)
  clear q0 q1 q2 q3 q4 qz HR2 HB2 hlw
  generalize y.w = W3 at *
  clear y W2
  have q0 := HR3.out.cell (i := 0) rfl
  have q1 := HR3.out.cell (i := 1) rfl
  have q2 := HR3.out.cell (i := 2) rfl
  have q3 := HR3.out.cell (i := 3) rfl
  have q4 := HR3.out.cell (i := 4) rfl
  have qz := HR3.out.lt
  clear q0 q1 q2 q3 q4 qz
  have HBE : Hid (bestR p w = bestI (fun u => timesR p (start p) 0 u) w w.length) := Lib.hid (by
    unfold bestR bestM bestI
    rw [if_pos HWD.out, if_neg (by rw [HLW.out]; simp), if_neg (by omega), Int.toNat_natCast])
  obtain ⟨z0, hz0⟩ : ∃ z : Ext W3, W3 = z.w := ext_of Bel.refl
  have HZ0 := Lib.hid hz0
  clear hz0
  go_wp2
  go_loopw [7] (fun s7 wq => ∃ (k : Int) (z : Ext W3), -1 ≤ k ∧ k ≤ w.length ∧ s7 = .int .i64 k ∧ wq = z.w ∧ bestR p w = bestI (fun u => timesR p (start p) 0 u) w k) (fun s7 _ => (intOf s7 + 1).toNat)
  case atStart => exact ⟨w.length, z0, by omega, by omega, rfl, HZ0.out, HBE.out⟩
  case round =>
    clear HZ0 z0 HBE
    obtain ⟨k, z, hk1, hk2, rfl, rfl, hbe⟩ := hrel
    have HBE := Lib.hid hbe
    clear hbe
    by_cases hk : 0 ≤ k
    case neg =>
      have hco : decide (0 ≤ k) = false := decide_eq_false hk
      have HPO := Lib.hid (bestPost_nil (W := W) (W' := z.w) (bestR p w) (er := 4) (by rw [HBE.out, bestI_neg (by omega)]) (HB3.out.trans z.bel))
      go_wp2
      go_ret2
      exact HPO.out
    case pos =>
    have hco : decide (0 ≤ k) = true := decide_eq_true hk
    obtain ⟨j, rfl⟩ : ∃ j : Nat, k = j := ⟨k.toNat, by omega⟩
    have hjl : j ≤ w.length := by omega
    have hjL : (j : Int) ≤ (w.length : Int) := by omega
    have hj0 : (0 : Int) ≤ (j : Int) := by omega
    have hjc : j ≤ c := by
      obtain ⟨A', c', e, h1, _⟩ := HW.out
      injection e with _ _ e
      omega
    have hjC : (j : Int) ≤ (c : Int) := by omega
    have htl : (w.take j).length = j := by simp; omega
    have HTL := Lib.hid htl
    have HTE : Hid (srR p (endL 0 (w.take j)) (w.take j) (start p) 0 = timesR p (start p) 0 (w.take j)) := Lib.hid (timesR_eq p (start p) 0 _ (w.take j) (fun h => if_pos h))
    have hmk := @run_makeMap Try.prog
    have HR4 := Lib.hid (HR3.out.bel z.bel)
    have HZB := Lib.hid z.bel
    generalize z.w = wz at *
    clear z htl
    have q0 := HR4.out.cell (i := 0) rfl
    have q1 := HR4.out.cell (i := 1) rfl
    have q2 := HR4.out.cell (i := 2) rfl
    have q3 := HR4.out.cell (i := 3) rfl
    have q4 := HR4.out.cell (i := 4) rfl
    have qz := HR4.out.lt
    go_upto_region 9 with (fail)
    (refine wp_region_E 5 none (by kernel_rfl) ?_; refine anyE_takes [0, 1, 2, 3] (fun _ _ _ _ _ h => h) ⟨⟨_, gro_drew (gro_refl _)⟩, rfl⟩ (by kernel_rfl) (by rfl) ?_; simp only [opsOf, List.filterMap_cons, List.filterMap_nil, List.getElem?_toArray, List.getElem?_cons_succ, List.getElem?_cons_zero, List.foldl_cons, List.foldl_nil]; (repeat (any_goals (first | go_big_quiet_step (fail) | quiet_step (fail)))); refine wpQuiet_nil ?_)
    have G0 : Hid (Bel wz wz.drew) := Lib.hid (gro_bel (gro_drew (gro_refl _)))
    clear q0 q1 q2 q3 q4 qz
    generalize wz.drew = wf at *
    (refine anyE_one 4 _ (by kernel_rfl) (by rfl) (fun K hK => ?_))
    go_simp
    refine hK _ _ (fun _ => ⟨⟨_, gro_of_bel (G0.out.alloc _)⟩, rfl⟩) ?_
    clear hK K hmk
    have HBM := Lib.hid (BSet.made wf Try.prog 81 4)
    (refine anyE_tail 5 (by decide) (by rfl) (by kernel_rfl) ?_; simp only [List.drop_succ_cons, List.drop_zero])
    go_wp2
    refine NoPanic.normal ?_
    generalize hW : World.alloc (World.alloc wf _) _ = W5 at *
    have hB5 : Bel wf W5 := by rw [← hW]; exact (Bel.refl.alloc _).alloc _
    have hrow : RowAt W5 (wf.alloc (.map #[] 0)).heap.size 77 [.int .i64 p.evs, .int .i64 p.clks, .int .i64 p.ini, .slice A1 p.good.length k1, .slice A2 p.edges.length k2, .slice A j c, .map (some wf.heap.size)] := by rw [← hW]; exact RowAt.new _ _ _
    have hset : BSet W5 Try.prog 81 4 wf.heap.size 0 (fun _ => false) := by rw [← hW]; exact HBM.out.alloc _
    clear hW HBM
    have hqs : (wf.alloc (.map #[] 0)).heap.size = wf.heap.size + 1 := by simp [go_sem]
    rw [hqs] at hrow
    have HB5 := Lib.hid (HB3.out.trans (HZB.out.trans (G0.out.trans hB5)))
    have HB35 := Lib.hid (HZB.out.trans (G0.out.trans hB5))
    have HR5 := Lib.hid (HR4.out.bel (G0.out.trans hB5))
    have HSR := Lib.hid hrow
    have HST := Lib.hid hset
    have hle : W.heap.size ≤ wf.heap.size := (HB3.out.trans (HZB.out.trans G0.out)).le
    have HLE := Lib.hid hle
    have HBQ3 : Hid (W3.heap.size ≤ wf.heap.size) := Lib.hid (HZB.out.trans G0.out).le
    clear hrow hset hB5 HR4 HZB G0 hqs hle
    generalize wf.heap.size = bq at *
    clear wf wz
    have q0 := HR5.out.cell (i := 0) rfl
    have q1 := HR5.out.cell (i := 1) rfl
    have q2 := HR5.out.cell (i := 2) rfl
    have q3 := HR5.out.cell (i := 3) rfl
    have q4 := HR5.out.cell (i := 4) rfl
    have qz := HR5.out.lt
    go_wp2_with fail
    refine (rstart_any p _ _ W5 (HP.out.bel HB5.out)).mono ?_
    rintro _ W6 ⟨rfl, hB⟩
    have HB6 := Lib.hid (HB5.out.trans hB)
    have HB36 := Lib.hid (HB35.out.trans hB)
    have HSR6 := Lib.hid (HSR.out.bel hB)
    have HST6 := Lib.hid (HST.out.bel hB)
    clear hB q0 q1 q2 q3 q4 qz HSR HST HB5 HB35 HR5
    have HENV : Hid (RtEnv W p (.slice A1 p.good.length k1) (.slice A2 p.edges.length k2) A c (endL 0 (w.take j)) (w.take j)) := Lib.hid (search_env HOK.out.hv HS.out HP.out (stamps_take HW.out hjl) (fun s hs => HOK.out.ok s (List.mem_of_mem_take hs)) (by rw [HTL.out]; omega) 0)
    have hsr : SrAt W W6 p (bq + 1) bq (.slice A1 p.good.length k1) (.slice A2 p.edges.length k2) A c (endL 0 (w.take j)) (w.take j) (fun _ => false) 0 := ⟨HB6.out, by rw [HTL.out]; exact HSR6.out, HST6.out, start_lost, HLE.out⟩
    have HRT := Lib.hid (rtimes_any HENV.out (w.take j) 0 p.ini 0 0 0 0 W6 (fun _ => false) 0 rfl (Nat.zero_le _) hsr ((start_ok HOK.out.hv).1) ((start_ok HOK.out.hv).2) (Int.le_refl _) (by rw [HTL.out]; omega) (by have := HN.out HWD.out HLW.out j hjl; simp only [start] at this ⊢; omega))
    clear hsr HENV
    go_wp2_with fail
    refine HRT.out.mono ?_
    rintro _ W7 ⟨v, m', N', rfl, hS, hG, _, ho⟩
    have HB7 := Lib.hid hS.bel
    have HB37 : Hid (Bel W3 W7) := Lib.hid (by
      have h1 := HB36.out
      exact ⟨hG.os.trans h1.os, hG.tape.trans h1.tape, hG.output.trans h1.output, Nat.le_trans h1.size hG.size, fun k hk => (hG.block k (Nat.lt_of_lt_of_le hk h1.size) (by have := HBQ3.out; simp; omega)).trans (h1.block k hk)⟩)
    have HO := Lib.hid ho
    rw [show (⟨p.ini, [0, 0, 0]⟩ : Pt) = start p from rfl] at HO ⊢
    rw [HTE.out] at HO ⊢
    clear ho hS hG HRT HSR6 HST6 HB6 HB36
    cases htm : timesR p (start p) 0 (w.take j) with
    | none =>
      simp only [Option.isSome_none]
      have HX : Hid (bestR p w = bestI (fun u => timesR p (start p) 0 u) w ((j : Int) - 1)) := Lib.hid (by rw [HBE.out]; exact bestI_none htm)
      have hw0 : IntKind.i64.wrap ((j : Int) - 1) = (j : Int) - 1 := IntWalk.i64_in _ (by omega)
      clear htm HO
      obtain ⟨z5, hz5⟩ := ext_of HB37.out
      subst hz5
      go_wp2
      go_roundw
      case rel => exact ⟨(j : Int) - 1, z5, by omega, by omega, rfl, rfl, HX.out⟩
      case measure => simp [intOf]
    | some ts =>
      simp only [Option.isSome_some]
      rw [htm] at HO
      have HTS : Hid (ts.length = j) := Lib.hid (by
        have := search_len _ _ _ ts htm
        rw [this]; exact HTL.out)
      have HX : Hid (bestR p w = (madeM w ts, 0)) := Lib.hid (by
        rw [HBE.out, bestI_some htm])
      have HMD := Lib.hid (rmade_any (W := W7) (A := A) (n := w.length) (c := c) (w := w) (ts := ts) (HW.out.bel HB7.out) (IntsAt.of_own HO.out) (by rw [HTS.out]; exact hjl) hwl)
      clear htm HO
      go_wp2_with fail
      refine HMD.out.mono ?_
      rintro _ w6 ⟨v, rfl, hown, hB⟩
      have HPO : Hid (BestPost W (bestR p w) (.returned (.tuple #[v, .int .i64 0])) w6) := Lib.hid (by
        rw [HX.out]
        exact ⟨v, rfl, own_mono hown HB7.out.le, HB7.out.trans hB⟩)
      clear hown hB
      go_wp2
      go_ret2
      exact HPO.out
end Go.Proofs.Ythidbmeocifkcaa
