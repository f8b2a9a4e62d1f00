import Derived.Test.YtbncnadjlppknaaSshow
import Derived.Test.YtbncnadjlppknaaTsz
namespace Go.Proofs.Ytbncnadjlppknaa
open Go.RowKit
theorem fixN_first {f : Int → Int} : ∀ (n : Nat) (r : Int), 1 ≤ r → ∀ q, r ≤ q → q < r + n → (fixN f n r = 0 ∨ q < fixN f n r) → f q ≠ q
  | 0, r, _, q, h1, h2, _ => by omega
  | n + 1, r, h, q, h1, h2, h3 => by
    by_cases e : f r = r
    · rw [fixN_t e] at h3; omega
    · by_cases hq : q = r
      · subst hq; exact e
      · rw [fixN_f e] at h3
        exact fixN_first n (r + 1) (by omega) q (by omega) (by omega) h3
/-- what ResponsePoints asks of one task -/
theorem point_law {f : Int → Int} {dl : Int} (hd : 1 ≤ dl) {A : Int} (hA : A = if fixN f dl.toNat 1 = 0 then -1 else fixN f dl.toNat 1) :
    (A = -1 ∧ ∀ r, 1 ≤ r → r ≤ dl → f r ≠ r) ∨ (1 ≤ A ∧ A ≤ dl ∧ f A = A ∧ ∀ r, 1 ≤ r → r < A → f r ≠ r) := by
  rcases fixN_bd (f := f) dl.toNat 1 (by omega) with h | ⟨h1, h2, h3⟩
  · rw [if_pos h] at hA
    exact .inl ⟨hA, fun r a b => fixN_first _ 1 (by omega) r a (by omega) (.inl h)⟩
  · rw [if_neg (by omega)] at hA
    subst hA
    exact .inr ⟨h1, by omega, h3, fun r a b => fixN_first _ 1 (by omega) r a (by omega) (.inr b)⟩
theorem busy_law {l : List Tsk} (h : ¬ busyM l = 0) : 1 ≤ busyM l ∧ busyM l ≤ 20000 ∧ busyF l (busyM l) = busyM l := by
  rcases fixN_bd (f := busyF l) 20000 1 (by omega) with h1 | ⟨h1, h2, h3⟩
  · exact absurd h1 h
  · exact ⟨h1, by unfold busyM; omega, h3⟩
set_option maxRecDepth 100000 in
set_option maxHeartbeats 16000000 in
theorem points_any (v : Value) (l : List Tsk) (w : World) (h : TsksAt w w.heap.size v l) (hl : l.length ≤ 9223372036854775807)
    (hs : ∀ i, i < l.length → (tskAt l i).secs.length ≤ 9223372036854775807 ∧ (tskAt l i).name.size ≤ 9223372036854775807) (hwf : ∀ i, i < l.length → (tskAt l i).wf) :
    Calls Try.prog 5 #[v] w fun e w' => e = .returned (.bool true) ∧ Bel w w' := by
  have HT := Lib.hid h
  have HS := Lib.hid hs
  have HW := Lib.hid hwf
  obtain ⟨A, c, rfl, _⟩ := h.form
  clear h hs hwf
  go_enter Try.func5, Try.ntmps5
  go_wp2_with fail
  refine (shown32_any _).mono ?_
  rintro e w1 ⟨rfl, hB⟩
  have HB1 := Lib.hid hB
  have HT1 := Lib.hid (HT.out.keep hB.keeps hB.le)
  clear hB
  go_wp2_with fail
  refine (beyond_any _ l w1 HT1.out HS.out hl).mono ?_
  rintro e w2 ⟨rfl, hw⟩
  obtain rfl : w1 = w2 := hw.symm
  cases hbe : beyond l
  case true =>
    go_wp2
    go_ret
    exact ⟨rfl, HB1.out⟩
  have HZ := Lib.hid (sized_of hbe HW.out)
  clear hbe
  go_wp2_with fail
  refine (rcheck_any _ l w1 HT1.out HZ.out.len HZ.out.parts).mono ?_
  rintro e w2 ⟨rfl, hB⟩
  have HB2 := Lib.hid (HB1.out.trans hB)
  have HT2 := Lib.hid (HT1.out.keep hB.keeps hB.le)
  clear hB HB1 HT1
  by_cases h0 : rchk l = 0
  case neg =>
    generalize rchk l = ck at *
    have hne : (ck == 0) = false := by simpa using h0
    go_wp2
    go_ret
    exact ⟨rfl, HB2.out⟩
  rw [h0]
  go_wp2_with fail
  refine (rblocking_any _ l w2 HT2.out HZ.out).mono ?_
  rintro e w3 ⟨vb, rfl, hvb, hB, _⟩
  rw [h0, if_pos rfl] at hvb
  rw [h0]
  obtain ⟨Ab, cb, rfl, _⟩ := hvb.form
  have HVB := Lib.hid hvb
  have HB3 := Lib.hid (HB2.out.trans hB)
  have HT3 := Lib.hid (HT2.out.keep hB.keeps hB.le)
  clear hvb hB HB2 HT2
  go_wp2_with fail
  refine (pfixed_any _ l w3 HT3.out HZ.out).mono ?_
  rintro e wk ⟨va, rfl, hva, hB, _⟩
  rw [fixedM_ok h0] at hva ⊢
  dsimp only at hva ⊢
  obtain ⟨Aa, ca, rfl, _⟩ := hva.form
  have HBK := Lib.hid (HB3.out.trans hB)
  have HTK := Lib.hid (HT3.out.keep hB.keeps hB.le)
  have hvbk := HVB.out.keep hB.keeps hB.le
  have hpos := rchk_pos h0
  have hl8 := (rchk_ok h0).1
  have HT0 := Lib.hid (toks_of h0)
  have HBD := Lib.hid (fun i (hi : i < l.length) => blocks_bd h0 hi)
  have rlen : (respR l l.length).length = l.length := by simp [respR]
  have hrg : ∀ i, i < l.length → (respR l l.length).getD i 0 = respM l (blocks l) i := fun i hi => by simp [respR, List.getD, hi]
  have HR0 := Lib.hid (fun hb => busyR_0 h0 hb)
  have HR1 := Lib.hid (fun hb => busyR_1 h0 hb)
  rw [blocks_len] at *
  rw [rlen] at *
  obtain ⟨bt, ot, rfl, hbt, hAT⟩ := HTK.out.at_ hpos
  obtain ⟨bb, ob, rfl, hbb, hAB⟩ := hvbk.at_ (by rw [blocks_len]; exact hpos)
  obtain ⟨ba, oa, rfl, hba, hAA⟩ := hva.at_ (by rw [show (respR l l.length).length = l.length by simp [respR]]; exact hpos)
  have HAT := Lib.hid hAT
  have HAB := Lib.hid (fun i (hi : i < l.length) => hAB i (by rw [blocks_len]; exact hi))
  have HAA : Hid (∀ i, i < l.length → wk.cell? ⟨ba, oa + i, none⟩ = some (.int .i64 (respM l (blocks l) i))) := Lib.hid (fun i hi => by have := hAA i (by rw [show (respR l l.length).length = l.length by simp [respR]]; exact hi); rw [hrg i hi] at this; exact this)
  have HX0 : Hid ((respR l 0).all okB = true) := Lib.hid rfl
  clear hva hvbk hAT hAB hAA hrg hB HB3 HT3 HVB rlen h0
  go_wp2
  go_loopg [8, 9] l.length (fun gk s8 s9 wr => ∃ (i : Nat) (z : Ext wk), i + gk = l.length ∧ s8 = .bool ((respR l i).all okB) ∧ s9 = .int .i64 i ∧ wr = z.w)
  case atStart => exact ⟨0, ⟨wk, Bel.refl⟩, by omega, by rw [HX0.out], rfl, rfl⟩
  case round =>
    clear HX0
    obtain ⟨i, z, hi, rfl, rfl, rfl⟩ := hrel
    obtain ⟨G, hG⟩ : ∃ G, G = gk := ⟨gk, rfl⟩
    rw [← hG] at hi
    by_cases hlt : i < l.length
    · have hdl : decide ((i : Int) < (l.length : Int)) = true := by simp; omega
      have caa := HAA.out i hlt
      have cab := HAB.out i hlt
      obtain ⟨sv, ⟨_, _, _, u3, u4, u5, _⟩, _⟩ := HAT.out i hlt
      have hk := HT0.out _ (tsk_mem hlt)
      obtain ⟨hb1, hb2⟩ := HBD.out i hlt
      have hd1 := hk.d1
      have hd2 : (tskAt l i).dl ≤ 1000 := by have := hk.d2; have := hk.p2; omega
      have hc1 := hk.c1
      have hc2 : (tskAt l i).cost ≤ 1000 := by have := hk.c2; omega
      have hpl := point_law (f := respF l ((tskAt l i).cost + (blocks l).getD i 0) (tskAt l i).prio) hd1 (A := respM l (blocks l) i) rfl
      have hall := respR_all l i
      have HRF : Hid (∀ r, respF l ((tskAt l i).cost + (blocks l).getD i 0) (tskAt l i).prio r = sumB (aboveB (tskAt l i).prio) r ((tskAt l i).cost + (blocks l).getD i 0) l) := Lib.hid (fun r => rfl)
      have HALL := Lib.hid hall
      clear hall hk
      generalize respM l (blocks l) i = A at *
      generalize (blocks l).getD i 0 = q at *
      generalize (tskAt l i).dl = dlI at *
      generalize (tskAt l i).cost = cI at *
      generalize (tskAt l i).prio = pI at *
      have hw0 : IntKind.i64.wrap (cI + q) = cI + q := IntWalk.i64_in _ (by omega)
      have hwd : IntKind.i64.wrap (dlI + 1) = dlI + 1 := IntWalk.i64_in _ (by omega)
      go_upto_region 13 with (fail)
      go_cut [8] from 47 to 163 (fun s8 wx => s8 = .bool ((respR l (i + 1)).all okB) ∧ wx = z.w)
      case first =>
        obtain ⟨ab, hab⟩ : ∃ ab, (respR l i).all okB = ab := ⟨_, rfl⟩
        rw [hab] at HALL ⊢
        clear hab
        cases ab
        all_goals
          go_wp2
          go_meet
          case rel => exact ⟨by rw [HALL.out]; first | rfl | (simp [okB]), rfl⟩
      case rest =>
      obtain ⟨rfl, rfl⟩ := hcut
      rcases hpl with ⟨hA, hfn⟩ | ⟨hA1, hA2, hfA, hfn⟩
      · subst hA
        have a2 : decide (dlI < -1) = false := by simp; omega
        have HFN := Lib.hid hfn
        clear hfn
        go_upto_region 14 with (fail)
        (refine wp_region_ext (wb := wk) (by (repeat (first | exact Ext.bel _ | exact Bel.refl | refine Bel.alloc ?_ _ | refine Bel.drew ?_ | refine Bel.drewN ?_ _))) (by kernel_rfl) (by kernel_rfl) ?_; (repeat (any_goals (first | go_big_quiet_step (fail) | quiet_step (fail) | (refine wpQuiet_step (fun K hK => ?_); go_simp; split <;> (refine hK _ ?_; clear hK K))))); all_goals (refine wpQuiet_nil ?_; intro _ hw'; obtain ⟨y, hw''⟩ := hw'; subst hw''))
        clear z
        go_upto_region 20 with (fail)
        go_loopg [11] 1001 (fun gk s11 wr => ∃ (r : Int) (z : Ext wk), s11 = .int .i64 r ∧ wr = z.w ∧ 1 ≤ r ∧ (gk : Int) + r = 1002)
        case atStart => exact ⟨1, y, rfl, rfl, by omega, by omega⟩
        case round =>
          clear y
          obtain ⟨r, z, rfl, rfl, hr, hg2⟩ := hrel
          obtain ⟨G2, hG2⟩ : ∃ G2, G2 = gk := ⟨gk, rfl⟩
          rw [← hG2] at hg2
          by_cases hrl : r ≤ dlI
          · have hdr : decide (r ≤ dlI) = true := by simpa using hrl
            go_upto_region 22 with (fail)
            (refine wp_region_ext (wb := wk) (by (repeat (first | exact Ext.bel _ | exact Bel.refl | refine Bel.alloc ?_ _ | refine Bel.drew ?_ | refine Bel.drewN ?_ _))) (by kernel_rfl) (by kernel_rfl) ?_; (repeat (any_goals (first | go_big_quiet_step (fail) | quiet_step (fail) | (refine wpQuiet_step (fun K hK => ?_); go_simp; split <;> (refine hK _ ?_; clear hK K))))); all_goals (refine wpQuiet_nil ?_; intro _ hw'; obtain ⟨y, hw''⟩ := hw'; subst hw''))
            clear z
            go_wp2
            go_loopg [12, 13] l.length (fun g3 s12 s13 wr => ∃ (j : Nat) (s : Int) (z : Ext wk), j + g3 = l.length ∧ s12 = .int .i64 s ∧ s13 = .int .i64 j ∧ wr = z.w ∧ 0 ≤ s ∧ s ≤ 2000 + j * 20000000 ∧ sumB (aboveB pI) r s (l.drop j) = sumB (aboveB pI) r (cI + q) l)
            case atStart => exact ⟨0, cI + q, y, by omega, rfl, rfl, rfl, by omega, by omega, rfl⟩
            case round =>
              clear y
              obtain ⟨j, s, z, hj, rfl, rfl, rfl, hs0, hs1, hdr2⟩ := hrel
              obtain ⟨g3, hg3⟩ : ∃ g3, g3 = gk := ⟨gk, rfl⟩
              rw [← hg3] at hj
              by_cases hlj : j < l.length
              · have hdl2 : decide ((j : Int) < (l.length : Int)) = true := by simp; omega
                obtain ⟨sv, ⟨_, v1, _, _, v4, v5, _⟩, _⟩ := HAT.out j hlj
                rw [tsks_drop hlj] at hdr2
                have hk : TOk (tskAt l j) := HT0.out _ (tsk_mem hlj)
                obtain ⟨i1, i2⟩ := job_cost hk hr (by omega)
                obtain ⟨i3, i4⟩ := jobs_bd (p := (tskAt l j).per) hr hk.p1
                have hp1 := hk.p1
                have hp2 := hk.p2
                by_cases hpr : pI < (tskAt l j).prio
                · have HD : Hid (sumB (aboveB pI) r (s + jobsF r (tskAt l j).per * (tskAt l j).cost) (l.drop (j + 1)) = sumB (aboveB pI) r (cI + q) l) := Lib.hid (by rw [← hdr2]; simp [sumB, aboveB, hpr])
                  have hdp : decide (pI < (tskAt l j).prio) = true := by simpa using hpr
                  have htd := jobs_tdiv hr hp1
                  clear hdr2 hk hpr
                  generalize (tskAt l j).per = per at *
                  generalize (tskAt l j).cost = cost at *
                  generalize (tskAt l j).prio = prio at *
                  have hne : ¬ per = 0 := by omega
                  have hw1 : IntKind.i64.wrap (r + per) = r + per := IntWalk.i64_in _ (by omega)
                  have hw2 : IntKind.i64.wrap (r + per - 1) = r + per - 1 := IntWalk.i64_in _ (by omega)
                  generalize jobsF r per = jb at *
                  have hw3 : IntKind.i64.wrap ((r + per - 1).tdiv per) = jb := by rw [htd]; exact IntWalk.i64_in _ (by omega)
                  have hw4 : IntKind.i64.wrap (jb * cost) = jb * cost := IntWalk.i64_in _ (by omega)
                  have hw5 : IntKind.i64.wrap (s + jb * cost) = s + jb * cost := IntWalk.i64_in _ (by omega)
                  have HTD := Lib.hid htd
                  clear htd
                  go_upto_region 26 with (fail)
                  (refine wp_region_ext (wb := wk) (by (repeat (first | exact Ext.bel _ | exact Bel.refl | refine Bel.alloc ?_ _ | refine Bel.drew ?_ | refine Bel.drewN ?_ _))) (by kernel_rfl) (by kernel_rfl) ?_; (repeat (any_goals (first | go_big_quiet_step (fail) | quiet_step (fail) | (refine wpQuiet_step (fun K hK => ?_); go_simp; split <;> (refine hK _ ?_; clear hK K))))); all_goals (refine wpQuiet_nil ?_; intro _ hw'; obtain ⟨y, hw''⟩ := hw'; subst hw''))
                  clear z
                  have z := y
                  go_upto_region 27 with (fail)
                  (refine wp_region_ext (wb := wk) (by (repeat (first | exact Ext.bel _ | exact Bel.refl | refine Bel.alloc ?_ _ | refine Bel.drew ?_ | refine Bel.drewN ?_ _))) (by kernel_rfl) (by kernel_rfl) ?_; (repeat (any_goals (first | go_big_quiet_step (fail) | quiet_step (fail) | (refine wpQuiet_step (fun K hK => ?_); go_simp; split <;> (refine hK _ ?_; clear hK K))))); all_goals (refine wpQuiet_nil ?_; intro _ hw'; obtain ⟨y, hw''⟩ := hw'; subst hw''))
                  go_wp2
                  go_roundg (g3 - 1)
                  case measure => omega
                  case rel => exact ⟨j + 1, _, y, by omega, rfl, by go_num, rfl, by omega, by push_cast; omega, HD.out⟩
                · have HD : Hid (sumB (aboveB pI) r s (l.drop (j + 1)) = sumB (aboveB pI) r (cI + q) l) := Lib.hid (by rw [← hdr2]; simp [sumB, aboveB, hpr])
                  have hdp : decide (pI < (tskAt l j).prio) = false := by simpa using hpr
                  clear hdr2 hk hpr i1 i2 i3 i4
                  generalize (tskAt l j).prio = prio at *
                  go_upto_region 26 with (fail)
                  (refine wp_region_ext (wb := wk) (by (repeat (first | exact Ext.bel _ | exact Bel.refl | refine Bel.alloc ?_ _ | refine Bel.drew ?_ | refine Bel.drewN ?_ _))) (by kernel_rfl) (by kernel_rfl) ?_; (repeat (any_goals (first | go_big_quiet_step (fail) | quiet_step (fail) | (refine wpQuiet_step (fun K hK => ?_); go_simp; split <;> (refine hK _ ?_; clear hK K))))); all_goals (refine wpQuiet_nil ?_; intro _ hw'; obtain ⟨y, hw''⟩ := hw'; subst hw''))
                  go_wp2
                  go_roundg (g3 - 1)
                  case measure => omega
                  case rel => exact ⟨j + 1, _, y, by omega, rfl, by go_num, rfl, by omega, by push_cast; omega, HD.out⟩
              · obtain rfl : j = l.length := by omega
                have hdl2 : decide ((l.length : Int) < (l.length : Int)) = false := by simp
                have hfr : respF l (cI + q) pI r = s := by rw [HRF.out, ← hdr2]; simp [sumB]
                clear hdr2
                have hsr : ¬ s = r := by rw [← hfr]; exact HFN.out r hr (by omega)
                have b1 : (s == r) = false := by simpa using hsr
                have b2 : (r == dlI + 1) = false := by simp; omega
                clear hfr
                go_wp2
                go_roundg (G2 - 1)
                case measure => omega
                case rel => exact ⟨r + 1, z, rfl, rfl, by omega, by omega⟩
          · have hdr : decide (r ≤ dlI) = false := by simpa using hrl
            go_wp2
            go_roundg (G - 1)
            case measure => omega
            case rel => exact ⟨i + 1, z, by omega, rfl, by go_num, rfl⟩
      · have a0 : (A == 0) = false := by simp; omega
        have a1 : decide (A < -1) = false := by simp; omega
        have a2 : decide (dlI < A) = false := by simp; omega
        have a3 : decide (A < 0) = false := by simp; omega
        have HFN := Lib.hid hfn
        have HFA := Lib.hid hfA
        clear hfA
        clear hfn
        go_upto_region 14 with (fail)
        (refine wp_region_ext (wb := wk) (by (repeat (first | exact Ext.bel _ | exact Bel.refl | refine Bel.alloc ?_ _ | refine Bel.drew ?_ | refine Bel.drewN ?_ _))) (by kernel_rfl) (by kernel_rfl) ?_; (repeat (any_goals (first | go_big_quiet_step (fail) | quiet_step (fail) | (refine wpQuiet_step (fun K hK => ?_); go_simp; split <;> (refine hK _ ?_; clear hK K))))); all_goals (refine wpQuiet_nil ?_; intro _ hw'; obtain ⟨y, hw''⟩ := hw'; subst hw''))
        clear z
        go_upto_region 20 with (fail)
        go_loopg [11] 1001 (fun gk s11 wr => ∃ (r : Int) (z : Ext wk), s11 = .int .i64 r ∧ wr = z.w ∧ 1 ≤ r ∧ (gk : Int) + r = 1002)
        case atStart => exact ⟨1, y, rfl, rfl, by omega, by omega⟩
        case round =>
          clear y
          obtain ⟨r, z, rfl, rfl, hr, hg2⟩ := hrel
          obtain ⟨G2, hG2⟩ : ∃ G2, G2 = gk := ⟨gk, rfl⟩
          rw [← hG2] at hg2
          by_cases hrl : r ≤ A
          · have hdr : decide (r ≤ A) = true := by simpa using hrl
            go_upto_region 22 with (fail)
            (refine wp_region_ext (wb := wk) (by (repeat (first | exact Ext.bel _ | exact Bel.refl | refine Bel.alloc ?_ _ | refine Bel.drew ?_ | refine Bel.drewN ?_ _))) (by kernel_rfl) (by kernel_rfl) ?_; (repeat (any_goals (first | go_big_quiet_step (fail) | quiet_step (fail) | (refine wpQuiet_step (fun K hK => ?_); go_simp; split <;> (refine hK _ ?_; clear hK K))))); all_goals (refine wpQuiet_nil ?_; intro _ hw'; obtain ⟨y, hw''⟩ := hw'; subst hw''))
            clear z
            go_wp2
            go_loopg [12, 13] l.length (fun g3 s12 s13 wr => ∃ (j : Nat) (s : Int) (z : Ext wk), j + g3 = l.length ∧ s12 = .int .i64 s ∧ s13 = .int .i64 j ∧ wr = z.w ∧ 0 ≤ s ∧ s ≤ 2000 + j * 20000000 ∧ sumB (aboveB pI) r s (l.drop j) = sumB (aboveB pI) r (cI + q) l)
            case atStart => exact ⟨0, cI + q, y, by omega, rfl, rfl, rfl, by omega, by omega, rfl⟩
            case round =>
              clear y
              obtain ⟨j, s, z, hj, rfl, rfl, rfl, hs0, hs1, hdr2⟩ := hrel
              obtain ⟨g3, hg3⟩ : ∃ g3, g3 = gk := ⟨gk, rfl⟩
              rw [← hg3] at hj
              by_cases hlj : j < l.length
              · have hdl2 : decide ((j : Int) < (l.length : Int)) = true := by simp; omega
                obtain ⟨sv, ⟨_, v1, _, _, v4, v5, _⟩, _⟩ := HAT.out j hlj
                rw [tsks_drop hlj] at hdr2
                have hk : TOk (tskAt l j) := HT0.out _ (tsk_mem hlj)
                obtain ⟨i1, i2⟩ := job_cost hk hr (by omega)
                obtain ⟨i3, i4⟩ := jobs_bd (p := (tskAt l j).per) hr hk.p1
                have hp1 := hk.p1
                have hp2 := hk.p2
                by_cases hpr : pI < (tskAt l j).prio
                · have HD : Hid (sumB (aboveB pI) r (s + jobsF r (tskAt l j).per * (tskAt l j).cost) (l.drop (j + 1)) = sumB (aboveB pI) r (cI + q) l) := Lib.hid (by rw [← hdr2]; simp [sumB, aboveB, hpr])
                  have hdp : decide (pI < (tskAt l j).prio) = true := by simpa using hpr
                  have htd := jobs_tdiv hr hp1
                  clear hdr2 hk hpr
                  generalize (tskAt l j).per = per at *
                  generalize (tskAt l j).cost = cost at *
                  generalize (tskAt l j).prio = prio at *
                  have hne : ¬ per = 0 := by omega
                  have hw1 : IntKind.i64.wrap (r + per) = r + per := IntWalk.i64_in _ (by omega)
                  have hw2 : IntKind.i64.wrap (r + per - 1) = r + per - 1 := IntWalk.i64_in _ (by omega)
                  generalize jobsF r per = jb at *
                  have hw3 : IntKind.i64.wrap ((r + per - 1).tdiv per) = jb := by rw [htd]; exact IntWalk.i64_in _ (by omega)
                  have hw4 : IntKind.i64.wrap (jb * cost) = jb * cost := IntWalk.i64_in _ (by omega)
                  have hw5 : IntKind.i64.wrap (s + jb * cost) = s + jb * cost := IntWalk.i64_in _ (by omega)
                  have HTD := Lib.hid htd
                  clear htd
                  go_upto_region 26 with (fail)
                  (refine wp_region_ext (wb := wk) (by (repeat (first | exact Ext.bel _ | exact Bel.refl | refine Bel.alloc ?_ _ | refine Bel.drew ?_ | refine Bel.drewN ?_ _))) (by kernel_rfl) (by kernel_rfl) ?_; (repeat (any_goals (first | go_big_quiet_step (fail) | quiet_step (fail) | (refine wpQuiet_step (fun K hK => ?_); go_simp; split <;> (refine hK _ ?_; clear hK K))))); all_goals (refine wpQuiet_nil ?_; intro _ hw'; obtain ⟨y, hw''⟩ := hw'; subst hw''))
                  clear z
                  have z := y
                  go_upto_region 27 with (fail)
                  (refine wp_region_ext (wb := wk) (by (repeat (first | exact Ext.bel _ | exact Bel.refl | refine Bel.alloc ?_ _ | refine Bel.drew ?_ | refine Bel.drewN ?_ _))) (by kernel_rfl) (by kernel_rfl) ?_; (repeat (any_goals (first | go_big_quiet_step (fail) | quiet_step (fail) | (refine wpQuiet_step (fun K hK => ?_); go_simp; split <;> (refine hK _ ?_; clear hK K))))); all_goals (refine wpQuiet_nil ?_; intro _ hw'; obtain ⟨y, hw''⟩ := hw'; subst hw''))
                  go_wp2
                  go_roundg (g3 - 1)
                  case measure => omega
                  case rel => exact ⟨j + 1, _, y, by omega, rfl, by go_num, rfl, by omega, by push_cast; omega, HD.out⟩
                · have HD : Hid (sumB (aboveB pI) r s (l.drop (j + 1)) = sumB (aboveB pI) r (cI + q) l) := Lib.hid (by rw [← hdr2]; simp [sumB, aboveB, hpr])
                  have hdp : decide (pI < (tskAt l j).prio) = false := by simpa using hpr
                  clear hdr2 hk hpr i1 i2 i3 i4
                  generalize (tskAt l j).prio = prio at *
                  go_upto_region 26 with (fail)
                  (refine wp_region_ext (wb := wk) (by (repeat (first | exact Ext.bel _ | exact Bel.refl | refine Bel.alloc ?_ _ | refine Bel.drew ?_ | refine Bel.drewN ?_ _))) (by kernel_rfl) (by kernel_rfl) ?_; (repeat (any_goals (first | go_big_quiet_step (fail) | quiet_step (fail) | (refine wpQuiet_step (fun K hK => ?_); go_simp; split <;> (refine hK _ ?_; clear hK K))))); all_goals (refine wpQuiet_nil ?_; intro _ hw'; obtain ⟨y, hw''⟩ := hw'; subst hw''))
                  go_wp2
                  go_roundg (g3 - 1)
                  case measure => omega
                  case rel => exact ⟨j + 1, _, y, by omega, rfl, by go_num, rfl, by omega, by push_cast; omega, HD.out⟩
              · obtain rfl : j = l.length := by omega
                have hdl2 : decide ((l.length : Int) < (l.length : Int)) = false := by simp
                have hfr : respF l (cI + q) pI r = s := by rw [HRF.out, ← hdr2]; simp [sumB]
                clear hdr2
                by_cases hrA : r = A
                · have hsr : s = r := by rw [← hfr, hrA]; exact HFA.out
                  have b1 : (s == r) = true := by simpa using hsr
                  have b2 : (r == A) = true := by simpa using hrA
                  clear hfr hsr hrA
                  go_wp2
                  go_roundg (G2 - 1)
                  case measure => omega
                  case rel => exact ⟨r + 1, z, rfl, rfl, by omega, by omega⟩
                · have hsr : ¬ s = r := by rw [← hfr]; exact HFN.out r hr (by omega)
                  have b1 : (s == r) = false := by simpa using hsr
                  have b2 : (r == A) = false := by simpa using hrA
                  clear hfr
                  go_wp2
                  go_roundg (G2 - 1)
                  case measure => omega
                  case rel => exact ⟨r + 1, z, rfl, rfl, by omega, by omega⟩
          · have hdr : decide (r ≤ A) = false := by simpa using hrl
            go_wp2
            go_roundg (G - 1)
            case measure => omega
            case rel => exact ⟨i + 1, z, by omega, rfl, by go_num, rfl⟩
    · obtain rfl : i = l.length := by omega
      have hdl : decide ((l.length : Int) < (l.length : Int)) = false := by simp
      have hBU := pBusy_any _ l z.w (HTK.out.keep z.bel.keeps z.bel.le) HZ.out
      obtain ⟨ab, hab⟩ : ∃ ab, (respR l l.length).all okB = ab := ⟨_, rfl⟩
      rw [hab]
      clear hab
      by_cases hb : busyM l = 0
      · rw [HR0.out hb] at hBU
        have HBU := Lib.hid hBU
        clear hBU hb
        cases ab
        all_goals
          go_wp2_with (first | (go_at_call 11; (with_reducible refine (HBU.out).mono ?_); rintro e w2 ⟨rfl, hb2⟩; obtain ⟨x, rfl⟩ : ∃ x : Ext wk, w2 = x.w := ext_of (hb2.after (by (repeat (first | exact Ext.bel _ | exact Bel.refl | refine Bel.alloc ?_ _ | refine Bel.drew ?_ | refine Bel.drewN ?_ _)))); clear hb2))
          go_ret
          exact ⟨rfl, HBK.out.trans x.bel⟩
      · rw [HR1.out hb] at hBU
        have HBU := Lib.hid hBU
        obtain ⟨b1, b2, hbf⟩ := busy_law hb
        have HBF := Lib.hid hbf
        have HBS : Hid (busyF l (busyM l) = sumB (fun _ => true) (busyM l) 0 l) := Lib.hid rfl
        clear hBU hb hbf
        generalize busyM l = bm at *
        go_wp2_with (first | (go_at_call 11; (with_reducible refine (HBU.out).mono ?_); rintro e w2 ⟨rfl, hb2⟩; obtain ⟨x, rfl⟩ : ∃ x : Ext wk, w2 = x.w := ext_of (hb2.after (by (repeat (first | exact Ext.bel _ | exact Bel.refl | refine Bel.alloc ?_ _ | refine Bel.drew ?_ | refine Bel.drewN ?_ _)))); clear hb2))
        clear HBU z
        go_loopg [16, 17] l.length (fun gk s16 s17 wr => ∃ (j : Nat) (s : Int) (z : Ext wk), j + gk = l.length ∧ s16 = .int .i64 s ∧ s17 = .int .i64 j ∧ wr = z.w ∧ 0 ≤ s ∧ s ≤ j * 20000000 ∧ sumB (fun _ => true) bm s (l.drop j) = busyF l bm)
        case atStart => exact ⟨0, 0, x, by omega, rfl, rfl, rfl, by omega, by omega, HBS.out.symm⟩
        case round =>
          clear x
          obtain ⟨j, s, z, hj, rfl, rfl, rfl, hs0, hs1, hdr2⟩ := hrel
          by_cases hlj : j < l.length
          · have hdl2 : decide ((j : Int) < (l.length : Int)) = true := by simp; omega
            obtain ⟨sv, ⟨_, v1, _, _, v4, v5, _⟩, _⟩ := HAT.out j hlj
            rw [tsks_drop hlj] at hdr2
            have hk : TOk (tskAt l j) := HT0.out _ (tsk_mem hlj)
            obtain ⟨i1, i2⟩ := job_cost hk b1 (by omega)
            obtain ⟨i3, i4⟩ := jobs_bd (p := (tskAt l j).per) b1 hk.p1
            have hp1 := hk.p1
            have hp2 := hk.p2
            have HD : Hid (sumB (fun _ => true) bm (s + jobsF bm (tskAt l j).per * (tskAt l j).cost) (l.drop (j + 1)) = busyF l bm) := Lib.hid (by rw [← hdr2]; simp [sumB])
            have htd := jobs_tdiv b1 hp1
            clear hdr2 hk
            generalize (tskAt l j).per = per at *
            generalize (tskAt l j).cost = cost at *
            have hne : ¬ per = 0 := by omega
            have hw1 : IntKind.i64.wrap (bm + per) = bm + per := IntWalk.i64_in _ (by omega)
            have hw2 : IntKind.i64.wrap (bm + per - 1) = bm + per - 1 := IntWalk.i64_in _ (by omega)
            generalize jobsF bm per = jb at *
            have hw3 : IntKind.i64.wrap ((bm + per - 1).tdiv per) = jb := by rw [htd]; exact IntWalk.i64_in _ (by omega)
            have hw4 : IntKind.i64.wrap (jb * cost) = jb * cost := IntWalk.i64_in _ (by omega)
            have hw5 : IntKind.i64.wrap (s + jb * cost) = s + jb * cost := IntWalk.i64_in _ (by omega)
            clear htd
            go_upto_region 36 with (fail)
            (refine wp_region_ext (wb := wk) (by (repeat (first | exact Ext.bel _ | exact Bel.refl | refine Bel.alloc ?_ _ | refine Bel.drew ?_ | refine Bel.drewN ?_ _))) (by kernel_rfl) (by kernel_rfl) ?_; (repeat (any_goals (first | go_big_quiet_step (fail) | quiet_step (fail) | (refine wpQuiet_step (fun K hK => ?_); go_simp; split <;> (refine hK _ ?_; clear hK K))))); all_goals (refine wpQuiet_nil ?_; intro _ hw'; obtain ⟨y, hw''⟩ := hw'; subst hw''))
            go_wp2
            go_roundg (gk - 1)
            case measure => omega
            case rel => exact ⟨j + 1, _, y, by omega, rfl, by go_num, rfl, by omega, by push_cast; omega, HD.out⟩
          · obtain rfl : j = l.length := by omega
            have hdl2 : decide ((l.length : Int) < (l.length : Int)) = false := by simp
            have hfr : bm = s := by rw [← HBF.out, ← hdr2]; simp [sumB]
            subst hfr
            have q1 : decide (bm < 1) = false := by simp; omega
            have q2 : decide (20000 < bm) = false := by simp; omega
            clear hdr2 HBF HBS
            cases ab
            all_goals
              go_wp2
              go_ret
              exact ⟨rfl, HBK.out.trans z.bel⟩
end Go.Proofs.Ytbncnadjlppknaa
