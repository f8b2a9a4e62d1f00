import Derived.Test.YtbilfpoghohddaaG9
import Derived.Test.YtbilfpoghohddaaZHrun
namespace Go.Proofs.Ytbilfpoghohddaa
open Go.RowKit
set_option maxRecDepth 100000 in
set_option maxHeartbeats 32000000 in
theorem rrun_ok (v : Value) (l : List Tsk) (pol ticks : Int) (w : World) (h : TsksAt w w.heap.size v l) (hs : Sized l) (h0 : rchk l = 0) (hna : ¬ (pol ≠ 1 ∧ (pol ≠ 2 ∨ secsB l = true))) (ht0 : 0 ≤ ticks) (hlm : ticks ≤ 20000) :
    Calls Try.prog 45 #[v, .int .i64 pol, .int .i64 ticks] w (RunPost (scheduleM l pol ticks) w) := by
  have HC := Lib.hid (fun (W : World) (hW : Bel w W) => rcheck_any v l W (h.keep hW.keeps hW.le) hs.len hs.parts)
  have HA := Lib.hid (fun (W : World) (hW : Bel w W) => allowed_any v l pol W (h.keep hW.keeps hW.le) hs.len)
  have HS := Lib.hid hs
  have HT := Lib.hid h
  obtain ⟨A, c, rfl, hlc⟩ := h.form
  have H0 := Lib.hid h0
  have HAL0 : Hid ((decide (pol = 1) || (decide (pol = 2) && !secsB l)) = true) := Lib.hid (by
    by_cases p1 : pol = 1 <;> by_cases p2 : pol = 2 <;> cases hsb : secsB l <;> simp [p1, p2, hsb] at hna ⊢)
  have HM : Hid (scheduleM l pol ticks = ((endS l pol ticks).stints, (endS l pol ticks).jobs.map (missM l ticks), 0)) := Lib.hid (by unfold scheduleM; rw [if_pos h0, if_neg (fun h => h.elim hna (by omega)), if_neg (by omega)])
  clear h hs h0 hna
  go_enter Try.func45, Try.ntmps45
  go_upto_region 1 with (fail)
  generalize hW : World.alloc w _ = wa at *
  have r6 : RowAt wa w.heap.size 74 [.slice none 0 0, .slice none 0 0] := by rw [← hW]; exact RowAt.new _ _ _
  have hba : Bel w wa := by rw [← hW]; exact Bel.refl.alloc _
  clear hW
  have HR6 := Lib.hid r6
  generalize hn0 : w.heap.size = n0 at *
  have HN0 := Lib.hid hn0
  have HBA := Lib.hid hba
  clear hn0 r6 hba
  go_wp2_with fail
  refine (HC.out _ HBA.out).mono ?_
  rintro e w2 ⟨rfl, hb2⟩
  have HB3 := Lib.hid (HBA.out.trans hb2)
  have HR63 := Lib.hid (HR6.out.bel hb2)
  clear hb2 HR6 HBA HC
  rw [H0.out]
  go_upto_region 4 with (fail)
  go_wp2_with fail
  refine (HA.out _ HB3.out).mono ?_
  rintro e w3 ⟨rfl, hb3⟩
  replace HB3 := Lib.hid (HB3.out.trans hb3)
  replace HR63 := Lib.hid (HR63.out.bel hb3)
  rw [HAL0.out]
  clear hb3 HA HAL0
  have hd0 : decide (ticks < 0) = false := decide_eq_false (by omega)
  have hd : decide (20000 < ticks) = false := decide_eq_false (by omega)
  have HTC := Lib.hid (HT.out.keep (by have := HB3.out.keeps; rw [HN0.out] at this; exact this) (by have := HB3.out.le; rw [HN0.out] at this; exact this))
  go_upto_region 9 with (fail)
  generalize hW : World.alloc w3 _ = W at *
  have rb : RowAt W w3.heap.size 74 [.slice none 0 0, .slice none 0 0] := by rw [← hW]; exact RowAt.new _ _ _
  have HSI : Hid (RefAt W w3.heap.size w3.heap.size (.slice none 0 0) (.slice none 0 0) (.slice none 0 0) ⟨[], [], []⟩) := Lib.hid ⟨rb, World.ownsRow_nil _ _ _ _, World.ownsRow_nil _ _ _ _, World.ownsRow_nil _ _ _ _⟩
  obtain ⟨x0, hx0⟩ := ext_of (show Bel w3 W by rw [← hW]; exact Bel.refl.alloc _)
  clear hW rb
  subst hx0
  obtain ⟨T, hT⟩ : ∃ T : Nat, ticks = T := ⟨ticks.toNat, by omega⟩
  have HTT := Lib.hid hT
  have HEND : Hid (runS l pol T 0 ⟨[], [], []⟩ = endS l pol ticks) := Lib.hid (by unfold endS; rw [hT]; rfl)
  have hT2 : (T : Int) ≤ 20000 := by omega
  generalize hbb : w3.heap.size = b
  have HB0 : Hid (w3.heap.size ≤ b) := Lib.hid (Nat.le_of_eq hbb)
  have HSJ : Hid (RefAt x0.w w3.heap.size b (.slice none 0 0) (.slice none 0 0) (.slice none 0 0) ⟨[], [], []⟩) := Lib.hid (by rw [← hbb]; exact HSI.out)
  clear hbb hT HSI
  have hl8 := (rchk_ok H0.out).1
  have hlp := rchk_pos H0.out
  obtain ⟨ba, off, rfl, hba, hA⟩ := HTC.out.at_ hlp
  have HAT := Lib.hid hA
  clear hA
  go_wp2
  go_loopg [10, 11] T (fun gk s10 s11 wr => ∃ (k : Nat) (z : Ext w3) (vr vs vj : Value) (q : St), k + gk = T ∧ s10 = vr ∧ s11 = .int .i64 k ∧ wr = z.w ∧ RefAt z.w w3.heap.size b vr vs vj q ∧ Inv l ((k : Int) - 1) q ∧ runS l pol gk k q = endS l pol ticks)
  case atStart => exact ⟨0, x0, _, _, _, _, by omega, rfl, rfl, rfl, HSJ.out, Inv0 l, HEND.out⟩
  case round =>
    clear HSJ HEND
    obtain ⟨k, z, vr, vs, vj, q, hk, rfl, rfl, rfl, hq, hi, hd⟩ := hrel
    have HQ := Lib.hid hq
    have HI := Lib.hid hi
    have HD := Lib.hid hd
    clear hq hi hd
    by_cases hlt : k < T
    · have hdl : decide ((k : Int) < ticks) = true := decide_eq_true (by have := HTT.out; omega)
      obtain ⟨g', rfl⟩ : ∃ g', gk = g' + 1 := ⟨gk - 1, by omega⟩
      have HIT := Lib.hid (tick_inv (pol := pol) H0.out (t := (k : Int)) (by omega) HI.out)
      have b1 := HI.out.rl
      have b2 := HI.out.jl
      have hlk : (l.length : Int) * ((k : Int) - 1 + 1) ≤ 8 * 20000 := Int.mul_le_mul (by omega) (by omega) (by omega) (by omega)
      have hjq : q.jobs.length ≤ 160000 := by omega
      have hrq : q.ready.length ≤ 160000 := by omega
      have HD2 : Hid (runS l pol g' ((k + 1 : Nat) : Int) (tickM l pol k q) = endS l pol ticks) := Lib.hid (by have := HD.out; rw [runS_succ] at this; push_cast; exact this)
      have HGK := Lib.hid hk
      have hkT : k + g' + 1 = T := by omega
      clear HD HI b1 b2 hlk hk
      have HDR : Hid (relJ (k : Int) 0 (l.drop 0) q = relJ k 0 l q) := Lib.hid rfl
      go_wp2
      go_loopg [10, 12] l.length (fun gk2 s10 s12 wr => ∃ (i : Nat) (y : Ext w3) (vr vj : Value) (p : St), i + gk2 = l.length ∧ s10 = vr ∧ s12 = .int .i64 i ∧ wr = y.w ∧ RefAt y.w w3.heap.size b vr vs vj p ∧ relJ (k : Int) i (l.drop i) p = relJ k 0 l q ∧ p.jobs.length ≤ 160000 + i ∧ p.ready.length ≤ 160000 + i)
      case atStart => exact ⟨0, z, _, _, q, by omega, rfl, rfl, rfl, HQ.out, HDR.out, by omega, by omega⟩
      case round =>
        clear HQ HDR hjq hrq z
        obtain ⟨i, y1, vr, vj, p, hi, rfl, rfl, rfl, hp, hd, hpj, hpr⟩ := hrel
        have HP := Lib.hid hp
        clear hp
        by_cases hlt2 : i < l.length
        · have hdl2 : decide ((i : Int) < (l.length : Int)) = true := by simp; omega
          have hil : (i : Int) < (l.length : Int) := by omega
          obtain ⟨sv, ⟨_, t1, t2, _, _, _, _⟩, _⟩ := HAT.out i hlt2
          have hok := tok_at H0.out hlt2
          obtain ⟨_, _, _, _, _, o1, o2, _⟩ := tskBad_false.1 ((rchk_ok H0.out).2 i hlt2).1
          have hp1 := hok.p1
          have hp2 := hok.p2
          rw [tsks_drop hlt2] at hd
          simp only [relJ] at hd
          have HD := Lib.hid hd
          have HDU : Hid (dueJ k (tskAt l i) = (decide ((tskAt l i).off ≤ k) && decide (((k : Int) - (tskAt l i).off) % (tskAt l i).per = 0))) := Lib.hid rfl
          have HNM : Hid (numJ k (tskAt l i) = ((k : Int) - (tskAt l i).off) / (tskAt l i).per) := Lib.hid rfl
          clear hd hok
          go_upto_region 16 with (fail)
          by_cases h1 : (tskAt l i).off ≤ (k : Int)
          · have q1 : decide ((tskAt l i).off ≤ (k : Int)) = true := by simpa using h1
            have hws : IntKind.i64.wrap ((k : Int) - (tskAt l i).off) = (k : Int) - (tskAt l i).off := IntWalk.i64_in _ (by omega)
            have htm : ((k : Int) - (tskAt l i).off).tmod (tskAt l i).per = ((k : Int) - (tskAt l i).off) % (tskAt l i).per := Int.tmod_eq_emod_of_nonneg (by omega)
            have htd : ((k : Int) - (tskAt l i).off).tdiv (tskAt l i).per = ((k : Int) - (tskAt l i).off) / (tskAt l i).per := Int.tdiv_eq_ediv_of_nonneg (by omega)
            have hne : ((tskAt l i).per == 0) = false := by rw [beq_eq_false_iff_ne]; omega
            by_cases h2 : ((k : Int) - (tskAt l i).off) % (tskAt l i).per = 0
            · have HDF : Hid (dueJ k (tskAt l i) = true) := Lib.hid (by rw [HDU.out]; simp [h1, h2])
              have HD2 := HD.out
              rw [HDF.out, if_pos rfl] at HD2
              replace HD := Lib.hid HD2
              have hnb := num_bd H0.out hlt2 h1
              have hm := HNM.out
              clear HD2 HDF HDU HNM
              generalize numJ (k : Int) (tskAt l i) = nm at *
              have hdv : ((k : Int) - (tskAt l i).off) / (tskAt l i).per = nm := hm.symm
              have hwn : IntKind.i64.wrap nm = nm := IntWalk.i64_in _ (by omega)
              clear hm
              (refine wp_region_ext (wb := y1.w) (by (repeat (first | exact Ext.bel _ | exact Bel.refl | refine Bel.alloc ?_ _ | refine Bel.drew ?_ | refine Bel.drewN ?_ _))) (by kernel_rfl) (by kernel_rfl) ?_; (repeat (any_goals (first | go_big_quiet_step (fail) | quiet_step (fail) | (refine wpQuiet_step (fun K hK => ?_); go_simp; split <;> (refine hK _ ?_; clear hK K))))); all_goals (refine wpQuiet_nil ?_; intro _ hw'; obtain ⟨y, hw''⟩ := hw'; subst hw''))
              have HP2 := Lib.hid (HP.out.bel y.bel)
              obtain ⟨y2, hy2⟩ := ext_of (y1.bel.trans y.bel)
              generalize y.w = wy at *
              subst hy2
              go_upto_region 17 with (fail)
              (refine wp_region_ext (wb := y2.w) (by (repeat (first | exact Ext.bel _ | exact Bel.refl | refine Bel.alloc ?_ _ | refine Bel.drew ?_ | refine Bel.drewN ?_ _))) (by kernel_rfl) (by kernel_rfl) ?_; (repeat (any_goals (first | go_big_quiet_step (fail) | quiet_step (fail) | (refine wpQuiet_step (fun K hK => ?_); go_simp; split <;> (refine hK _ ?_; clear hK K))))); all_goals (refine wpQuiet_nil ?_; intro _ hw'; obtain ⟨y, hw''⟩ := hw'; subst hw''))
              have HP3 := Lib.hid (HP2.out.bel y.bel)
              obtain ⟨y3, hy3⟩ := ext_of (y2.bel.trans y.bel)
              generalize y.w = wy at *
              subst hy3
              clear HP HP2 hws htm htd hdv hwn t1 t2
              generalize (tskAt l i).off = of at *
              generalize (tskAt l i).per = pe at *
              obtain ⟨Aj, cj, rfl, _⟩ := own_slice HP3.out.jb
              have k1 : y3.w.cell? ⟨b, 1, none⟩ = some (.slice Aj p.jobs.length cj) := HP3.out.box.cell rfl
              have hbz := HP3.out.box.lt
              have hle : w3.heap.size ≤ y3.w.heap.size := y3.bel.le
              obtain ⟨j0, hj0, hy0, hy1, hy2⟩ := info_parts Try.infoRJob
              go_upto_region 19 with (at_builtin; go_must (refine wpList_append_own _ rfl _ _ 122 rfl w3.heap.size 124 j0 _ 5 40 Try.underlying122 hj0 hy0 hy1 hy2 rfl (by decide) _ _ _ rfl (HP3.out.rd.alloc _) ⟨y3.w.heap.size, 0, none⟩ 1 1 (jobC ⟨i, nm, k, 0, p.jobs.length⟩) rfl rfl ?d1 ?d2 ?d3 ?d4 ?d5 ?_))
              case d1 => exact cells_new _ (jobC ⟨i, nm, k, 0, p.jobs.length⟩) _
              case d2 => intro u hu; exact jobC_one _ u hu
              case d3 => unfold maxLen; omega
              case d4 => omega
              case d5 => simp; omega
              intro v' w5 hown5 hg5 _
              replace hg5 := (World.grownBy_alloc y3.w _ _).trans hg5
              have HP5 := Lib.hid (HP3.out.new_r (l' := p.ready ++ [⟨i, nm, k, 0, p.jobs.length⟩]) hg5 (by rw [List.length_append, ← jobs_snoc]; exact hown5))
              have HB5 := Lib.hid (bel_gro y3.bel hg5 (fun k hk => (HP3.out.rd.lt k hk).1))
              clear hown5 hg5 HP3 k1 hbz hle hj0 hy0 hy1 hy2
              obtain ⟨y5, rfl⟩ := ext_of HB5.out
              go_upto_region 19 with (fail)
              have k1 : y5.w.cell? ⟨b, 1, none⟩ = some (.slice Aj p.jobs.length cj) := HP5.out.box.cell rfl
              have hbz := HP5.out.box.lt
              have hle : w3.heap.size ≤ y5.w.heap.size := y5.bel.le
              obtain ⟨j0, hj0, hy0, hy1, hy2⟩ := info_parts Try.infoDon
              go_upto_region 15 with (at_builtin; go_must (refine wpList_append_own _ rfl _ _ 42 rfl w3.heap.size 60 j0 _ 5 40 Try.underlying42 hj0 hy0 hy1 hy2 rfl (by decide) _ _ _ rfl (HP5.out.jb.alloc _) ⟨y5.w.heap.size, 0, none⟩ 1 1 (donC ⟨i, nm, k, -1, false⟩) rfl rfl ?e1 ?e2 ?e3 ?e4 ?e5 ?_))
              case e1 => exact cells_new _ (donC ⟨i, nm, k, -1, false⟩) _
              case e2 => intro u hu; simp [donC] at hu; rcases hu with h | h | h | h | h <;> subst h <;> rfl
              case e3 => unfold maxLen; omega
              case e4 => omega
              case e5 => simp; omega
              intro v7 w7 hown7 hg7 _
              obtain ⟨A7, c7, rfl, _⟩ := own_slice hown7
              replace hg7 := (World.grownBy_alloc y5.w _ _).trans hg7
              have bx7 := HP5.out.box_j hg7
              have c1' := bx7.cell (i := 1) rfl
              have f1 := bx7.frozen 1
              have l1 := bx7.lt
              have HP8 := Lib.hid (HP5.out.put_j (l' := p.jobs ++ [⟨i, nm, k, -1, false⟩]) hg7 (by rw [List.length_append, ← dons_snoc]; exact hown7))
              have HB8 : Hid (Bel w3 (w7.setCell ⟨b, 1, none⟩ (.slice A7 (p.jobs.length + 1) c7))) := Lib.hid ((bel_gro y5.bel hg7 (fun k hk => (HP5.out.jb.lt k hk).1)).set HB0.out _)
              clear hown7 hg7 bx7 hj0 hy0 hy1 hy2 k1 hbz hle
              go_upto_region 15 with (fail)
              clear c1' f1 l1 HP5
              generalize hW : World.setCell w7 _ _ = W8 at *
              clear hW
              obtain ⟨y8, rfl⟩ := ext_of HB8.out
              go_wp2
              go_roundg (gk - 1)
              case measure => omega
              case rel => exact ⟨i + 1, y8, _, _, _, by omega, rfl, by go_num, rfl, HP8.out, HD.out, by simp; omega, by simp; omega⟩
            · have h2' : (((k : Int) - (tskAt l i).off) % (tskAt l i).per == 0) = false := by simpa using h2
              have HDF : Hid (dueJ k (tskAt l i) = false) := Lib.hid (by rw [HDU.out]; simp [h2])
              have HD2 := HD.out
              rw [HDF.out, if_neg (by decide)] at HD2
              replace HD := Lib.hid HD2
              clear HD2 HDF HDU HNM
              (refine wp_region_ext (wb := y1.w) (by (repeat (first | exact Ext.bel _ | exact Bel.refl | refine Bel.alloc ?_ _ | refine Bel.drew ?_ | refine Bel.drewN ?_ _))) (by kernel_rfl) (by kernel_rfl) ?_; (repeat (any_goals (first | go_big_quiet_step (fail) | quiet_step (fail) | (refine wpQuiet_step (fun K hK => ?_); go_simp; split <;> (refine hK _ ?_; clear hK K))))); all_goals (refine wpQuiet_nil ?_; intro _ hw'; obtain ⟨y, hw''⟩ := hw'; subst hw''))
              have HP2 := Lib.hid (HP.out.bel y.bel)
              obtain ⟨y2, hy2⟩ := ext_of (y1.bel.trans y.bel)
              generalize y.w = wy at *
              subst hy2
              go_wp2
              go_roundg (gk - 1)
              case measure => omega
              case rel => exact ⟨i + 1, y2, _, _, _, by omega, rfl, by go_num, rfl, HP2.out, HD.out, by omega, by omega⟩
          · have q1 : decide ((tskAt l i).off ≤ (k : Int)) = false := by simpa using h1
            have HDF : Hid (dueJ k (tskAt l i) = false) := Lib.hid (by rw [HDU.out]; simp [h1])
            have HD2 := HD.out
            rw [HDF.out, if_neg (by decide)] at HD2
            replace HD := Lib.hid HD2
            clear HD2 HDF HDU HNM
            (refine wp_region_ext (wb := y1.w) (by (repeat (first | exact Ext.bel _ | exact Bel.refl | refine Bel.alloc ?_ _ | refine Bel.drew ?_ | refine Bel.drewN ?_ _))) (by kernel_rfl) (by kernel_rfl) ?_; (repeat (any_goals (first | go_big_quiet_step (fail) | quiet_step (fail) | (refine wpQuiet_step (fun K hK => ?_); go_simp; split <;> (refine hK _ ?_; clear hK K))))); all_goals (refine wpQuiet_nil ?_; intro _ hw'; obtain ⟨y, hw''⟩ := hw'; subst hw''))
            have HP2 := Lib.hid (HP.out.bel y.bel)
            obtain ⟨y2, hy2⟩ := ext_of (y1.bel.trans y.bel)
            generalize y.w = wy at *
            subst hy2
            go_wp2
            go_roundg (gk - 1)
            case measure => omega
            case rel => exact ⟨i + 1, y2, _, _, _, by omega, rfl, by go_num, rfl, HP2.out, HD.out, by omega, by omega⟩
        · obtain rfl : i = l.length := by omega
          have hdl2 : decide ((l.length : Int) < (l.length : Int)) = false := by simp
          have HPE : Hid (p = relJ k 0 l q) := Lib.hid (by rw [← hd]; simp [relJ])
          clear hd
          obtain ⟨Ar, cr, rfl, hcr⟩ := own_slice HP.out.rd
          have hjp : p.jobs.length ≤ 170000 := by omega
          have hrp : p.ready.length ≤ 170000 := by omega
          have HIP : Hid (Inv l k p ∧ (p.stints.length : Int) ≤ k ∧ Inv l k (exeM l pol k p)) := Lib.hid (by rw [HPE.out]; exact ⟨HIT.out.1, HIT.out.2.1, HIT.out.2.2⟩)
          have hsp := HIP.out.2.1
          have HD3 : Hid (runS l pol g' ((k + 1 : Nat) : Int) (exeM l pol k p) = endS l pol ticks) := Lib.hid (by rw [HPE.out]; exact HD2.out)
          have HI3 : Hid (Inv l (((k + 1 : Nat) : Int) - 1) (exeM l pol k p)) := Lib.hid (by rw [show ((k + 1 : Nat) : Int) - 1 = k by omega]; exact HIP.out.2.2)
          clear HPE HD2 HIT hpj hpr
          by_cases hn : p.ready.length = 0
          · have HE : Hid (exeM l pol k p = p) := Lib.hid (by unfold exeM; rw [if_pos hn])
            have hn0 : ((p.ready.length : Int) == 0) = true := by simp [hn]
            have hnd : (p.ready.length : Int) = 0 := by omega
            go_wp2
            go_roundg g'
            case measure => omega
            case rel => exact ⟨k + 1, y1, _, _, _, _, by omega, rfl, by go_num, rfl, by rw [HE.out]; exact HP.out, HI3.out, HD3.out⟩
          · have HE : Hid (exeM l pol k p = runOne l k (bestM l pol p.ready) p) := Lib.hid (by unfold exeM; rw [if_neg hn])
            obtain ⟨g, cr2, hvr, hcr2, hbg, hgq⟩ := own_form HP.out.rd (by omega)
            clear hgq
            injection hvr with hvr _ hcc
            subst hvr hcc
            have hn0 : ((p.ready.length : Int) == 0) = false := by rw [beq_eq_false_iff_ne]; omega
            have hpos : 0 < p.ready.length := by omega
            have HJ : Hid (∀ i, i < p.ready.length → JOk l (jbAt p.ready i) ∧ (jbAt p.ready i).pos < p.jobs.length) := Lib.hid (fun i hi => by
              have := HIP.out.1.rd (jbAt p.ready i) (by simp [jbAt, List.getD, hi])
              exact ⟨this.ok (by omega), this.ps⟩)
            have HBF := Lib.hid (fun (a b : Job) (ha : JOk l a) (hb : JOk l b) (W : World) (hW : Bel w3 W) => before_any _ l pol a b W (HTC.out.keep hW.keeps hW.le) HS.out H0.out ha hb)
            have HN := Lib.hid hn
            have HB00 : Hid (bestF l pol 0 (jbAt p.ready 0) 1 (p.ready.drop 1) = bestM l pol p.ready) := Lib.hid rfl
            clear hn
            go_wp2
            go_loopg [14, 15] (p.ready.length - 1) (fun gk3 s14 s15 wr => ∃ (i bb : Nat) (y : Ext w3), i + gk3 = p.ready.length ∧ s14 = .int .i64 bb ∧ s15 = .int .i64 i ∧ wr = y.w ∧ bb < i ∧ bestF l pol bb (jbAt p.ready bb) i (p.ready.drop i) = bestM l pol p.ready ∧ RefAt y.w w3.heap.size b (.slice (some ⟨g, 0, none⟩) p.ready.length cr) vs vj p)
            case atStart => exact ⟨1, 0, y1, by omega, rfl, rfl, rfl, by omega, HB00.out, HP.out⟩
            case round =>
              clear HB00 HP y1
              obtain ⟨i, bb, y1, hi3, rfl, rfl, rfl, hbi, hd, hp⟩ := hrel
              have HP := Lib.hid hp
              have HD := Lib.hid hd
              clear hp hd
              by_cases hlt3 : i < p.ready.length
              · have hdl3 : decide ((i : Int) < (p.ready.length : Int)) = true := by simp; omega
                have hbb : bb < p.ready.length := by omega
                have hil : (i : Int) < (p.ready.length : Int) := by omega
                have hbl : (bb : Int) < (p.ready.length : Int) := by omega
                have HD4 := HD.out
                rw [jobs_drop hlt3] at HD4
                simp only [bestF] at HD4
                replace HD := Lib.hid HD4
                clear HD4
                have c0 := rjob_cell HP.out.rd rfl hlt3 0 (by omega)
                have c1 := rjob_cell HP.out.rd rfl hlt3 1 (by omega)
                have c2 := rjob_cell HP.out.rd rfl hlt3 2 (by omega)
                have c3 := rjob_cell HP.out.rd rfl hlt3 3 (by omega)
                have c4 := rjob_cell HP.out.rd rfl hlt3 4 (by omega)
                have e0 := rjob_cell HP.out.rd rfl hbb 0 (by omega)
                have e1 := rjob_cell HP.out.rd rfl hbb 1 (by omega)
                have e2 := rjob_cell HP.out.rd rfl hbb 2 (by omega)
                have e3 := rjob_cell HP.out.rd rfl hbb 3 (by omega)
                have e4 := rjob_cell HP.out.rd rfl hbb 4 (by omega)
                have hgz := (HP.out.rd.lt g rfl).2
                have HJ1 := Lib.hid (HBF.out _ _ (HJ.out i hlt3).1 (HJ.out bb hbb).1)
                have HJB : Hid (jbAt p.ready i = jbAt p.ready i) := Lib.hid rfl
                generalize hji : jbAt p.ready i = ji at *
                generalize hjb : jbAt p.ready bb = jb at *
                have HJI := Lib.hid hji
                have HJBB := Lib.hid hjb
                clear hji hjb HJB
                simp only [Nat.add_zero] at c0 e0
                replace c0 : y1.w.cell? ⟨g, i * 5, none⟩ = some (.int .i64 ji.tk) := c0
                replace c1 : y1.w.cell? ⟨g, i * 5 + 1, none⟩ = some (.int .i64 ji.num) := c1
                replace c2 : y1.w.cell? ⟨g, i * 5 + 2, none⟩ = some (.int .i64 ji.rel) := c2
                replace c3 : y1.w.cell? ⟨g, i * 5 + 3, none⟩ = some (.int .i64 ji.dn) := c3
                replace c4 : y1.w.cell? ⟨g, i * 5 + 4, none⟩ = some (.int .i64 ji.pos) := c4
                replace e0 : y1.w.cell? ⟨g, bb * 5, none⟩ = some (.int .i64 jb.tk) := e0
                replace e1 : y1.w.cell? ⟨g, bb * 5 + 1, none⟩ = some (.int .i64 jb.num) := e1
                replace e2 : y1.w.cell? ⟨g, bb * 5 + 2, none⟩ = some (.int .i64 jb.rel) := e2
                replace e3 : y1.w.cell? ⟨g, bb * 5 + 3, none⟩ = some (.int .i64 jb.dn) := e3
                replace e4 : y1.w.cell? ⟨g, bb * 5 + 4, none⟩ = some (.int .i64 jb.pos) := e4
                cases hbf : beforeM l pol ji jb
                · rw [hbf] at HD HJ1
                  have HD3' : Hid (bestF l pol bb (jbAt p.ready bb) (i + 1) (p.ready.drop (i + 1)) = bestM l pol p.ready) := Lib.hid (by have := HD.out; rw [HJBB.out]; simpa using this)
                  clear hbf HD
                  go_upto_region 25 with (fail)
                  (refine wp_region_ext (wb := y1.w) (by (repeat (first | exact Ext.bel _ | exact Bel.refl | refine Bel.alloc ?_ _ | refine Bel.drew ?_ | refine Bel.drewN ?_ _))) (by kernel_rfl) (by kernel_rfl) ?_; (repeat (any_goals (first | go_big_quiet_step ((go_at_call 71; with_reducible exact ext_call (HJ1.out _ (y1.bel.trans (Ext.bel _))))) | quiet_step ((go_at_call 71; with_reducible exact ext_call (HJ1.out _ (y1.bel.trans (Ext.bel _))))) | (refine wpQuiet_step (fun K hK => ?_); go_simp; split <;> (refine hK _ ?_; clear hK K))))); all_goals (refine wpQuiet_nil ?_; intro _ hw'; obtain ⟨y, hw''⟩ := hw'; subst hw''))
                  have HP2 := Lib.hid (HP.out.bel y.bel)
                  obtain ⟨y2, hy2⟩ := ext_of (y1.bel.trans y.bel)
                  generalize y.w = wy at *
                  subst hy2
                  go_wp2
                  go_roundg (gk - 1)
                  case measure => omega
                  case rel => exact ⟨i + 1, bb, y2, by omega, rfl, by go_num, rfl, by omega, HD3'.out, HP2.out⟩
                · rw [hbf] at HD HJ1
                  have HD3' : Hid (bestF l pol i (jbAt p.ready i) (i + 1) (p.ready.drop (i + 1)) = bestM l pol p.ready) := Lib.hid (by have := HD.out; rw [HJI.out]; simpa using this)
                  clear hbf HD
                  go_upto_region 25 with (fail)
                  (refine wp_region_ext (wb := y1.w) (by (repeat (first | exact Ext.bel _ | exact Bel.refl | refine Bel.alloc ?_ _ | refine Bel.drew ?_ | refine Bel.drewN ?_ _))) (by kernel_rfl) (by kernel_rfl) ?_; (repeat (any_goals (first | go_big_quiet_step ((go_at_call 71; with_reducible exact ext_call (HJ1.out _ (y1.bel.trans (Ext.bel _))))) | quiet_step ((go_at_call 71; with_reducible exact ext_call (HJ1.out _ (y1.bel.trans (Ext.bel _))))) | (refine wpQuiet_step (fun K hK => ?_); go_simp; split <;> (refine hK _ ?_; clear hK K))))); all_goals (refine wpQuiet_nil ?_; intro _ hw'; obtain ⟨y, hw''⟩ := hw'; subst hw''))
                  have HP2 := Lib.hid (HP.out.bel y.bel)
                  obtain ⟨y2, hy2⟩ := ext_of (y1.bel.trans y.bel)
                  generalize y.w = wy at *
                  subst hy2
                  go_wp2
                  go_roundg (gk - 1)
                  case measure => omega
                  case rel => exact ⟨i + 1, i, y2, by omega, rfl, by go_num, rfl, by omega, HD3'.out, HP2.out⟩
              · obtain rfl : i = p.ready.length := by omega
                have hdl3 : decide ((p.ready.length : Int) < (p.ready.length : Int)) = false := by simp
                have HBB : Hid (bb = bestM l pol p.ready) := Lib.hid (by rw [← HD.out, List.drop_eq_nil_of_le (Nat.le_refl _)]; rfl)
                have hbb : bb < p.ready.length := hbi
                have hbl : (bb : Int) < (p.ready.length : Int) := by omega
                have HME : Hid (exeM l pol k p = runOne l k bb p) := Lib.hid (by rw [HE.out, HBB.out])
                clear HD HE
                obtain ⟨hjo, hjp⟩ := HJ.out bb hbb
                have c0 := rjob_cell HP.out.rd rfl hbb 0 (by omega)
                have c1 := rjob_cell HP.out.rd rfl hbb 1 (by omega)
                have c2 := rjob_cell HP.out.rd rfl hbb 2 (by omega)
                have c3 := rjob_cell HP.out.rd rfl hbb 3 (by omega)
                have c4 := rjob_cell HP.out.rd rfl hbb 4 (by omega)
                simp only [Nat.add_zero] at c0
                have hgz := (HP.out.rd.lt g rfl).2
                have htk := hjo.tk
                have hd0 := hjo.d0
                have hd1 := hjo.d1
                have hn1 := hjo.n0
                have hn2 := hjo.n1
                have hr0 := hjo.r0
                have hr1 := hjo.r1
                clear hjo HJ HBF
                generalize hjb : jbAt p.ready bb = j at *
                have HJB := Lib.hid hjb
                clear hjb
                replace c0 : y1.w.cell? ⟨g, bb * 5, none⟩ = some (.int .i64 j.tk) := c0
                replace c1 : y1.w.cell? ⟨g, bb * 5 + 1, none⟩ = some (.int .i64 j.num) := c1
                replace c2 : y1.w.cell? ⟨g, bb * 5 + 2, none⟩ = some (.int .i64 j.rel) := c2
                replace c3 : y1.w.cell? ⟨g, bb * 5 + 3, none⟩ = some (.int .i64 j.dn) := c3
                replace c4 : y1.w.cell? ⟨g, bb * 5 + 4, none⟩ = some (.int .i64 j.pos) := c4
                go_upto_region 28 with (fail)
                generalize hW : World.alloc y1.w _ = W7 at *
                have r7 : RowAt W7 y1.w.heap.size 124 (jobC j) := by rw [← hW]; exact RowAt.new _ _ _
                have hb7 : Bel y1.w W7 := by rw [← hW]; exact Bel.refl.alloc _
                clear hW c0 c1 c2 c3 c4
                have HP7 := Lib.hid (HP.out.bel hb7)
                have hgn : g < y1.w.heap.size := hgz
                obtain ⟨y7, hy7⟩ := ext_of (y1.bel.trans hb7)
                clear hb7 hgz HP
                subst hy7
                generalize y1.w.heap.size = nb at *
                have HR7 := Lib.hid r7
                clear r7
                obtain ⟨As, cs, rfl, _⟩ := own_slice HP7.out.st
                have k0 : y7.w.cell? ⟨b, 0, none⟩ = some (.slice As p.stints.length cs) := HP7.out.box.cell rfl
                have hbz := HP7.out.box.lt
                go_upto_region 29 with (fail)
                obtain ⟨dc, hdc⟩ : ∃ dc, dc = decide (0 < p.stints.length ∧ (stAt p.stints (p.stints.length - 1)).tk = j.tk ∧ (stAt p.stints (p.stints.length - 1)).job = j.num ∧ (Stn.to (stAt p.stints (p.stints.length - 1))) = k) := ⟨_, rfl⟩
                have HDC := Lib.hid hdc
                clear hdc
                go_cut [169] from 133 to 231 (fun sl wx => sl = .bool dc ∧ Bel y7.w wx)
                case first => as_aux_lemma =>
                  have hdcv := HDC.out
                  have j0 := HR7.out.cell (i := 0) rfl
                  have j1 := HR7.out.cell (i := 1) rfl
                  have jz := HR7.out.lt
                  by_cases hs0 : p.stints.length = 0
                  · obtain rfl : dc = false := by rw [hdcv]; simp [hs0]
                    have hsd : decide (0 < p.stints.length) = false := decide_eq_false (by omega)
                    have hsd2 : decide ((0 : Int) < (p.stints.length : Int)) = false := decide_eq_false (by omega)
                    clear hs0 hdcv
                    (refine wp_region_ext (wb := y7.w) (by (repeat (first | exact Ext.bel _ | exact Bel.refl | refine Bel.alloc ?_ _ | refine Bel.drew ?_ | refine Bel.drewN ?_ _))) (by kernel_rfl) (by kernel_rfl) ?_; (repeat (any_goals (first | go_big_quiet_step (fail) | quiet_step (fail) | (refine wpQuiet_step (fun K hK => ?_); go_simp; split <;> (refine hK _ ?_; clear hK K))))); all_goals (refine wpQuiet_nil ?_; intro _ hw'; obtain ⟨y, hw''⟩ := hw'; subst hw''))
                    go_wp2
                    go_meet
                    case rel => exact ⟨rfl, y.bel⟩
                  · obtain ⟨gs, cs2, hvs, hcs2, _, hgsz⟩ := own_form HP7.out.st (by omega)
                    injection hvs with hvs _ hcc
                    subst hvs hcc
                    have hsd : decide (0 < p.stints.length) = true := decide_eq_true (by omega)
                    have hsd2 : decide ((0 : Int) < (p.stints.length : Int)) = true := decide_eq_true (by omega)
                    have hs1 : p.stints.length - 1 < p.stints.length := by omega
                    have e0 := stn_cell HP7.out.st rfl hs1 0 (by omega)
                    have e1 := stn_cell HP7.out.st rfl hs1 1 (by omega)
                    have e3 := stn_cell HP7.out.st rfl hs1 3 (by omega)
                    simp only [Nat.add_zero] at e0
                    replace e0 : y7.w.cell? ⟨gs, (p.stints.length - 1) * 4, none⟩ = some (.int .i64 (stAt p.stints (p.stints.length - 1)).tk) := e0
                    replace e1 : y7.w.cell? ⟨gs, (p.stints.length - 1) * 4 + 1, none⟩ = some (.int .i64 (stAt p.stints (p.stints.length - 1)).job) := e1
                    replace e3 : y7.w.cell? ⟨gs, (p.stints.length - 1) * 4 + 3, none⟩ = some (.int .i64 (Stn.to (stAt p.stints (p.stints.length - 1)))) := e3
                    generalize stAt p.stints (p.stints.length - 1) = sl at *
                    have hwl : IntKind.i64.wrap ((p.stints.length : Int) - 1) = ((p.stints.length - 1 : Nat) : Int) := by rw [IntWalk.i64_in _ (by omega)]; omega
                    by_cases h1 : sl.tk = j.tk
                    · have q1 : (sl.tk == (j.tk : Int)) = true := by simpa using h1
                      by_cases h2 : sl.job = j.num
                      · have q2 : (sl.job == j.num) = true := by simpa using h2
                        by_cases h3 : sl.to = k
                        · have q3 : (sl.to == (k : Int)) = true := by simpa using h3
                          obtain rfl : dc = true := by rw [hdcv]; simp [h1, h2, h3]; omega
                          clear hdcv h1 h2 h3
                          (refine wp_region_ext (wb := y7.w) (by (repeat (first | exact Ext.bel _ | exact Bel.refl | refine Bel.alloc ?_ _ | refine Bel.drew ?_ | refine Bel.drewN ?_ _))) (by kernel_rfl) (by kernel_rfl) ?_; (repeat (any_goals (first | go_big_quiet_step (fail) | quiet_step (fail) | (refine wpQuiet_step (fun K hK => ?_); go_simp; split <;> (refine hK _ ?_; clear hK K))))); all_goals (refine wpQuiet_nil ?_; intro _ hw'; obtain ⟨y, hw''⟩ := hw'; subst hw''))
                          go_wp2
                          go_meet
                          case rel => exact ⟨rfl, y.bel⟩
                        · have q3 : (sl.to == (k : Int)) = false := by simpa using h3
                          obtain rfl : dc = false := by rw [hdcv]; simp [h3]
                          clear hdcv h1 h2 h3
                          (refine wp_region_ext (wb := y7.w) (by (repeat (first | exact Ext.bel _ | exact Bel.refl | refine Bel.alloc ?_ _ | refine Bel.drew ?_ | refine Bel.drewN ?_ _))) (by kernel_rfl) (by kernel_rfl) ?_; (repeat (any_goals (first | go_big_quiet_step (fail) | quiet_step (fail) | (refine wpQuiet_step (fun K hK => ?_); go_simp; split <;> (refine hK _ ?_; clear hK K))))); all_goals (refine wpQuiet_nil ?_; intro _ hw'; obtain ⟨y, hw''⟩ := hw'; subst hw''))
                          go_wp2
                          go_meet
                          case rel => exact ⟨rfl, y.bel⟩
                      · have q2 : (sl.job == j.num) = false := by simpa using h2
                        obtain rfl : dc = false := by rw [hdcv]; simp [h2]
                        clear hdcv h1 h2
                        (refine wp_region_ext (wb := y7.w) (by (repeat (first | exact Ext.bel _ | exact Bel.refl | refine Bel.alloc ?_ _ | refine Bel.drew ?_ | refine Bel.drewN ?_ _))) (by kernel_rfl) (by kernel_rfl) ?_; (repeat (any_goals (first | go_big_quiet_step (fail) | quiet_step (fail) | (refine wpQuiet_step (fun K hK => ?_); go_simp; split <;> (refine hK _ ?_; clear hK K))))); all_goals (refine wpQuiet_nil ?_; intro _ hw'; obtain ⟨y, hw''⟩ := hw'; subst hw''))
                        go_wp2
                        go_meet
                        case rel => exact ⟨rfl, y.bel⟩
                    · have q1 : (sl.tk == (j.tk : Int)) = false := by simpa using h1
                      obtain rfl : dc = false := by rw [hdcv]; simp [h1]
                      clear hdcv h1
                      (refine wp_region_ext (wb := y7.w) (by (repeat (first | exact Ext.bel _ | exact Bel.refl | refine Bel.alloc ?_ _ | refine Bel.drew ?_ | refine Bel.drewN ?_ _))) (by kernel_rfl) (by kernel_rfl) ?_; (repeat (any_goals (first | go_big_quiet_step (fail) | quiet_step (fail) | (refine wpQuiet_step (fun K hK => ?_); go_simp; split <;> (refine hK _ ?_; clear hK K))))); all_goals (refine wpQuiet_nil ?_; intro _ hw'; obtain ⟨y, hw''⟩ := hw'; subst hw''))
                      go_wp2
                      go_meet
                      case rel => exact ⟨rfl, y.bel⟩
                case rest =>
                obtain ⟨rfl, hbw⟩ := hcut
                have HP8 := Lib.hid (HP7.out.bel hbw)
                have HR8 := Lib.hid (HR7.out.bel hbw)
                obtain ⟨y8, hy8⟩ := ext_of (y7.bel.trans hbw)
                clear hbw HP7 HR7 k0 hbz
                subst hy8
                go_upto_if 169 with (fail)
                go_cut [] from 170 to 231 (fun wx => ∃ (y : Ext w3) (vs' : Value), wx = y.w ∧ RefAt y.w w3.heap.size b (.slice (some ⟨g, 0, none⟩) p.ready.length cr) vs' vj { p with stints := stintsM k j p.stints } ∧ RowAt y.w nb 124 (jobC j))
                case first =>
                  have k0 : y8.w.cell? ⟨b, 0, none⟩ = some (.slice As p.stints.length cs) := HP8.out.box.cell rfl
                  have hbz := HP8.out.box.lt
                  by_cases hcond : (0 < p.stints.length ∧ (stAt p.stints (p.stints.length - 1)).tk = j.tk ∧ (stAt p.stints (p.stints.length - 1)).job = j.num ∧ (Stn.to (stAt p.stints (p.stints.length - 1))) = k)
                  · obtain rfl : dc = true := by rw [HDC.out]; exact decide_eq_true hcond
                    have HM2 : Hid (stintsM k j p.stints = p.stints.set (p.stints.length - 1) (stTo (stAt p.stints (p.stints.length - 1)) ((k : Int) + 1))) := Lib.hid (by unfold stintsM; rw [if_pos hcond])
                    obtain ⟨hc0, _, _, hc3⟩ := hcond
                    obtain ⟨gs, cs2, hvs, hcs2, _, hgsz⟩ := own_form HP8.out.st hc0
                    injection hvs with hvs _ hcc
                    subst hvs hcc
                    have hs1 : p.stints.length - 1 < p.stints.length := by omega
                    have e3 := stn_cell HP8.out.st rfl hs1 3 (by omega)
                    replace e3 : y8.w.cell? ⟨gs, (p.stints.length - 1) * 4 + 3, none⟩ = some (.int .i64 (Stn.to (stAt p.stints (p.stints.length - 1)))) := e3
                    have hfz := HP8.out.st.frozenAt ((p.stints.length - 1) * 4 + 3)
                    have hwl : (p.stints.length : Int) - 1 = ((p.stints.length - 1 : Nat) : Int) := by omega
                    obtain ⟨o1, o2⟩ := stn_store HP8.out.st rfl hs1 ((k : Int) + 1)
                    have HSN := Lib.hid (HP8.out.new_s o2 o1)
                    have HRN := Lib.hid (HR8.out.gro o2 (box_row_ne HR8.out HP8.out.st (by decide)))
                    have hbel := Lib.hid (y8.bel.set (p := ⟨gs, (p.stints.length - 1) * 4 + 3, none⟩) (HP8.out.st.lt gs rfl).1 (.int .i64 ((k : Int) + 1)))
                    clear hc3 o1 o2
                    go_wp2
                    go_meet
                    case rel =>
                      obtain ⟨y, hy⟩ := ext_of hbel.out
                      exact ⟨y, _, hy, by rw [← hy, HM2.out]; exact HSN.out, by rw [← hy]; exact HRN.out⟩
                  · obtain rfl : dc = false := by rw [HDC.out]; exact decide_eq_false hcond
                    have HM2 : Hid (stintsM k j p.stints = p.stints ++ [⟨j.tk, j.num, k, (k : Int) + 1⟩]) := Lib.hid (by unfold stintsM; rw [if_neg hcond])
                    clear hcond
                    have j0 := HR8.out.cell (i := 0) rfl
                    have j1 := HR8.out.cell (i := 1) rfl
                    have jz := HR8.out.lt
                    have hle : w3.heap.size ≤ y8.w.heap.size := y8.bel.le
                    obtain ⟨i0, hj0, hy0, hy1, hy2⟩ := info_parts Try.infoStn
                    go_wp2_with (at_builtin; go_must (refine wpList_append_own _ rfl _ _ 72 rfl w3.heap.size 90 i0 _ 4 32 Try.underlying72 hj0 hy0 hy1 hy2 rfl (by decide) _ _ _ rfl (HP8.out.st.alloc _) ⟨y8.w.heap.size, 0, none⟩ 1 1 (stnC ⟨j.tk, j.num, k, (k : Int) + 1⟩) rfl rfl ?e1 ?e2 ?e3 ?e4 ?e5 ?_))
                    case e1 => exact cells_new _ (stnC ⟨j.tk, j.num, k, (k : Int) + 1⟩) _
                    case e2 => intro u hu; simp [stnC] at hu; rcases hu with h | h | h | h <;> subst h <;> rfl
                    case e3 => unfold maxLen; omega
                    case e4 => omega
                    case e5 => simp; omega
                    intro v9 w9 hown9 hg9 _
                    obtain ⟨A9, c9, rfl, _⟩ := own_slice hown9
                    replace hg9 := (World.grownBy_alloc y8.w _ _).trans hg9
                    have bx9 := HP8.out.box_s hg9
                    have c0' := bx9.cell (i := 0) rfl
                    have f0 := bx9.frozen 0
                    have l0 := bx9.lt
                    have r9 := HR8.out.gro hg9 (box_row_ne HR8.out HP8.out.st (by decide))
                    have HSN := Lib.hid (HP8.out.put_s (l' := p.stints ++ [⟨j.tk, j.num, k, (k : Int) + 1⟩]) hg9 (by rw [List.length_append, ← stns_snoc]; exact hown9))
                    have HRN := Lib.hid (r9.far (a := ⟨b, 0, none⟩) (row_ne r9 bx9 (by decide)) (.slice A9 (p.stints.length + 1) c9))
                    have hbel : Hid (Bel w3 (w9.setCell ⟨b, 0, none⟩ (.slice A9 (p.stints.length + 1) c9))) := Lib.hid ((bel_gro y8.bel hg9 (fun k hk => (HP8.out.st.lt k hk).1)).set HB0.out _)
                    clear hown9 hg9 bx9 r9 hj0 hy0 hy1 hy2 k0 hbz
                    go_wp2
                    go_meet
                    case rel =>
                      obtain ⟨y, hy⟩ := ext_of hbel.out
                      exact ⟨y, _, hy, by rw [← hy, HM2.out]; exact HSN.out, by rw [← hy]; exact HRN.out⟩
                case rest =>
                obtain ⟨y9, vs', rfl, hp9, hr9⟩ := hcut
                have HP9 := Lib.hid hp9
                have HR9 := Lib.hid hr9
                clear hp9 hr9 HP8 HR8 HDC
                have hgz := (HP9.out.rd.lt g rfl).2
                have c3 := rjob_cell HP9.out.rd rfl hbb 3 (by omega)
                simp only [HJB.out] at c3
                replace c3 : y9.w.cell? ⟨g, bb * 5 + 3, none⟩ = some (.int .i64 j.dn) := c3
                have hfz := HP9.out.rd.frozenAt (bb * 5 + 3)
                have hok := tok_at H0.out htk
                have hcb := hok.c2
                have hcb2 : (tskAt l j.tk).cost ≤ 1000 := by have := hok.d2; have := hok.p2; omega
                obtain ⟨o1, o2⟩ := rjob_store HP9.out.rd rfl hbb (j.dn + 1)
                rw [HJB.out] at o1
                have HP10 : Hid (RefAt (y9.w.setCell ⟨g, bb * 5 + 3, none⟩ (.int .i64 (j.dn + 1))) w3.heap.size b (.slice (some ⟨g, 0, none⟩) p.ready.length cr) vs' vj ⟨p.ready.set bb ⟨j.tk, j.num, j.rel, j.dn + 1, j.pos⟩, stintsM k j p.stints, p.jobs⟩) := Lib.hid (HP9.out.new_r o2 o1)
                have HR10 := Lib.hid (HR9.out.far (a := ⟨g, bb * 5 + 3, none⟩) (by show nb ≠ g; omega) (.int .i64 (j.dn + 1)))
                have hbel := Lib.hid (y9.bel.set (p := ⟨g, bb * 5 + 3, none⟩) (HP9.out.rd.lt g rfl).1 (.int .i64 (j.dn + 1)))
                clear o1 o2 hok
                go_upto_region 33 with (fail)
                clear c3 hfz hgz
                generalize hW : World.setCell y9.w _ _ = W at *
                clear hW HP9 HR9
                obtain ⟨ya, rfl⟩ := ext_of hbel.out
                have hrd : ya.w.ownsRow w3.heap.size 124 5 (.slice (some ⟨g, 0, none⟩) p.ready.length cr) p.ready.length ((p.ready.set bb ⟨j.tk, j.num, j.rel, j.dn + 1, j.pos⟩).flatMap jobC) := by have := HP10.out.rd; dsimp only at this; rwa [List.length_set] at this
                have HRD := Lib.hid hrd
                have p3 := rjob_cell hrd (by simp) (show bb < (p.ready.set bb ⟨j.tk, j.num, j.rel, j.dn + 1, j.pos⟩).length by simpa using hbb) 3 (by omega)
                replace p3 : ya.w.cell? ⟨g, bb * 5 + 3, none⟩ = some (.int .i64 (j.dn + 1)) := by rw [p3]; simp [jobC, jbAt, List.getD, hbb]
                have hgz := (hrd.lt g rfl).2
                clear hrd
                have j0 := HR10.out.cell (i := 0) rfl
                have j2 := HR10.out.cell (i := 2) rfl
                have j4 := HR10.out.cell (i := 4) rfl
                have jz := HR10.out.lt
                obtain ⟨svt, ⟨_, _, _, _, t4, _, _⟩, _⟩ := HAT.out j.tk htk
                have htl : (j.tk : Int) < (l.length : Int) := by omega
                generalize hco : (tskAt l j.tk).cost = co at *
                have HCO := Lib.hid hco
                clear hco
                (refine wp_region_ext (wb := ya.w) (by (repeat (first | exact Ext.bel _ | exact Bel.refl | refine Bel.alloc ?_ _ | refine Bel.drew ?_ | refine Bel.drewN ?_ _))) (by kernel_rfl) (by kernel_rfl) ?_; (repeat (any_goals (first | go_big_quiet_step (fail) | quiet_step (fail) | (refine wpQuiet_step (fun K hK => ?_); go_simp; split <;> (refine hK _ ?_; clear hK K))))); all_goals (refine wpQuiet_nil ?_; intro _ hw'; obtain ⟨y, hw''⟩ := hw'; subst hw''))
                have HP11 := Lib.hid (HP10.out.bel y.bel)
                have HR11 := Lib.hid (HR10.out.bel y.bel)
                have HRD11 := Lib.hid (ownsRow_bel HRD.out y.bel)
                obtain ⟨yb, hyb⟩ := ext_of (ya.bel.trans y.bel)
                generalize y.w = wy at *
                subst hyb
                clear p3 hgz j0 j2 j4 jz t4 HP10 HR10 HRD hbel
                by_cases hdn : j.dn + 1 = co
                · have HM2 : Hid (exeM l pol k p = ⟨p.ready.eraseIdx bb, stintsM k j p.stints, p.jobs.set j.pos { dnAt p.jobs j.pos with resp := (k : Int) + 1 - j.rel }⟩) := Lib.hid (by
                    rw [HME.out]; unfold runOne; dsimp only; rw [HJB.out, if_pos (by rw [HCO.out]; exact hdn)])
                  subst hdn
                  obtain ⟨gj, cj, rfl, hcj, _, hgjz⟩ := own_form HP11.out.jb (show 0 < p.jobs.length by omega)
                  have k1 : yb.w.cell? ⟨b, 1, none⟩ = some (.slice (some ⟨gj, 0, none⟩) p.jobs.length cj) := HP11.out.box.cell rfl
                  have hbz := HP11.out.box.lt
                  have r3 := don_cell HP11.out.jb rfl hjp 3 (by omega)
                  replace r3 : yb.w.cell? ⟨gj, j.pos * 5 + 3, none⟩ = some (.int .i64 (dnAt p.jobs j.pos).resp) := r3
                  have hfr := HP11.out.jb.frozenAt (j.pos * 5 + 3)
                  have j2 := HR11.out.cell (i := 2) rfl
                  have j4 := HR11.out.cell (i := 4) rfl
                  have jz := HR11.out.lt
                  have hjl : (j.pos : Int) < (p.jobs.length : Int) := by omega
                  obtain ⟨o1, o2⟩ := don_resp HP11.out.jb rfl hjp ((k : Int) + 1 - j.rel)
                  have HP12 := Lib.hid (HP11.out.new_j o2 o1)
                  have HRD12 := Lib.hid (HRD11.out.kept o2 (own_types_ne HRD11.out HP11.out.jb (by decide)))
                  have hbel := Lib.hid (yb.bel.set (p := ⟨gj, j.pos * 5 + 3, none⟩) (HP11.out.jb.lt gj rfl).1 (.int .i64 ((k : Int) + 1 - j.rel)))
                  clear o1 o2
                  go_upto_region 35 with (fail)
                  clear r3 hfr j2 j4 jz hjl k1 hbz hgjz
                  generalize hW : World.setCell yb.w _ _ = W3 at *
                  clear hW HP11 HRD11 HR11
                  obtain ⟨yc, rfl⟩ := ext_of hbel.out
                  have hwb : IntKind.i64.wrap ((bb : Int) + 1) = (bb : Int) + 1 := IntWalk.i64_in _ (by omega)
                  have hwb1 : 0 ≤ (bb : Int) + 1 := by omega
                  have hwb2 : (bb : Int) + 1 ≤ (p.ready.length : Int) := by omega
                  have hwb3 : ((bb : Int) + 1).toNat = bb + 1 := by omega
                  have hbc : bb ≤ cr := by omega
                  have hbc3 : (bb : Int) ≤ (cr : Int) := by omega
                  (refine wp_region_E 9 none (by kernel_rfl) ?_; refine anyE_takes [1, 2, 3, 5, 6, 7, 8] (fun _ _ _ _ _ h => h) ⟨⟨_, gro_drew (gro_refl _)⟩, rfl⟩ (by kernel_rfl) (by rfl) ?_; simp only [opsOf, List.filterMap_cons, List.filterMap_nil, List.getElem?_toArray, List.getElem?_cons_succ, List.getElem?_cons_zero, List.foldl_cons, List.foldl_nil]; (repeat (any_goals (first | go_big_quiet_step (fail) | quiet_step (fail)))); refine wpQuiet_nil ?_)
                  generalize hio : (if cr = bb + 1 then (some ⟨g, 0, none⟩ : Option Addr) else some ⟨g, (bb + 1) * 5, none⟩) = io
                  obtain ⟨ad, rfl, had⟩ : ∃ ad, io = some ad ∧ (bb + 1 < p.ready.length → ad = ⟨g, (bb + 1) * 5, none⟩) := by
                    rw [← hio]
                    by_cases hcc : cr = bb + 1
                    · rw [if_pos hcc]; exact ⟨_, rfl, fun h => absurd h (by omega)⟩
                    · rw [if_neg hcc]; exact ⟨_, rfl, fun _ => rfl⟩
                  clear hio hwb hwb1 hwb2 hwb3 hbc hbc3
                  have hlen : (p.ready.set bb ⟨j.tk, j.num, j.rel, j.dn + 1, j.pos⟩).length = p.ready.length := List.length_set
                  have hera : (p.ready.set bb ⟨j.tk, j.num, j.rel, j.dn + 1, j.pos⟩).take bb ++ (p.ready.set bb ⟨j.tk, j.num, j.rel, j.dn + 1, j.pos⟩).drop (bb + 1) = p.ready.eraseIdx bb := by rw [← List.eraseIdx_eq_take_drop_succ, erase_set]
                  have HERA := Lib.hid hera
                  have HLEN := Lib.hid hlen
                  have HP13 : Hid (RefAt yc.w.drew w3.heap.size b (.slice (some ⟨g, 0, none⟩) p.ready.length cr) vs' (.slice (some ⟨gj, 0, none⟩) p.jobs.length cj) ⟨p.ready.set bb ⟨j.tk, j.num, j.rel, j.dn + 1, j.pos⟩, stintsM k j p.stints, p.jobs.set j.pos { dnAt p.jobs j.pos with resp := (k : Int) + 1 - j.rel }⟩) := Lib.hid ⟨HP12.out.box, HP12.out.rd, HP12.out.st, HP12.out.jb⟩
                  have HRD13 : Hid (yc.w.drew.ownsRow w3.heap.size 124 5 (.slice (some ⟨g, 0, none⟩) p.ready.length cr) p.ready.length ((p.ready.set bb ⟨j.tk, j.num, j.rel, j.dn + 1, j.pos⟩).flatMap jobC)) := Lib.hid HRD12.out
                  have hle : w3.heap.size ≤ yc.w.drew.heap.size := yc.bel.le
                  have HZD : Hid (Bel w3 yc.w.drew) := Lib.hid yc.bel.drew
                  have hgd : Hid (yc.w.grownBy yc.w.drew none) := Lib.hid (gro_drew (gro_refl _))
                  have hsz : yc.w.heap.size = yc.w.drew.heap.size := rfl
                  have HSZ := Lib.hid hsz
                  clear hlen hera HP12 HRD12 hsz
                  generalize yc.w.drew = W0 at *
                  (refine anyE_one 0 _ (by kernel_rfl) (by rfl) (fun K hK => ?_))
                  go_simp
                  refine hK _ _ (fun _ => ⟨⟨_, gro_alloc hgd.out _⟩, rfl⟩) ?_
                  clear hK K
                  obtain ⟨i0, hj0, hy0, hy1, hy2⟩ := info_parts Try.infoRJob
                  have hmade := World.ownsRow_made (base := w3.heap.size) (e := 124) (size := 5) W0 #[] 0 hle (by unfold maxLen; omega) (by simp)
                  have hrd1 := HRD13.out.alloc (.cells #[] 124)
                  have hgd1 := gro_alloc hgd.out (.cells #[] 124)
                  (refine anyE_one 4 _ (by kernel_rfl) (by rfl) (fun K hK => ?_))
                  rw [if_pos (by rfl)]
                  refine wp_append_own _ _ _ 122 rfl w3.heap.size 124 i0 _ 5 40 Try.underlying122 hj0 hy0 hy1 hy2 rfl (by decide) _ _ _ rfl hmade ⟨g, 0, none⟩ bb cr (((p.ready.set bb ⟨j.tk, j.num, j.rel, j.dn + 1, j.pos⟩).take bb).flatMap jobC) rfl ?d1 ?d2 ?d3 ?d4 ?d5 ?d6 ?_
                  case d1 => rw [flat_len jobC_len, List.length_take, HLEN.out]; omega
                  case d2 => exact rows_take jobC_len hrd1 bb
                  case d3 => intro u hu; obtain ⟨q, _, hq⟩ := List.mem_flatMap.mp hu; exact jobC_one q u hq
                  case d4 => unfold maxLen; omega
                  case d5 => omega
                  case d6 => simp; omega
                  intro v4 w4 hown4 hg4 _
                  simp only [Nat.zero_add, List.nil_append] at hown4
                  have hnone := gro_new hgd1 hg4 (by rw [HSZ.out]; exact Nat.le_refl _)
                  refine hK _ _ (fun _ => ⟨⟨_, hnone⟩, rfl⟩) ?_
                  clear hK K
                  have hb4 : Bel w3 w4 := yc.bel.trans (gro_bel hnone)
                  have hb04 : Bel W0 w4 := gro_bel (gro_new (gro_alloc (gro_refl W0) _) hg4 (Nat.le_refl _))
                  have HP14 := Lib.hid (HP13.out.bel hb04)
                  have hrd4 := ownsRow_bel HRD13.out hb04
                  have hle4 := hb4.le
                  clear hmade hrd1 hgd1 hnone hg4 hb04 HP13 HRD13 HZD hgd hle
                  have HF1 : Hid ((((p.ready.set bb ⟨j.tk, j.num, j.rel, j.dn + 1, j.pos⟩).drop (bb + 1)).flatMap jobC).length = (p.ready.length - (bb + 1)) * 5) := Lib.hid (by rw [flat_len jobC_len, List.length_drop, HLEN.out])
                  have HF2 := Lib.hid (rows_drop jobC_len hrd4 HLEN.out.symm (bb + 1) ad had)
                  have HF3 : Hid (∀ u ∈ ((p.ready.set bb ⟨j.tk, j.num, j.rel, j.dn + 1, j.pos⟩).drop (bb + 1)).flatMap jobC, u.oneCell' = true) := Lib.hid (fun u hu => by obtain ⟨q, _, hq⟩ := List.mem_flatMap.mp hu; exact jobC_one q u hq)
                  have HF4 : Hid (bb + (p.ready.length - (bb + 1)) ≤ maxLen) := Lib.hid (by unfold maxLen; omega)
                  have HF5 : Hid ((bb + (p.ready.length - (bb + 1))) * 40 ≤ 140737488355328) := Lib.hid (by omega)
                  have HF6 := Lib.hid hle4
                  have HOWN4 := Lib.hid hown4
                  clear hle4 hown4
                  (refine anyE_tail 9 (by decide) (by rfl) (by kernel_rfl) ?_; simp only [List.drop_succ_cons, List.drop_zero])
                  go_wp2_with (at_builtin; go_must (refine wpList_append_own _ rfl _ _ 122 rfl w3.heap.size 124 i0 _ 5 40 Try.underlying122 hj0 hy0 hy1 hy2 rfl (by decide) _ _ _ rfl HOWN4.out ad (p.ready.length - (bb + 1)) (cr - (bb + 1)) (((p.ready.set bb ⟨j.tk, j.num, j.rel, j.dn + 1, j.pos⟩).drop (bb + 1)).flatMap jobC) rfl HF1.out HF2.out HF3.out HF4.out HF5.out HF6.out ?_))
                  intro v6 w6 hown6 hg6 _
                  have hown4 := HOWN4.out
                  have HB6 := Lib.hid (bel_gro hb4 hg6 (fun k hk => (hown4.lt k hk).1))
                  have HR6' : Hid (RefAt w6 w3.heap.size b v6 vs' (.slice (some ⟨gj, 0, none⟩) p.jobs.length cj) (exeM l pol k p)) := Lib.hid (by
                    rw [HM2.out]
                    refine ⟨HP14.out.box.gro hg6 (box_row_ne HP14.out.box hown4 (by decide)), ?_, HP14.out.st.kept hg6 (own_types_ne HP14.out.st hown4 (by decide)), HP14.out.jb.kept hg6 (own_types_ne HP14.out.jb hown4 (by decide))⟩
                    rw [← List.flatMap_append, HERA.out] at hown6
                    have hl : (p.ready.eraseIdx bb).length = bb + (p.ready.length - (bb + 1)) := by rw [List.length_eraseIdx, if_pos hbb]; omega
                    dsimp only
                    rw [hl]
                    exact hown6)
                  clear hown6 hg6 hown4 HOWN4 HP14 hrd4 hb4
                  obtain ⟨y6, rfl⟩ := ext_of HB6.out
                  go_wp2
                  refine NoPanic.normal ?_
                  go_wp2
                  go_roundg g'
                  case measure => omega
                  case rel => exact ⟨k + 1, y6, _, _, _, _, by omega, rfl, by go_num, rfl, HR6'.out, HI3.out, HD3.out⟩
                · have HM2 : Hid (exeM l pol k p = ⟨p.ready.set bb ⟨j.tk, j.num, j.rel, j.dn + 1, j.pos⟩, stintsM k j p.stints, p.jobs⟩) := Lib.hid (by
                    rw [HME.out]; unfold runOne; dsimp only; rw [HJB.out, if_neg (by rw [HCO.out]; exact hdn)])
                  have hne : (j.dn + 1 == co) = false := by simpa using hdn
                  go_wp2
                  go_roundg g'
                  case measure => omega
                  case rel => exact ⟨k + 1, yb, _, _, _, _, by omega, rfl, by go_num, rfl, by rw [HM2.out]; exact HP11.out, HI3.out, HD3.out⟩
    · as_aux_lemma =>
      obtain rfl : k = T := by omega
      obtain rfl : gk = 0 := by omega
      have hdl : decide ((k : Int) < ticks) = false := decide_eq_false (by have := HTT.out; omega)
      have HQE : Hid (q = endS l pol ticks) := Lib.hid HD.out
      have HDT : Hid (∀ d ∈ q.jobs, d.tk < l.length ∧ 0 ≤ d.rel ∧ d.rel ≤ 20000) := Lib.hid (fun d hd => by have := HI.out.dt d hd; omega)
      have b2 := HI.out.jl
      have hlk : (l.length : Int) * ((k : Int) - 1 + 1) ≤ 8 * 20000 := Int.mul_le_mul (by omega) (by omega) (by omega) (by omega)
      have hjn : q.jobs.length ≤ 1000000 := by omega
      clear HD HI b2 hlk
      obtain ⟨Aj, cj, rfl, _⟩ := own_slice HQ.out.jb
      have HQ0 : Hid (RefAt z.w w3.heap.size b u10 vs (.slice Aj q.jobs.length cj) ⟨q.ready, q.stints, judged l ticks q.jobs 0⟩) := Lib.hid (by unfold judged; simpa using HQ.out)
      go_wp2
      go_loopg [18] q.jobs.length (fun gk s18 wr => ∃ (i : Nat) (y : Ext w3), i + gk = q.jobs.length ∧ s18 = .int .i64 i ∧ wr = y.w ∧ RefAt y.w w3.heap.size b u10 vs (.slice Aj q.jobs.length cj) ⟨q.ready, q.stints, judged l ticks q.jobs i⟩)
      case atStart => exact ⟨0, z, by omega, rfl, rfl, HQ0.out⟩
      case round =>
        clear HQ0 HQ z
        obtain ⟨i, z, hi, rfl, rfl, hq⟩ := hrel
        have HQ := Lib.hid hq
        clear hq
        have k1 : z.w.cell? ⟨b, 1, none⟩ = some (.slice Aj q.jobs.length cj) := HQ.out.box.cell rfl
        have hbz := HQ.out.box.lt
        by_cases hlt2 : i < q.jobs.length
        · have hdl2 : decide ((i : Int) < (q.jobs.length : Int)) = true := by simp; omega
          have hil : (i : Int) < (q.jobs.length : Int) := by omega
          obtain ⟨gj, cj2, hvj, hcj2, hgb, hgjz⟩ := own_form HQ.out.jb (by dsimp only; rw [judged_len]; omega)
          dsimp only at hvj
          rw [judged_len] at hvj
          injection hvj with hvj _ hcc
          subst hvj hcc
          have hrd : z.w.ownsRow w3.heap.size 60 5 (.slice (some ⟨gj, 0, none⟩) q.jobs.length cj) q.jobs.length ((judged l ticks q.jobs i).flatMap donC) := by have := HQ.out.jb; dsimp only at this; rwa [judged_len] at this
          have hil2 : i < (judged l ticks q.jobs i).length := by rw [judged_len]; exact hlt2
          have d0 := don_cell hrd (by rw [judged_len]) hil2 0 (by omega)
          have d1 := don_cell hrd (by rw [judged_len]) hil2 1 (by omega)
          have d2 := don_cell hrd (by rw [judged_len]) hil2 2 (by omega)
          have d3 := don_cell hrd (by rw [judged_len]) hil2 3 (by omega)
          have d4 := don_cell hrd (by rw [judged_len]) hil2 4 (by omega)
          rw [judged_at l ticks q.jobs hlt2] at d0 d1 d2 d3 d4
          simp only [Nat.add_zero] at d0
          replace d0 : z.w.cell? ⟨gj, i * 5, none⟩ = some (.int .i64 (dnAt q.jobs i).tk) := d0
          replace d1 : z.w.cell? ⟨gj, i * 5 + 1, none⟩ = some (.int .i64 (dnAt q.jobs i).job) := d1
          replace d2 : z.w.cell? ⟨gj, i * 5 + 2, none⟩ = some (.int .i64 (dnAt q.jobs i).rel) := d2
          replace d3 : z.w.cell? ⟨gj, i * 5 + 3, none⟩ = some (.int .i64 (dnAt q.jobs i).resp) := d3
          replace d4 : z.w.cell? ⟨gj, i * 5 + 4, none⟩ = some (.bool (dnAt q.jobs i).miss) := d4
          have hgz := (hrd.lt gj rfl).2
          have HJN := Lib.hid (judged_next l ticks q.jobs hlt2)
          obtain ⟨ht1, ht2, ht3⟩ := HDT.out (dnAt q.jobs i) (by simp [dnAt, List.getD, hlt2])
          obtain ⟨sv, ⟨_, _, _, t3, _, _, _⟩, _⟩ := HAT.out (dnAt q.jobs i).tk ht1
          have hok := tok_at H0.out ht1
          have hdl1 := hok.d1
          have hdl2' : (tskAt l (dnAt q.jobs i).tk).dl ≤ 1000 := by have := hok.d2; have := hok.p2; omega
          have HMS : Hid ((missM l ticks (dnAt q.jobs i)).miss = (decide ((dnAt q.jobs i).rel + (tskAt l (dnAt q.jobs i).tk).dl ≤ ticks) && (decide ((dnAt q.jobs i).resp < 0) || decide ((tskAt l (dnAt q.jobs i).tk).dl < (dnAt q.jobs i).resp)))) := Lib.hid rfl
          clear hrd hil2 hok hgjz
          generalize hdd : dnAt q.jobs i = d at *
          generalize (tskAt l d.tk).dl = dl at *
          have HDD := Lib.hid hdd
          have htl : (d.tk : Int) < (l.length : Int) := by omega
          have hwr : IntKind.i64.wrap (d.rel + dl) = d.rel + dl := IntWalk.i64_in _ (by omega)
          clear hdd
          go_upto_region 40 with (fail)
          generalize hW : World.alloc z.w _ = W4 at *
          have r4 : RowAt W4 z.w.heap.size 60 (donC d) := by rw [← hW]; exact RowAt.new _ _ _
          have hb4 : Bel z.w W4 := by rw [← hW]; exact Bel.refl.alloc _
          clear hW d0 d1 d2 d3 d4 k1 hbz hgz
          have HQ4 := Lib.hid (HQ.out.bel hb4)
          obtain ⟨z3, hz3⟩ := ext_of (z.bel.trans hb4)
          clear hb4
          subst hz3
          generalize z.w.heap.size = nb at *
          have HR4 := Lib.hid r4
          have n0 := r4.cell (i := 0) rfl
          have n3 := r4.cell (i := 3) rfl
          have nz := r4.lt
          clear r4
          obtain ⟨late, hlate⟩ : ∃ late, late = (decide (d.resp < 0) || decide (dl < d.resp)) := ⟨_, rfl⟩
          have HLT := Lib.hid hlate
          clear hlate
          go_cut [20] from 232 to 276 (fun sl wx => sl = .bool late ∧ Bel z3.w wx)
          case first =>
            have hl := HLT.out
            by_cases h2 : d.resp < 0
            · have q2 : decide (d.resp < 0) = true := by simpa using h2
              obtain rfl : late = true := by rw [hl, q2]; rfl
              clear hl
              (refine wp_region_ext (wb := z3.w) (by (repeat (first | exact Ext.bel _ | exact Bel.refl | refine Bel.alloc ?_ _ | refine Bel.drew ?_ | refine Bel.drewN ?_ _))) (by kernel_rfl) (by kernel_rfl) ?_; (repeat (any_goals (first | go_big_quiet_step (fail) | quiet_step (fail) | (refine wpQuiet_step (fun K hK => ?_); go_simp; split <;> (refine hK _ ?_; clear hK K))))); all_goals (refine wpQuiet_nil ?_; intro _ hw'; obtain ⟨y, hw''⟩ := hw'; subst hw''))
              go_wp2
              go_meet
              case rel => exact ⟨rfl, y.bel⟩
            · have q2 : decide (d.resp < 0) = false := by simpa using h2
              rw [q2, Bool.false_or] at hl
              clear h2
              have HL := Lib.hid hl
              clear hl
              (refine wp_region_ext (wb := z3.w) (by (repeat (first | exact Ext.bel _ | exact Bel.refl | refine Bel.alloc ?_ _ | refine Bel.drew ?_ | refine Bel.drewN ?_ _))) (by kernel_rfl) (by kernel_rfl) ?_; (repeat (any_goals (first | go_big_quiet_step (fail) | quiet_step (fail) | (refine wpQuiet_step (fun K hK => ?_); go_simp; split <;> (refine hK _ ?_; clear hK K))))); all_goals (refine wpQuiet_nil ?_; intro _ hw'; obtain ⟨y, hw''⟩ := hw'; subst hw''))
              go_wp2
              go_meet
              case rel => exact ⟨by rw [HL.out], y.bel⟩
          case rest =>
          obtain ⟨rfl, hbw⟩ := hcut
          have HQ5 := Lib.hid (HQ4.out.bel hbw)
          have HR5 := Lib.hid (HR4.out.bel hbw)
          obtain ⟨z5, hz5⟩ := ext_of (z3.bel.trans hbw)
          clear hbw HQ4 HR4 n0 n3 nz HQ
          subst hz5
          have HX : Hid ((missM l ticks d).miss = (decide (d.rel + dl ≤ ticks) && late)) := Lib.hid (by rw [HMS.out, HLT.out])
          generalize hle : decide (d.rel + dl ≤ ticks) = le at *
          have HLE := Lib.hid hle
          clear hle HLT HMS
          go_upto_region 41 with (fail)
          have k1 : z5.w.cell? ⟨b, 1, none⟩ = some (.slice (some ⟨gj, 0, none⟩) q.jobs.length cj) := HQ5.out.box.cell rfl
          have hbz := HQ5.out.box.lt
          have n0' := HR5.out.cell (i := 0) rfl
          have n2' := HR5.out.cell (i := 2) rfl
          have nz' := HR5.out.lt
          cases late
          all_goals
            (refine wp_region_qtail 19 (wb := z5.w) (by (repeat (first | exact Ext.bel _ | exact Bel.refl | refine Bel.alloc ?_ _ | refine Bel.drew ?_ | refine Bel.drewN ?_ _))) (by kernel_rfl) (by kernel_rfl) ?_; simp only [List.take_succ_cons, List.take_zero, List.drop_succ_cons, List.drop_zero]; (repeat (any_goals (first | go_big_quiet_step (fail) | quiet_step (fail) | (refine wpQuiet_step (fun K hK => ?_); go_simp; split <;> (refine hK _ ?_; clear hK K))))); all_goals (refine wpQuiet_nil ?_; intro _ hw'; obtain ⟨y, hw''⟩ := hw'; subst hw''))
            have HQ6 := Lib.hid (HQ5.out.bel y.bel)
            obtain ⟨z6, hz6⟩ := ext_of (z5.bel.trans y.bel)
            generalize y.w = wy at *
            subst hz6
            have hrd : z6.w.ownsRow w3.heap.size 60 5 (.slice (some ⟨gj, 0, none⟩) q.jobs.length cj) q.jobs.length ((judged l ticks q.jobs i).flatMap donC) := by have := HQ6.out.jb; dsimp only at this; rwa [judged_len] at this
            have hil2 : i < (judged l ticks q.jobs i).length := by rw [judged_len]; exact hlt2
            have d4 := don_cell hrd (by rw [judged_len]) hil2 4 (by omega)
            rw [judged_at l ticks q.jobs hlt2, HDD.out] at d4
            replace d4 : z6.w.cell? ⟨gj, i * 5 + 4, none⟩ = some (.bool d.miss) := d4
            have f4 := hrd.frozenAt (i * 5 + 4)
            have hgz := (hrd.lt gj rfl).2
            have HSX : Hid (∀ m : Bool, RefAt (z6.w.setCell ⟨gj, i * 5 + 4, none⟩ (.bool m)) w3.heap.size b u10 vs (.slice (some ⟨gj, 0, none⟩) q.jobs.length cj) ⟨q.ready, q.stints, (judged l ticks q.jobs i).set i { dnAt (judged l ticks q.jobs i) i with miss := m }⟩) := Lib.hid (fun m => by
              obtain ⟨o1, o2⟩ := don_miss hrd (by rw [judged_len]) hil2 m
              exact HQ6.out.new_j o2 o1)
            have HBX := Lib.hid (fun m : Bool => z6.bel.set (p := ⟨gj, i * 5 + 4, none⟩) hgb (.bool m))
            clear hrd hil2 k1 hbz n0' n2' nz'
            go_wp2
            go_roundg (gk - 1)
            case measure => omega
            case rel =>
              obtain ⟨y, hy⟩ := ext_of (HBX.out (missM l ticks d).miss)
              refine ⟨i + 1, y, by omega, by go_num, by rw [← hy, HX.out, ← HLE.out]; simp, by rw [← hy, ← HJN.out]; exact HSX.out _⟩
        · obtain rfl : i = q.jobs.length := by omega
          have hdl2 : decide ((q.jobs.length : Int) < (q.jobs.length : Int)) = false := by simp
          have hjd : judged l ticks q.jobs q.jobs.length = (endS l pol ticks).jobs.map (missM l ticks) := by rw [← HQE.out]; unfold judged; simp
          have hjl : (judged l ticks q.jobs q.jobs.length).length = q.jobs.length := judged_len _ _ _ _
          obtain ⟨As, cs, rfl, _⟩ := own_slice HQ.out.st
          have k0 : z.w.cell? ⟨b, 0, none⟩ = some (.slice As q.stints.length cs) := HQ.out.box.cell rfl
          have r6 := HR63.out.bel z.bel
          have e0 := r6.cell (i := 0) rfl
          have e1 := r6.cell (i := 1) rfl
          have g0 := r6.frozen 0
          have g1 := r6.frozen 1
          have ez := r6.lt
          have R := Lib.hid ((r6.set 0 (.slice As q.stints.length cs)).set 1 (.slice Aj q.jobs.length cj))
          have B := Lib.hid (((HB3.out.trans z.bel).set (p := ⟨n0, 0, none⟩) (by rw [HN0.out]; exact Nat.le_refl _) (.slice As q.stints.length cs)).set (p := ⟨n0, 1, none⟩) (by rw [HN0.out]; exact Nat.le_refl _) (.slice Aj q.jobs.length cj))
          have HFS : Hid (z.w.ownsRow w3.heap.size 90 4 (.slice As q.stints.length cs) q.stints.length (q.stints.flatMap stnC)) := Lib.hid HQ.out.st
          have HFJ : Hid (z.w.ownsRow w3.heap.size 60 5 (.slice Aj q.jobs.length cj) q.jobs.length ((judged l ticks q.jobs q.jobs.length).flatMap donC)) := Lib.hid (by have := HQ.out.jb; dsimp only at this; rwa [hjl] at this)
          have gA := gro_set (gro_refl z.w (row := some n0)) 0 (.slice As q.stints.length cs)
          have gB := Lib.hid (gro_set gA 1 (.slice Aj q.jobs.length cj))
          have HS1 := Lib.hid (HFS.out.kept gB.out (own_box_ne r6 HFS.out (by decide)))
          have HS2 := Lib.hid (HFJ.out.kept gB.out (own_box_ne r6 HFJ.out (by decide)))
          have HJD := Lib.hid hjd
          have HJL := Lib.hid hjl
          clear r6 gA hjd hjl
          go_wp2
          generalize World.setCell _ ⟨n0, 1, none⟩ _ = W5 at *
          have w0 := R.out.cell (i := 0) rfl
          have w1 := R.out.cell (i := 1) rfl
          refine bodyPost_ret (v := .tuple #[.agg #[.slice As q.stints.length cs, .slice Aj q.jobs.length cj], .int .i64 0]) (by simp [results, Try.results45, go_sem, w0, w1]) rfl ?_
          refine ⟨_, _, by rw [HM.out], ?_, ?_, B.out⟩
          · rw [HM.out, ← HQE.out]
            exact RdAt.of_own stnC_len rfl HS1.out
          · rw [HM.out]
            dsimp only
            rw [← HJD.out]
            exact RdAt.of_own donC_len HJL.out.symm HS2.out
end Go.Proofs.Ytbilfpoghohddaa
