import Derived.Test.YthidbmeocifkcaaZPclo
import Derived.BigGuard
namespace Go.Proofs.Ythidbmeocifkcaa
open Go.RowKit
theorem edgeHead_true {p : PP} {x : PE} : edgeHead p x = true ↔ (x.frm < 0 ∨ (p.good.length : Int) ≤ x.frm ∨ x.to < 0 ∨ (p.good.length : Int) ≤ x.to ∨ x.ev < 0 ∨ p.evs ≤ x.ev ∨ 3 < x.rst.length ∨ 16 < x.grd.length) := by
  simp only [edgeHead, Bool.or_eq_true, decide_eq_true_eq, or_assoc]
theorem edgeHead_false {p : PP} {x : PE} : edgeHead p x = false ↔ (0 ≤ x.frm ∧ x.frm < (p.good.length : Int) ∧ 0 ≤ x.to ∧ x.to < (p.good.length : Int) ∧ 0 ≤ x.ev ∧ x.ev < p.evs ∧ x.rst.length ≤ 3 ∧ x.grd.length ≤ 16) := by
  rw [← Bool.not_eq_true, edgeHead_true]; omega
theorem eh_t {p : PP} {x : PE} (h : x.frm < 0 ∨ (p.good.length : Int) ≤ x.frm ∨ x.to < 0 ∨ (p.good.length : Int) ≤ x.to ∨ x.ev < 0 ∨ p.evs ≤ x.ev ∨ 3 < x.rst.length ∨ 16 < x.grd.length) : edgeHead p x = true := edgeHead_true.mpr h
set_option maxRecDepth 100000 in
set_option maxHeartbeats 8000000 in
theorem redge_any (p : PP) (x : PE) (gv ev cv rv : Value) (w : World) (hg : BoolsAt w w.heap.size gv p.good) (hc : ConsAt w w.heap.size cv x.grd) (hr : IntsAt w w.heap.size rv x.rst)
    (hlg : p.good.length ≤ 1000000) (hlc : x.grd.length ≤ 1000000) (hlr : x.rst.length ≤ 1000000) :
    Calls Try.prog 40 #[.agg #[.int .i64 p.evs, .int .i64 p.clks, .int .i64 p.ini, gv, ev], .agg #[.int .i64 x.frm, .int .i64 x.to, .int .i64 x.ev, cv, rv]] w fun e w' => e = .returned (.bool (!edgeBad p x)) ∧ Bel w w' := by
  obtain ⟨A1, k1, rfl, hk1, _⟩ := hg
  obtain ⟨A2, k2, rfl, hk2, hA2⟩ := hc
  obtain ⟨A3, k3, rfl, hk3, hA3⟩ := hr
  have HA2 := Lib.hid hA2
  have HA3 := Lib.hid hA3
  clear hA2 hA3
  go_enter Try.func40, Try.ntmps40
  go_upto_region 1 with (fail)
  (generalize hW : World.alloc _ _ = wb; have q0_0 := (congrArg (fun W : World => W.cell? ⟨w.heap.size, 0, none⟩) hW).symm; simp [go_sem] at q0_0; have q0_1 := (congrArg (fun W : World => W.cell? ⟨w.heap.size, 1, none⟩) hW).symm; simp [go_sem] at q0_1; have q0_2 := (congrArg (fun W : World => W.cell? ⟨w.heap.size, 2, none⟩) hW).symm; simp [go_sem] at q0_2; have q0_3 := (congrArg (fun W : World => W.cell? ⟨w.heap.size, 3, none⟩) hW).symm; simp [go_sem] at q0_3; have q0_4 := (congrArg (fun W : World => W.cell? ⟨w.heap.size, 4, none⟩) hW).symm; simp [go_sem] at q0_4; have qz0 : w.heap.size < wb.heap.size := (by rw [← hW]; simp [go_sem]; try omega); have q1_0 := (congrArg (fun W : World => W.cell? ⟨w.heap.size + 1, 0, none⟩) hW).symm; simp [go_sem] at q1_0; have q1_1 := (congrArg (fun W : World => W.cell? ⟨w.heap.size + 1, 1, none⟩) hW).symm; simp [go_sem] at q1_1; have q1_2 := (congrArg (fun W : World => W.cell? ⟨w.heap.size + 1, 2, none⟩) hW).symm; simp [go_sem] at q1_2; have q1_3 := (congrArg (fun W : World => W.cell? ⟨w.heap.size + 1, 3, none⟩) hW).symm; simp [go_sem] at q1_3; have q1_4 := (congrArg (fun W : World => W.cell? ⟨w.heap.size + 1, 4, none⟩) hW).symm; simp [go_sem] at q1_4; have qz1 : w.heap.size + 1 < wb.heap.size := (by rw [← hW]; simp [go_sem]; try omega); have HBW : Hid (Bel w wb) := Lib.hid (by rw [← hW]; (repeat (first | exact Ext.bel _ | exact Bel.refl | refine Bel.alloc ?_ _ | refine Bel.drew ?_ | refine Bel.drewN ?_ _))); clear hW; have hkw := HBW.out.cells)
  have HT := Lib.hid (fun h => (edgeHead_true (p := p) (x := x)).mpr h)
  have HF := Lib.hid (fun h => (edgeHead_false (p := p) (x := x)).mpr h)
  go_cut [55] from 8 (fun s wx => s = .bool (edgeHead p x) ∧ wx = wb)
  case first =>
    generalize edgeHead p x = eh at *
    go_wp2
    all_goals
      go_meet
      case rel =>
        first
          | exact ⟨by rw [HT.out (by omega)], rfl⟩
          | (by_cases hh : x.frm < 0 ∨ (p.good.length : Int) ≤ x.frm ∨ x.to < 0 ∨ (p.good.length : Int) ≤ x.to ∨ x.ev < 0 ∨ p.evs ≤ x.ev ∨ 3 < x.rst.length ∨ 16 < x.grd.length
             · exact ⟨by rw [HT.out hh]; simp; omega, rfl⟩
             · exact ⟨by rw [HF.out (by omega)]; simp; omega, rfl⟩)
  case rest =>
  obtain ⟨rfl, rfl⟩ := hcut
  clear HT HF
  by_cases heh : edgeHead p x = true
  · have HR : Hid (edgeBad p x = true) := Lib.hid (by unfold edgeBad; rw [if_pos heh])
    rw [heh]
    clear heh
    go_wp2
    go_ret
    exact ⟨ret_bool (by rw [HR.out]; rfl), HBW.out⟩
  have heh0 : edgeHead p x = false := by simpa using heh
  have HR : Hid (edgeBad p x = if anyP (pcBad p.clks) x.grd then true else anyP (rstBad p.clks) x.rst) := Lib.hid (by unfold edgeBad; rw [if_neg heh])
  rw [heh0]
  clear heh heh0
  go_wp2
  go_loopw [5] (fun si wr => ∃ (j : Nat) (z : Ext wc), j ≤ x.grd.length ∧ si = .int .i64 j ∧ wr = z.w ∧ anyP (pcBad p.clks) (x.grd.drop j) = anyP (pcBad p.clks) x.grd) (fun si _ => x.grd.length - (intOf si).toNat)
  case atStart => exact ⟨0, ⟨wc, Bel.refl⟩, by omega, rfl, rfl, rfl⟩
  case round =>
    obtain ⟨j, z, hj, rfl, rfl, hd⟩ := hrel
    by_cases hlt : j < x.grd.length
    · rw [pc_drop hlt] at hd
      obtain ⟨b, off, rfl, hb, hA⟩ := HA2.out (by omega)
      obtain ⟨c0, c1, c2, c3⟩ := hA j hlt
      have hbw : b < wc.heap.size := Nat.lt_of_lt_of_le hb HBW.out.le
      have hk0 := (HBW.out.cells b (off + j * 4) hb).trans c0
      have hk1' := (HBW.out.cells b (off + j * 4 + 1) hb).trans c1
      have hk2' := (HBW.out.cells b (off + j * 4 + 2) hb).trans c2
      have hk3' := (HBW.out.cells b (off + j * 4 + 3) hb).trans c3
      clear hA c0 c1 c2 c3 hkw
      by_cases hbad : pcBad p.clks (pcAt x.grd j) = true
      · have HD : Hid (anyP (pcBad p.clks) x.grd = true) := Lib.hid (by rw [← hd, anyP_t hbad])
        have hcs : (pcAt x.grd j).clk < 1 ∨ p.clks < (pcAt x.grd j).clk ∨ (pcAt x.grd j).c < 0 ∨ 30 < (pcAt x.grd j).c := by simpa only [pcBad, Bool.or_eq_true, decide_eq_true_eq, or_assoc] using hbad
        clear hd hbad
        go_wp2
        all_goals first
          | (go_ret
             exact ⟨ret_bool (by rw [HR.out, HD.out]; rfl), HBW.out.trans (z.bel.alloc _)⟩)
          | (exfalso; omega)
      · have hbad0 : pcBad p.clks (pcAt x.grd j) = false := by simpa using hbad
        have HD : Hid (anyP (pcBad p.clks) (x.grd.drop (j + 1)) = anyP (pcBad p.clks) x.grd) := Lib.hid (by rw [← hd, anyP_f hbad0])
        obtain ⟨h1, h2, h3, h4⟩ := pcBad_false.mp hbad0
        clear hd hbad hbad0
        go_wp2
        go_roundw
        case rel => exact ⟨j + 1, ⟨_, z.bel.alloc _⟩, by omega, by go_num, rfl, HD.out⟩
        case measure => simp [intOf]; omega
    · obtain rfl : j = x.grd.length := by omega
      have HD : Hid (anyP (pcBad p.clks) x.grd = false) := Lib.hid (by rw [← hd]; simp [anyP])
      clear hd
      go_wp2
      go_loopw [7] (fun si wr => ∃ (i : Nat) (y : Ext wc), i ≤ x.rst.length ∧ si = .int .i64 i ∧ wr = y.w ∧ anyP (rstBad p.clks) (x.rst.drop i) = anyP (rstBad p.clks) x.rst) (fun si _ => x.rst.length - (intOf si).toNat)
      case atStart => exact ⟨0, z, by omega, rfl, rfl, rfl⟩
      case round =>
        obtain ⟨i, y, hi, rfl, rfl, hd⟩ := hrel
        by_cases hli : i < x.rst.length
        · rw [int_drop hli] at hd
          obtain ⟨b, off, rfl, hb, hA⟩ := HA3.out (by omega)
          have c0 := hA i hli
          have hbw : b < wc.heap.size := Nat.lt_of_lt_of_le hb HBW.out.le
          have hk0 := (HBW.out.cells b (off + i) hb).trans c0
          clear hA c0 hkw
          generalize x.rst.getD i 0 = q at *
          by_cases hbad : rstBad p.clks q = true
          · have HE : Hid (anyP (rstBad p.clks) x.rst = true) := Lib.hid (by rw [← hd, anyP_t hbad])
            have hcs : q < 1 ∨ p.clks < q := by simpa only [rstBad, Bool.or_eq_true, decide_eq_true_eq] using hbad
            clear hd hbad
            go_upto_region 12 with (fail)
            (refine wp_region_ext (wb := wc) (by (repeat (first | exact Ext.bel _ | exact Bel.refl | refine Bel.alloc ?_ _ | refine Bel.drew ?_ | refine Bel.drewN ?_ _))) (by kernel_rfl) (by kernel_rfl) ?_; (repeat (any_goals (first | go_big_quiet_step (fail) | quiet_step (fail) | (refine wpQuiet_step (fun K hK => ?_); go_simp; split <;> (refine hK _ ?_; clear hK K))))); all_goals (refine wpQuiet_nil ?_; intro _ hw'; obtain ⟨y, hw''⟩ := hw'; subst hw''))
            all_goals go_wp2
            all_goals first
              | (go_ret
                 exact ⟨ret_bool (by rw [HR.out, HD.out, HE.out]; rfl), HBW.out.trans y.bel⟩)
              | (exfalso; omega)
          · have hbad0 : rstBad p.clks q = false := by simpa using hbad
            have HE : Hid (anyP (rstBad p.clks) (x.rst.drop (i + 1)) = anyP (rstBad p.clks) x.rst) := Lib.hid (by rw [← hd, anyP_f hbad0])
            have hcs : 1 ≤ q ∧ q ≤ p.clks := by simp only [rstBad, Bool.or_eq_false_iff, decide_eq_false_iff_not] at hbad0; omega
            obtain ⟨h1, h2⟩ := hcs
            have hdd : decide (q < 1) = false := by simp; omega
            have hde : decide (p.clks < q) = false := by simp; omega
            clear hd hbad hbad0
            go_upto_region 12 with (fail)
            (refine wp_region_ext (wb := wc) (by (repeat (first | exact Ext.bel _ | exact Bel.refl | refine Bel.alloc ?_ _ | refine Bel.drew ?_ | refine Bel.drewN ?_ _))) (by kernel_rfl) (by kernel_rfl) ?_; (repeat (any_goals (first | go_big_quiet_step (fail) | quiet_step (fail) | (refine wpQuiet_step (fun K hK => ?_); go_simp; split <;> (refine hK _ ?_; clear hK K))))); all_goals (refine wpQuiet_nil ?_; intro _ hw'; obtain ⟨y, hw''⟩ := hw'; subst hw''))
            go_wp2
            go_roundw
            case rel => exact ⟨i + 1, y, by omega, by go_num, rfl, HE.out⟩
            case measure => simp [intOf]; omega
        · obtain rfl : i = x.rst.length := by omega
          have HE : Hid (anyP (rstBad p.clks) x.rst = false) := Lib.hid (by rw [← hd]; simp [anyP])
          clear hd
          go_wp2
          go_ret
          exact ⟨ret_bool (by rw [HR.out, HD.out, HE.out]; rfl), HBW.out.trans y.bel⟩
end Go.Proofs.Ythidbmeocifkcaa
