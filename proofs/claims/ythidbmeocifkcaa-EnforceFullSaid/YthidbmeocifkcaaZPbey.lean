import Derived.Test.YthidbmeocifkcaaZPrchk
namespace Go.Proofs.Ythidbmeocifkcaa
open Go.RowKit
def bigE (e : PE) : Bool := decide (50 < e.grd.length) || decide (50 < e.rst.length)
def beyondM (p : PP) : Bool := if 100 < p.good.length ∨ 100 < p.edges.length then true else anyP bigE p.edges
set_option maxRecDepth 100000 in
set_option maxHeartbeats 4000000 in
theorem beyond_any (p : PP) (gv ev : Value) (w : World) (h : PropAt w w.heap.size gv ev p) :
    Calls Try.prog 10 #[.agg #[.int .i64 p.evs, .int .i64 p.clks, .int .i64 p.ini, gv, ev]] w fun e w' => e = .returned (.bool (beyondM p)) ∧ Bel w w' := by
  have HE := Lib.hid h.e
  obtain ⟨A1, k1, rfl, hk1⟩ := h.g.form
  obtain ⟨A2, k2, rfl, hk2⟩ := h.e.form
  clear h
  by_cases hg : 100 < p.good.length
  · have HR : Hid (beyondM p = true) := Lib.hid (by unfold beyondM; rw [if_pos (.inl hg)])
    have hd : decide (100 < (p.good.length : Int)) = true := by simp; omega
    go_enter Try.func10, Try.ntmps10
    go_upto_region 1 with (fail)
    (generalize hW : World.alloc _ _ = wb; have q0_0 := (congrArg (fun W : World => W.cell? ⟨w.heap.size, 0, none⟩) hW).symm; simp [go_sem] at q0_0; have q0_1 := (congrArg (fun W : World => W.cell? ⟨w.heap.size, 1, none⟩) hW).symm; simp [go_sem] at q0_1; have q0_2 := (congrArg (fun W : World => W.cell? ⟨w.heap.size, 2, none⟩) hW).symm; simp [go_sem] at q0_2; have q0_3 := (congrArg (fun W : World => W.cell? ⟨w.heap.size, 3, none⟩) hW).symm; simp [go_sem] at q0_3; have q0_4 := (congrArg (fun W : World => W.cell? ⟨w.heap.size, 4, none⟩) hW).symm; simp [go_sem] at q0_4; have qz0 : w.heap.size < wb.heap.size := (by rw [← hW]; simp [go_sem]; try omega); have HBW : Hid (Bel w wb) := Lib.hid (by rw [← hW]; (repeat (first | exact Ext.bel _ | exact Bel.refl | refine Bel.alloc ?_ _ | refine Bel.drew ?_ | refine Bel.drewN ?_ _))); clear hW; have hkw := HBW.out.cells)
    go_wp2
    go_ret
    exact ⟨ret_bool HR.out.symm, HBW.out⟩
  have hd : decide (100 < (p.good.length : Int)) = false := by simp; omega
  by_cases hg2 : 100 < p.edges.length
  · have HR : Hid (beyondM p = true) := Lib.hid (by unfold beyondM; rw [if_pos (.inr hg2)])
    have hd2 : decide (100 < (p.edges.length : Int)) = true := by simp; omega
    go_enter Try.func10, Try.ntmps10
    go_upto_region 1 with (fail)
    (generalize hW : World.alloc _ _ = wb; have q0_0 := (congrArg (fun W : World => W.cell? ⟨w.heap.size, 0, none⟩) hW).symm; simp [go_sem] at q0_0; have q0_1 := (congrArg (fun W : World => W.cell? ⟨w.heap.size, 1, none⟩) hW).symm; simp [go_sem] at q0_1; have q0_2 := (congrArg (fun W : World => W.cell? ⟨w.heap.size, 2, none⟩) hW).symm; simp [go_sem] at q0_2; have q0_3 := (congrArg (fun W : World => W.cell? ⟨w.heap.size, 3, none⟩) hW).symm; simp [go_sem] at q0_3; have q0_4 := (congrArg (fun W : World => W.cell? ⟨w.heap.size, 4, none⟩) hW).symm; simp [go_sem] at q0_4; have qz0 : w.heap.size < wb.heap.size := (by rw [← hW]; simp [go_sem]; try omega); have HBW : Hid (Bel w wb) := Lib.hid (by rw [← hW]; (repeat (first | exact Ext.bel _ | exact Bel.refl | refine Bel.alloc ?_ _ | refine Bel.drew ?_ | refine Bel.drewN ?_ _))); clear hW; have hkw := HBW.out.cells)
    go_wp2
    go_ret
    exact ⟨ret_bool HR.out.symm, HBW.out⟩
  have hd2 : decide (100 < (p.edges.length : Int)) = false := by simp; omega
  have HR : Hid (beyondM p = anyP bigE p.edges) := Lib.hid (by unfold beyondM; rw [if_neg (by omega)])
  have hle : p.edges.length ≤ 100 := by omega
  go_enter Try.func10, Try.ntmps10
  go_upto_region 1 with (fail)
  (generalize hW : World.alloc _ _ = wb; have q0_0 := (congrArg (fun W : World => W.cell? ⟨w.heap.size, 0, none⟩) hW).symm; simp [go_sem] at q0_0; have q0_1 := (congrArg (fun W : World => W.cell? ⟨w.heap.size, 1, none⟩) hW).symm; simp [go_sem] at q0_1; have q0_2 := (congrArg (fun W : World => W.cell? ⟨w.heap.size, 2, none⟩) hW).symm; simp [go_sem] at q0_2; have q0_3 := (congrArg (fun W : World => W.cell? ⟨w.heap.size, 3, none⟩) hW).symm; simp [go_sem] at q0_3; have q0_4 := (congrArg (fun W : World => W.cell? ⟨w.heap.size, 4, none⟩) hW).symm; simp [go_sem] at q0_4; have qz0 : w.heap.size < wb.heap.size := (by rw [← hW]; simp [go_sem]; try omega); have HBW : Hid (Bel w wb) := Lib.hid (by rw [← hW]; (repeat (first | exact Ext.bel _ | exact Bel.refl | refine Bel.alloc ?_ _ | refine Bel.drew ?_ | refine Bel.drewN ?_ _))); clear hW; have hkw := HBW.out.cells)
  clear hkw
  go_wp2
  go_loopw [3] (fun si wr => ∃ j : Nat, j ≤ p.edges.length ∧ si = .int .i64 j ∧ wr = wb ∧ anyP bigE (p.edges.drop j) = anyP bigE p.edges) (fun si _ => p.edges.length - (intOf si).toNat)
  case atStart => exact ⟨0, by omega, rfl, rfl, rfl⟩
  case round =>
    obtain ⟨j, hj, rfl, rfl, hdr⟩ := hrel
    by_cases hlt : j < p.edges.length
    · rw [pe_drop hlt] at hdr
      have hdj : decide ((j : Int) < (p.edges.length : Int)) = true := by simp; omega
      obtain ⟨b, off, rfl, hb, hA⟩ := HE.out.at_ (by omega)
      obtain ⟨cv, rv, ⟨c0, c1, c2, c3, c4⟩, hcv, hrv⟩ := hA j hlt
      obtain ⟨A3, k3, rfl, hk3⟩ := hcv.form
      obtain ⟨A4, k4, rfl, hk4⟩ := hrv.form
      have hbw : b < wr.heap.size := Nat.lt_of_lt_of_le hb HBW.out.le
      have e3 := (HBW.out.cells b (off + j * 5 + 3) hb).trans c3
      have e4 := (HBW.out.cells b (off + j * 5 + 4) hb).trans c4
      clear hA c0 c1 c2 c3 c4 hcv hrv
      by_cases h1 : 50 < (peAt p.edges j).grd.length
      · have hq : decide (50 < ((peAt p.edges j).grd.length : Int)) = true := by simp; omega
        have HD : Hid (anyP bigE p.edges = true) := Lib.hid (by rw [← hdr, anyP_t (by simp [bigE]; omega)])
        clear hdr
        go_wp2
        go_ret
        exact ⟨ret_bool (by rw [HR.out, HD.out]), HBW.out⟩
      have hq : decide (50 < ((peAt p.edges j).grd.length : Int)) = false := by simp; omega
      by_cases h2 : 50 < (peAt p.edges j).rst.length
      · have hq2 : decide (50 < ((peAt p.edges j).rst.length : Int)) = true := by simp; omega
        have HD : Hid (anyP bigE p.edges = true) := Lib.hid (by rw [← hdr, anyP_t (by simp [bigE]; omega)])
        clear hdr
        go_wp2
        go_ret
        exact ⟨ret_bool (by rw [HR.out, HD.out]), HBW.out⟩
      have hq2 : decide (50 < ((peAt p.edges j).rst.length : Int)) = false := by simp; omega
      have HD : Hid (anyP bigE (p.edges.drop (j + 1)) = anyP bigE p.edges) := Lib.hid (by rw [← hdr, anyP_f (by simp [bigE]; omega)])
      clear hdr
      go_wp2
      go_roundw
      case rel => exact ⟨j + 1, by omega, by go_num, trivial, HD.out⟩
      case measure => simp [intOf]; omega
    · obtain rfl : j = p.edges.length := by omega
      have hdj : decide ((p.edges.length : Int) < (p.edges.length : Int)) = false := by simp
      have HD : Hid (anyP bigE p.edges = false) := Lib.hid (by rw [← hdr]; simp [anyP])
      clear hdr
      go_wp2
      go_ret
      exact ⟨ret_bool (by rw [HR.out, HD.out]), HBW.out⟩
theorem beyond_sized {p : PP} (h : beyondM p = false) (hw : p.wf) : PSized p := by
  unfold beyondM at h
  by_cases hb : 100 < p.good.length ∨ 100 < p.edges.length
  · rw [if_pos hb] at h; cases h
  · rw [if_neg hb] at h
    have ha := (anyP_iff _ _).mp h
    refine ⟨by omega, by omega, fun x hx => ?_, hw⟩
    have := ha x hx
    simp [bigE] at this
    omega
end Go.Proofs.Ythidbmeocifkcaa
