import Derived.Test.YthcdemmamggboaaHleaf
import Derived.Test.YthcdemmamggboaaTcopy
namespace Go.Proofs.Ythcdemmamggboaa
open Go.RowKit
theorem tskm {l : List Tsk} {k : Nat} (h : k < l.length) : tskAt l k ∈ l := by simp [tskAt, List.getD, h]
structure JOk (l : List Tsk) (j : Job) : Prop where
  tk : j.tk < l.length
  n0 : 0 ≤ j.num
  n1 : j.num ≤ 20000
  r0 : 0 ≤ j.rel
  r1 : j.rel ≤ 20000
  d0 : 0 ≤ j.dn
  d1 : j.dn < (tskAt l j.tk).cost
theorem JobOk.ok {l : List Tsk} {t : Int} {n : Nat} {j : Job} (h : JobOk l t n j) (ht : t ≤ 20000) : JOk l j :=
  ⟨h.tk, h.n0, by have := h.n1; omega, h.r0, by have := h.r1; omega, h.d0, h.d1⟩
def jobV (j : Job) : Value := .agg #[.int .i64 j.tk, .int .i64 j.num, .int .i64 j.rel, .int .i64 j.dn, .int .i64 j.pos]
set_option maxRecDepth 100000 in
set_option maxHeartbeats 8000000 in
theorem rank_any (v : Value) (l : List Tsk) (j : Job) (w : World) (h : TsksAt w w.heap.size v l) (hs : Sized l) (h0 : rchk l = 0) (hj : JOk l j) :
    Calls Try.prog 39 #[v, .agg #[.int .i64 j.tk, .int .i64 j.num, .int .i64 j.rel, .int .i64 j.dn, .int .i64 j.pos]] w fun e w' => e = .returned (.tuple #[.int .i64 (rankM l j).1, .bool (rankM l j).2]) ∧ Bel w w' := by
  have HH := Lib.hid h
  have HZ := Lib.hid hs
  have hlt := hj.tk
  have hd0 := hj.d0
  have hd1 : j.dn ≤ 1000 := by have := hj.d1; have h1 := toks_of h0 _ (tskm hlt); have := h1.c2; have := h1.d2; have := h1.p2; omega
  have hcl := fun (r : Int) (W : World) (hW : Bel w W) => ceiling_any v l r W (h.keep hW.keeps hW.le) hs.len (fun i hi => (hs.parts i hi).1)
  obtain ⟨A, c, rfl, hc⟩ := h.form
  obtain ⟨b, off, rfl, hb, hA⟩ := h.at_ (by omega)
  obtain ⟨sv, ⟨t0, t1, t2, t3, t4, t5, t6⟩, hS⟩ := (hA j.tk hlt)
  obtain ⟨A2, c2, rfl, hc2⟩ := hS.form
  have HSV := Lib.hid hS
  have hsl := (hs.parts j.tk hlt).1
  have HSO := Lib.hid (fun i (hi : i < (tskAt l j.tk).secs.length) => sec_ok h0 hlt hi)
  have HCL := Lib.hid hcl
  have HRK : Hid (rankS l j.dn ((tskAt l j.tk).prio, false) ((tskAt l j.tk).secs.drop 0) = rankM l j) := Lib.hid rfl
  clear h hs h0 hj hA hS hcl
  go_enter Try.func39, Try.ntmps39
  go_upto_region 2 with (fail)
  (generalize hW : World.alloc _ _ = wb; have q0_0 := (congrArg (fun W : World => W.cell? ⟨w.heap.size, 0, none⟩) hW).symm; simp [go_sem] at q0_0; have q0_1 := (congrArg (fun W : World => W.cell? ⟨w.heap.size, 1, none⟩) hW).symm; simp [go_sem] at q0_1; have q0_2 := (congrArg (fun W : World => W.cell? ⟨w.heap.size, 2, none⟩) hW).symm; simp [go_sem] at q0_2; have q0_3 := (congrArg (fun W : World => W.cell? ⟨w.heap.size, 3, none⟩) hW).symm; simp [go_sem] at q0_3; have q0_4 := (congrArg (fun W : World => W.cell? ⟨w.heap.size, 4, none⟩) hW).symm; simp [go_sem] at q0_4; have qz0 : w.heap.size < wb.heap.size := (by rw [← hW]; simp [go_sem]; try omega); have q1_0 := (congrArg (fun W : World => W.cell? ⟨w.heap.size + 1, 0, none⟩) hW).symm; simp [go_sem] at q1_0; have q1_1 := (congrArg (fun W : World => W.cell? ⟨w.heap.size + 1, 1, none⟩) hW).symm; simp [go_sem] at q1_1; have q1_2 := (congrArg (fun W : World => W.cell? ⟨w.heap.size + 1, 2, none⟩) hW).symm; simp [go_sem] at q1_2; have q1_3 := (congrArg (fun W : World => W.cell? ⟨w.heap.size + 1, 3, none⟩) hW).symm; simp [go_sem] at q1_3; have q1_4 := (congrArg (fun W : World => W.cell? ⟨w.heap.size + 1, 4, none⟩) hW).symm; simp [go_sem] at q1_4; have q1_5 := (congrArg (fun W : World => W.cell? ⟨w.heap.size + 1, 5, none⟩) hW).symm; simp [go_sem] at q1_5; have q1_6 := (congrArg (fun W : World => W.cell? ⟨w.heap.size + 1, 6, none⟩) hW).symm; simp [go_sem] at q1_6; have qz1 : w.heap.size + 1 < wb.heap.size := (by rw [← hW]; simp [go_sem]; try omega); have HBW : Hid (Bel w wb) := Lib.hid (by rw [← hW]; (repeat (first | exact Ext.bel _ | exact Bel.refl | refine Bel.alloc ?_ _ | refine Bel.drew ?_ | refine Bel.drewN ?_ _))); clear hW; have hkw := HBW.out.cells)
  clear t0 t1 t2 t3 t4 t5 t6
  go_wp2
  go_loopg [7, 8, 9] (tskAt l j.tk).secs.length (fun gk s7 s8 s9 wr => ∃ (i : Nat) (m : Int) (q : Bool) (z : Ext wb), i + gk = (tskAt l j.tk).secs.length ∧ s7 = .int .i64 m ∧ s8 = .bool q ∧ s9 = .int .i64 i ∧ wr = z.w ∧ rankS l j.dn (m, q) ((tskAt l j.tk).secs.drop i) = rankM l j)
  case atStart => exact ⟨0, _, false, ⟨wb, Bel.refl⟩, by omega, rfl, rfl, rfl, rfl, HRK.out⟩
  case round =>
    clear HRK
    obtain ⟨i, m, q, z, hi, rfl, rfl, rfl, rfl, hd⟩ := hrel
    by_cases hlj : i < (tskAt l j.tk).secs.length
    · have hdl : decide ((i : Int) < ((tskAt l j.tk).secs.length : Int)) = true := by simp; omega
      have hdl' : decide (i < (tskAt l j.tk).secs.length) = true := by simpa using hlj
      obtain ⟨b2, off2, rfl, hb2, hA2⟩ := HSV.out.at_ (by omega)
      obtain ⟨s0, s1, s2⟩ := hA2 i hlj
      have hso := HSO.out i hlj
      rw [secs_drop hlj] at hd
      simp only [rankS] at hd
      have HI := Lib.hid fun (y : Ext wb) => inside_any (secAt (tskAt l j.tk).secs i) j.dn y.w hso hd0 (by omega)
      have hb2w : b2 < wb.heap.size := Nat.lt_of_lt_of_le hb2 HBW.out.le
      clear hA2 hso
      cases hin : insideB (secAt (tskAt l j.tk).secs i) j.dn
      · rw [hin] at HI hd
        have HD := Lib.hid hd
        clear hd hin
        generalize (secAt (tskAt l j.tk).secs i).res = res at *
        generalize (secAt (tskAt l j.tk).secs i).frm = frm at *
        generalize (secAt (tskAt l j.tk).secs i).len = len at *
        go_upto_region 6 with (fail)
        (refine wp_region_ext (wb := wb) (by (repeat (first | exact Ext.bel _ | exact Bel.refl | refine Bel.alloc ?_ _ | refine Bel.drew ?_ | refine Bel.drewN ?_ _))) (by kernel_rfl) (by kernel_rfl) ?_; (repeat (any_goals (first | go_big_quiet_step ((go_at_call 46; with_reducible exact ext_call (HI.out _))) | quiet_step ((go_at_call 46; with_reducible exact ext_call (HI.out _))) | (refine wpQuiet_step (fun K hK => ?_); go_simp; split <;> (refine hK _ ?_; clear hK K))))); all_goals (refine wpQuiet_nil ?_; intro _ hw'; obtain ⟨y, hw''⟩ := hw'; subst hw''))
        go_wp2
        go_roundg (gk - 1)
        case measure => omega
        case rel => exact ⟨i + 1, m, q, y, by omega, rfl, rfl, by go_num, rfl, HD.out⟩
      · rw [hin] at HI hd
        have HD := Lib.hid hd
        have HC2 := Lib.hid (fun (y : Ext wb) => HCL.out (secAt (tskAt l j.tk).secs i).res y.w (HBW.out.trans y.bel))
        clear hd hin
        generalize (secAt (tskAt l j.tk).secs i).res = res at *
        generalize (secAt (tskAt l j.tk).secs i).frm = frm at *
        generalize (secAt (tskAt l j.tk).secs i).len = len at *
        generalize hcv : ceilT res l 0 = cv at *
        have HMX : Hid (rankS l j.dn (mx m cv, true) ((tskAt l j.tk).secs.drop (i + 1)) = rankM l j) := HD
        clear hcv HD
        go_upto_region 6 with (fail)
        (refine wp_region_ext (wb := wb) (by (repeat (first | exact Ext.bel _ | exact Bel.refl | refine Bel.alloc ?_ _ | refine Bel.drew ?_ | refine Bel.drewN ?_ _))) (by kernel_rfl) (by kernel_rfl) ?_; (repeat (any_goals (first | go_big_quiet_step ((go_at_call 46; with_reducible exact ext_call (HI.out _))) | quiet_step ((go_at_call 46; with_reducible exact ext_call (HI.out _))) | (refine wpQuiet_step (fun K hK => ?_); go_simp; split <;> (refine hK _ ?_; clear hK K))))); all_goals (refine wpQuiet_nil ?_; intro _ hw'; obtain ⟨y, hw''⟩ := hw'; subst hw''))
        rcases Int.lt_trichotomy m cv with hm | hm | hm
        · have hdm : decide (m < cv) = true := by simpa using hm
          have HX : Hid (mx m cv = cv) := Lib.hid (by unfold mx; rw [if_pos hm])
          rw [HX.out] at HMX
          go_wp2_with (first | (go_at_call 42; (with_reducible refine (HC2.out _).mono ?_); rintro e w2 ⟨rfl, rfl⟩))
          all_goals
            go_roundg (gk - 1)
            case measure => omega
            case rel => exact ⟨i + 1, _, true, y, by omega, rfl, rfl, by go_num, rfl, HMX.out⟩
        · subst hm
          have HX : Hid (mx m m = m) := Lib.hid (by unfold mx; simp)
          rw [HX.out] at HMX
          go_wp2_with (first | (go_at_call 42; (with_reducible refine (HC2.out _).mono ?_); rintro e w2 ⟨rfl, rfl⟩))
          all_goals
            go_roundg (gk - 1)
            case measure => omega
            case rel => exact ⟨i + 1, _, true, y, by omega, rfl, rfl, by go_num, rfl, HMX.out⟩
        · have hdm : decide (m < cv) = false := by simp; omega
          have hdm2 : decide (cv < m) = true := by simpa using hm
          have HX : Hid (mx m cv = m) := Lib.hid (by unfold mx; rw [if_neg (by omega)])
          rw [HX.out] at HMX
          go_wp2_with (first | (go_at_call 42; (with_reducible refine (HC2.out _).mono ?_); rintro e w2 ⟨rfl, rfl⟩))
          all_goals
            go_roundg (gk - 1)
            case measure => omega
            case rel => exact ⟨i + 1, _, true, y, by omega, rfl, rfl, by go_num, rfl, HMX.out⟩
    · obtain rfl : i = (tskAt l j.tk).secs.length := by omega
      have hdl : decide (((tskAt l j.tk).secs.length : Int) < ((tskAt l j.tk).secs.length : Int)) = false := by simp
      have HD : Hid (rankM l j = (m, q)) := Lib.hid (by rw [← hd]; simp [rankS])
      clear hd
      go_wp2
      go_ret2
      exact ⟨by rw [HD.out]; rfl, HBW.out.trans z.bel⟩
end Go.Proofs.Ythcdemmamggboaa
