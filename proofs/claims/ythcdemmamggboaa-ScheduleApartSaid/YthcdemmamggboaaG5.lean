import Derived.Test.YthcdemmamggboaaG3
import Derived.Test.YthcdemmamggboaaG4
import Derived.Test.YthcdemmamggboaaG2
import Derived.Test.YthcdemmamggboaaG10
import Derived.Test.YthcdemmamggboaaG1
import Derived.Deep.LoopGhost
namespace Go.Proofs.Ythcdemmamggboaa
open Go.RowKit
set_option maxHeartbeats 1000000 in
theorem isnan_any (x : Int) (w : World) : Calls Try.prog 51 #[.int .i64 x] w fun e w' => e = .returned (.bool false) ∧ w = w' := by
  go_enter Try.func51, Try.ntmps51
  go_wp2
  go_ret
  exact ⟨by simp, rfl⟩
set_option maxHeartbeats 1000000 in
theorem cmpc_any (x y : Int) (w : World) : Calls Try.prog 45 #[.int .i64 x, .int .i64 y] w fun e w' => e = .returned (.int .i64 (cmpI x y)) ∧ w = w' := by
  have HN := Lib.hid fun z => isnan_any z w
  rcases Int.lt_trichotomy x y with h | h | h
  · have hd : decide (x < y) = true := by simpa using h
    have HR : Hid (cmpI x y = -1) := Lib.hid (by unfold cmpI; rw [if_pos h])
    go_enter Try.func45, Try.ntmps45
    go_wp2_with (first | (go_at_call 51; (with_reducible refine (HN.out _).mono ?_); rintro e w2 ⟨rfl, rfl⟩))
    go_ret
    exact ⟨ret_int HR.out.symm, rfl⟩
  · subst h
    have HR : Hid (cmpI x x = 0) := Lib.hid (by unfold cmpI; simp)
    go_enter Try.func45, Try.ntmps45
    go_wp2_with (first | (go_at_call 51; (with_reducible refine (HN.out _).mono ?_); rintro e w2 ⟨rfl, rfl⟩))
    go_ret
    exact ⟨ret_int HR.out.symm, rfl⟩
  · have hd : decide (x < y) = false := by simp; omega
    have hd2 : decide (y < x) = true := by simpa using h
    have HR : Hid (cmpI x y = 1) := Lib.hid (by unfold cmpI; rw [if_neg (by omega), if_pos h])
    go_enter Try.func45, Try.ntmps45
    go_wp2_with (first | (go_at_call 51; (with_reducible refine (HN.out _).mono ?_); rintro e w2 ⟨rfl, rfl⟩))
    go_ret
    exact ⟨ret_int HR.out.symm, rfl⟩
theorem cmpL_drop {xs ys : List Int} {i : Nat} (h1 : i < xs.length) (h2 : i < ys.length) :
    cmpL (xs.drop i) (ys.drop i) = if cmpI (xs.getD i 0) (ys.getD i 0) = 0 then cmpL (xs.drop (i + 1)) (ys.drop (i + 1)) else cmpI (xs.getD i 0) (ys.getD i 0) := by
  rw [ints_drop h1, ints_drop h2]; rfl
set_option maxRecDepth 100000 in
set_option maxHeartbeats 4000000 in
theorem compare_any (xs ys : List Int) (b1 b2 n : Nat) (w : World) (hx : xs.length = n) (hy : ys.length = n) (h0 : 0 < n) (hn : n ≤ 1000000) (hb1 : b1 < w.heap.size) (hb2 : b2 < w.heap.size)
    (h1 : ∀ i, i < n → w.cell? ⟨b1, i, none⟩ = some (.int .i64 (xs.getD i 0))) (h2 : ∀ i, i < n → w.cell? ⟨b2, i, none⟩ = some (.int .i64 (ys.getD i 0))) :
    Calls Try.prog 38 #[.slice (some ⟨b1, 0, none⟩) n n, .slice (some ⟨b2, 0, none⟩) n n] w fun e w' => e = .returned (.int .i64 (cmpL xs ys)) ∧ w = w' := by
  have H1 := Lib.hid h1
  have H2 := Lib.hid h2
  have HC := Lib.hid fun x y => cmpc_any x y w
  clear h1 h2
  go_enter Try.func38, Try.ntmps38
  go_wp2
  go_loopg [11] n (fun gk s11 wr => ∃ (i : Nat), i + gk = n ∧ s11 = .int .i64 i ∧ wr = w ∧ cmpL (xs.drop i) (ys.drop i) = cmpL xs ys)
  case atStart => exact ⟨0, by omega, rfl, rfl, by simp⟩
  case round =>
    obtain ⟨i, hi, rfl, rfl, hd⟩ := hrel
    by_cases hlt : i < n
    · have hdl : decide ((i : Int) < (n : Int)) = true := by simp; omega
      have hdm : decide ((n : Int) ≤ (i : Int)) = false := by simp; omega
      have c1 := H1.out i hlt
      have c2 := H2.out i hlt
      rw [cmpL_drop (by omega) (by omega)] at hd
      generalize xs.getD i 0 = x at *
      generalize ys.getD i 0 = y at *
      by_cases hz : cmpI x y = 0
      · rw [if_pos hz] at hd
        have HCC := HC.out x y
        rw [hz] at HCC
        have HX := Lib.hid HCC
        have HD := Lib.hid hd
        clear hd HCC hz
        go_wp2_with (first | (go_at_call 45; (with_reducible refine (HX.out).mono ?_); rintro e w2 ⟨rfl, rfl⟩))
        go_roundg (gk - 1)
        case measure => omega
        case rel => exact ⟨i + 1, by omega, by go_num, rfl, HD.out⟩
      · rw [if_neg hz] at hd
        have HCC := HC.out x y
        have HX := Lib.hid HCC
        have HD := Lib.hid hd
        have hne : (cmpI x y == 0) = false := by simpa using hz
        generalize cmpI x y = q at *
        clear hd HCC
        go_wp2_with (first | (go_at_call 45; (with_reducible refine (HX.out).mono ?_); rintro e w2 ⟨rfl, rfl⟩))
        go_ret
        exact ⟨ret_int HD.out, rfl⟩
    · obtain rfl : i = n := by omega
      have hdl : decide ((i : Int) < (i : Int)) = false := by simp
      have HD : Hid (cmpL xs ys = 0) := Lib.hid (by rw [← hd, List.drop_eq_nil_of_le (by omega), List.drop_eq_nil_of_le (by omega)]; rfl)
      clear hd
      go_wp2
      go_ret
      exact ⟨ret_int HD.out.symm, rfl⟩
set_option maxRecDepth 100000 in
set_option maxHeartbeats 4000000 in
theorem inside_any (s : Sec) (d : Int) (w : World) (h : SecOk s) (hd0 : 0 ≤ d) (hd1 : d ≤ 1000000) :
    Calls Try.prog 46 #[.agg #[.int .i64 s.res, .int .i64 s.frm, .int .i64 s.len], .int .i64 d] w fun e w' => e = .returned (.bool (insideB s d)) ∧ Bel w w' := by
  obtain ⟨r0, r1, f0, f1, l0, l1⟩ := h
  have hw1 : IntKind.i64.wrap (s.frm + s.len) = s.frm + s.len := IntWalk.i64_in _ (by omega)
  have HR : Hid (insideB s d = (decide (s.frm < d) && decide (d < s.frm + s.len))) := Lib.hid rfl
  generalize s.frm = f at *
  generalize s.len = n at *
  go_enter Try.func46, Try.ntmps46
  by_cases h1 : f < d
  · have d1 : decide (f < d) = true := by simpa using h1
    go_wp2
    go_ret
    exact ⟨ret_bool (by rw [HR.out, d1]; simp), Bel.refl.alloc _⟩
  · have d1 : decide (f < d) = false := by simpa using h1
    go_wp2
    go_ret
    exact ⟨ret_bool (by rw [HR.out, d1]; simp), Bel.refl.alloc _⟩
end Go.Proofs.Ythcdemmamggboaa
namespace Go.Proofs.Ythcdemmamggboaa
open Go.RowKit
theorem tskm {l : List Tsk} {k : Nat} (h : k < l.length) : tskAt l k ∈ l := by simp [tskAt, List.getD, h]
structure JOk (l : List Tsk) (j : Job) : Prop where
  tk : j.tk < l.length
  n0 : 0 ≤ j.num
  n1 : j.num ≤ 20000
  r0 : 0 ≤ j.rel
  r1 : j.rel ≤ 20000
  d0 : 0 ≤ j.dn
  d1 : j.dn < (tskAt l j.tk).cost
theorem JobOk.ok {l : List Tsk} {t : Int} {n : Nat} {j : Job} (h : JobOk l t n j) (ht : t ≤ 20000) : JOk l j :=
  ⟨h.tk, h.n0, by have := h.n1; omega, h.r0, by have := h.r1; omega, h.d0, h.d1⟩
def jobV (j : Job) : Value := .agg #[.int .i64 j.tk, .int .i64 j.num, .int .i64 j.rel, .int .i64 j.dn, .int .i64 j.pos]
set_option maxRecDepth 100000 in
set_option maxHeartbeats 8000000 in
theorem rank_any (v : Value) (l : List Tsk) (j : Job) (w : World) (h : TsksAt w w.heap.size v l) (hs : Sized l) (h0 : rchk l = 0) (hj : JOk l j) :
    Calls Try.prog 39 #[v, .agg #[.int .i64 j.tk, .int .i64 j.num, .int .i64 j.rel, .int .i64 j.dn, .int .i64 j.pos]] w fun e w' => e = .returned (.tuple #[.int .i64 (rankM l j).1, .bool (rankM l j).2]) ∧ Bel w w' := by
  have HH := Lib.hid h
  have HZ := Lib.hid hs
  have hlt := hj.tk
  have hd0 := hj.d0
  have hd1 : j.dn ≤ 1000 := by have := hj.d1; have h1 := toks_of h0 _ (tskm hlt); have := h1.c2; have := h1.d2; have := h1.p2; omega
  have hcl := fun (r : Int) (W : World) (hW : Bel w W) => ceiling_any v l r W (h.keep hW.keeps hW.le) hs.len (fun i hi => (hs.parts i hi).1)
  obtain ⟨A, c, rfl, hc⟩ := h.form
  obtain ⟨b, off, rfl, hb, hA⟩ := h.at_ (by omega)
  obtain ⟨sv, ⟨t0, t1, t2, t3, t4, t5, t6⟩, hS⟩ := (hA j.tk hlt)
  obtain ⟨A2, c2, rfl, hc2⟩ := hS.form
  have HSV := Lib.hid hS
  have hsl := (hs.parts j.tk hlt).1
  have HSO := Lib.hid (fun i (hi : i < (tskAt l j.tk).secs.length) => sec_ok h0 hlt hi)
  have HCL := Lib.hid hcl
  have HRK : Hid (rankS l j.dn ((tskAt l j.tk).prio, false) ((tskAt l j.tk).secs.drop 0) = rankM l j) := Lib.hid rfl
  clear h hs h0 hj hA hS hcl
  go_enter Try.func39, Try.ntmps39
  go_upto_region 2 with (fail)
  (generalize hW : World.alloc _ _ = wb; have q0_0 := (congrArg (fun W : World => W.cell? ⟨w.heap.size, 0, none⟩) hW).symm; simp [go_sem] at q0_0; have q0_1 := (congrArg (fun W : World => W.cell? ⟨w.heap.size, 1, none⟩) hW).symm; simp [go_sem] at q0_1; have q0_2 := (congrArg (fun W : World => W.cell? ⟨w.heap.size, 2, none⟩) hW).symm; simp [go_sem] at q0_2; have q0_3 := (congrArg (fun W : World => W.cell? ⟨w.heap.size, 3, none⟩) hW).symm; simp [go_sem] at q0_3; have q0_4 := (congrArg (fun W : World => W.cell? ⟨w.heap.size, 4, none⟩) hW).symm; simp [go_sem] at q0_4; have qz0 : w.heap.size < wb.heap.size := (by rw [← hW]; simp [go_sem]; try omega); have q1_0 := (congrArg (fun W : World => W.cell? ⟨w.heap.size + 1, 0, none⟩) hW).symm; simp [go_sem] at q1_0; have q1_1 := (congrArg (fun W : World => W.cell? ⟨w.heap.size + 1, 1, none⟩) hW).symm; simp [go_sem] at q1_1; have q1_2 := (congrArg (fun W : World => W.cell? ⟨w.heap.size + 1, 2, none⟩) hW).symm; simp [go_sem] at q1_2; have q1_3 := (congrArg (fun W : World => W.cell? ⟨w.heap.size + 1, 3, none⟩) hW).symm; simp [go_sem] at q1_3; have q1_4 := (congrArg (fun W : World => W.cell? ⟨w.heap.size + 1, 4, none⟩) hW).symm; simp [go_sem] at q1_4; have q1_5 := (congrArg (fun W : World => W.cell? ⟨w.heap.size + 1, 5, none⟩) hW).symm; simp [go_sem] at q1_5; have q1_6 := (congrArg (fun W : World => W.cell? ⟨w.heap.size + 1, 6, none⟩) hW).symm; simp [go_sem] at q1_6; have qz1 : w.heap.size + 1 < wb.heap.size := (by rw [← hW]; simp [go_sem]; try omega); have HBW : Hid (Bel w wb) := Lib.hid (by rw [← hW]; (repeat (first | exact Ext.bel _ | exact Bel.refl | refine Bel.alloc ?_ _ | refine Bel.drew ?_ | refine Bel.drewN ?_ _))); clear hW; have hkw := HBW.out.cells)
  clear t0 t1 t2 t3 t4 t5 t6
  go_wp2
  go_loopg [7, 8, 9] (tskAt l j.tk).secs.length (fun gk s7 s8 s9 wr => ∃ (i : Nat) (m : Int) (q : Bool) (z : Ext wb), i + gk = (tskAt l j.tk).secs.length ∧ s7 = .int .i64 m ∧ s8 = .bool q ∧ s9 = .int .i64 i ∧ wr = z.w ∧ rankS l j.dn (m, q) ((tskAt l j.tk).secs.drop i) = rankM l j)
  case atStart => exact ⟨0, _, false, ⟨wb, Bel.refl⟩, by omega, rfl, rfl, rfl, rfl, HRK.out⟩
  case round =>
    clear HRK
    obtain ⟨i, m, q, z, hi, rfl, rfl, rfl, rfl, hd⟩ := hrel
    by_cases hlj : i < (tskAt l j.tk).secs.length
    · have hdl : decide ((i : Int) < ((tskAt l j.tk).secs.length : Int)) = true := by simp; omega
      have hdl' : decide (i < (tskAt l j.tk).secs.length) = true := by simpa using hlj
      obtain ⟨b2, off2, rfl, hb2, hA2⟩ := HSV.out.at_ (by omega)
      obtain ⟨s0, s1, s2⟩ := hA2 i hlj
      have hso := HSO.out i hlj
      rw [secs_drop hlj] at hd
      simp only [rankS] at hd
      have HI := Lib.hid fun (y : Ext wb) => inside_any (secAt (tskAt l j.tk).secs i) j.dn y.w hso hd0 (by omega)
      have hb2w : b2 < wb.heap.size := Nat.lt_of_lt_of_le hb2 HBW.out.le
      clear hA2 hso
      cases hin : insideB (secAt (tskAt l j.tk).secs i) j.dn
      · rw [hin] at HI hd
        have HD := Lib.hid hd
        clear hd hin
        generalize (secAt (tskAt l j.tk).secs i).res = res at *
        generalize (secAt (tskAt l j.tk).secs i).frm = frm at *
        generalize (secAt (tskAt l j.tk).secs i).len = len at *
        go_upto_region 6 with (fail)
        (refine wp_region_ext (wb := wb) (by (repeat (first | exact Ext.bel _ | exact Bel.refl | refine Bel.alloc ?_ _ | refine Bel.drew ?_ | refine Bel.drewN ?_ _))) (by kernel_rfl) (by kernel_rfl) ?_; (repeat (any_goals (first | go_big_quiet_step ((go_at_call 46; with_reducible exact ext_call (HI.out _))) | quiet_step ((go_at_call 46; with_reducible exact ext_call (HI.out _))) | (refine wpQuiet_step (fun K hK => ?_); go_simp; split <;> (refine hK _ ?_; clear hK K))))); all_goals (refine wpQuiet_nil ?_; intro _ hw'; obtain ⟨y, hw''⟩ := hw'; subst hw''))
        go_wp2
        go_roundg (gk - 1)
        case measure => omega
        case rel => exact ⟨i + 1, m, q, y, by omega, rfl, rfl, by go_num, rfl, HD.out⟩
      · rw [hin] at HI hd
        have HD := Lib.hid hd
        have HC2 := Lib.hid (fun (y : Ext wb) => HCL.out (secAt (tskAt l j.tk).secs i).res y.w (HBW.out.trans y.bel))
        clear hd hin
        generalize (secAt (tskAt l j.tk).secs i).res = res at *
        generalize (secAt (tskAt l j.tk).secs i).frm = frm at *
        generalize (secAt (tskAt l j.tk).secs i).len = len at *
        generalize hcv : ceilT res l 0 = cv at *
        have HMX : Hid (rankS l j.dn (mx m cv, true) ((tskAt l j.tk).secs.drop (i + 1)) = rankM l j) := HD
        clear hcv HD
        go_upto_region 6 with (fail)
        (refine wp_region_ext (wb := wb) (by (repeat (first | exact Ext.bel _ | exact Bel.refl | refine Bel.alloc ?_ _ | refine Bel.drew ?_ | refine Bel.drewN ?_ _))) (by kernel_rfl) (by kernel_rfl) ?_; (repeat (any_goals (first | go_big_quiet_step ((go_at_call 46; with_reducible exact ext_call (HI.out _))) | quiet_step ((go_at_call 46; with_reducible exact ext_call (HI.out _))) | (refine wpQuiet_step (fun K hK => ?_); go_simp; split <;> (refine hK _ ?_; clear hK K))))); all_goals (refine wpQuiet_nil ?_; intro _ hw'; obtain ⟨y, hw''⟩ := hw'; subst hw''))
        rcases Int.lt_trichotomy m cv with hm | hm | hm
        · have hdm : decide (m < cv) = true := by simpa using hm
          have HX : Hid (mx m cv = cv) := Lib.hid (by unfold mx; rw [if_pos hm])
          rw [HX.out] at HMX
          go_wp2_with (first | (go_at_call 42; (with_reducible refine (HC2.out _).mono ?_); rintro e w2 ⟨rfl, rfl⟩))
          all_goals
            go_roundg (gk - 1)
            case measure => omega
            case rel => exact ⟨i + 1, _, true, y, by omega, rfl, rfl, by go_num, rfl, HMX.out⟩
        · subst hm
          have HX : Hid (mx m m = m) := Lib.hid (by unfold mx; simp)
          rw [HX.out] at HMX
          go_wp2_with (first | (go_at_call 42; (with_reducible refine (HC2.out _).mono ?_); rintro e w2 ⟨rfl, rfl⟩))
          all_goals
            go_roundg (gk - 1)
            case measure => omega
            case rel => exact ⟨i + 1, _, true, y, by omega, rfl, rfl, by go_num, rfl, HMX.out⟩
        · have hdm : decide (m < cv) = false := by simp; omega
          have hdm2 : decide (cv < m) = true := by simpa using hm
          have HX : Hid (mx m cv = m) := Lib.hid (by unfold mx; rw [if_neg (by omega)])
          rw [HX.out] at HMX
          go_wp2_with (first | (go_at_call 42; (with_reducible refine (HC2.out _).mono ?_); rintro e w2 ⟨rfl, rfl⟩))
          all_goals
            go_roundg (gk - 1)
            case measure => omega
            case rel => exact ⟨i + 1, _, true, y, by omega, rfl, rfl, by go_num, rfl, HMX.out⟩
    · obtain rfl : i = (tskAt l j.tk).secs.length := by omega
      have hdl : decide (((tskAt l j.tk).secs.length : Int) < ((tskAt l j.tk).secs.length : Int)) = false := by simp
      have HD : Hid (rankM l j = (m, q)) := Lib.hid (by rw [← hd]; simp [rankS])
      clear hd
      go_wp2
      go_ret2
      exact ⟨by rw [HD.out]; rfl, HBW.out.trans z.bel⟩
end Go.Proofs.Ythcdemmamggboaa
namespace Go.Proofs.Ythcdemmamggboaa
open Go.RowKit
def jobC (j : Job) : List Value := [.int .i64 j.tk, .int .i64 j.num, .int .i64 j.rel, .int .i64 j.dn, .int .i64 j.pos]
def stnC (s : Stn) : List Value := [.int .i64 s.tk, .int .i64 s.job, .int .i64 s.frm, .int .i64 s.to]
def donC (d : Don) : List Value := [.int .i64 d.tk, .int .i64 d.job, .int .i64 d.rel, .int .i64 d.resp, .bool d.miss]
theorem jobC_len (j : Job) : (jobC j).length = 5 := rfl
theorem stnC_len (j : Stn) : (stnC j).length = 4 := rfl
theorem donC_len (j : Don) : (donC j).length = 5 := rfl
theorem Try.infoJob : (Try.prog.info? 78).map (fun i => (i.zero, i.size, i.bytes)) = some (some (.agg #[.int .i64 0, .int .i64 0, .int .i64 0, .int .i64 0, .int .i64 0]), 5, 40) := by kernel_rfl
theorem Try.infoStn : (Try.prog.info? 39).map (fun i => (i.zero, i.size, i.bytes)) = some (some (.agg #[.int .i64 0, .int .i64 0, .int .i64 0, .int .i64 0]), 4, 32) := by kernel_rfl
theorem Try.infoDon : (Try.prog.info? 42).map (fun i => (i.zero, i.size, i.bytes)) = some (some (.agg #[.int .i64 0, .int .i64 0, .int .i64 0, .int .i64 0, .bool false]), 5, 40) := by kernel_rfl
/-- the simulation's memory -/
structure SimAt (w : World) (base b : Nat) (vl vc : Value) (pol : Int) (vr vs vj : Value) (s : St) : Prop where
  box : RowAt w b 61 [vl, vc, .int .i64 pol, vr, vs, vj]
  rd : w.ownsRow base 78 5 vr s.ready.length (s.ready.flatMap jobC)
  st : w.ownsRow base 39 4 vs s.stints.length (s.stints.flatMap stnC)
  jb : w.ownsRow base 42 5 vj s.jobs.length (s.jobs.flatMap donC)
theorem SimAt.bel {w w' : World} {base b : Nat} {vl vc : Value} {pol : Int} {vr vs vj : Value} {s : St} (h : SimAt w base b vl vc pol vr vs vj s) (hb : Bel w w') : SimAt w' base b vl vc pol vr vs vj s :=
  ⟨h.box.bel hb, ownsRow_bel h.rd hb, ownsRow_bel h.st hb, ownsRow_bel h.jb hb⟩
section
variable {w w3 : World} {base b : Nat} {vl vc : Value} {pol : Int} {vr vs vj v' : Value} {s : St}
theorem SimAt.box_r (h : SimAt w base b vl vc pol vr vs vj s) (hg : w.grownBy w3 vr.ownBlock) : RowAt w3 b 61 [vl, vc, .int .i64 pol, vr, vs, vj] := h.box.gro hg (box_row_ne h.box h.rd (by decide))
theorem SimAt.box_s (h : SimAt w base b vl vc pol vr vs vj s) (hg : w.grownBy w3 vs.ownBlock) : RowAt w3 b 61 [vl, vc, .int .i64 pol, vr, vs, vj] := h.box.gro hg (box_row_ne h.box h.st (by decide))
theorem SimAt.box_j (h : SimAt w base b vl vc pol vr vs vj s) (hg : w.grownBy w3 vj.ownBlock) : RowAt w3 b 61 [vl, vc, .int .i64 pol, vr, vs, vj] := h.box.gro hg (box_row_ne h.box h.jb (by decide))
theorem SimAt.put_r (h : SimAt w base b vl vc pol vr vs vj s) {l' : List Job} (hg : w.grownBy w3 vr.ownBlock) (ho : w3.ownsRow base 78 5 v' l'.length (l'.flatMap jobC)) :
    SimAt (w3.setCell ⟨b, 3, none⟩ v') base b vl vc pol v' vs vj { s with ready := l' } := by
  have hb := h.box_r hg
  have g := gro_set (gro_refl w3 (row := some b)) 3 v'
  have s3 := h.st.kept hg (own_types_ne h.st h.rd (by decide))
  have j3 := h.jb.kept hg (own_types_ne h.jb h.rd (by decide))
  exact ⟨hb.set 3 v', ho.kept g (own_box_ne hb ho (by decide)), s3.kept g (own_box_ne hb s3 (by decide)), j3.kept g (own_box_ne hb j3 (by decide))⟩
theorem SimAt.put_s (h : SimAt w base b vl vc pol vr vs vj s) {l' : List Stn} (hg : w.grownBy w3 vs.ownBlock) (ho : w3.ownsRow base 39 4 v' l'.length (l'.flatMap stnC)) :
    SimAt (w3.setCell ⟨b, 4, none⟩ v') base b vl vc pol vr v' vj { s with stints := l' } := by
  have hb := h.box_s hg
  have g := gro_set (gro_refl w3 (row := some b)) 4 v'
  have s3 := h.rd.kept hg (own_types_ne h.rd h.st (by decide))
  have j3 := h.jb.kept hg (own_types_ne h.jb h.st (by decide))
  exact ⟨hb.set 4 v', s3.kept g (own_box_ne hb s3 (by decide)), ho.kept g (own_box_ne hb ho (by decide)), j3.kept g (own_box_ne hb j3 (by decide))⟩
theorem SimAt.put_j (h : SimAt w base b vl vc pol vr vs vj s) {l' : List Don} (hg : w.grownBy w3 vj.ownBlock) (ho : w3.ownsRow base 42 5 v' l'.length (l'.flatMap donC)) :
    SimAt (w3.setCell ⟨b, 5, none⟩ v') base b vl vc pol vr vs v' { s with jobs := l' } := by
  have hb := h.box_j hg
  have g := gro_set (gro_refl w3 (row := some b)) 5 v'
  have s3 := h.rd.kept hg (own_types_ne h.rd h.jb (by decide))
  have j3 := h.st.kept hg (own_types_ne h.st h.jb (by decide))
  exact ⟨hb.set 5 v', s3.kept g (own_box_ne hb s3 (by decide)), j3.kept g (own_box_ne hb j3 (by decide)), ho.kept g (own_box_ne hb ho (by decide))⟩
end
set_option maxRecDepth 100000 in
set_option maxHeartbeats 8000000 in
theorem release_any (wb : World) (b : Nat) (vl vc : Value) (pol : Int) (l : List Tsk) (t : Int) (hb : wb.heap.size ≤ b) (hT : TsksAt wb wb.heap.size vl l) (h0 : rchk l = 0) (ht0 : 0 ≤ t) (ht1 : t ≤ 20000)
    (x : Ext wb) (s : St) (vr vs vj : Value) (h : SimAt x.w wb.heap.size b vl vc pol vr vs vj s) (hj : s.jobs.length ≤ 1000000) (hr : s.ready.length ≤ 1000000) :
    Calls Try.prog 25 #[.pointer (some ⟨b, 0, none⟩), .int .i64 t] x.w fun e w' => e = .returned (.tuple #[]) ∧ ∃ (y : Ext wb) (vr' vj' : Value), w' = y.w ∧ SimAt y.w wb.heap.size b vl vc pol vr' vs vj' (relJ t 0 l s) := by
  obtain ⟨A, c, rfl, hc⟩ := hT.form
  have HT := Lib.hid hT
  have hl8 := (rchk_ok h0).1
  have HTK := Lib.hid (fun i (hi : i < l.length) => (rchk_ok h0).2 i hi)
  have HS := Lib.hid h
  have k0 : x.w.cell? ⟨b, 0, none⟩ = some (.slice A l.length c) := h.box.cell rfl
  have hbx := h.box.lt
  clear h hT h0
  go_enter Try.func25, Try.ntmps25
  go_wp2
  clear k0 hbx
  go_loopg [12] l.length (fun gk s12 wr => ∃ (i : Nat) (y : Ext wb) (q : St) (vr vj : Value), i + gk = l.length ∧ s12 = .int .i64 i ∧ wr = y.w ∧ SimAt y.w wb.heap.size b (.slice A l.length c) vc pol vr vs vj q ∧ relJ t i (l.drop i) q = relJ t 0 l s ∧ q.jobs.length ≤ s.jobs.length + i ∧ q.ready.length ≤ s.ready.length + i)
  case atStart => exact ⟨0, x, s, vr, vj, by omega, rfl, rfl, HS.out, by simp, by omega, by omega⟩
  case round =>
    clear HS vr vj
    obtain ⟨i, y, q, vr, vj, hi, rfl, rfl, hq, hd, hqj, hqr⟩ := hrel
    by_cases hlt : i < l.length
    · have hdl : decide ((i : Int) < (l.length : Int)) = true := by simp; omega
      obtain ⟨ba, off, rfl, hba, hA⟩ := HT.out.at_ (by omega)
      obtain ⟨sv, ⟨t0, t1, t2, t3, t4, t5, t6⟩, hS⟩ := hA i hlt
      obtain ⟨A2, c2, rfl, _⟩ := hS.form
      have hok := tok_of (HTK.out i hlt).1
      obtain ⟨_, _, _, _, _, o1, o2, _⟩ := tskBad_false.1 (HTK.out i hlt).1
      have hp1 := hok.p1
      have hp2 := hok.p2
      rw [tsks_drop hlt] at hd
      simp only [relJ] at hd
      have HD := Lib.hid hd
      have HQ := Lib.hid hq
      have hdue : dueJ t (tskAt l i) = (decide ((tskAt l i).off ≤ t) && decide ((t - (tskAt l i).off) % (tskAt l i).per = 0)) := rfl
      have HDU := Lib.hid hdue
      have HNM : Hid (numJ t (tskAt l i) = (t - (tskAt l i).off) / (tskAt l i).per) := Lib.hid rfl
      clear hd hq hA hS hok hdue
      go_upto_region 3 with (fail)
      (generalize hW : World.alloc _ _ = wc; have q0_0 := (congrArg (fun W : World => W.cell? ⟨y.w.heap.size, 0, none⟩) hW).symm; simp [go_sem] at q0_0; have q0_1 := (congrArg (fun W : World => W.cell? ⟨y.w.heap.size, 1, none⟩) hW).symm; simp [go_sem] at q0_1; have q0_2 := (congrArg (fun W : World => W.cell? ⟨y.w.heap.size, 2, none⟩) hW).symm; simp [go_sem] at q0_2; have q0_3 := (congrArg (fun W : World => W.cell? ⟨y.w.heap.size, 3, none⟩) hW).symm; simp [go_sem] at q0_3; have q0_4 := (congrArg (fun W : World => W.cell? ⟨y.w.heap.size, 4, none⟩) hW).symm; simp [go_sem] at q0_4; have q0_5 := (congrArg (fun W : World => W.cell? ⟨y.w.heap.size, 5, none⟩) hW).symm; simp [go_sem] at q0_5; have q0_6 := (congrArg (fun W : World => W.cell? ⟨y.w.heap.size, 6, none⟩) hW).symm; simp [go_sem] at q0_6; have qz0 : y.w.heap.size < wc.heap.size := (by rw [← hW]; simp [go_sem]; try omega); have HBW : Hid (Bel y.w wc) := Lib.hid (by rw [← hW]; (repeat (first | exact Ext.bel _ | exact Bel.refl | refine Bel.alloc ?_ _ | refine Bel.drew ?_ | refine Bel.drewN ?_ _))); clear hW; have hkw := HBW.out.cells)
      have HQ2 := Lib.hid (HQ.out.bel HBW.out)
      obtain ⟨z, rfl⟩ := ext_of (y.bel.trans HBW.out)
      clear hkw HBW t0 t1 t2 t3 t4 t5 t6 HQ
      generalize y.w.heap.size = bx at *
      by_cases h1 : (tskAt l i).off ≤ t
      · have hd1 : decide (t < (tskAt l i).off) = false := by simp; omega
        by_cases h2 : (t - (tskAt l i).off) % (tskAt l i).per = 0
        · have hdt : dueJ t (tskAt l i) = true := by rw [HDU.out]; simp [h1, h2]
          have HD2 := HD.out
          rw [hdt, if_pos rfl] at HD2
          replace HD := Lib.hid HD2
          have hnb : 0 ≤ numJ t (tskAt l i) ∧ numJ t (tskAt l i) ≤ 20000 := by
            rw [HNM.out]
            have := Int.ediv_le_self (a := t - (tskAt l i).off) (tskAt l i).per (by omega)
            exact ⟨Int.ediv_nonneg (by omega) (by omega), by omega⟩
          have hm := HNM.out
          clear HD2 hdt HDU HNM
          generalize numJ t (tskAt l i) = nm at *
          have hn2 : (t - (tskAt l i).off) / (tskAt l i).per = nm := hm.symm
          have h2' : (t - (tskAt l i).off) % (tskAt l i).per = 0 := h2
          generalize (tskAt l i).off = of at *
          generalize (tskAt l i).per = pe at *
          clear hm
          go_upto_region 5 with (fail)
          have k3 : z.w.cell? ⟨b, 3, none⟩ = some vr := HQ2.out.box.cell rfl
          have k5 : z.w.cell? ⟨b, 5, none⟩ = some vj := HQ2.out.box.cell rfl
          obtain ⟨Aj, cj, rfl, _⟩ := own_slice HQ2.out.jb
          have hbz := HQ2.out.box.lt
          obtain ⟨row, hrow⟩ : ∃ r, r = vr.ownBlock := ⟨_, rfl⟩
          have hne : some b ≠ row := by rw [hrow]; exact box_row_ne HQ2.out.box HQ2.out.rd (by decide)
          have HROW := Lib.hid hrow
          clear hrow
          (refine wp_region_E 17 row (by kernel_rfl) ?_; refine anyE_takes [0, 1, 2, 3, 4, 5, 6, 7, 8, 9, 10, 11, 12, 13, 14] (fun _ _ _ _ _ h => h) ⟨⟨_, gro_drew (gro_refl _)⟩, rfl⟩ (by kernel_rfl) (by rfl) ?_; simp only [opsOf, List.filterMap_cons, List.filterMap_nil, List.getElem?_toArray, List.getElem?_cons_succ, List.getElem?_cons_zero, List.foldl_cons, List.foldl_nil]; (repeat (any_goals (first | go_big_quiet_step (fail) | quiet_step (fail)))); refine wpQuiet_nil ?_)
          have HY : Hid (SimAt z.w.drew wb.heap.size b (.slice (some ⟨ba, off, none⟩) l.length c) vc pol vr vs (.slice Aj q.jobs.length cj) q) := Lib.hid ⟨HQ2.out.box, HQ2.out.rd, HQ2.out.st, HQ2.out.jb⟩
          have hle : wb.heap.size ≤ z.w.drew.heap.size := z.bel.le
          have HZD : Hid (Bel wb z.w.drew) := Lib.hid z.bel.drew
          have hgd : Hid (z.w.grownBy z.w.drew row) := Lib.hid (gro_drew (gro_refl _))
          generalize z.w.drew = y at *
          (refine anyE_one 15 _ (by kernel_rfl) (by rfl) (fun K hK => ?_))
          go_simp
          refine hK _ _ (fun _ => ⟨⟨_, gro_alloc hgd.out _⟩, rfl⟩) ?_
          clear hK K
          clear k3 k5 hbz
          obtain ⟨j0, hj0, hy0, hy1, hy2⟩ := info_parts Try.infoJob
          (refine anyE_one 16 _ (by kernel_rfl) (by rfl) (fun K hK => ?_))
          rw [if_pos (by rfl)]
          refine wp_append_own _ _ _ 59 rfl wb.heap.size 78 j0 _ 5 40 Try.underlying59 hj0 hy0 hy1 hy2 rfl (by decide) _ _ _ rfl (HY.out.rd.alloc _) ⟨y.heap.size, 0, none⟩ 1 1 (jobC ⟨i, nm, t, 0, q.jobs.length⟩) rfl rfl ?d1 ?d2 ?d3 ?d4 ?d5 ?_
          case d1 => exact cells_new _ (jobC ⟨i, nm, t, 0, q.jobs.length⟩) _
          case d2 => intro u hu; simp [jobC] at hu; rcases hu with h | h | h | h | h <;> subst h <;> rfl
          case d3 => unfold maxLen; omega
          case d4 => omega
          case d5 => simp; omega
          intro v' w3 hown3 hg3 _
          obtain ⟨A', c', rfl, _⟩ := own_slice hown3
          replace hg3 := (World.grownBy_alloc y _ _).trans hg3
          refine hK _ _ (fun _ => ⟨⟨_, hgd.out.trans (by rw [HROW.out]; exact hg3)⟩, rfl⟩) ?_
          clear hK K
          have bx3 := HY.out.box_r hg3
          have c3 := bx3.cell (i := 3) rfl
          have f3 := bx3.frozen 3
          have l3 := bx3.lt
          have HS4 := Lib.hid (HY.out.put_r (l' := q.ready ++ [⟨i, nm, t, 0, q.jobs.length⟩]) hg3 (by rw [List.flatMap_append, List.length_append]; simpa using hown3))
          have hb4 : Bel wb (w3.setCell ⟨b, 3, none⟩ (.slice A' (q.ready.length + 1) c')) := (bel_gro HZD.out hg3 (fun k hk => (HY.out.rd.lt k hk).1)).set hb _
          have HB4 := Lib.hid hb4
          clear hown3 hg3 hb4 bx3
          (refine anyE_tail 17 (by decide) (by rfl) (by kernel_rfl) ?_; simp only [List.drop_succ_cons, List.drop_zero])
          go_wp2
          refine NoPanic.normal ?_
          clear c3 f3 l3
          generalize hW : World.setCell w3 _ _ = W4 at *
          clear hW
          obtain ⟨u, rfl⟩ := ext_of HB4.out
          have k5 : u.w.cell? ⟨b, 5, none⟩ = some (.slice Aj q.jobs.length cj) := HS4.out.box.cell rfl
          have hbz := HS4.out.box.lt
          have hle : wb.heap.size ≤ u.w.heap.size := u.bel.le
          clear HY HQ2
          obtain ⟨j0, hj0, hy0, hy1, hy2⟩ := info_parts Try.infoDon
          go_upto_region 7 with (at_builtin; go_must (refine wpList_append_own _ rfl _ _ 27 rfl wb.heap.size 42 j0 _ 5 40 Try.underlying27 hj0 hy0 hy1 hy2 rfl (by decide) _ _ _ rfl (HS4.out.jb.alloc _) ⟨u.w.heap.size, 0, none⟩ 1 1 (donC ⟨i, nm, t, -1, false⟩) rfl rfl ?e1 ?e2 ?e3 ?e4 ?e5 ?_))
          case e1 => exact cells_new _ (donC ⟨i, nm, t, -1, false⟩) _
          case e2 => intro u hu; simp [donC] at hu; rcases hu with h | h | h | h | h <;> subst h <;> rfl
          case e3 => unfold maxLen; omega
          case e4 => omega
          case e5 => simp; omega
          intro v5 w5 hown5 hg5 _
          obtain ⟨A5, c5', rfl, _⟩ := own_slice hown5
          replace hg5 := (World.grownBy_alloc u.w _ _).trans hg5
          have bx5 := HS4.out.box_j hg5
          have c5 := bx5.cell (i := 5) rfl
          have f5 := bx5.frozen 5
          have l5 := bx5.lt
          have HS6 := Lib.hid (HS4.out.put_j (l' := q.jobs ++ [⟨i, nm, t, -1, false⟩]) hg5 (by rw [List.flatMap_append, List.length_append]; simpa using hown5))
          have hb6 : Bel wb (w5.setCell ⟨b, 5, none⟩ (.slice A5 (q.jobs.length + 1) c5')) := (bel_gro u.bel hg5 (fun k hk => (HS4.out.jb.lt k hk).1)).set hb _
          have HB6 := Lib.hid hb6
          clear hown5 hg5 hb6 bx5 hj0 hy0 hy1 hy2 k5 hbz
          go_upto_region 7 with (fail)
          clear c5 f5 l5
          generalize hW : World.setCell w5 _ _ = W6 at *
          clear hW HS4
          obtain ⟨u6, rfl⟩ := ext_of HB6.out
          go_wp2
          go_roundg (gk - 1)
          case measure => omega
          case rel => exact ⟨i + 1, u6, _, _, _, by omega, by go_num, rfl, HS6.out, HD.out, by simp; omega, by simp; omega⟩
        · have h2' : ((t - (tskAt l i).off) % (tskAt l i).per == 0) = false := by simpa using h2
          have hdt : dueJ t (tskAt l i) = false := by rw [HDU.out]; simp [h2]
          have HD2 := HD.out
          rw [hdt, if_neg (by decide)] at HD2
          replace HD := Lib.hid HD2
          clear HD2 hdt HDU HNM
          go_wp2
          go_roundg (gk - 1)
          case measure => omega
          case rel => exact ⟨i + 1, z, _, _, _, by omega, by go_num, rfl, HQ2.out, HD.out, by omega, by omega⟩
      · have hd1 : decide (t < (tskAt l i).off) = true := by simp; omega
        have hdt : dueJ t (tskAt l i) = false := by rw [HDU.out]; simp [h1]
        have HD2 := HD.out
        rw [hdt, if_neg (by decide)] at HD2
        replace HD := Lib.hid HD2
        clear HD2 hdt HDU HNM
        go_wp2
        go_roundg (gk - 1)
        case measure => omega
        case rel => exact ⟨i + 1, z, _, _, _, by omega, by go_num, rfl, HQ2.out, HD.out, by omega, by omega⟩
    · obtain rfl : i = l.length := by omega
      have hdl : decide ((l.length : Int) < (l.length : Int)) = false := by simp
      have HQ := Lib.hid hq
      have HD : Hid (q = relJ t 0 l s) := Lib.hid (by rw [← hd]; simp [relJ])
      clear hd hq
      go_wp2
      go_end0
      exact ⟨rfl, y, _, _, rfl, by rw [← HD.out]; exact HQ.out⟩
end Go.Proofs.Ythcdemmamggboaa
/- schedule: what holds of every state of the run. -/
namespace Go.Proofs.Ythcdemmamggboaa
open Go.RowKit
theorem Inv0 (l : List Tsk) : Inv l (-1) ⟨[], [], []⟩ := ⟨fun j h => by simp at h, by simp, by simp, by simp, fun d h => by simp at h⟩
theorem JobOk.mono {l : List Tsk} {t u : Int} {n m : Nat} {j : Job} (h : JobOk l t n j) (ht : t ≤ u) (hn : n ≤ m) : JobOk l u m j :=
  ⟨h.tk, h.n0, by have := h.n1; omega, h.r0, by have := h.r1; omega, h.d0, h.d1, by have := h.ps; omega⟩
theorem num_bd {l : List Tsk} (h0 : rchk l = 0) {i : Nat} (hi : i < l.length) {t : Int} (h : (tskAt l i).off ≤ t) : 0 ≤ numJ t (tskAt l i) ∧ numJ t (tskAt l i) ≤ t := by
  have hp := (tok_at h0 hi).p1
  obtain ⟨_, _, _, _, _, o1, _⟩ := tskBad_false.1 ((rchk_ok h0).2 i hi).1
  unfold numJ
  have := Int.ediv_le_self (a := t - (tskAt l i).off) (tskAt l i).per (by omega)
  exact ⟨Int.ediv_nonneg (by omega) (by omega), by omega⟩
theorem due_off {t : Int} {x : Tsk} (h : dueJ t x = true) : x.off ≤ t ∧ (t - x.off) % x.per = 0 := by simpa [dueJ] using h
/-- the releases of a tick -/
theorem rel_inv {l : List Tsk} (h0 : rchk l = 0) {t : Int} (ht : 0 ≤ t) : ∀ (xs : List Tsk) (i : Nat) (s : St), xs = l.drop i → i ≤ l.length →
    (∀ j ∈ s.ready, JobOk l t s.jobs.length j) → s.ready.length ≤ s.jobs.length → (s.jobs.length : Int) ≤ l.length * t + i → (∀ d ∈ s.jobs, d.tk < l.length ∧ 0 ≤ d.rel ∧ d.rel ≤ t) →
    (∀ j ∈ (relJ t i xs s).ready, JobOk l t (relJ t i xs s).jobs.length j) ∧ (relJ t i xs s).ready.length ≤ (relJ t i xs s).jobs.length ∧ ((relJ t i xs s).jobs.length : Int) ≤ l.length * (t + 1) ∧
      (∀ d ∈ (relJ t i xs s).jobs, d.tk < l.length ∧ 0 ≤ d.rel ∧ d.rel ≤ t) ∧ (relJ t i xs s).stints = s.stints
  | [], i, s, hx, hi, h1, h2, h3, h4 => by
    have : i = l.length := by
      have := congrArg List.length hx
      simp at this; omega
    subst this
    exact ⟨h1, h2, by simp only [relJ]; rw [Int.mul_add]; omega, h4, rfl⟩
  | x :: xs, i, s, hx, hi, h1, h2, h3, h4 => by
    have hlt : i < l.length := by
      rcases Nat.lt_or_ge i l.length with h | h
      · exact h
      · rw [List.drop_eq_nil_of_le h] at hx; cases hx
    rw [tsks_drop hlt] at hx
    injection hx with e1 e2
    subst e1
    simp only [relJ]
    cases hd : dueJ t (tskAt l i)
    · simp only [Bool.false_eq_true, if_false]
      exact rel_inv h0 ht xs (i + 1) s e2 (by omega) h1 h2 (by omega) h4
    · simp only [if_true]
      obtain ⟨ho, _⟩ := due_off hd
      obtain ⟨n0, n1⟩ := num_bd h0 hlt ho
      have hc := (tok_at h0 hlt).c1
      have := rel_inv h0 ht xs (i + 1) { s with ready := s.ready ++ [⟨i, numJ t (tskAt l i), t, 0, s.jobs.length⟩], jobs := s.jobs ++ [⟨i, numJ t (tskAt l i), t, -1, false⟩] } e2 (by omega)
        (fun j hj => by
          rcases List.mem_append.mp hj with hj | hj
          · exact (h1 j hj).mono (Int.le_refl _) (by simp)
          · simp at hj; subst hj; exact ⟨hlt, n0, n1, ht, Int.le_refl _, Int.le_refl _, by dsimp only; omega, by simp⟩)
        (by simp; omega) (by simp; omega) (fun d hd => by
          rcases List.mem_append.mp hd with hd | hd
          · exact h4 d hd
          · simp at hd; subst hd; exact ⟨hlt, ht, Int.le_refl _⟩)
      exact this
theorem stintsM_len (t : Int) (j : Job) (ss : List Stn) : (stintsM t j ss).length ≤ ss.length + 1 := by unfold stintsM; split <;> simp
/-- the execution of a tick -/
theorem exe_inv {l : List Tsk} {pol t : Int} {s : St} (h : Inv l t s) (hs : (s.stints.length : Int) ≤ t) : Inv l t (exeM l pol t s) := by
  unfold exeM
  split
  · exact h
  · next hn =>
    generalize bestM l pol s.ready = b
    have hl := stintsM_len t (jbAt s.ready b) s.stints
    unfold runOne
    dsimp only
    split
    · refine ⟨fun j hj => ?_, ?_, by simpa using h.jl, by dsimp only; omega, fun d hd => ?_⟩
      · have := h.rd j (List.mem_of_mem_eraseIdx hj)
        simpa using this
      · have := h.rl; simp only [List.length_set]; rw [List.length_eraseIdx]; split <;> omega
      · rcases List.mem_or_eq_of_mem_set hd with hd | hd
        · exact h.dt d hd
        · by_cases hp : (jbAt s.ready b).pos < s.jobs.length
          · have := h.dt (dnAt s.jobs (jbAt s.ready b).pos) (by simp [dnAt, List.getD, hp])
            subst hd; exact this
          · rw [List.set_eq_of_length_le (by omega)] at *
            exact h.dt d (by assumption)
    · next hc =>
      refine ⟨fun j hj => ?_, by have := h.rl; simpa using this, h.jl, by dsimp only; omega, h.dt⟩
      by_cases hb : b < s.ready.length
      · rcases List.mem_or_eq_of_mem_set hj with hj | hj
        · exact h.rd j hj
        · have hm := h.rd (jbAt s.ready b) (by simp [jbAt, List.getD, hb])
          subst hj
          exact ⟨hm.tk, hm.n0, hm.n1, hm.r0, hm.r1, by have := hm.d0; dsimp only; omega, by have := hm.d1; dsimp only at *; omega, hm.ps⟩
      · rw [List.set_eq_of_length_le (by omega)] at hj
        exact h.rd j hj
theorem tick_inv {l : List Tsk} (h0 : rchk l = 0) {pol t : Int} {s : St} (ht : 0 ≤ t) (h : Inv l (t - 1) s) : Inv l t (relJ t 0 l s) ∧ ((relJ t 0 l s).stints.length : Int) ≤ t ∧ Inv l t (tickM l pol t s) := by
  have hjl := h.jl
  rw [show t - 1 + 1 = t by omega] at hjl
  obtain ⟨a1, a2, a3, a4, a5⟩ := rel_inv h0 ht l 0 s (by simp) (by omega) (fun j hj => (h.rd j hj).mono (by omega) (Nat.le_refl _)) h.rl (by simpa using hjl) (fun d hd => by have := h.dt d hd; omega)
  have hsl := h.sl
  have hI : Inv l t (relJ t 0 l s) := ⟨a1, a2, a3, by rw [a5]; omega, a4⟩
  exact ⟨hI, by rw [a5]; omega, exe_inv hI (by rw [a5]; omega)⟩
end Go.Proofs.Ythcdemmamggboaa
/- schedule: what the timeline of a run looks like (plain). -/
namespace Go.Proofs.Ythcdemmamggboaa
open Go.RowKit
def isJ (tk num : Int) (s : Stn) : Bool := decide (s.tk = tk) && decide (s.job = num)
theorem isJ_iff {tk num : Int} {s : Stn} : isJ tk num s = true ↔ (s.tk = tk ∧ s.job = num) := by simp [isJ]
def sumOf (tk num : Int) : List Stn → Int
  | [] => 0
  | s :: ss => (if isJ tk num s then s.to - s.frm else 0) + sumOf tk num ss
def endFrom (tk num : Int) : Int → List Stn → Int
  | e, [] => e
  | e, s :: ss => endFrom tk num (if isJ tk num s then s.to else e) ss
def endOf (tk num : Int) (ss : List Stn) : Int := endFrom tk num 0 ss
def lastFrom : Int → List Stn → Int
  | e, [] => e
  | _, s :: ss => lastFrom s.to ss
def lastTo (ss : List Stn) : Int := lastFrom 0 ss
theorem sumOf_snoc (tk num : Int) (s : Stn) : ∀ ss : List Stn, sumOf tk num (ss ++ [s]) = sumOf tk num ss + (if isJ tk num s then s.to - s.frm else 0)
  | [] => by simp [sumOf]
  | x :: xs => by simp only [List.cons_append, sumOf, sumOf_snoc tk num s xs]; omega
theorem endFrom_snoc (tk num : Int) (s : Stn) : ∀ (ss : List Stn) (e : Int), endFrom tk num e (ss ++ [s]) = if isJ tk num s then s.to else endFrom tk num e ss
  | [], e => by simp [endFrom]
  | x :: xs, e => by simp only [List.cons_append, endFrom, endFrom_snoc tk num s xs]
theorem endOf_snoc (tk num : Int) (s : Stn) (ss : List Stn) : endOf tk num (ss ++ [s]) = if isJ tk num s then s.to else endOf tk num ss := endFrom_snoc tk num s ss 0
theorem lastFrom_snoc (s : Stn) : ∀ (ss : List Stn) (e : Int), lastFrom e (ss ++ [s]) = s.to
  | [], e => by simp [lastFrom]
  | x :: xs, e => by simp only [List.cons_append, lastFrom, lastFrom_snoc s xs]
theorem lastTo_snoc (s : Stn) (ss : List Stn) : lastTo (ss ++ [s]) = s.to := lastFrom_snoc s ss 0
theorem sumOf_none (tk num : Int) : ∀ ss : List Stn, (∀ s ∈ ss, isJ tk num s = false) → sumOf tk num ss = 0
  | [], _ => rfl
  | s :: ss, h => by simp only [sumOf, h s (by simp), sumOf_none tk num ss (fun x hx => h x (by simp [hx]))]; simp
/-- two ways to make the stints of a tick -/
theorem stintsM_cases (t : Int) (j : Job) (ss : List Stn) :
    (∃ ss' s, ss = ss' ++ [s] ∧ (s.tk = (j.tk : Int) ∧ s.job = j.num) ∧ s.to = t ∧ stintsM t j ss = ss' ++ [{ s with to := t + 1 }]) ∨ stintsM t j ss = ss ++ [⟨j.tk, j.num, t, t + 1⟩] := by
  unfold stintsM
  split
  · next h =>
    obtain ⟨h0, h1, h2, h3⟩ := h
    left
    have hne : ss ≠ [] := by intro e; subst e; simp at h0
    have hl : stAt ss (ss.length - 1) = ss.getLast hne := by rw [stAt, List.getLast_eq_getElem, List.getD]; rw [List.getElem?_eq_getElem (by omega)]; rfl
    have hdl : ss.dropLast ++ [ss.getLast hne] = ss := List.dropLast_concat_getLast hne
    refine ⟨ss.dropLast, ss.getLast hne, hdl.symm, ?_, ?_, ?_⟩
    · rw [← hl]; exact ⟨h1, h2⟩
    · rw [← hl]; exact h3
    · rw [hl]
      apply List.ext_getElem
      · simp; omega
      · intro n h1 h2
        rw [List.getElem_set]
        by_cases hn : n = ss.length - 1
        · subst hn
          rw [if_pos rfl, List.getElem_append_right (by simp)]
          simp
        · rw [if_neg (Ne.symm hn)]
          rw [List.length_set] at h1
          rw [List.getElem_append_left (by simp; omega)]
          simp
  · exact .inr rfl
theorem sum_stintsM (tk num t : Int) (j : Job) (ss : List Stn) : sumOf tk num (stintsM t j ss) = sumOf tk num ss + (if (j.tk : Int) = tk ∧ j.num = num then 1 else 0) := by
  rcases stintsM_cases t j ss with ⟨ss', s, rfl, hs, ht, e⟩ | e
  · obtain ⟨h1, h2⟩ := hs
    rw [e, sumOf_snoc, sumOf_snoc]
    simp only [isJ, h1, h2, Bool.and_eq_true, decide_eq_true_eq]
    split <;> omega
  · rw [e, sumOf_snoc]
    simp only [isJ, Bool.and_eq_true, decide_eq_true_eq]
    split <;> omega
theorem end_stintsM (tk num t : Int) (j : Job) (ss : List Stn) : endOf tk num (stintsM t j ss) = if (j.tk : Int) = tk ∧ j.num = num then t + 1 else endOf tk num ss := by
  rcases stintsM_cases t j ss with ⟨ss', s, rfl, hs, ht, e⟩ | e
  · obtain ⟨h1, h2⟩ := hs
    rw [e, endOf_snoc, endOf_snoc]
    simp only [isJ, h1, h2, Bool.and_eq_true, decide_eq_true_eq]
    split <;> rfl
  · rw [e, endOf_snoc]
    simp only [isJ, Bool.and_eq_true, decide_eq_true_eq]
theorem last_stintsM (t : Int) (j : Job) (ss : List Stn) : lastTo (stintsM t j ss) = t + 1 := by
  rcases stintsM_cases t j ss with ⟨ss', s, rfl, hs, ht, e⟩ | e
  · rw [e, lastTo_snoc]
  · rw [e, lastTo_snoc]
theorem snoc_split {α : Type} {pre post ss : List α} {x y : α} (h : pre ++ x :: post = ss ++ [y]) : (post = [] ∧ pre = ss ∧ x = y) ∨ (∃ q, ss = pre ++ x :: q) := by
  rcases List.eq_nil_or_concat post with rfl | ⟨q, z, hq⟩
  · left
    have h2 : pre ++ [x] = ss ++ [y] := h
    obtain ⟨a, b⟩ := List.append_inj' h2 rfl
    exact ⟨rfl, a, by simpa using b⟩
  · right
    rw [List.concat_eq_append] at hq
    subst hq
    have h2 : (pre ++ x :: q) ++ [z] = ss ++ [y] := by rw [← h]; simp
    obtain ⟨a, _⟩ := List.append_inj' h2 rfl
    exact ⟨q, a.symm⟩
def costD (l : List Tsk) (d : Don) : Int := (tskAt l d.tk).cost
def sumD (ss : List Stn) (d : Don) : Int := sumOf d.tk d.job ss
def endD (ss : List Stn) (d : Don) : Int := endOf d.tk d.job ss
structure DonOk (l : List Tsk) (t : Int) (i : Nat) (d : Don) : Prop where
  tk : d.tk < l.length
  j0 : 0 ≤ d.job
  rl : d.rel = (tskAt l d.tk).off + d.job * (tskAt l d.tk).per
  lt : d.rel < t ∨ (d.rel = t ∧ d.tk < i)
structure StnOk (l : List Tsk) (t : Int) (jobs : List Don) (pre : List Stn) (x : Stn) : Prop where
  fr : lastTo pre ≤ x.frm
  ft : x.frm < x.to
  tt : x.to ≤ t
  fd : ∃ k, k < jobs.length ∧ (x.tk = (dnAt jobs k).tk ∧ x.job = (dnAt jobs k).job) ∧ (dnAt jobs k).rel ≤ x.frm
  gp : lastTo pre < x.frm → ∀ k, k < jobs.length → (dnAt jobs k).rel < x.frm → costD l (dnAt jobs k) ≤ sumD pre (dnAt jobs k)
structure JobIn (l : List Tsk) (s : St) (j : Job) : Prop where
  ps : j.pos < s.jobs.length
  eq : dnAt s.jobs j.pos = ⟨j.tk, j.num, j.rel, -1, false⟩
  sm : sumOf j.tk j.num s.stints = j.dn
  d0 : 0 ≤ j.dn
  d1 : j.dn < (tskAt l j.tk).cost
structure TI (l : List Tsk) (t : Int) (i : Nat) (s : St) : Prop where
  jr : ∀ k, k < s.jobs.length → DonOk l t i (dnAt s.jobs k)
  un : ∀ a b, a < s.jobs.length → b < s.jobs.length → (dnAt s.jobs a).tk = (dnAt s.jobs b).tk → (dnAt s.jobs a).job = (dnAt s.jobs b).job → a = b
  rd : ∀ j ∈ s.ready, JobIn l s j
  rp : s.ready.Pairwise (fun a b => a.pos ≠ b.pos)
  dn : ∀ k, k < s.jobs.length → (∃ j ∈ s.ready, j.pos = k) ∨ (sumD s.stints (dnAt s.jobs k) = costD l (dnAt s.jobs k) ∧ 0 < (dnAt s.jobs k).resp ∧ (dnAt s.jobs k).resp = endD s.stints (dnAt s.jobs k) - (dnAt s.jobs k).rel)
  st : ∀ pre x post, s.stints = pre ++ x :: post → StnOk l t s.jobs pre x
  wk : (∃ j ∈ s.ready, j.rel < t) → lastTo s.stints = t
theorem TI0 (l : List Tsk) : TI l 0 0 ⟨[], [], []⟩ :=
  ⟨fun k h => by simp at h, fun a b h => by simp at h, fun j h => by simp at h, .nil, fun k h => by simp at h, fun pre x post h => by simp at h, fun h => by simp at h⟩
theorem dnAt_snoc_old {js : List Don} {d : Don} {k : Nat} (h : k < js.length) : dnAt (js ++ [d]) k = dnAt js k := by simp [dnAt, List.getD, List.getElem?_append_left h]
theorem dnAt_snoc_new {js : List Don} {d : Don} : dnAt (js ++ [d]) js.length = d := by simp [dnAt, List.getD]
theorem TI.last {l : List Tsk} {t : Int} {i : Nat} {s : St} (h : TI l t i s) (ht : 0 ≤ t) : lastTo s.stints ≤ t := by
  rcases List.eq_nil_or_concat s.stints with e | ⟨q, z, e⟩
  · rw [e]; exact ht
  · rw [List.concat_eq_append] at e
    have := (h.st q z [] e).tt
    rw [e, lastTo_snoc]; exact this
/-- a job is released -/
theorem TI.push {l : List Tsk} (h0 : rchk l = 0) {t : Int} {i : Nat} {s : St} (h : TI l t i s) (hi : i < l.length) (hd : dueJ t (tskAt l i) = true) :
    TI l t (i + 1) { s with ready := s.ready ++ [⟨i, numJ t (tskAt l i), t, 0, s.jobs.length⟩], jobs := s.jobs ++ [⟨i, numJ t (tskAt l i), t, -1, false⟩] } := by
  obtain ⟨ho, hm⟩ := due_off hd
  obtain ⟨n0, n1⟩ := num_bd h0 hi ho
  have hp := (tok_at h0 hi).p1
  have hc := (tok_at h0 hi).c1
  have hre : t = (tskAt l i).off + numJ t (tskAt l i) * (tskAt l i).per := by
    unfold numJ
    have := Int.mul_ediv_add_emod (t - (tskAt l i).off) (tskAt l i).per
    rw [Int.mul_comm] at this; omega
  have hnew : ∀ k, k < s.jobs.length → ¬ ((dnAt s.jobs k).tk = i ∧ (dnAt s.jobs k).job = numJ t (tskAt l i)) := by
    rintro k hk ⟨e1, e2⟩
    obtain ⟨a1, a2, a3, a4⟩ := h.jr k hk
    rw [e1, e2, ← hre] at a3
    omega
  have hnst : ∀ x ∈ s.stints, isJ (i : Nat) (numJ t (tskAt l i)) x = false := by
    intro x hx
    rw [← Bool.not_eq_true]
    intro hj
    rw [isJ_iff] at hj
    obtain ⟨pre, post, e⟩ := List.append_of_mem hx
    obtain ⟨k, hk, ⟨e1, e2⟩, _⟩ := (h.st pre x post e).fd
    exact hnew k hk ⟨by have := hj.1; omega, by have := hj.2; omega⟩
  refine ⟨fun k hk => ?_, fun a b ha hb e1 e2 => ?_, fun j hj => ?_, ?_, fun k hk => ?_, fun pre x post e => ?_, fun hw => ?_⟩
  · dsimp only at hk ⊢
    rcases Nat.lt_or_ge k s.jobs.length with hk2 | hk2
    · rw [dnAt_snoc_old hk2]
      obtain ⟨a1, a2, a3, a4⟩ := h.jr k hk2
      exact ⟨a1, a2, a3, by omega⟩
    · obtain rfl : k = s.jobs.length := by simp at hk; omega
      rw [dnAt_snoc_new]
      exact ⟨hi, n0, hre, .inr ⟨rfl, by simp⟩⟩
  · dsimp only at ha hb e1 e2
    simp only [List.length_append, List.length_cons, List.length_nil] at ha hb
    rcases Nat.lt_or_ge a s.jobs.length with ha2 | ha2 <;> rcases Nat.lt_or_ge b s.jobs.length with hb2 | hb2
    · rw [dnAt_snoc_old ha2, dnAt_snoc_old hb2] at e1 e2
      exact h.un a b ha2 hb2 e1 e2
    · obtain rfl : b = s.jobs.length := by omega
      rw [dnAt_snoc_old ha2, dnAt_snoc_new] at e1 e2
      exact absurd ⟨e1, e2⟩ (hnew a ha2)
    · obtain rfl : a = s.jobs.length := by omega
      rw [dnAt_snoc_old hb2, dnAt_snoc_new] at e1 e2
      exact absurd ⟨e1.symm, e2.symm⟩ (hnew b hb2)
    · omega
  · dsimp only at hj
    rcases List.mem_append.mp hj with hj | hj
    · obtain ⟨a1, a2, a3, a4, a5⟩ := h.rd j hj
      exact ⟨by simp; omega, by dsimp only; rw [dnAt_snoc_old a1]; exact a2, a3, a4, a5⟩
    · simp only [List.mem_singleton] at hj
      subst hj
      exact ⟨by simp, by dsimp only; rw [dnAt_snoc_new], sumOf_none _ _ _ hnst, Int.le_refl _, by dsimp only; omega⟩
  · dsimp only
    rw [List.pairwise_append]
    refine ⟨h.rp, by simp, fun a ha b hb => ?_⟩
    simp only [List.mem_singleton] at hb
    subst hb
    have := (h.rd a ha).ps
    dsimp only
    omega
  · dsimp only at hk ⊢
    rcases Nat.lt_or_ge k s.jobs.length with hk2 | hk2
    · rw [dnAt_snoc_old hk2]
      rcases h.dn k hk2 with ⟨j, hj, e⟩ | hdn
      · exact .inl ⟨j, List.mem_append_left _ hj, e⟩
      · exact .inr hdn
    · obtain rfl : k = s.jobs.length := by simp at hk; omega
      exact .inl ⟨⟨i, numJ t (tskAt l i), t, 0, s.jobs.length⟩, List.mem_append_right _ (by simp), rfl⟩
  · dsimp only at e
    obtain ⟨a1, a2, a3, ⟨k, hk, hj, hr⟩, a5⟩ := h.st pre x post e
    refine ⟨a1, a2, a3, ⟨k, by simp; omega, by dsimp only; rw [dnAt_snoc_old hk]; exact hj, by dsimp only; rw [dnAt_snoc_old hk]; exact hr⟩, fun hg q hq hr2 => ?_⟩
    dsimp only at hq hr2 ⊢
    rcases Nat.lt_or_ge q s.jobs.length with hq2 | hq2
    · rw [dnAt_snoc_old hq2] at hr2 ⊢
      exact a5 hg q hq2 hr2
    · obtain rfl : q = s.jobs.length := by simp at hq; omega
      rw [dnAt_snoc_new] at hr2
      dsimp only at hr2
      omega
  · obtain ⟨j, hj, hr⟩ := hw
    dsimp only at hj ⊢
    rcases List.mem_append.mp hj with hj | hj
    · exact h.wk ⟨j, hj, hr⟩
    · simp only [List.mem_singleton] at hj
      subst hj
      dsimp only at hr
      omega
theorem TI.skip {l : List Tsk} {t : Int} {i : Nat} {s : St} (h : TI l t i s) : TI l t (i + 1) s :=
  ⟨fun k hk => by obtain ⟨a1, a2, a3, a4⟩ := h.jr k hk; exact ⟨a1, a2, a3, by omega⟩, h.un, h.rd, h.rp, h.dn, h.st, h.wk⟩
/-- what holds of a release holds of them all -/
theorem rel_ind {l : List Tsk} {t : Int} {Q : Nat → St → Prop}
    (hp : ∀ i s, i < l.length → dueJ t (tskAt l i) = true → Q i s → Q (i + 1) { s with ready := s.ready ++ [⟨i, numJ t (tskAt l i), t, 0, s.jobs.length⟩], jobs := s.jobs ++ [⟨i, numJ t (tskAt l i), t, -1, false⟩] })
    (hs : ∀ i s, i < l.length → dueJ t (tskAt l i) = false → Q i s → Q (i + 1) s) :
    ∀ (xs : List Tsk) (i : Nat) (s : St), xs = l.drop i → i ≤ l.length → Q i s → Q l.length (relJ t i xs s)
  | [], i, s, hx, hi, h => by
    have : i = l.length := by
      have := congrArg List.length hx
      simp at this; omega
    subst this
    exact h
  | x :: xs, i, s, hx, hi, h => by
    have hlt : i < l.length := by
      rcases Nat.lt_or_ge i l.length with h | h
      · exact h
      · rw [List.drop_eq_nil_of_le h] at hx; cases hx
    rw [tsks_drop hlt] at hx
    injection hx with e1 e2
    subst e1
    simp only [relJ]
    cases hd : dueJ t (tskAt l i)
    · simp only [Bool.false_eq_true, if_false]
      exact rel_ind hp hs xs (i + 1) s e2 (by omega) (hs i s hlt hd h)
    · simp only [if_true]
      exact rel_ind hp hs xs (i + 1) _ e2 (by omega) (hp i s hlt hd h)
theorem rel_ind0 {l : List Tsk} {t : Int} {Q : Nat → St → Prop} {s : St}
    (hp : ∀ i s, i < l.length → dueJ t (tskAt l i) = true → Q i s → Q (i + 1) { s with ready := s.ready ++ [⟨i, numJ t (tskAt l i), t, 0, s.jobs.length⟩], jobs := s.jobs ++ [⟨i, numJ t (tskAt l i), t, -1, false⟩] })
    (hs : ∀ i s, i < l.length → dueJ t (tskAt l i) = false → Q i s → Q (i + 1) s) (h : Q 0 s) : Q l.length (relJ t 0 l s) :=
  rel_ind hp hs l 0 s (by simp) (by omega) h
theorem TI.rel {l : List Tsk} (h0 : rchk l = 0) {t : Int} {s : St} (h : TI l t 0 s) : TI l t l.length (relJ t 0 l s) :=
  rel_ind0 (Q := fun i s => TI l t i s) (fun i s hi hd h => h.push h0 hi hd) (fun i s hi hd h => h.skip) h
theorem bestF_lt (l : List Tsk) (pol : Int) : ∀ (js : List Job) (b : Nat) (c : Job) (i n : Nat), b < n → i + js.length ≤ n → bestF l pol b c i js < n
  | [], b, c, i, n, hb, _ => hb
  | j :: js, b, c, i, n, hb, hi => by
    simp only [List.length_cons] at hi
    unfold bestF
    split
    · exact bestF_lt l pol js i j (i + 1) n (by omega) (by omega)
    · exact bestF_lt l pol js b c (i + 1) n hb (by omega)
theorem bestM_lt2 (l : List Tsk) (pol : Int) {r : List Job} (h : 0 < r.length) : bestM l pol r < r.length := bestF_lt l pol _ 0 _ 1 _ h (by simp; omega)
theorem jbAt_mem {r : List Job} {b : Nat} (h : b < r.length) : jbAt r b ∈ r := by simp [jbAt, List.getD, h]
theorem dnAt_set2 {js : List Don} {p k : Nat} {d : Don} (hp : p < js.length) : dnAt (js.set p d) k = if k = p then d else dnAt js k := by
  unfold dnAt
  rw [List.getD_eq_getElem?_getD, List.getElem?_set]
  by_cases h : p = k
  · subst h; simp [hp]
  · simp [h, Ne.symm h, List.getD_eq_getElem?_getD, fun e => h (Eq.symm e)]
theorem pair_other {r : List Job} (h : r.Pairwise (fun a b => a.pos ≠ b.pos)) {b : Nat} (hb : b < r.length) {c : Nat} (hc : c < r.length) (e : (jbAt r c).pos = (jbAt r b).pos) : c = b := by
  rw [List.pairwise_iff_getElem] at h
  have e2 : (r[c]'hc).pos = (r[b]'hb).pos := by simpa [jbAt, List.getD, hb, hc] using e
  rcases Nat.lt_trichotomy c b with h1 | h1 | h1
  · exact absurd e2 (h c b hc hb h1)
  · exact h1
  · exact absurd e2.symm (h b c hb hc h1)
theorem mem_jbAt {r : List Job} {j : Job} (h : j ∈ r) : ∃ c, c < r.length ∧ jbAt r c = j := by
  obtain ⟨c, hc, e⟩ := List.mem_iff_getElem.mp h
  exact ⟨c, hc, by simp [jbAt, List.getD, hc, e]⟩
theorem mem_erase_other {r : List Job} (h : r.Pairwise (fun a b => a.pos ≠ b.pos)) {b : Nat} (hb : b < r.length) {j : Job} (hj : j ∈ r.eraseIdx b) : j ∈ r ∧ j.pos ≠ (jbAt r b).pos := by
  obtain ⟨c, e, hne⟩ := List.mem_eraseIdx_iff_getElem?.mp hj
  have hcl : c < r.length := by
    rcases Nat.lt_or_ge c r.length with h | h
    · exact h
    · rw [List.getElem?_eq_none h] at hne; cases hne
  have ej : jbAt r c = j := by simp [jbAt, List.getD, hne]
  refine ⟨ej ▸ jbAt_mem hcl, fun e2 => e ?_⟩
  exact pair_other h hb hcl (by rw [ej, e2])
theorem mem_set_other {r : List Job} (h : r.Pairwise (fun a b => a.pos ≠ b.pos)) {b : Nat} (hb : b < r.length) {x j : Job} (hj : j ∈ r.set b x) : j = x ∨ (j ∈ r ∧ j.pos ≠ (jbAt r b).pos) := by
  obtain ⟨c, hc, e⟩ := List.mem_iff_getElem.mp hj
  rw [List.getElem_set] at e
  split at e
  · exact .inl e.symm
  · next hne =>
    right
    simp only [List.length_set] at hc
    have ej : jbAt r c = j := by simp [jbAt, List.getD, hc, e]
    exact ⟨ej ▸ jbAt_mem hc, fun e2 => hne (pair_other h hb hc (by rw [ej, e2])).symm⟩
end Go.Proofs.Ythcdemmamggboaa
/- schedule: the execution of a tick keeps what the timeline says (plain). -/
namespace Go.Proofs.Ythcdemmamggboaa
open Go.RowKit
theorem jbAt_ready {l : List Tsk} {t : Int} {i : Nat} {s : St} (h : TI l t i s) {b : Nat} (hb : b < s.ready.length) : JobIn l s (jbAt s.ready b) := h.rd _ (jbAt_mem hb)
/-- the jobs that read alike, apart from the response -/
def Alike (js js' : List Don) : Prop := js'.length = js.length ∧ ∀ k, (dnAt js' k).tk = (dnAt js k).tk ∧ (dnAt js' k).job = (dnAt js k).job ∧ (dnAt js' k).rel = (dnAt js k).rel
theorem Alike.refl (js : List Don) : Alike js js := ⟨rfl, fun _ => ⟨rfl, rfl, rfl⟩⟩
theorem Alike.set (js : List Don) {p : Nat} (hp : p < js.length) (r : Int) : Alike js (js.set p { dnAt js p with resp := r }) := by
  refine ⟨by simp, fun k => ?_⟩
  rw [dnAt_set2 hp]
  by_cases h : k = p
  · rw [if_pos h, h]; exact ⟨rfl, rfl, rfl⟩
  · rw [if_neg h]; exact ⟨rfl, rfl, rfl⟩
theorem Alike.sum {js js' : List Don} (h : Alike js js') (ss : List Stn) (k : Nat) : sumD ss (dnAt js' k) = sumD ss (dnAt js k) := by unfold sumD; rw [(h.2 k).1, (h.2 k).2.1]
theorem Alike.end_ {js js' : List Don} (h : Alike js js') (ss : List Stn) (k : Nat) : endD ss (dnAt js' k) = endD ss (dnAt js k) := by unfold endD; rw [(h.2 k).1, (h.2 k).2.1]
theorem Alike.cost {js js' : List Don} (h : Alike js js') (l : List Tsk) (k : Nat) : costD l (dnAt js' k) = costD l (dnAt js k) := by unfold costD; rw [(h.2 k).1]
theorem Alike.stn {js js' : List Don} (h : Alike js js') {l : List Tsk} {t u : Int} (htu : t ≤ u) {pre : List Stn} {x : Stn} (hs : StnOk l t js pre x) : StnOk l u js' pre x := by
  obtain ⟨a1, a2, a3, ⟨k, hk, hj, hr⟩, a5⟩ := hs
  refine ⟨a1, a2, by omega, ⟨k, by rw [h.1]; exact hk, by rw [(h.2 k).1, (h.2 k).2.1]; exact hj, by rw [(h.2 k).2.2]; exact hr⟩, fun hg q hq hr2 => ?_⟩
  rw [h.cost, h.sum]
  exact a5 hg q (by rw [← h.1]; exact hq) (by rw [← (h.2 q).2.2]; exact hr2)
/-- the stints behind a tick -/
theorem stints_ok {l : List Tsk} {t : Int} {s : St} (ht : 0 ≤ t) (h : TI l t l.length s) {b : Nat} (hb : b < s.ready.length) {js : List Don} (ha : Alike s.jobs js) :
    ∀ pre x post, stintsM t (jbAt s.ready b) s.stints = pre ++ x :: post → StnOk l (t + 1) js pre x := by
  intro pre x post e
  have hj := jbAt_ready h hb
  have hkey : ∀ q, q < s.jobs.length → (dnAt s.jobs q).rel < t → lastTo s.stints < t → costD l (dnAt s.jobs q) ≤ sumD s.stints (dnAt s.jobs q) := by
    intro q hq hr hl
    rcases h.dn q hq with ⟨j', hj', e'⟩ | hdn
    · exfalso
      have := (h.rd j' hj').eq
      rw [e'] at this
      have h2 := h.wk ⟨j', hj', by rw [this] at hr; exact hr⟩
      omega
    · exact Int.le_of_eq hdn.1.symm
  have hre : (jbAt s.ready b).rel ≤ t := by
    have := (h.jr _ hj.ps).lt
    rw [hj.eq] at this
    dsimp only at this
    omega
  rcases stintsM_cases t (jbAt s.ready b) s.stints with ⟨ss', z, e1, ⟨hz1, hz2⟩, hz3, e2⟩ | e2
  · rw [e2] at e
    rcases snoc_split e.symm with ⟨rfl, rfl, rfl⟩ | ⟨q, hq⟩
    · have h2 := ha.stn (u := t) (Int.le_refl _) (h.st pre z [] (by rw [e1]))
      obtain ⟨a1, a2, a3, a4, a5⟩ := h2
      exact ⟨a1, by dsimp only; omega, Int.le_refl _, a4, a5⟩
    · exact ha.stn (by omega) (h.st pre x (q ++ [z]) (by rw [e1, hq]; simp))
  · rw [e2] at e
    rcases snoc_split e.symm with ⟨rfl, rfl, rfl⟩ | ⟨q, hq⟩
    · refine ⟨h.last ht, by dsimp only; omega, Int.le_refl _, ⟨_, by rw [ha.1]; exact hj.ps, ?_, ?_⟩, fun hg k hk hr => ?_⟩
      · rw [(ha.2 _).1, (ha.2 _).2.1, hj.eq]; exact ⟨rfl, rfl⟩
      · rw [(ha.2 _).2.2, hj.eq]; exact hre
      · rw [ha.cost, ha.sum]
        rw [(ha.2 k).2.2] at hr
        exact hkey k (by rw [← ha.1]; exact hk) hr hg
    · exact ha.stn (by omega) (h.st pre x q hq)
theorem sum_other {l : List Tsk} {t : Int} {i : Nat} {s : St} (h : TI l t i s) {j : Job} (hj : JobIn l s j) {k : Nat} (hk : k < s.jobs.length) (hne : k ≠ j.pos) :
    ¬ ((j.tk : Int) = (dnAt s.jobs k).tk ∧ j.num = (dnAt s.jobs k).job) := by
  rintro ⟨e1, e2⟩
  exact hne (h.un k j.pos hk hj.ps (by rw [hj.eq]; dsimp only; omega) (by rw [hj.eq]; exact e2.symm))
/-- a tick -/
theorem TI.exe {l : List Tsk} {pol t : Int} {s : St} (ht : 0 ≤ t) (h : TI l t l.length s) : TI l (t + 1) 0 (exeM l pol t s) := by
  have hjr : ∀ k, k < s.jobs.length → DonOk l (t + 1) 0 (dnAt s.jobs k) := fun k hk => by
    obtain ⟨a1, a2, a3, a4⟩ := h.jr k hk
    exact ⟨a1, a2, a3, by omega⟩
  unfold exeM
  split
  · next hn =>
    have hr : s.ready = [] := List.length_eq_zero_iff.mp hn
    exact ⟨hjr, h.un, h.rd, h.rp, h.dn, fun pre x post e => (Alike.refl _).stn (by omega) (h.st pre x post e), fun ⟨j, hj, _⟩ => by rw [hr] at hj; cases hj⟩
  · next hn =>
    have hb := bestM_lt2 l pol (r := s.ready) (by omega)
    generalize bestM l pol s.ready = b at *
    have hj := jbAt_ready h hb
    have hre : (jbAt s.ready b).rel ≤ t := by
      have := (h.jr _ hj.ps).lt
      rw [hj.eq] at this
      dsimp only at this
      omega
    have hoth : ∀ k, k < s.jobs.length → k ≠ (jbAt s.ready b).pos → sumD (stintsM t (jbAt s.ready b) s.stints) (dnAt s.jobs k) = sumD s.stints (dnAt s.jobs k) ∧ endD (stintsM t (jbAt s.ready b) s.stints) (dnAt s.jobs k) = endD s.stints (dnAt s.jobs k) := by
      intro k hk hne
      have := sum_other h hj hk hne
      unfold sumD endD
      rw [sum_stintsM, end_stintsM, if_neg this, if_neg this]
      omega
    have hothJ : ∀ j ∈ s.ready, j.pos ≠ (jbAt s.ready b).pos → sumOf j.tk j.num (stintsM t (jbAt s.ready b) s.stints) = j.dn := by
      intro j hjm hne
      have h1 := h.rd j hjm
      have h2 := (hoth j.pos h1.ps hne).1
      unfold sumD at h2
      rw [h1.eq] at h2
      rw [h2]; exact h1.sm
    have hself : sumOf (jbAt s.ready b).tk (jbAt s.ready b).num (stintsM t (jbAt s.ready b) s.stints) = (jbAt s.ready b).dn + 1 := by
      rw [sum_stintsM, if_pos ⟨rfl, rfl⟩, hj.sm]
    have hselfE : endOf (jbAt s.ready b).tk (jbAt s.ready b).num (stintsM t (jbAt s.ready b) s.stints) = t + 1 := by
      rw [end_stintsM, if_pos ⟨rfl, rfl⟩]
    have hlast := last_stintsM t (jbAt s.ready b) s.stints
    unfold runOne
    dsimp only
    split
    · next hc =>
      have ha := Alike.set s.jobs hj.ps (t + 1 - (jbAt s.ready b).rel)
      have hdn : ∀ k, k ≠ (jbAt s.ready b).pos → dnAt (s.jobs.set (jbAt s.ready b).pos { dnAt s.jobs (jbAt s.ready b).pos with resp := t + 1 - (jbAt s.ready b).rel }) k = dnAt s.jobs k := fun k hk => by rw [dnAt_set2 hj.ps, if_neg hk]
      have hdn2 : dnAt (s.jobs.set (jbAt s.ready b).pos { dnAt s.jobs (jbAt s.ready b).pos with resp := t + 1 - (jbAt s.ready b).rel }) (jbAt s.ready b).pos = ⟨(jbAt s.ready b).tk, (jbAt s.ready b).num, (jbAt s.ready b).rel, t + 1 - (jbAt s.ready b).rel, false⟩ := by rw [dnAt_set2 hj.ps, if_pos rfl, hj.eq]
      refine ⟨fun k hk => ?_, fun x y hx hy e1 e2 => ?_, fun j hjm => ?_, ?_, fun k hk => ?_, stints_ok ht h hb ha, fun _ => hlast⟩
      · rw [ha.1] at hk
        obtain ⟨a1, a2, a3, a4⟩ := hjr k hk
        have := ha.2 k
        exact ⟨by rw [this.1]; exact a1, by rw [this.2.1]; exact a2, by rw [this.1, this.2.1, this.2.2]; exact a3, by rw [this.1, this.2.2]; exact a4⟩
      · rw [ha.1] at hx hy
        rw [(ha.2 x).1, (ha.2 y).1] at e1
        rw [(ha.2 x).2.1, (ha.2 y).2.1] at e2
        exact h.un x y hx hy e1 e2
      · obtain ⟨hm, hne⟩ := mem_erase_other h.rp hb hjm
        obtain ⟨a1, a2, a3, a4, a5⟩ := h.rd j hm
        exact ⟨by rw [ha.1]; exact a1, by dsimp only; rw [hdn _ hne]; exact a2, hothJ j hm hne, a4, a5⟩
      · exact h.rp.sublist (List.eraseIdx_sublist _ _)
      · rw [ha.1] at hk
        by_cases hne : k = (jbAt s.ready b).pos
        · right
          subst hne
          dsimp only
          rw [hdn2]
          unfold sumD endD costD
          dsimp only
          rw [hself, hselfE]
          exact ⟨hc, by omega, rfl⟩
        · dsimp only
          rw [hdn k hne, (hoth k hk hne).1, (hoth k hk hne).2]
          rcases h.dn k hk with ⟨j, hjm, e⟩ | hd
          · left
            obtain ⟨c, hcl, ej⟩ := mem_jbAt hjm
            refine ⟨j, ?_, e⟩
            rw [List.mem_eraseIdx_iff_getElem?]
            refine ⟨c, fun e2 => ?_, ?_⟩
            · subst e2; rw [ej] at hne; exact hne e.symm
            · rw [← ej]; simp [jbAt, List.getD, hcl]
          · exact .inr hd
    · next hc =>
      have hd1 := hj.d1
      have hd0 := hj.d0
      refine ⟨hjr, h.un, fun j hjm => ?_, ?_, fun k hk => ?_, stints_ok ht h hb (Alike.refl _), fun _ => hlast⟩
      · rcases mem_set_other h.rp hb hjm with rfl | ⟨hm, hne⟩
        · exact ⟨hj.ps, hj.eq, hself, by dsimp only; omega, by dsimp only; omega⟩
        · obtain ⟨a1, a2, a3, a4, a5⟩ := h.rd j hm
          exact ⟨a1, a2, hothJ j hm hne, a4, a5⟩
      · rw [List.pairwise_iff_getElem]
        intro x y hx hy hxy
        have h2 := List.pairwise_iff_getElem.mp h.rp x y (by simpa using hx) (by simpa using hy) hxy
        have hp : ∀ z (hz : z < (s.ready.set b { jbAt s.ready b with dn := (jbAt s.ready b).dn + 1 }).length), (s.ready.set b { jbAt s.ready b with dn := (jbAt s.ready b).dn + 1 })[z].pos = (s.ready[z]'(by simpa using hz)).pos := by
          intro z hz
          rw [List.getElem_set]
          split
          · next e => subst e; simp [jbAt, List.getD, hb]
          · rfl
        rw [hp x hx, hp y hy]
        exact h2
      · by_cases hne : k = (jbAt s.ready b).pos
        · left
          exact ⟨{ jbAt s.ready b with dn := (jbAt s.ready b).dn + 1 }, List.mem_iff_getElem.mpr ⟨b, by simpa using hb, by simp⟩, hne.symm⟩
        · rw [(hoth k hk hne).1, (hoth k hk hne).2]
          rcases h.dn k hk with ⟨j, hjm, e⟩ | hd
          · left
            obtain ⟨c, hcl, ej⟩ := mem_jbAt hjm
            refine ⟨j, List.mem_iff_getElem.mpr ⟨c, by simpa using hcl, ?_⟩, e⟩
            rw [List.getElem_set, if_neg]
            · rw [← ej]; simp [jbAt, List.getD, hcl]
            · intro e2; subst e2; rw [ej] at hne; exact hne e.symm
          · exact .inr hd
/-- the state before a tick -/
def upTo (l : List Tsk) (pol : Int) (n : Nat) : St := runS l pol n 0 ⟨[], [], []⟩
theorem runS_snoc (l : List Tsk) (pol : Int) : ∀ (n : Nat) (t : Int) (s : St), runS l pol (n + 1) t s = tickM l pol (t + n) (runS l pol n t s)
  | 0, t, s => by simp [runS]
  | n + 1, t, s => by
    have := runS_snoc l pol n (t + 1) (tickM l pol t s)
    rw [show t + 1 + (n : Int) = t + ((n + 1 : Nat) : Int) by push_cast; omega] at this
    exact this
theorem upTo_succ (l : List Tsk) (pol : Int) (n : Nat) : upTo l pol (n + 1) = tickM l pol n (upTo l pol n) := by
  unfold upTo
  rw [runS_snoc]
  simp
theorem upTo_TI {l : List Tsk} (h0 : rchk l = 0) (pol : Int) : ∀ n : Nat, TI l n 0 (upTo l pol n)
  | 0 => TI0 l
  | n + 1 => by
    rw [upTo_succ]
    exact TI.exe (pol := pol) (t := (n : Int)) (by omega) ((upTo_TI h0 pol n).rel h0)
end Go.Proofs.Ythcdemmamggboaa
/- schedule: the timeline that Run hands back (plain). -/
namespace Go.Proofs.Ythcdemmamggboaa
open Go.RowKit
structure JobEnd (l : List Tsk) (T : Int) (ss : List Stn) (d : Don) : Prop where
  tk : d.tk < l.length
  r0 : 0 ≤ d.rel
  r1 : d.rel ≤ T
  en : (sumD ss d < costD l d ∧ d.resp = -1 ∧ lastTo ss = T) ∨ (sumD ss d = costD l d ∧ 0 < d.resp ∧ d.resp = endD ss d - d.rel)
structure OrderOk (l : List Tsk) (T : Int) (ss : List Stn) (js : List Don) : Prop where
  st : ∀ i, i < ss.length → StnOk l T js (ss.take i) (stAt ss i)
  un : ∀ a b, a < js.length → b < js.length → (dnAt js a).tk = (dnAt js b).tk → (dnAt js a).job = (dnAt js b).job → a = b
  jb : ∀ k, k < js.length → JobEnd l T ss (dnAt js k)
theorem stn_take_drop {ss : List Stn} {i : Nat} (h : i < ss.length) : ss = ss.take i ++ stAt ss i :: ss.drop (i + 1) := by
  conv => lhs; rw [← List.take_append_drop i ss]
  rw [List.drop_eq_getElem_cons h]
  simp [stAt, List.getD, h]
theorem stn_take_succ {ss : List Stn} {i : Nat} (h : i < ss.length) : ss.take (i + 1) = ss.take i ++ [stAt ss i] := by
  rw [List.take_succ_eq_append_getElem h]; simp [stAt, List.getD, h]
theorem dnAt_map {f : Don → Don} {js : List Don} {k : Nat} (h : k < js.length) : dnAt (js.map f) k = f (dnAt js k) := by simp [dnAt, List.getD, h]
theorem alike_miss (l : List Tsk) (ticks : Int) (js : List Don) : Alike js (js.map (missM l ticks)) := by
  refine ⟨by simp, fun k => ?_⟩
  rcases Nat.lt_or_ge k js.length with h | h
  · rw [dnAt_map h]; exact ⟨rfl, rfl, rfl⟩
  · have e : dnAt (js.map (missM l ticks)) k = dnAt js k := by simp [dnAt, List.getD, h]
    rw [e]; exact ⟨rfl, rfl, rfl⟩
theorem TI.order {l : List Tsk} (h0 : rchk l = 0) {T : Int} {s : St} (h : TI l T 0 s) : OrderOk l T s.stints (s.jobs.map (missM l T)) := by
  have ha := alike_miss l T s.jobs
  refine ⟨fun i hi => ha.stn (Int.le_refl _) (h.st _ _ _ (stn_take_drop hi)), fun a b hA hB e1 e2 => ?_, fun k hk => ?_⟩
  · rw [ha.1] at hA hB
    rw [(ha.2 a).1, (ha.2 b).1] at e1
    rw [(ha.2 a).2.1, (ha.2 b).2.1] at e2
    exact h.un a b hA hB e1 e2
  · rw [ha.1] at hk
    obtain ⟨a1, a2, a3, a4⟩ := h.jr k hk
    have hp := (tok_at h0 a1).p1
    obtain ⟨_, _, _, _, _, o1, _⟩ := tskBad_false.1 ((rchk_ok h0).2 _ a1).1
    have hm : 0 ≤ (dnAt s.jobs k).job * (tskAt l (dnAt s.jobs k).tk).per := Int.mul_nonneg a2 (by omega)
    rw [dnAt_map hk]
    refine ⟨a1, ?_, ?_, ?_⟩
    · show 0 ≤ (dnAt s.jobs k).rel
      omega
    · show (dnAt s.jobs k).rel ≤ T
      omega
    · show (sumD s.stints (dnAt s.jobs k) < costD l (dnAt s.jobs k) ∧ (dnAt s.jobs k).resp = -1 ∧ lastTo s.stints = T) ∨ (sumD s.stints (dnAt s.jobs k) = costD l (dnAt s.jobs k) ∧ 0 < (dnAt s.jobs k).resp ∧ (dnAt s.jobs k).resp = endD s.stints (dnAt s.jobs k) - (dnAt s.jobs k).rel)
      rcases h.dn k hk with ⟨j, hj, e⟩ | hd
      · left
        have hJ := h.rd j hj
        have e1 := hJ.eq
        rw [e] at e1
        have hw := h.wk ⟨j, hj, by rw [e1] at a4; dsimp only at a4; omega⟩
        refine ⟨?_, by rw [e1], hw⟩
        unfold sumD costD
        rw [e1]
        dsimp only
        rw [hJ.sm]
        exact hJ.d1
      · exact .inr hd
/-- what is executed of a job -/
theorem sum_bd {l : List Tsk} {T : Int} {js : List Don} (tk num : Int) : ∀ (n : Nat) (ss : List Stn), ss.length = n → (∀ pre x post, ss = pre ++ x :: post → StnOk l T js pre x) → 0 ≤ sumOf tk num ss ∧ sumOf tk num ss ≤ lastTo ss ∧ 0 ≤ lastTo ss ∧ 0 ≤ endOf tk num ss ∧ endOf tk num ss ≤ lastTo ss
  | 0, ss, hn, _ => by
    have : ss = [] := List.length_eq_zero_iff.mp hn
    subst this; simp [sumOf, lastTo, lastFrom, endOf, endFrom]
  | n + 1, ss, hn, h => by
    rcases List.eq_nil_or_concat ss with e | ⟨q, z, e⟩
    · subst e; simp at hn
    · rw [List.concat_eq_append] at e
      subst e
      have hz := h q z [] rfl
      have := sum_bd tk num n q (by simpa using hn) (fun pre x post e => h pre x (post ++ [z]) (by rw [e]; simp))
      have h1 := hz.fr
      have h2 := hz.ft
      rw [sumOf_snoc, lastTo_snoc, endOf_snoc]
      split <;> omega
theorem OrderOk.split {l : List Tsk} {T : Int} {ss : List Stn} {js : List Don} (h : OrderOk l T ss js) : ∀ pre x post, ss = pre ++ x :: post → StnOk l T js pre x := by
  intro pre x post e
  have hl : pre.length < ss.length := by rw [e]; simp
  have h1 := h.st pre.length hl
  have e1 : ss.take pre.length = pre := by rw [e]; simp
  have e2 : stAt ss pre.length = x := by rw [e]; simp [stAt, List.getD]
  rwa [e1, e2] at h1
theorem OrderOk.bd {l : List Tsk} {T : Int} {ss : List Stn} {js : List Don} (h : OrderOk l T ss js) (hT : 0 ≤ T) (i : Nat) (d : Don) :
    0 ≤ sumD (ss.take i) d ∧ sumD (ss.take i) d ≤ lastTo (ss.take i) ∧ 0 ≤ lastTo (ss.take i) ∧ lastTo (ss.take i) ≤ T ∧ 0 ≤ endD (ss.take i) d ∧ endD (ss.take i) d ≤ T := by
  have hs : ∀ pre x post, ss.take i = pre ++ x :: post → StnOk l T js pre x := fun pre x post e => h.split pre x (post ++ ss.drop i) ((List.take_append_drop i ss).symm.trans (by rw [e]; simp))
  obtain ⟨a1, a2, a3, a4, a5⟩ := sum_bd d.tk d.job _ _ rfl hs
  have : lastTo (ss.take i) ≤ T := by
    rcases List.eq_nil_or_concat (ss.take i) with e | ⟨q, z, e⟩
    · rw [e]; exact hT
    · rw [List.concat_eq_append] at e
      have := (hs q z [] e).tt
      rw [e, lastTo_snoc]; exact this
  exact ⟨a1, a2, a3, this, a4, Int.le_trans a5 this⟩
/-- the next stint -/
theorem OrderOk.next {l : List Tsk} {T : Int} {ss : List Stn} {js : List Don} (h : OrderOk l T ss js) {i k : Nat} (hi : i < ss.length) (hk : k < js.length) (hm : (stAt ss i).tk = (dnAt js k).tk ∧ (stAt ss i).job = (dnAt js k).job) :
    ∀ r, r < js.length → (if r = k then sumD (ss.take i) (dnAt js k) + (stAt ss i).to - (stAt ss i).frm else sumD (ss.take i) (dnAt js r)) = sumD (ss.take (i + 1)) (dnAt js r) ∧
      (if r = k then (stAt ss i).to else endD (ss.take i) (dnAt js r)) = endD (ss.take (i + 1)) (dnAt js r) := by
  intro r hr
  rw [stn_take_succ hi]
  unfold sumD endD
  rw [sumOf_snoc, endOf_snoc]
  by_cases e : r = k
  · subst e
    have : isJ (dnAt js r).tk (dnAt js r).job (stAt ss i) = true := isJ_iff.mpr hm
    simp only [this, if_true]
    exact ⟨by omega, trivial⟩
  · have : isJ (dnAt js r).tk (dnAt js r).job (stAt ss i) = false := by
      rw [← Bool.not_eq_true, isJ_iff]
      rintro ⟨e1, e2⟩
      exact e (h.un r k hr hk (by have := hm.1; omega) (by rw [← e2, hm.2]))
    simp [this, e]
/-- a tick less -/
theorem order_less {l : List Tsk} (h0 : rchk l = 0) (pol : Int) (n : Nat) :
    (upTo l pol n).stints.length ≤ (upTo l pol (n + 1)).stints.length ∧ (upTo l pol n).jobs.length ≤ (upTo l pol (n + 1)).jobs.length ∧
    ∀ i, i < (upTo l pol n).stints.length → stAt (upTo l pol n).stints i = { stAt (upTo l pol (n + 1)).stints i with to := if (stAt (upTo l pol (n + 1)).stints i).to < n then (stAt (upTo l pol (n + 1)).stints i).to else n } := by
  have hT := upTo_TI h0 pol n
  rw [upTo_succ]
  unfold tickM
  obtain ⟨hrs, hrj⟩ : (relJ (n : Int) 0 l (upTo l pol n)).stints = (upTo l pol n).stints ∧ (upTo l pol n).jobs.length ≤ (relJ (n : Int) 0 l (upTo l pol n)).jobs.length :=
    rel_ind0 (Q := fun _ s => s.stints = (upTo l pol n).stints ∧ (upTo l pol n).jobs.length ≤ s.jobs.length) (fun i s _ _ h => ⟨h.1, by have := h.2; simp; omega⟩) (fun i s _ _ h => h) ⟨rfl, Nat.le_refl _⟩
  have hle : ∀ i, i < (upTo l pol n).stints.length → (stAt (upTo l pol n).stints i).to ≤ n := fun i hi => (hT.st _ _ _ (stn_take_drop hi)).tt
  generalize relJ (n : Int) 0 l (upTo l pol n) = s at *
  have hself : ∀ i, i < (upTo l pol n).stints.length → stAt (upTo l pol n).stints i = { stAt (upTo l pol n).stints i with to := if (stAt (upTo l pol n).stints i).to < n then (stAt (upTo l pol n).stints i).to else n } := by
    intro i hi
    have := hle i hi
    have e : (if (stAt (upTo l pol n).stints i).to < n then (stAt (upTo l pol n).stints i).to else (n : Int)) = (stAt (upTo l pol n).stints i).to := by split <;> omega
    rw [e]
  have hjobs : (exeM l pol (n : Int) s).jobs.length = s.jobs.length := by
    unfold exeM runOne
    split
    · rfl
    · dsimp only; split <;> simp
  refine ⟨?_, by rw [hjobs]; exact hrj, ?_⟩
  · unfold exeM
    split
    · rw [hrs]; exact Nat.le_refl _
    · unfold runOne
      dsimp only
      rw [hrs]
      rcases stintsM_cases n (jbAt s.ready (bestM l pol s.ready)) (upTo l pol n).stints with ⟨ss', z, e1, _, _, e2⟩ | e2 <;> split <;> dsimp only <;> rw [e2]
      · rw [e1]; simp
      · rw [e1]; simp
      · simp
      · simp
  · intro i hi
    unfold exeM
    split
    · rw [hrs]; exact hself i hi
    · unfold runOne
      dsimp only
      have key : stAt (upTo l pol n).stints i = { stAt (stintsM n (jbAt s.ready (bestM l pol s.ready)) (upTo l pol n).stints) i with to := if (stAt (stintsM n (jbAt s.ready (bestM l pol s.ready)) (upTo l pol n).stints) i).to < n then (stAt (stintsM n (jbAt s.ready (bestM l pol s.ready)) (upTo l pol n).stints) i).to else n } := by
        rcases stintsM_cases n (jbAt s.ready (bestM l pol s.ready)) (upTo l pol n).stints with ⟨ss', z, e1, _, hz, e2⟩ | e2
        · rw [e2]
          by_cases hil : i < ss'.length
          · have ea : stAt (ss' ++ [{ z with to := (n : Int) + 1 }]) i = stAt (upTo l pol n).stints i := by rw [e1]; simp [stAt, List.getD, List.getElem?_append_left hil]
            rw [ea]; exact hself i hi
          · have hlen : i = ss'.length := by rw [e1] at hi; simp at hi; omega
            subst hlen
            have ea : stAt (ss' ++ [{ z with to := (n : Int) + 1 }]) ss'.length = { z with to := (n : Int) + 1 } := by simp [stAt, List.getD]
            have eb : stAt (upTo l pol n).stints ss'.length = z := by rw [e1]; simp [stAt, List.getD]
            rw [ea, eb]
            dsimp only
            rw [if_neg (by omega), ← hz]
        · rw [e2]
          have ea : stAt ((upTo l pol n).stints ++ [⟨(jbAt s.ready (bestM l pol s.ready)).tk, (jbAt s.ready (bestM l pol s.ready)).num, (n : Int), (n : Int) + 1⟩]) i = stAt (upTo l pol n).stints i := by simp [stAt, List.getD, List.getElem?_append_left hi]
          rw [ea]; exact hself i hi
      split <;> dsimp only <;> rw [hrs] <;> exact key
end Go.Proofs.Ythcdemmamggboaa
/- schedule: what Run hands back where it runs (plain). -/
namespace Go.Proofs.Ythcdemmamggboaa
open Go.RowKit
theorem sched_ok {l : List Tsk} {pol : Int} {n : Nat} (h0 : rchk l = 0) (hp : ¬ (pol ≠ 1 ∧ (pol ≠ 2 ∨ secsB l = true))) (hn : n ≤ 20000) :
    scheduleM l pol n = ((upTo l pol n).stints, (upTo l pol n).jobs.map (missM l n), 0) := by
  unfold scheduleM
  rw [if_pos h0, if_neg (fun h => h.elim hp (by omega)), if_neg (by omega)]
  rfl
theorem upTo_inv {l : List Tsk} (h0 : rchk l = 0) (pol : Int) (n : Nat) : Inv l ((n : Int) - 1) (upTo l pol n) := by
  induction n with
  | zero => exact Inv0 l
  | succ n ih =>
    rw [upTo_succ]
    have := (tick_inv (pol := pol) h0 (t := (n : Int)) (by omega) ih).2.2
    rw [show ((n + 1 : Nat) : Int) - 1 = n by omega]
    exact this
theorem upTo_len {l : List Tsk} (h0 : rchk l = 0) (pol : Int) {n : Nat} (hn : n ≤ 20000) : (upTo l pol n).stints.length ≤ 20000 ∧ (upTo l pol n).jobs.length ≤ 160000 := by
  have hi := upTo_inv h0 pol n
  have hl := (rchk_ok h0).1
  have hs := hi.sl
  have hj := hi.jl
  have hm : (l.length : Int) * ((n : Int) - 1 + 1) ≤ 8 * 20000 := Int.mul_le_mul (by omega) (by omega) (by omega) (by omega)
  omega
end Go.Proofs.Ythcdemmamggboaa
