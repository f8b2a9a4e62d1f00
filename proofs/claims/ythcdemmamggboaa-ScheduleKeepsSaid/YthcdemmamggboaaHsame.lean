import Derived.Test.YthcdemmamggboaaHsim
import Derived.Laws.StructEq
namespace Go.Proofs.Ythcdemmamggboaa
open Go.RowKit
theorem stint_neq (a0 a1 a2 a3 : Int) (w : World) : (binOp .neq 39 (.agg #[.int .i64 a0, .int .i64 a1, .int .i64 a2, .int .i64 a3]) (.agg #[.int .i64 a0, .int .i64 a1, .int .i64 a2, .int .i64 a3])).run Try.prog w = .ok (.bool false) w := by
  have hS : Try.prog.underlying 39 = some (.struct (Try.prog.fieldsOf 39)) := by kernel_rfl
  have hp : Try.prog.stoodInHeld 39 = false := by kernel_rfl
  have u2 := Try.underlying2
  have u3 := Try.underlying3
  rw [run_neq_struct, show (10000 : Nat) = 9999 + 1 from rfl, run_equalIn_agg w 9999 39 _ _ hS hp]
  simp only [Program.fieldsOf, Try.underlying39]
  go_simp
theorem stint_guard2 : Try.prog.eqGuardType Try.prog.depth 39 = false := by kernel_rfl
theorem done_neq (a0 a1 a2 a3 : Int) (a4 : Bool) (w : World) : (binOp .neq 42 (.agg #[.int .i64 a0, .int .i64 a1, .int .i64 a2, .int .i64 a3, .bool a4]) (.agg #[.int .i64 a0, .int .i64 a1, .int .i64 a2, .int .i64 a3, .bool a4])).run Try.prog w = .ok (.bool false) w := by
  have hS : Try.prog.underlying 42 = some (.struct (Try.prog.fieldsOf 42)) := by kernel_rfl
  have hp : Try.prog.stoodInHeld 42 = false := by kernel_rfl
  have u2 := Try.underlying2
  have u3 := Try.underlying3
  have u4 := Try.underlying4
  rw [run_neq_struct, show (10000 : Nat) = 9999 + 1 from rfl, run_equalIn_agg w 9999 42 _ _ hS hp]
  simp only [Program.fieldsOf, Try.underlying42]
  go_simp
theorem done_guard : Try.prog.eqGuardType Try.prog.depth 42 = false := by kernel_rfl
/-- the cells of an element that is read -/
theorem rd_stn {w : World} {b off : Nat} {l : List Stn} {i : Nat} (hi : i < l.length) (h : ∀ i (h : i < l.length) r, r < 4 → w.cell? ⟨b, off + i * 4 + r, none⟩ = (stnC l[i])[r]?) :
    w.cell? ⟨b, off + i * 4, none⟩ = some (.int .i64 (stAt l i).tk) ∧ w.cell? ⟨b, off + i * 4 + 1, none⟩ = some (.int .i64 (stAt l i).job) ∧ w.cell? ⟨b, off + i * 4 + 2, none⟩ = some (.int .i64 (stAt l i).frm) ∧ w.cell? ⟨b, off + i * 4 + 3, none⟩ = some (.int .i64 (stAt l i).to) := by
  have e : stAt l i = l[i] := by simp [stAt, List.getD, hi]
  rw [e]
  exact ⟨h i hi 0 (by omega), h i hi 1 (by omega), h i hi 2 (by omega), h i hi 3 (by omega)⟩
theorem rd_don {w : World} {b off : Nat} {l : List Don} {i : Nat} (hi : i < l.length) (h : ∀ i (h : i < l.length) r, r < 5 → w.cell? ⟨b, off + i * 5 + r, none⟩ = (donC l[i])[r]?) :
    w.cell? ⟨b, off + i * 5, none⟩ = some (.int .i64 (dnAt l i).tk) ∧ w.cell? ⟨b, off + i * 5 + 1, none⟩ = some (.int .i64 (dnAt l i).job) ∧ w.cell? ⟨b, off + i * 5 + 2, none⟩ = some (.int .i64 (dnAt l i).rel) ∧ w.cell? ⟨b, off + i * 5 + 3, none⟩ = some (.int .i64 (dnAt l i).resp) ∧ w.cell? ⟨b, off + i * 5 + 4, none⟩ = some (.bool (dnAt l i).miss) := by
  have e : dnAt l i = l[i] := by simp [dnAt, List.getD, hi]
  rw [e]
  exact ⟨h i hi 0 (by omega), h i hi 1 (by omega), h i hi 2 (by omega), h i hi 3 (by omega), h i hi 4 (by omega)⟩
set_option maxRecDepth 100000 in
set_option maxHeartbeats 8000000 in
theorem sameTimeline_any (vs vj us uj : Value) (ss : List Stn) (js : List Don) (w : World) (h1 : RdAt w w.heap.size vs 4 stnC ss) (h2 : RdAt w w.heap.size vj 5 donC js) (h3 : RdAt w w.heap.size us 4 stnC ss) (h4 : RdAt w w.heap.size uj 5 donC js)
    (hs : ss.length ≤ 1000000) (hj : js.length ≤ 1000000) :
    Calls Try.prog 12 #[.agg #[vs, vj], .agg #[us, uj]] w fun e w' => e = .returned (.bool true) ∧ Bel w w' := by
  have H1 := Lib.hid h1
  have H2 := Lib.hid h2
  have H3 := Lib.hid h3
  have H4 := Lib.hid h4
  obtain ⟨A1, c1, rfl, _⟩ := h1.form
  obtain ⟨A2, c2, rfl, _⟩ := h2.form
  obtain ⟨A3, c3, rfl, _⟩ := h3.form
  obtain ⟨A4, c4, rfl, _⟩ := h4.form
  clear h1 h2 h3 h4
  go_enter Try.func12, Try.ntmps12
  go_upto_region 1 with (fail)
  (generalize hW : World.alloc _ _ = wb; have q0_0 := (congrArg (fun W : World => W.cell? ⟨w.heap.size, 0, none⟩) hW).symm; simp [go_sem] at q0_0; have q0_1 := (congrArg (fun W : World => W.cell? ⟨w.heap.size, 1, none⟩) hW).symm; simp [go_sem] at q0_1; have qz0 : w.heap.size < wb.heap.size := (by rw [← hW]; simp [go_sem]; try omega); have q1_0 := (congrArg (fun W : World => W.cell? ⟨w.heap.size + 1, 0, none⟩) hW).symm; simp [go_sem] at q1_0; have q1_1 := (congrArg (fun W : World => W.cell? ⟨w.heap.size + 1, 1, none⟩) hW).symm; simp [go_sem] at q1_1; have qz1 : w.heap.size + 1 < wb.heap.size := (by rw [← hW]; simp [go_sem]; try omega); have HBW : Hid (Bel w wb) := Lib.hid (by rw [← hW]; (repeat (first | exact Ext.bel _ | exact Bel.refl | refine Bel.alloc ?_ _ | refine Bel.drew ?_ | refine Bel.drewN ?_ _))); clear hW; have hkw := HBW.out.cells)
  go_wp2
  go_loopg [5] ss.length (fun gk s5 wr => ∃ (i : Nat) (y : Ext wb), i + gk = ss.length ∧ s5 = .int .i64 i ∧ wr = y.w)
  case atStart => exact ⟨0, ⟨wb, Bel.refl⟩, by omega, rfl, rfl⟩
  case round =>
    obtain ⟨i, y1, hi, rfl, rfl⟩ := hrel
    by_cases hlt : i < ss.length
    · have hdl : decide ((i : Int) < (ss.length : Int)) = true := by simp; omega
      have hil : (i : Int) < (ss.length : Int) := by omega
      obtain ⟨b1, o1, rfl, hb1, k1⟩ := H1.out.at_ (by omega)
      obtain ⟨b3, o3, rfl, hb3, k3⟩ := H3.out.at_ (by omega)
      obtain ⟨x0, x1, x2, x3⟩ := rd_stn hlt k1
      obtain ⟨z0, z1, z2, z3⟩ := rd_stn hlt k3
      generalize stAt ss i = s at *
      have hse := fun (W : World) => stint_neq s.tk s.job s.frm s.to W
      have hsg := stint_guard2
      have l1 := Nat.lt_of_lt_of_le hb1 HBW.out.le
      have l3 := Nat.lt_of_lt_of_le hb3 HBW.out.le
      clear k1 k3
      go_upto_region 6 with (fail)
      (refine wp_region_ext (wb := y1.w) (by (repeat (first | exact Ext.bel _ | exact Bel.refl | refine Bel.alloc ?_ _ | refine Bel.drew ?_ | refine Bel.drewN ?_ _))) (by kernel_rfl) (by kernel_rfl) ?_; (repeat (any_goals (first | go_big_quiet_step (fail) | quiet_step (fail) | (refine wpQuiet_step (fun K hK => ?_); go_simp; split <;> (refine hK _ ?_; clear hK K))))); all_goals (refine wpQuiet_nil ?_; intro _ hw'; obtain ⟨y, hw''⟩ := hw'; subst hw''))
      clear hse hsg
      go_wp2
      go_roundg (gk - 1)
      case measure => omega
      case rel => exact ⟨i + 1, ⟨_, y1.bel.trans y.bel⟩, by omega, by go_num, rfl⟩
    · obtain rfl : i = ss.length := by omega
      have hdl : decide ((ss.length : Int) < (ss.length : Int)) = false := by simp
      go_wp2
      go_loopg [6] js.length (fun gk s6 wr => ∃ (i : Nat) (y : Ext wb), i + gk = js.length ∧ s6 = .int .i64 i ∧ wr = y.w)
      case atStart => exact ⟨0, y1, by omega, rfl, rfl⟩
      case round =>
        obtain ⟨i, y2, hi2, rfl, rfl⟩ := hrel
        by_cases hlt2 : i < js.length
        · have hdl2 : decide ((i : Int) < (js.length : Int)) = true := by simp; omega
          have hil : (i : Int) < (js.length : Int) := by omega
          obtain ⟨b1, o1, rfl, hb1, k1⟩ := H2.out.at_ (by omega)
          obtain ⟨b3, o3, rfl, hb3, k3⟩ := H4.out.at_ (by omega)
          obtain ⟨x0, x1, x2, x3, x4⟩ := rd_don hlt2 k1
          obtain ⟨z0, z1, z2, z3, z4⟩ := rd_don hlt2 k3
          generalize dnAt js i = s at *
          have hse := fun (W : World) => done_neq s.tk s.job s.rel s.resp s.miss W
          have hsg := done_guard
          have l1 := Nat.lt_of_lt_of_le hb1 HBW.out.le
          have l3 := Nat.lt_of_lt_of_le hb3 HBW.out.le
          clear k1 k3
          go_upto_region 11 with (fail)
          (refine wp_region_ext (wb := y2.w) (by (repeat (first | exact Ext.bel _ | exact Bel.refl | refine Bel.alloc ?_ _ | refine Bel.drew ?_ | refine Bel.drewN ?_ _))) (by kernel_rfl) (by kernel_rfl) ?_; (repeat (any_goals (first | go_big_quiet_step (fail) | quiet_step (fail) | (refine wpQuiet_step (fun K hK => ?_); go_simp; split <;> (refine hK _ ?_; clear hK K))))); all_goals (refine wpQuiet_nil ?_; intro _ hw'; obtain ⟨y, hw''⟩ := hw'; subst hw''))
          clear hse hsg
          go_wp2
          go_roundg (gk - 1)
          case measure => omega
          case rel => exact ⟨i + 1, ⟨_, y2.bel.trans y.bel⟩, by omega, by go_num, rfl⟩
        · obtain rfl : i = js.length := by omega
          have hdl2 : decide ((js.length : Int) < (js.length : Int)) = false := by simp
          go_wp2
          go_ret
          exact ⟨rfl, HBW.out.trans y2.bel⟩
end Go.Proofs.Ythcdemmamggboaa
