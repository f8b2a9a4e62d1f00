import Derived.Test.YthcdemmamggboaaZHrun
import Derived.Test.YthcdemmamggboaaG9
import Derived.Test.YthcdemmamggboaaZTex
namespace Go.Proofs.Ythcdemmamggboaa
open Go.RowKit
theorem done_eql (a0 a1 a2 a3 : Int) (a4 : Bool) (w : World) : (binOp .eql 42 (.agg #[.int .i64 a0, .int .i64 a1, .int .i64 a2, .int .i64 a3, .bool a4]) (.agg #[.int .i64 a0, .int .i64 a1, .int .i64 a2, .int .i64 a3, .bool a4])).run Try.prog w = .ok (.bool true) w := by
  have hS : Try.prog.underlying 42 = some (.struct (Try.prog.fieldsOf 42)) := by kernel_rfl
  have hp : Try.prog.stoodInHeld 42 = false := by kernel_rfl
  have u2 := Try.underlying2
  have u3 := Try.underlying3
  have u4 := Try.underlying4
  rw [run_eql_struct, show (10000 : Nat) = 9999 + 1 from rfl, run_equalIn_agg w 9999 42 _ _ hS hp]
  simp only [Program.fieldsOf, Try.underlying42]
  go_simp
def exS : List Stn := [⟨0, 0, 0, 1⟩, ⟨1, 0, 1, 3⟩, ⟨2, 0, 3, 4⟩, ⟨0, 1, 4, 5⟩, ⟨2, 0, 5, 7⟩, ⟨1, 1, 7, 8⟩, ⟨0, 2, 8, 9⟩, ⟨1, 1, 9, 10⟩]
def exD : List Don := [⟨0, 0, 0, 1, false⟩, ⟨1, 0, 0, 3, false⟩, ⟨2, 0, 0, 7, false⟩, ⟨0, 1, 4, 1, false⟩, ⟨1, 1, 6, 4, false⟩, ⟨0, 2, 8, 1, false⟩]
theorem ex_run : scheduleM (exT 3) 1 12 = (exS, exD, 0) := by kernel_rfl
theorem ex_sized33 (pr : Int) (h : i64 pr) : Sized (exT pr) := by
  have e : ∀ i, i < (exT pr).length → i = 0 ∨ i = 1 ∨ i = 2 := by intro i hi; simp [exT] at hi; omega
  refine ⟨by simp [exT], fun i hi => ?_, fun i hi => ?_⟩
  · rcases e i hi with rfl | rfl | rfl <;> simp [tskAt, exT, ByteArray.size]
  · rcases e i hi with rfl | rfl | rfl
    · exact ⟨by simp [tskAt, exT, i64], by simp [tskAt, exT, i64], by simp [tskAt, exT, i64], by simp [tskAt, exT, i64], h, by simp [tskAt, exT]⟩
    · exact ⟨by simp [tskAt, exT, i64], by simp [tskAt, exT, i64], by simp [tskAt, exT, i64], by simp [tskAt, exT, i64], by simp [tskAt, exT, i64], by intro s hs; simp [tskAt, exT] at hs; subst hs; exact ⟨by simp [i64], by simp [i64], by simp [i64]⟩⟩
    · exact ⟨by simp [tskAt, exT, i64], by simp [tskAt, exT, i64], by simp [tskAt, exT, i64], by simp [tskAt, exT, i64], by simp [tskAt, exT, i64], by intro s hs; simp [tskAt, exT] at hs; subst hs; exact ⟨by simp [i64], by simp [i64], by simp [i64]⟩⟩
set_option maxRecDepth 100000 in
set_option maxHeartbeats 8000000 in
theorem shown33_any (w : World) : Calls Try.prog 7 #[] w fun e w' => e = .returned (.bool true) ∧ Bel w w' := by
  go_enter Try.func7, Try.ntmps7
  go_wp2_with fail
  refine (example_any _).mono ?_
  rintro e w1 ⟨p, a, b, rfl, hE, hpa, hpb, hpw, hB1⟩
  have HB1 := Lib.hid hB1
  have HR := Lib.hid (run_any _ (exT 3) 1 12 w1 hE.tsks (ex_sized33 3 (by simp [i64])))
  clear hE hB1 hpa hpb hpw
  go_wp2_with fail
  refine HR.out.mono ?_
  rintro e w2 ⟨vs, vj, rfl, hs, hj, hb⟩
  rw [ex_run] at hs hj ⊢
  dsimp only at hs hj ⊢
  obtain ⟨A1, c1, rfl, _⟩ := hs.form
  obtain ⟨A2, c2, rfl, _⟩ := hj.form
  obtain ⟨b1, o1, rfl, hb1, k1⟩ := hs.at_ (by simp [exS])
  obtain ⟨b2, o2, rfl, hb2, k2⟩ := hj.at_ (by simp [exD])
  have HB2 := Lib.hid (HB1.out.trans hb)
  obtain ⟨x0, x1, x2, x3⟩ := rd_stn (i := 4) (by simp [exS]) k1
  obtain ⟨z0, z1, z2, z3⟩ := rd_stn (i := 5) (by simp [exS]) k1
  obtain ⟨d0, d1, d2, d3, d4⟩ := rd_don (i := 2) (by simp [exD]) k2
  obtain ⟨e0, e1, e2, e3, e4⟩ := rd_don (i := 4) (by simp [exD]) k2
  simp only [stAt, exS, dnAt, exD, List.getD, List.getElem?_cons_succ, List.getElem?_cons_zero, Option.getD_some] at x0 x1 x2 x3 z0 z1 z2 z3 d0 d1 d2 d3 d4 e0 e1 e2 e3 e4
  have q1 : exS.length = 8 := rfl
  have q2 : exD.length = 6 := rfl
  rw [q1, q2]
  have hse1 := fun (W : World) => stint_eql 2 0 5 7 2 0 5 7 W
  have hse2 := fun (W : World) => stint_eql 1 1 7 8 1 1 7 8 W
  have hsg := stint_guard
  have hde1 := fun (W : World) => done_eql 2 0 0 7 false W
  have hde2 := fun (W : World) => done_eql 1 1 6 4 false W
  have hdg := done_guard
  clear k1 k2 hs hj hb HR HB1 q1 q2
  go_wp2
  go_ret
  exact ⟨rfl, HB2.out.alloc _⟩
end Go.Proofs.Ythcdemmamggboaa
