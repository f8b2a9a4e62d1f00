import Derived.Test.YtbilfpoghohddaaG1
import Derived.Test.YtbilfpoghohddaaG9
/- any seat: a drawn region where two operations may come next. -/
namespace Go.Proofs.Ytbilfpoghohddaa
open Go Region Go.RowKit
section
variable {P : Program} {md : Region.Mode} {ops : Array Oper} {S : World → Prop} {n : Nat} {Q : Exit → Act → World → Prop}
def StepE (P : Program) (md : Region.Mode) (ops : Array Oper) (Q : Exit → Act → World → Prop) (S : World → Prop) (n f : Nat) (done : Array Bool) (i : Nat) (o : Oper) (a : Act) (w : World) : Prop :=
  ∀ K : Act → World → Prop, (∀ a' w', (i < n → S w') → wpAnyE P md ops Q S n f (done.setIfInBounds i true) a' w' → K a' w') → if Region.wanted o (yielded ops a.tmps) = true then o.wp P a w K Q else K (a.put o.dst undef) w
theorem stepE_op {i f : Nat} {o : Oper} {done : Array Bool} {a : Act} {w : World} (ho : ops[i]? = some o) (h : StepE P md ops Q S n f done i o a w) : wpOp P ops Q i (fun a' w' => (i < n → S w') ∧ wpAnyE P md ops Q S n f (done.setIfInBounds i true) a' w') a w := by
  unfold wpOp
  simp only [ho]
  have := h (fun a' w' => (i < n → S w') ∧ wpAnyE P md ops Q S n f (done.setIfInBounds i true) a' w') (fun a' w' h1 h2 => ⟨h1, h2⟩)
  split
  · next hw => rw [if_pos hw] at this; exact .inl this
  · next hw => rw [if_neg hw] at this; exact this
theorem anyE_two {a : Act} {w : World} {done : Array Bool} {f : Nat} (i j : Nat) (oi oj : Oper) (hr : ready md ops done = [i, j]) (hoi : ops[i]? = some oi) (hoj : ops[j]? = some oj)
    (hi : StepE P md ops Q S n f done i oi a w) (hj : StepE P md ops Q S n f done j oj a w) : wpAnyE P md ops Q S n (f + 1) done a w := by
  refine ⟨fun h0 => (by rw [hr] at h0; cases h0), fun k hk => ?_⟩
  rw [hr] at hk
  rcases List.mem_cons.mp hk with rfl | hk
  · exact stepE_op hoi hi
  · obtain rfl : k = j := by simpa using hk
    exact stepE_op hoj hj
end
end Go.Proofs.Ytbilfpoghohddaa
/- foliotref38.SameDone. -/
namespace Go.Proofs.Ytbilfpoghohddaa
open Go.RowKit
set_option maxRecDepth 100000 in
set_option maxHeartbeats 8000000 in
theorem sameDone_any (v1 v2 : Value) (js : List Don) (w : World) (h1 : RdAt w w.heap.size v1 5 donC js) (h2 : RdAt w w.heap.size v2 5 donC js) (hj : js.length ≤ 1000000) :
    Calls Try.prog 19 #[v1, v2] w fun e w' => e = .returned (.bool true) ∧ Bel w w' := by
  have H1 := Lib.hid h1
  have H2 := Lib.hid h2
  obtain ⟨A1, c1, rfl, _⟩ := h1.form
  obtain ⟨A2, c2, rfl, _⟩ := h2.form
  clear h1 h2
  go_enter Try.func19, Try.ntmps19
  go_wp2
  go_loopg [5] js.length (fun gk s5 wr => ∃ (i : Nat) (y : Ext w), i + gk = js.length ∧ s5 = .int .i64 i ∧ wr = y.w)
  case atStart => exact ⟨0, ⟨w, Bel.refl⟩, by omega, rfl, rfl⟩
  case round =>
    obtain ⟨i, y1, hi, rfl, rfl⟩ := hrel
    by_cases hlt : i < js.length
    · have hdl : decide ((i : Int) < (js.length : Int)) = true := by simp; omega
      have hil : (i : Int) < (js.length : Int) := by omega
      obtain ⟨b1, o1, rfl, hb1, k1⟩ := H1.out.at_ (by omega)
      obtain ⟨b3, o3, rfl, hb3, k3⟩ := H2.out.at_ (by omega)
      obtain ⟨x0, x1, x2, x3, x4⟩ := rd_don hlt k1
      obtain ⟨z0, z1, z2, z3, z4⟩ := rd_don hlt k3
      generalize dnAt js i = s at *
      have hse := fun (W : World) => done_neq s.tk s.job s.rel s.resp s.miss W
      have hsg := done_guard
      clear k1 k3
      go_upto_region 4 with (fail)
      (refine wp_region_ext (wb := y1.w) (by (repeat (first | exact Ext.bel _ | exact Bel.refl | refine Bel.alloc ?_ _ | refine Bel.drew ?_ | refine Bel.drewN ?_ _))) (by kernel_rfl) (by kernel_rfl) ?_; (repeat (any_goals (first | go_big_quiet_step (fail) | quiet_step (fail) | (refine wpQuiet_step (fun K hK => ?_); go_simp; split <;> (refine hK _ ?_; clear hK K))))); all_goals (refine wpQuiet_nil ?_; intro _ hw'; obtain ⟨y, hw''⟩ := hw'; subst hw''))
      clear hse hsg
      go_wp2
      go_roundg (gk - 1)
      case measure => omega
      case rel => exact ⟨i + 1, ⟨_, y1.bel.trans y.bel⟩, by omega, by go_num, rfl⟩
    · obtain rfl : i = js.length := by omega
      have hdl : decide ((js.length : Int) < (js.length : Int)) = false := by simp
      go_wp2
      go_ret
      exact ⟨rfl, y1.bel⟩
end Go.Proofs.Ytbilfpoghohddaa
