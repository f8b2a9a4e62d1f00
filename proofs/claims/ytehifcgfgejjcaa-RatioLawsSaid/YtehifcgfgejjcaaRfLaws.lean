/- Whatever the three ratios, foliotlaw01.RatioLaws returns true, and the arguments read behind the call as they read before. No condition. -/
import Derived.Test.YtehifcgfgejjcaaRllaws
import Derived.ProofKit
import Derived.OpenShut
import Derived.Lib.SmallJoins
namespace Go.Proofs.Ytehifcgfgejjcaa
open Go.ChangeShapes Go.WideShapes Go.ChangeAt Go.RowKit Go.Joins
theorem Try.own : ownKnob Try.prog.godebug = none := by kernel_rfl
theorem Try.laidOut : laidOutB Try.prog = true := by kernel_rfl
theorem Try.cellsRt : Try.prog.cellsOf 23 = 2 := by kernel_rfl
theorem i64_of {n : Int} (h : (Lit.int .i64 n).wf = true) : i64 n := by
  have e1 : IntKind.i64.min = -9223372036854775808 := by decide
  have e2 : IntKind.i64.max = 9223372036854775807 := by decide
  simp only [Lit.wf, e1, e2, Bool.and_eq_true, decide_eq_true_eq] at h
  exact h
set_option maxRecDepth 100000 in
set_option maxHeartbeats 1000000 in
theorem ratioLaws_lifted (os : Os) (started : os.Started) (H : Type) (enc : TypeId × Value → H) :
    ReturnsInHanded {} Try.checked os 7 .any (Rows.ratioLawsSpec.pre6 enc Try.prog Try.f7 Rows.ratioLawsRow.domain false) (Rows.ratioLawsSpec.post enc Try.prog Try.f7 false true false false) := by
  refine returnsInHanded_of_change (C := Try.checked) Try.own started (by kernel_rfl) Try.func7
    (ChangeSpec.witness6 (enc := enc) (C := Try.checked) false ⟨#[], #[.agg #[.int .i64 0, .int .i64 0], .agg #[.int .i64 0, .int .i64 0], .agg #[.int .i64 0, .int .i64 0]], []⟩ 8 (by kernel_rfl) (by kernel_rfl) (by kernel_rfl) (by kernel_rfl)) ?_
  intro W base args ds gs before hval0 hW hcnd _
  have hW' := hW
  obtain ⟨p, q, hA0, hV, rfl, hfz, hnd⟩ := hW
  have hA : DataW.TrodAll enc Try.prog W 0 (fun _ => true) true Try.f7.params.toList args.toList ds p := hA0
  rw [Try.params7] at hA
  obtain ⟨v0, vs0, d0, ds0, p0, q0, hargs, rfl, rfl, h0, r0⟩ := trodAll_cons hA
  obtain ⟨v1, vs1, d1, ds1, p1, q1, rfl, rfl, rfl, h1, r1⟩ := trodAll_cons r0
  obtain ⟨v2, vs2, d2, ds2, p2, q2, rfl, rfl, rfl, h2, r2⟩ := trodAll_cons r1
  obtain ⟨rfl, rfl, rfl⟩ := trodAll_nil r2
  obtain rfl : args = #[v0, v1, v2] := by cases args; simp_all
  obtain ⟨rfl, rfl⟩ := trodVars_none hV
  have k0 := h0
  have lt0 : ∀ x ∈ p0, x.block < W.heap.size := by obtain ⟨m, hm⟩ := k0; exact DataW.trod_lt m _ _ _ hm
  have hv0 : Value.okWide Try.prog W .any base 23 v0 := hval0 0 _ v0 rfl rfl
  have k1 := h1
  have lt1 : ∀ x ∈ p1, x.block < W.heap.size := by obtain ⟨m, hm⟩ := k1; exact DataW.trod_lt m _ _ _ hm
  have hv1 : Value.okWide Try.prog W .any base 23 v1 := hval0 1 _ v1 rfl rfl
  have k2 := h2
  have lt2 : ∀ x ∈ p2, x.block < W.heap.size := by obtain ⟨m, hm⟩ := k2; exact DataW.trod_lt m _ _ _ hm
  have hv2 : Value.okWide Try.prog W .any base 23 v2 := hval0 2 _ v2 rfl rfl
  obtain ⟨c0a, c0b, y0a, y0b, m0, rfl, hd0, hp0, hy0a, hy0b⟩ := open_agg2 Try.underlying23 (by kernel_rfl) Try.cellsRt hv0 h0
  obtain ⟨n0, e0, he0, wn0⟩ := DataW.trod_int Try.underlying2 hy0a
  obtain ⟨m0n, e0', he0', wd0⟩ := DataW.trod_int Try.underlying2 hy0b
  simp at e0 e0'
  subst e0 e0'
  obtain ⟨c1a, c1b, y1a, y1b, m1, rfl, hd1, hp1, hy1a, hy1b⟩ := open_agg2 Try.underlying23 (by kernel_rfl) Try.cellsRt hv1 h1
  obtain ⟨n1, e1, he1, wn1⟩ := DataW.trod_int Try.underlying2 hy1a
  obtain ⟨m1n, e1', he1', wd1⟩ := DataW.trod_int Try.underlying2 hy1b
  simp at e1 e1'
  subst e1 e1'
  obtain ⟨c2a, c2b, y2a, y2b, m2, rfl, hd2, hp2, hy2a, hy2b⟩ := open_agg2 Try.underlying23 (by kernel_rfl) Try.cellsRt hv2 h2
  obtain ⟨n2, e2, he2, wn2⟩ := DataW.trod_int Try.underlying2 hy2a
  obtain ⟨m2n, e2', he2', wd2⟩ := DataW.trod_int Try.underlying2 hy2b
  simp at e2 e2'
  subst e2 e2'
  clear hA0 hval0
  refine (laws_any ⟨n0, m0n⟩ ⟨n1, m1n⟩ ⟨n2, m2n⟩ W ⟨i64_of wn0, i64_of wd0⟩ ⟨i64_of wn1, i64_of wd1⟩ ⟨i64_of wn2, i64_of wd2⟩).mono fun e W' ⟨he, bel⟩ => ?_
  subst he
  exact ⟨_, rfl, _, _, _, [], _, [], hW', trodAll_mk1 (shut_bool Try.underlying4 _), (trodAll_cons_mk (Below.trod Try.laidOut (by kernel_rfl) (of_decide_eq_true (by kernel_rfl)) k0 bel lt0) (trodAll_cons_mk (Below.trod Try.laidOut (by kernel_rfl) (of_decide_eq_true (by kernel_rfl)) k1 bel lt1) (trodAll_cons_mk (Below.trod Try.laidOut (by kernel_rfl) (of_decide_eq_true (by kernel_rfl)) k2 bel lt2) trodAll_mk0))), rfl, Below.frame bel _, fun h => by cases h⟩
theorem ratioLaws_holds : Rows.RatioLawsSaid :=
  OpenClaim.holds_of_wide 7 Try.f7 rfl rfl rfl rfl rfl rfl rfl ⟨rfl, rfl, rfl, rfl, rfl⟩ rfl rfl rfl rfl rfl (by kernel_rfl) Try.func7 (by kernel_rfl)
    (of_decide_eq_true (by kernel_rfl)) (by unfold Func.isWrapper; first | (rw [if_pos (by decide +kernel)]; kernel_rfl) | (rw [if_neg (by decide +kernel)]; exact ⟨rfl, rfl⟩))
    (fun os started H enc _ => ratioLaws_lifted os started H enc)
end Go.Proofs.Ytehifcgfgejjcaa
