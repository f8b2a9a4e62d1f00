import Derived.Test.YtppfneockckkgaaLpts
import Derived.ProofKit
import Derived.OpenShut
import Derived.Lib.SmallJoins
namespace Go.Proofs.Ytppfneockckkgaa
open Go.ChangeShapes Go.WideShapes Go.ChangeAt Go.RowKit Go.Joins
section
variable {H : Type} {enc : TypeId × Value → H} {w : World} {base : Nat} {spare : Nat → Bool} {held : Bool}
theorem rt_open {fuel : Nat} {cs : List Value} {x : DataW H × List MemPlace} (h : DataW.trod enc Try.prog w base spare held fuel 30 cs = some x) :
    ∃ n d : Int, cs = [.int .i64 n, .int .i64 d] ∧ (Lit.int .i64 n).wf = true ∧ (Lit.int .i64 d).wf = true := by
  obtain ⟨y0, y1, m, _, hl, h0, h1⟩ := trod_struct2 Try.underlying30 h
  have hC : Try.prog.cellsOf 30 = 2 := by kernel_rfl
  have hI : Try.prog.cellsOf 2 = 1 := by kernel_rfl
  rw [hC] at hl
  match cs, hl with
  | [c0, c1], _ =>
    simp only [hI] at h0 h1
    obtain ⟨n, e, _, wn⟩ := DataW.trod_int Try.underlying2 h0
    obtain ⟨d, e', _, wd⟩ := DataW.trod_int Try.underlying2 h1
    simp at e e'
    subst e e'
    exact ⟨n, d, rfl, wn, wd⟩
theorem rt2_open {v : Value} {d : DataW H} {p : List MemPlace} (h : DataW.Trod enc Try.prog w base spare held 36 v d p) :
    ∃ n0 d0 n1 d1 : Int, v = .agg #[.int .i64 n0, .int .i64 d0, .int .i64 n1, .int .i64 d1] ∧ (Lit.int .i64 n0).wf = true ∧ (Lit.int .i64 d0).wf = true ∧ (Lit.int .i64 n1).wf = true ∧ (Lit.int .i64 d1).wf = true := by
  obtain ⟨fuel, hf⟩ := h
  obtain ⟨xs, m, _, _, hl, hn, hi⟩ := DataW.trod_array Try.underlying36 hf
  have hC : Try.prog.cellsOf 30 = 2 := by kernel_rfl
  have hA : Try.prog.cellsOf 36 = 4 := by kernel_rfl
  rw [hA] at hl
  have h0 := hi 0 (by omega)
  have h1 := hi 1 (by omega)
  rw [hC] at h0 h1
  match xs, hn with
  | [x0, x1], _ =>
    obtain ⟨n0, d0, e0, a, b⟩ := rt_open h0
    obtain ⟨n1, d1, e1, a', b'⟩ := rt_open h1
    refine ⟨n0, d0, n1, d1, ?_, a, b, a', b'⟩
    have hv : v.cells.toList = [.int .i64 n0, .int .i64 d0, .int .i64 n1, .int .i64 d1] := by
      match hc : v.cells.toList, hl with
      | [c0, c1, c2, c3], _ =>
        rw [hc] at e0 e1
        simp at e0 e1
        rw [e0.1, e0.2, e1.1, e1.2]
    cases v <;> simp [Value.cells] at hv
    rw [← hv]
end
end Go.Proofs.Ytppfneockckkgaa
