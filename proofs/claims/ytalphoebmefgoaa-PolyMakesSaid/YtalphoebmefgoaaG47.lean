import Derived.Test.YtalphoebmefgoaaRows
import Derived.ProofKit
import Derived.OpenShut
import Derived.ChangeOld
import Derived.ChangeArms
import Derived.Deep.Slices
import Derived.Test.YtalphoebmefgoaaG1
import Derived.Test.YtalphoebmefgoaaG42
/- any seat: a slice argument, opened: its elements as a list. -/
namespace Go.Proofs.Ytalphoebmefgoaa
open Go.ChangeShapes Go.WideShapes Go.ChangeAt Go.RowKit Go.Deep
theorem i64_of {n : Int} (h : (Lit.int .i64 n).wf = true) : i64 n := by
  have e1 : IntKind.i64.min = -9223372036854775808 := by decide
  have e2 : IntKind.i64.max = 9223372036854775807 := by decide
  simp only [Lit.wf, e1, e2, Bool.and_eq_true, decide_eq_true_eq] at h
  exact h
theorem lt_of_cell {w : World} {a : Addr} {v : Value} (h : w.cell? a = some v) : a.block < w.heap.size := by
  rcases Nat.lt_or_ge a.block w.heap.size with h1 | h1
  · exact h1
  · unfold World.cell? at h; rw [Array.getElem?_eq_none h1] at h; cases h
theorem add_spot (b off k : Nat) : (⟨b, off, none⟩ : Addr).add k = ⟨b, off + k, none⟩ := by
  unfold Addr.add; split
  · subst_vars; rfl
  · rfl
/-- what is known of a slice argument's value -/
def RowsOf {α : Type} (d : α) (w : World) (v : Value) (l : List α) (size : Nat) (OK : α → List Value → Prop) : Prop :=
  l.length ≤ maxLen ∧ (∀ i, i < l.length → ∃ cs, OK (l.getD i d) cs) ∧ ∃ A c, v = .slice A l.length c ∧ l.length ≤ c ∧
    (0 < l.length → ∃ b off, A = some ⟨b, off, none⟩ ∧ b < w.heap.size ∧ ∀ i, i < l.length → ∃ cs, OK (l.getD i d) cs ∧ ∀ k, k < size → w.cell? ⟨b, off + i * size + k, none⟩ = cs[k]?)
section
variable {H : Type} {enc : TypeId × Value → H} {w : World} {base : Nat} {spare : Nat → Bool} {held : Bool}
theorem rows_open {α : Type} (d : α) {ty e : TypeId} {size : Nat} (hu : Try.prog.underlying ty = some (.slice e)) (hce : Try.prog.cellsOf e = size) (hs : 0 < size) (OK : α → List Value → Prop)
    (hel : ∀ {fuel : Nat} {cs : List Value} {y : DataW H × List MemPlace}, DataW.trod enc Try.prog w base spare held fuel e cs = some y → ∃ x, OK x cs)
    {fuel : Nat} {v : Value} {y : DataW H × List MemPlace} (h : DataW.trod enc Try.prog w base spare held fuel ty [v] = some y) : ∃ l : List α, RowsOf d w v l size OK := by
  rcases open_slice hu h with ⟨hcs, _⟩ | ⟨a, len, cap, m, n, D, Pl, hcs, _, hl, hm, hmm, _, hi⟩
  · simp at hcs; subst hcs
    exact ⟨[], by simp, fun i hi => by simp at hi, none, 0, rfl, by simp, fun h => by simp at h⟩
  · simp at hcs; subst hcs
    rw [hce] at hi
    have hlm : len ≤ m := by rw [hmm]; split <;> omega
    have he : ∀ i, i < len → ∃ p : α × List Value, OK p.1 p.2 ∧ p.2.length = size ∧ ∀ k, k < size → w.cell? ((a.add (i * size)).add k) = p.2[k]? := fun i hii => by
      obtain ⟨cs', hc, ht⟩ := hi i (by omega)
      obtain ⟨x, hx⟩ := hel ht
      obtain ⟨_, hlen, hat⟩ := World.cells?_some hc
      exact ⟨(x, cs'), hx, hlen, hat⟩
    have : ∃ f : Nat → α × List Value, ∀ i, i < len → OK (f i).1 (f i).2 ∧ (f i).2.length = size ∧ ∀ k, k < size → w.cell? ((a.add (i * size)).add k) = (f i).2[k]? :=
      ⟨fun i => if hx : i < len then Classical.choose (he i hx) else (d, []), fun i hx => by simp only [hx, dif_pos]; exact Classical.choose_spec (he i hx)⟩
    obtain ⟨f, hf⟩ := this
    have eq : ∀ i, i < len → ((List.range len).map fun j => (f j).1).getD i d = (f i).1 := fun i hii => by simp [List.getD, hii]
    refine ⟨(List.range len).map fun j => (f j).1, by simp; omega, fun i hii => ?_, some a, cap, by simp, by simpa using hl, fun h0 => ?_⟩
    · simp at hii
      rw [eq i hii]
      exact ⟨_, (hf i hii).1⟩
    · simp at h0
      obtain ⟨_, hl0, hk0⟩ := hf 0 (by omega)
      have hc0 := hk0 0 hs
      have : ∃ u, (f 0).2[0]? = some u := ⟨(f 0).2[0], by rw [List.getElem?_eq_getElem]⟩
      obtain ⟨u, hu0⟩ := this
      rw [hu0] at hc0
      have hsp : a.spot = none := by simpa [Addr.add] using World.cell?_spot hc0
      obtain ⟨b, off, sp⟩ := a
      simp at hsp; subst hsp
      refine ⟨b, off, rfl, by simpa [add_spot] using lt_of_cell hc0, fun i hii => ?_⟩
      simp at hii
      obtain ⟨hok, _, hk⟩ := hf i hii
      simp only [add_spot] at hk
      rw [eq i hii]
      exact ⟨_, hok, hk⟩
end
end Go.Proofs.Ytalphoebmefgoaa
/- poly: a case of the statements, opened. -/
namespace Go.Proofs.Ytalphoebmefgoaa
open Go.ChangeShapes Go.WideShapes Go.ChangeAt Go.RowKit Go.Deep
theorem Try.coLine : Try.prog.cellsOf 25 = 3 := by kernel_rfl
theorem Try.coRatio : Try.prog.cellsOf 41 = 2 := by kernel_rfl
theorem Try.coCase : Try.prog.cellsOf 28 = 9 := by kernel_rfl
theorem Try.coInt : Try.prog.cellsOf 3 = 1 := by kernel_rfl
theorem Try.coInt64 : Try.prog.cellsOf 2 = 1 := by kernel_rfl
theorem Try.coBool : Try.prog.cellsOf 4 = 1 := by kernel_rfl
theorem Try.coLongs : Try.prog.cellsOf 23 = 1 := by kernel_rfl
theorem Try.coLines : Try.prog.cellsOf 22 = 1 := by kernel_rfl
theorem Try.coRatios : Try.prog.cellsOf 26 = 1 := by kernel_rfl
section
variable {H : Type} {enc : TypeId × Value → H} {w : World} {base : Nat} {spare : Nat → Bool} {held : Bool}
theorem long_open1 {fuel : Nat} {cs : List Value} {y : DataW H × List MemPlace} (h : DataW.trod enc Try.prog w base spare held fuel 2 cs = some y) : ∃ n : Int, cs = [.int .i64 n] ∧ i64 n :=
  let ⟨n, h1, _, h2⟩ := DataW.trod_int Try.underlying2 h; ⟨n, h1, i64_of h2⟩
theorem longs_open {fuel : Nat} {v : Value} {y : DataW H × List MemPlace} (h : DataW.trod enc Try.prog w base spare held fuel 23 [v] = some y) : ∃ l : List Int, IntsAt w w.heap.size v l := by
  obtain ⟨l, _, hwf, A, c, hv, hc, hr⟩ := rows_open (0 : Int) Try.underlying23 Try.coInt64 (by decide) (fun (n : Int) cs => cs = [.int .i64 n] ∧ i64 n) long_open1 h
  refine ⟨l, ⟨A, c, hv, hc, fun h0 => ?_⟩⟩
  obtain ⟨b, off, rfl, hb, hi⟩ := hr h0
  refine ⟨b, off, rfl, hb, fun i hii => ?_⟩
  obtain ⟨cs, ⟨rfl, _⟩, hk⟩ := hi i hii
  simpa using hk 0 (by omega)
set_option maxRecDepth 100000 in
theorem line_open {fuel : Nat} {cs : List Value} {y : DataW H × List MemPlace} (h : DataW.trod enc Try.prog w base spare held fuel 25 cs = some y) :
    ∃ x : AL, ∃ rv, cs = [rv, .int .i64 x.b, .bool x.s] ∧ IntsAt w w.heap.size rv x.a := by
  obtain ⟨xs, n, _, _, hlen, hxl, hf⟩ := DataW.trod_struct Try.underlying25 h
  rw [Try.coLine] at hlen
  match cs, hlen, xs, hxl with
  | [c0, c1, c2], _, [x0, x1, x2], _ =>
    have e0 := hf 0 _ rfl
    have e1 := hf 1 _ rfl
    have e2 := hf 2 _ rfl
    simp [Try.coLongs, Try.coInt64, Try.coBool] at e0 e1 e2
    obtain ⟨a, ha⟩ := longs_open e0
    obtain ⟨b, h1, _, w1⟩ := DataW.trod_int Try.underlying2 e1
    obtain ⟨s, h2, _⟩ := DataW.trod_bool Try.underlying4 e2
    simp at h1 h2
    subst h1 h2
    exact ⟨⟨a, b, s⟩, c0, rfl, ha⟩
theorem lines_open {fuel : Nat} {v : Value} {y : DataW H × List MemPlace} (h : DataW.trod enc Try.prog w base spare held fuel 22 [v] = some y) : ∃ l : List AL, LinesAt w w.heap.size v l := by
  obtain ⟨l, _, hwf, A, c, hv, hc, hr⟩ := rows_open (⟨[], 0, false⟩ : AL) Try.underlying22 Try.coLine (by decide) (fun (x : AL) cs => ∃ rv, cs = [rv, .int .i64 x.b, .bool x.s] ∧ IntsAt w w.heap.size rv x.a) line_open h
  refine ⟨l, ⟨A, c, hv, hc, fun h0 => ?_⟩⟩
  obtain ⟨b, off, rfl, hb, hi⟩ := hr h0
  refine ⟨b, off, rfl, hb, fun i hii => ?_⟩
  obtain ⟨cs, ⟨rv, rfl, hra⟩, hk⟩ := hi i hii
  exact ⟨rv, ⟨hk 0 (by omega), hk 1 (by omega), hk 2 (by omega)⟩, hra⟩
set_option maxRecDepth 100000 in
theorem ratio_open {fuel : Nat} {cs : List Value} {y : DataW H × List MemPlace} (h : DataW.trod enc Try.prog w base spare held fuel 41 cs = some y) :
    ∃ x : Rt, cs = [.int .i64 x.num, .int .i64 x.den] ∧ x.wf := by
  obtain ⟨xs, n, _, _, hlen, hxl, hf⟩ := DataW.trod_struct Try.underlying41 h
  rw [Try.coRatio] at hlen
  match cs, hlen, xs, hxl with
  | [c0, c1], _, [x0, x1], _ =>
    have e0 := hf 0 _ rfl
    have e1 := hf 1 _ rfl
    simp [Try.coInt64] at e0 e1
    obtain ⟨a, h0, _, w0⟩ := DataW.trod_int Try.underlying2 e0
    obtain ⟨b, h1, _, w1⟩ := DataW.trod_int Try.underlying2 e1
    simp at h0 h1
    subst h0 h1
    exact ⟨⟨a, b⟩, rfl, i64_of w0, i64_of w1⟩
theorem ratios_open {fuel : Nat} {v : Value} {y : DataW H × List MemPlace} (h : DataW.trod enc Try.prog w base spare held fuel 26 [v] = some y) : ∃ l : List Rt, RatsAt w w.heap.size v l ∧ ∀ r, r ∈ l → r.wf := by
  obtain ⟨l, _, hwf, A, c, hv, hc, hr⟩ := rows_open (⟨0, 0⟩ : Rt) Try.underlying26 Try.coRatio (by decide) (fun (x : Rt) cs => cs = [.int .i64 x.num, .int .i64 x.den] ∧ x.wf) ratio_open h
  refine ⟨l, ⟨A, c, hv, hc, fun h0 => ?_⟩, fun x hx => ?_⟩
  · obtain ⟨b, off, rfl, hb, hi⟩ := hr h0
    refine ⟨b, off, rfl, hb, fun i hii r hr2 => ?_⟩
    obtain ⟨cs, ⟨hcs, _⟩, hk⟩ := hi i hii
    have e : l.getD i ⟨0, 0⟩ = l[i] := by simp [List.getD, hii]
    rw [e] at hcs
    rw [hk r hr2, hcs]; rfl
  · obtain ⟨i, hi, rfl⟩ := List.mem_iff_getElem.mp hx
    obtain ⟨cs, _, hw⟩ := hwf i hi
    simpa [List.getD_eq_getElem?_getD, hi] using hw
structure C7.wf (c : C7) : Prop where
  n : i64 c.n
  i : i64 c.i
  p : ∀ r, r ∈ c.p → r.wf
set_option maxRecDepth 100000 in
theorem case_open {fuel : Nat} {cs : List Value} {y : DataW H × List MemPlace} (h : DataW.trod enc Try.prog w base spare held fuel 28 cs = some y) :
    ∃ (c : C7) (lv mv xv pv av : Value), cs = [.int .i64 c.n, lv, mv, xv, .int .i64 c.x.b, .bool c.x.s, .int .i64 c.i, pv, av] ∧ C7At w lv mv xv pv av c ∧ c.wf := by
  obtain ⟨xs, n, _, _, hlen, hxl, hf⟩ := DataW.trod_struct Try.underlying28 h
  rw [Try.coCase] at hlen
  match cs, hlen, xs, hxl with
  | [c0, c1, c2, c3, c4, c5, c6, c7, c8], _, [x0, x1, x2, x3, x4, x5, x6], _ =>
    have e0 := hf 0 _ rfl
    have e1 := hf 1 _ rfl
    have e2 := hf 2 _ rfl
    have e3 := hf 3 _ rfl
    have e4 := hf 4 _ rfl
    have e5 := hf 5 _ rfl
    have e6 := hf 6 _ rfl
    simp [Try.coInt, Try.coLongs, Try.coLines, Try.coRatios, Try.coLine] at e0 e1 e2 e3 e4 e5 e6
    obtain ⟨a, h0, _, w0⟩ := DataW.trod_int Try.underlying3 e0
    obtain ⟨l, hl⟩ := lines_open e1
    obtain ⟨m, hm⟩ := lines_open e2
    obtain ⟨x, rv, hx, hxa⟩ := line_open e3
    obtain ⟨i, h4, _, w4⟩ := DataW.trod_int Try.underlying3 e4
    obtain ⟨p, hp, hpw⟩ := ratios_open e5
    obtain ⟨z, hz⟩ := longs_open e6
    simp at h0 h4 hx
    obtain ⟨rfl, rfl, rfl⟩ := hx
    subst h0 h4
    exact ⟨⟨a, l, m, x, i, p, z⟩, c1, c2, c3, c7, c8, rfl, ⟨hl, hm, hxa, hp, hz⟩, i64_of w0, i64_of w4, hpw⟩
theorem case_arg {v : Value} {d : DataW H} {q : List MemPlace} (h : DataW.Trod enc Try.prog w base spare held 28 v d q) :
    ∃ (c : C7) (lv mv xv pv av : Value), v = .agg #[.int .i64 c.n, lv, mv, xv, .int .i64 c.x.b, .bool c.x.s, .int .i64 c.i, pv, av] ∧ C7At w lv mv xv pv av c ∧ c.wf := by
  obtain ⟨fuel, hf⟩ := h
  obtain ⟨c, lv, mv, xv, pv, av, hcs, h1, h2⟩ := case_open hf
  refine ⟨c, lv, mv, xv, pv, av, ?_, h1, h2⟩
  cases v with
  | agg cs =>
    simp only [Value.cells] at hcs
    congr 1
    exact Array.toList_inj.mp hcs
  | _ => simp [Value.cells] at hcs
end
end Go.Proofs.Ytalphoebmefgoaa
