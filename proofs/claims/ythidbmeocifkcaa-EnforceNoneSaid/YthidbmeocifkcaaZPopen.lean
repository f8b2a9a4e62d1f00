import Derived.Test.YthidbmeocifkcaaZOpen
import Derived.Test.YthidbmeocifkcaaZPbase
namespace Go.Proofs.Ythidbmeocifkcaa
open Go.ChangeShapes Go.WideShapes Go.ChangeAt Go.RowKit Go.Deep
theorem Try.coCon : Try.prog.cellsOf 68 = 4 := by kernel_rfl
theorem Try.coEdge : Try.prog.cellsOf 55 = 5 := by kernel_rfl
theorem Try.coStamp : Try.prog.cellsOf 48 = 2 := by kernel_rfl
theorem Try.coProp : Try.prog.cellsOf 25 = 5 := by kernel_rfl
theorem Try.coInt : Try.prog.cellsOf 3 = 1 := by kernel_rfl
theorem Try.coInt64 : Try.prog.cellsOf 2 = 1 := by kernel_rfl
theorem Try.coBool : Try.prog.cellsOf 4 = 1 := by kernel_rfl
theorem Try.coBools : Try.prog.cellsOf 22 = 1 := by kernel_rfl
theorem Try.coInts : Try.prog.cellsOf 53 = 1 := by kernel_rfl
theorem Try.coCons : Try.prog.cellsOf 52 = 1 := by kernel_rfl
theorem Try.coEdges : Try.prog.cellsOf 23 = 1 := by kernel_rfl
section
variable {H : Type} {enc : TypeId × Value → H} {w : World} {base : Nat} {spare : Nat → Bool} {held : Bool}
set_option maxRecDepth 100000 in
theorem con_open {fuel : Nat} {cs : List Value} {y : DataW H × List MemPlace} (h : DataW.trod enc Try.prog w base spare held fuel 68 cs = some y) :
    ∃ c : PC, cs = [.int .i64 c.clk, .bool c.low, .bool c.str, .int .i64 c.c] ∧ c.wf := by
  obtain ⟨xs, n, _, _, hlen, hxl, hf⟩ := DataW.trod_struct Try.underlying68 h
  rw [Try.coCon] at hlen
  match cs, hlen, xs, hxl with
  | [c0, c1, c2, c3], _, [x0, x1, x2, x3], _ =>
    have e0 := hf 0 _ rfl
    have e1 := hf 1 _ rfl
    have e2 := hf 2 _ rfl
    have e3 := hf 3 _ rfl
    simp [Try.coInt, Try.coInt64, Try.coBool] at e0 e1 e2 e3
    obtain ⟨r, h0, _, w0⟩ := DataW.trod_int Try.underlying3 e0
    obtain ⟨b1, h1, _⟩ := DataW.trod_bool Try.underlying4 e1
    obtain ⟨b2, h2, _⟩ := DataW.trod_bool Try.underlying4 e2
    obtain ⟨l, h3, _, w3⟩ := DataW.trod_int Try.underlying2 e3
    simp at h0 h1 h2 h3
    subst h0 h1 h2 h3
    exact ⟨⟨r, b1, b2, l⟩, rfl, i64_of w0, i64_of w3⟩
set_option maxRecDepth 100000 in
theorem stamp_open {fuel : Nat} {cs : List Value} {y : DataW H × List MemPlace} (h : DataW.trod enc Try.prog w base spare held fuel 48 cs = some y) :
    ∃ s : PS, cs = [.int .i64 s.at_, .int .i64 s.ev] ∧ s.wf := by
  obtain ⟨xs, n, _, _, hlen, hxl, hf⟩ := DataW.trod_struct Try.underlying48 h
  rw [Try.coStamp] at hlen
  match cs, hlen, xs, hxl with
  | [c0, c1], _, [x0, x1], _ =>
    have e0 := hf 0 _ rfl
    have e1 := hf 1 _ rfl
    simp [Try.coInt, Try.coInt64] at e0 e1
    obtain ⟨r, h0, _, w0⟩ := DataW.trod_int Try.underlying2 e0
    obtain ⟨l, h1, _, w1⟩ := DataW.trod_int Try.underlying3 e1
    simp at h0 h1
    subst h0 h1
    exact ⟨⟨r, l⟩, rfl, i64_of w0, i64_of w1⟩
theorem bool_open1 {fuel : Nat} {cs : List Value} {y : DataW H × List MemPlace} (h : DataW.trod enc Try.prog w base spare held fuel 4 cs = some y) : ∃ b : Bool, cs = [.bool b] :=
  let ⟨b, h1, _⟩ := DataW.trod_bool Try.underlying4 h; ⟨b, h1⟩
theorem int_open1 {fuel : Nat} {cs : List Value} {y : DataW H × List MemPlace} (h : DataW.trod enc Try.prog w base spare held fuel 3 cs = some y) : ∃ n : Int, cs = [.int .i64 n] ∧ i64 n :=
  let ⟨n, h1, _, h2⟩ := DataW.trod_int Try.underlying3 h; ⟨n, h1, i64_of h2⟩
theorem cons_open {fuel : Nat} {v : Value} {y : DataW H × List MemPlace} (h : DataW.trod enc Try.prog w base spare held fuel 52 [v] = some y) : ∃ l : List PC, ConsAt w w.heap.size v l ∧ ∀ c ∈ l, c.wf := by
  obtain ⟨l, _, hwf, A, c, hv, hc, hr⟩ := rows_open PC.dflt Try.underlying52 Try.coCon (by decide) (fun (c : PC) cs => cs = [.int .i64 c.clk, .bool c.low, .bool c.str, .int .i64 c.c] ∧ c.wf) con_open h
  refine ⟨l, ⟨A, c, hv, hc, fun h0 => ?_⟩, fun x hx => ?_⟩
  · obtain ⟨b, off, rfl, hb, hi⟩ := hr h0
    refine ⟨b, off, rfl, hb, fun i hii => ?_⟩
    obtain ⟨cs, ⟨rfl, _⟩, hk⟩ := hi i hii
    exact ⟨hk 0 (by omega), hk 1 (by omega), hk 2 (by omega), hk 3 (by omega)⟩
  · obtain ⟨i, hi, rfl⟩ := List.mem_iff_getElem.mp hx
    obtain ⟨cs, _, hw⟩ := hwf i hi
    simpa [List.getD_eq_getElem?_getD, hi] using hw
theorem stamps_open {fuel : Nat} {v : Value} {y : DataW H × List MemPlace} (h : DataW.trod enc Try.prog w base spare held fuel 26 [v] = some y) : ∃ l : List PS, StampsAt w w.heap.size v l ∧ ∀ c ∈ l, c.wf := by
  obtain ⟨l, _, hwf, A, c, hv, hc, hr⟩ := rows_open PS.dflt Try.underlying26 Try.coStamp (by decide) (fun (s : PS) cs => cs = [.int .i64 s.at_, .int .i64 s.ev] ∧ s.wf) stamp_open h
  refine ⟨l, ⟨A, c, hv, hc, fun h0 => ?_⟩, fun x hx => ?_⟩
  · obtain ⟨b, off, rfl, hb, hi⟩ := hr h0
    refine ⟨b, off, rfl, hb, fun i hii => ?_⟩
    obtain ⟨cs, ⟨rfl, _⟩, hk⟩ := hi i hii
    exact ⟨hk 0 (by omega), hk 1 (by omega)⟩
  · obtain ⟨i, hi, rfl⟩ := List.mem_iff_getElem.mp hx
    obtain ⟨cs, _, hw⟩ := hwf i hi
    simpa [List.getD_eq_getElem?_getD, hi] using hw
theorem bools_open {fuel : Nat} {v : Value} {y : DataW H × List MemPlace} (h : DataW.trod enc Try.prog w base spare held fuel 22 [v] = some y) : ∃ l : List Bool, BoolsAt w w.heap.size v l := by
  obtain ⟨l, _, hwf, A, c, hv, hc, hr⟩ := rows_open false Try.underlying22 Try.coBool (by decide) (fun (b : Bool) cs => cs = [.bool b]) bool_open1 h
  refine ⟨l, ⟨A, c, hv, hc, fun h0 => ?_⟩⟩
  obtain ⟨b, off, rfl, hb, hi⟩ := hr h0
  refine ⟨b, off, rfl, hb, fun i hii => ?_⟩
  obtain ⟨cs, rfl, hk⟩ := hi i hii
  exact hk 0 (by omega)
theorem ints_open {fuel : Nat} {v : Value} {y : DataW H × List MemPlace} (h : DataW.trod enc Try.prog w base spare held fuel 53 [v] = some y) : ∃ l : List Int, IntsAt w w.heap.size v l ∧ ∀ c ∈ l, i64 c := by
  obtain ⟨l, _, hwf, A, c, hv, hc, hr⟩ := rows_open (0 : Int) Try.underlying53 Try.coInt (by decide) (fun (n : Int) cs => cs = [.int .i64 n] ∧ i64 n) int_open1 h
  refine ⟨l, ⟨A, c, hv, hc, fun h0 => ?_⟩, fun x hx => ?_⟩
  · obtain ⟨b, off, rfl, hb, hi⟩ := hr h0
    refine ⟨b, off, rfl, hb, fun i hii => ?_⟩
    obtain ⟨cs, ⟨rfl, _⟩, hk⟩ := hi i hii
    simpa using hk 0 (by omega)
  · obtain ⟨i, hi, rfl⟩ := List.mem_iff_getElem.mp hx
    obtain ⟨cs, _, hw⟩ := hwf i hi
    simpa [List.getD_eq_getElem?_getD, hi] using hw
set_option maxRecDepth 100000 in
theorem edge_open {fuel : Nat} {cs : List Value} {y : DataW H × List MemPlace} (h : DataW.trod enc Try.prog w base spare held fuel 55 cs = some y) :
    ∃ x : PE, (∃ gv rv, cs = [.int .i64 x.frm, .int .i64 x.to, .int .i64 x.ev, gv, rv] ∧ ConsAt w w.heap.size gv x.grd ∧ IntsAt w w.heap.size rv x.rst) ∧ x.wf := by
  obtain ⟨xs, n, _, _, hlen, hxl, hf⟩ := DataW.trod_struct Try.underlying55 h
  rw [Try.coEdge] at hlen
  match cs, hlen, xs, hxl with
  | [c0, c1, c2, c3, c4], _, [x0, x1, x2, x3, x4], _ =>
    have e0 := hf 0 _ rfl
    have e1 := hf 1 _ rfl
    have e2 := hf 2 _ rfl
    have e3 := hf 3 _ rfl
    have e4 := hf 4 _ rfl
    simp [Try.coInt, Try.coInts, Try.coCons] at e0 e1 e2 e3 e4
    obtain ⟨a, h0, _, w0⟩ := DataW.trod_int Try.underlying3 e0
    obtain ⟨b, h1, _, w1⟩ := DataW.trod_int Try.underlying3 e1
    obtain ⟨c, h2, _, w2⟩ := DataW.trod_int Try.underlying3 e2
    obtain ⟨g, hg, hgw⟩ := cons_open e3
    obtain ⟨r, hr, hrw⟩ := ints_open e4
    simp at h0 h1 h2
    subst h0 h1 h2
    exact ⟨⟨a, b, c, g, r⟩, ⟨c3, c4, rfl, hg, hr⟩, i64_of w0, i64_of w1, i64_of w2, hgw, hrw⟩
theorem edges_open {fuel : Nat} {v : Value} {y : DataW H × List MemPlace} (h : DataW.trod enc Try.prog w base spare held fuel 23 [v] = some y) : ∃ l : List PE, EdgesAt w w.heap.size v l ∧ ∀ c ∈ l, c.wf := by
  obtain ⟨l, _, hwf, A, c, hv, hc, hr⟩ := rows_open PE.dflt Try.underlying23 Try.coEdge (by decide) (fun (x : PE) cs => (∃ gv rv, cs = [.int .i64 x.frm, .int .i64 x.to, .int .i64 x.ev, gv, rv] ∧ ConsAt w w.heap.size gv x.grd ∧ IntsAt w w.heap.size rv x.rst) ∧ x.wf) edge_open h
  refine ⟨l, ⟨A, c, hv, hc, fun h0 => ?_⟩, fun x hx => ?_⟩
  · obtain ⟨b, off, rfl, hb, hi⟩ := hr h0
    refine ⟨b, off, rfl, hb, fun i hii => ?_⟩
    obtain ⟨cs, ⟨⟨gv, rv, rfl, hg, hr⟩, _⟩, hk⟩ := hi i hii
    exact ⟨gv, rv, ⟨hk 0 (by omega), hk 1 (by omega), hk 2 (by omega), hk 3 (by omega), hk 4 (by omega)⟩, hg, hr⟩
  · obtain ⟨i, hi, rfl⟩ := List.mem_iff_getElem.mp hx
    obtain ⟨cs, _, hw⟩ := hwf i hi
    simpa [List.getD_eq_getElem?_getD, hi] using hw
set_option maxRecDepth 100000 in
theorem prop_open {fuel : Nat} {cs : List Value} {y : DataW H × List MemPlace} (h : DataW.trod enc Try.prog w base spare held fuel 25 cs = some y) :
    ∃ (p : PP) (gv ev : Value), cs = [.int .i64 p.evs, .int .i64 p.clks, .int .i64 p.ini, gv, ev] ∧ PropAt w w.heap.size gv ev p ∧ p.wf := by
  obtain ⟨xs, n, _, _, hlen, hxl, hf⟩ := DataW.trod_struct Try.underlying25 h
  rw [Try.coProp] at hlen
  match cs, hlen, xs, hxl with
  | [c0, c1, c2, c3, c4], _, [x0, x1, x2, x3, x4], _ =>
    have e0 := hf 0 _ rfl
    have e1 := hf 1 _ rfl
    have e2 := hf 2 _ rfl
    have e3 := hf 3 _ rfl
    have e4 := hf 4 _ rfl
    simp [Try.coInt, Try.coBools, Try.coEdges] at e0 e1 e2 e3 e4
    obtain ⟨a, h0, _, w0⟩ := DataW.trod_int Try.underlying3 e0
    obtain ⟨b, h1, _, w1⟩ := DataW.trod_int Try.underlying3 e1
    obtain ⟨c, h2, _, w2⟩ := DataW.trod_int Try.underlying3 e2
    obtain ⟨g, hg⟩ := bools_open e3
    obtain ⟨r, hr, hrw⟩ := edges_open e4
    simp at h0 h1 h2
    subst h0 h1 h2
    exact ⟨⟨a, b, c, g, r⟩, c3, c4, rfl, ⟨hg, hr⟩, i64_of w0, i64_of w1, i64_of w2, hrw⟩
theorem prop_arg {v : Value} {d : DataW H} {q : List MemPlace} (h : DataW.Trod enc Try.prog w base spare held 25 v d q) :
    ∃ (p : PP) (gv ev : Value), v = .agg #[.int .i64 p.evs, .int .i64 p.clks, .int .i64 p.ini, gv, ev] ∧ PropAt w w.heap.size gv ev p ∧ p.wf := by
  obtain ⟨fuel, hf⟩ := h
  obtain ⟨p, gv, ev, hcs, h1, h2⟩ := prop_open hf
  refine ⟨p, gv, ev, ?_, h1, h2⟩
  cases v with
  | agg cs =>
    simp only [Value.cells] at hcs
    congr 1
    exact Array.toList_inj.mp hcs
  | _ => simp [Value.cells] at hcs
theorem stamps_arg {v : Value} {d : DataW H} {q : List MemPlace} (h : DataW.Trod enc Try.prog w base spare held 26 v d q) (hv : ∃ A n c, v = .slice A n c) :
    ∃ l : List PS, StampsAt w w.heap.size v l ∧ ∀ c ∈ l, c.wf := by
  obtain ⟨A, n, c, rfl⟩ := hv
  obtain ⟨fuel, hf⟩ := h
  exact stamps_open (v := .slice A n c) hf
end
end Go.Proofs.Ythidbmeocifkcaa
