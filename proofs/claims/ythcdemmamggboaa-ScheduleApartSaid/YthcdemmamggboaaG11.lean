import Derived.Test.YthcdemmamggboaaG2
import Derived.Test.YthcdemmamggboaaRows
import Derived.ProofKit
import Derived.OpenShut
import Derived.ChangeOld
import Derived.Deep.Slices
namespace Go.Proofs.Ythcdemmamggboaa
open Go.ChangeShapes Go.WideShapes Go.ChangeAt Go.RowKit Go.Deep
section
variable {H : Type} {enc : TypeId × Value → H} {w : World} {base : Nat} {spare : Nat → Bool} {held : Bool}
theorem i64_of {n : Int} (h : (Lit.int .i64 n).wf = true) : i64 n := by
  have := bounds_i64 h
  unfold i64; omega
theorem Try.co46 : Try.prog.cellsOf 70 = 3 := by kernel_rfl
theorem Try.co41 : Try.prog.cellsOf 45 = 7 := by kernel_rfl
theorem Try.co3 : Try.prog.cellsOf 3 = 1 := by kernel_rfl
theorem Try.co2 : Try.prog.cellsOf 2 = 1 := by kernel_rfl
theorem Try.co9 : Try.prog.cellsOf 9 = 1 := by kernel_rfl
theorem Try.co39 : Try.prog.cellsOf 43 = 1 := by kernel_rfl
set_option maxRecDepth 100000 in
theorem sec_open {fuel : Nat} {cs : List Value} {y : DataW H × List MemPlace} (h : DataW.trod enc Try.prog w base spare held fuel 70 cs = some y) :
    ∃ s : Sec, cs = [.int .i64 s.res, .int .i64 s.frm, .int .i64 s.len] ∧ s.wf := by
  obtain ⟨xs, n, _, _, hlen, hxl, hf⟩ := DataW.trod_struct Try.underlying70 h
  rw [Try.co46] at hlen
  match cs, hlen, xs, hxl with
  | [c0, c1, c2], _, [x0, x1, x2], _ =>
    have e0 := hf 0 _ rfl
    have e1 := hf 1 _ rfl
    have e2 := hf 2 _ rfl
    simp [Try.co3, Try.co2] at e0 e1 e2
    obtain ⟨r, h0, _, w0⟩ := DataW.trod_int Try.underlying3 e0
    obtain ⟨f, h1, _, w1⟩ := DataW.trod_int Try.underlying2 e1
    obtain ⟨l, h2, _, w2⟩ := DataW.trod_int Try.underlying2 e2
    simp at h0 h1 h2
    subst h0 h1 h2
    exact ⟨⟨r, f, l⟩, rfl, i64_of w0, i64_of w1, i64_of w2⟩
set_option maxRecDepth 100000 in
theorem tsk_open {fuel : Nat} {cs : List Value} {y : DataW H × List MemPlace} (h : DataW.trod enc Try.prog w base spare held fuel 45 cs = some y) :
    ∃ (nm : ByteArray) (a b c d e : Int) (sv : Value) (m : Nat) (z : DataW H × List MemPlace), cs = [.string nm, .int .i64 a, .int .i64 b, .int .i64 c, .int .i64 d, .int .i64 e, sv] ∧ nm.size ≤ maxLen ∧ i64 a ∧ i64 b ∧ i64 c ∧ i64 d ∧ i64 e ∧
      DataW.trod enc Try.prog w base spare held m 43 [sv] = some z := by
  obtain ⟨xs, n, _, _, hlen, hxl, hf⟩ := DataW.trod_struct Try.underlying45 h
  rw [Try.co41] at hlen
  match cs, hlen, xs, hxl with
  | [c0, c1, c2, c3, c4, c5, c6], _, [x0, x1, x2, x3, x4, x5, x6], _ =>
    have e0 := hf 0 _ rfl
    have e1 := hf 1 _ rfl
    have e2 := hf 2 _ rfl
    have e3 := hf 3 _ rfl
    have e4 := hf 4 _ rfl
    have e5 := hf 5 _ rfl
    have e6 := hf 6 _ rfl
    simp [Try.co3, Try.co2, Try.co9, Try.co39] at e0 e1 e2 e3 e4 e5 e6
    obtain ⟨r0, h0, _, w0⟩ := DataW.trod_string Try.underlying9 e0
    obtain ⟨r1, h1, _, w1⟩ := DataW.trod_int Try.underlying2 e1
    obtain ⟨r2, h2, _, w2⟩ := DataW.trod_int Try.underlying2 e2
    obtain ⟨r3, h3, _, w3⟩ := DataW.trod_int Try.underlying2 e3
    obtain ⟨r4, h4, _, w4⟩ := DataW.trod_int Try.underlying2 e4
    obtain ⟨r5, h5, _, w5⟩ := DataW.trod_int Try.underlying3 e5
    simp at h0 h1 h2 h3 h4 h5
    subst h0 h1 h2 h3 h4 h5
    exact ⟨r0, r1, r2, r3, r4, r5, c6, _, _, rfl, w0, i64_of w1, i64_of w2, i64_of w3, i64_of w4, i64_of w5, e6⟩
theorem lt_of_cell {w : World} {a : Addr} {v : Value} (h : w.cell? a = some v) : a.block < w.heap.size := by
  rcases Nat.lt_or_ge a.block w.heap.size with h1 | h1
  · exact h1
  · unfold World.cell? at h; rw [Array.getElem?_eq_none h1] at h; cases h
theorem add_spot (b off k : Nat) : (⟨b, off, none⟩ : Addr).add k = ⟨b, off + k, none⟩ := by
  unfold Addr.add; split
  · subst_vars; rfl
  · rfl
theorem secs_open {fuel : Nat} {v : Value} {y : DataW H × List MemPlace} (h : DataW.trod enc Try.prog w base spare held fuel 43 [v] = some y) :
    ∃ l : List Sec, SecsAt w w.heap.size v l ∧ l.length ≤ maxLen ∧ ∀ s ∈ l, s.wf := by
  rcases open_slice Try.underlying43 h with ⟨hcs, _⟩ | ⟨a, len, cap, m, n, D, Pl, hcs, _, hl, hm, hmm, _, hi⟩
  · simp at hcs; subst hcs
    exact ⟨[], ⟨none, 0, rfl, by simp, fun h => by simp at h⟩, by simp, by simp⟩
  · simp at hcs; subst hcs
    rw [Try.co46] at hi
    have hlm : len ≤ m := by rw [hmm]; split <;> omega
    have hel : ∀ i, i < len → ∃ s : Sec, s.wf ∧ w.cell? (a.add (i * 3)) = some (.int .i64 s.res) ∧ w.cell? ((a.add (i * 3)).add 1) = some (.int .i64 s.frm) ∧ w.cell? ((a.add (i * 3)).add 2) = some (.int .i64 s.len) := fun i hii => by
      obtain ⟨cs', hc, ht⟩ := hi i (by omega)
      obtain ⟨s, rfl, hs⟩ := sec_open ht
      obtain ⟨_, _, hat⟩ := World.cells?_some hc
      exact ⟨s, hs, by simpa [Addr.add] using hat 0 (by omega), hat 1 (by omega), hat 2 (by omega)⟩
    have : ∃ f : Nat → Sec, ∀ i, i < len → (f i).wf ∧ w.cell? (a.add (i * 3)) = some (.int .i64 (f i).res) ∧ w.cell? ((a.add (i * 3)).add 1) = some (.int .i64 (f i).frm) ∧ w.cell? ((a.add (i * 3)).add 2) = some (.int .i64 (f i).len) :=
      ⟨fun i => if hx : i < len then Classical.choose (hel i hx) else Sec.dflt, fun i hx => by simp only [hx, dif_pos]; exact Classical.choose_spec (hel i hx)⟩
    obtain ⟨f, hf⟩ := this
    refine ⟨(List.range len).map f, ⟨some a, cap, by simp, by simpa using hl, fun h0 => ?_⟩, by simp; omega, fun s hs => by simp at hs; obtain ⟨i, hi2, rfl⟩ := hs; exact (hf i hi2).1⟩
    simp at h0
    have hc0 := (hf 0 (by omega)).2.1
    have hsp : a.spot = none := by simpa [Addr.add] using World.cell?_spot hc0
    obtain ⟨b, off, sp⟩ := a
    simp at hsp; subst hsp
    refine ⟨b, off, rfl, by simpa [add_spot] using lt_of_cell hc0, fun i hii => ?_⟩
    simp at hii
    obtain ⟨_, k0, k1, k2⟩ := hf i hii
    simp only [add_spot] at k0 k1 k2
    have e : secAt ((List.range len).map f) i = f i := by simp [secAt, List.getD, hii]
    rw [e]
    exact ⟨k0, k1, k2⟩
theorem tsks_open {fuel : Nat} {v : Value} {y : DataW H × List MemPlace} (h : DataW.trod enc Try.prog w base spare held fuel 22 [v] = some y) :
    ∃ l : List Tsk, TsksAt w w.heap.size v l ∧ l.length ≤ maxLen ∧ ∀ i, i < l.length → (tskAt l i).wf ∧ (tskAt l i).secs.length ≤ maxLen ∧ (tskAt l i).name.size ≤ maxLen := by
  rcases open_slice Try.underlying22 h with ⟨hcs, _⟩ | ⟨a, len, cap, m, n, D, Pl, hcs, _, hl, hm, hmm, _, hi⟩
  · simp at hcs; subst hcs
    exact ⟨[], ⟨none, 0, rfl, by simp, fun h => by simp at h⟩, by simp, fun i hi => by simp at hi⟩
  · simp at hcs; subst hcs
    rw [Try.co41] at hi
    have hlm : len ≤ m := by rw [hmm]; split <;> omega
    have hel : ∀ i, i < len → ∃ p : Tsk × Value, p.1.wf ∧ p.1.secs.length ≤ maxLen ∧ p.1.name.size ≤ maxLen ∧ SecsAt w w.heap.size p.2 p.1.secs ∧ ∀ k, k < 7 →
        w.cell? ((a.add (i * 7)).add k) = ([.string p.1.name, .int .i64 p.1.per, .int .i64 p.1.off, .int .i64 p.1.dl, .int .i64 p.1.cost, .int .i64 p.1.prio, p.2] : List Value)[k]? := fun i hii => by
      obtain ⟨cs', hc, ht⟩ := hi i (by omega)
      obtain ⟨nm, x1, x2, x3, x4, x5, sv, mm, z, rfl, hn, w1, w2, w3, w4, w5, hz⟩ := tsk_open ht
      obtain ⟨ss, hS, hsl, hsw⟩ := secs_open hz
      obtain ⟨_, _, hat⟩ := World.cells?_some hc
      exact ⟨(⟨nm, x1, x2, x3, x4, x5, ss⟩, sv), ⟨w1, w2, w3, w4, w5, hsw⟩, hsl, hn, hS, hat⟩
    have : ∃ f : Nat → Tsk × Value, ∀ i, i < len → (f i).1.wf ∧ (f i).1.secs.length ≤ maxLen ∧ (f i).1.name.size ≤ maxLen ∧ SecsAt w w.heap.size (f i).2 (f i).1.secs ∧ ∀ k, k < 7 →
        w.cell? ((a.add (i * 7)).add k) = ([.string (f i).1.name, .int .i64 (f i).1.per, .int .i64 (f i).1.off, .int .i64 (f i).1.dl, .int .i64 (f i).1.cost, .int .i64 (f i).1.prio, (f i).2] : List Value)[k]? :=
      ⟨fun i => if hx : i < len then Classical.choose (hel i hx) else (Tsk.dflt, .nilIface), fun i hx => by simp only [hx, dif_pos]; exact Classical.choose_spec (hel i hx)⟩
    obtain ⟨f, hf⟩ := this
    have e : ∀ i, i < len → tskAt ((List.range len).map fun j => (f j).1) i = (f i).1 := fun i hii => by simp [tskAt, List.getD, hii]
    refine ⟨(List.range len).map fun j => (f j).1, ⟨some a, cap, by simp, by simpa using hl, fun h0 => ?_⟩, by simp; omega, fun i hii => ?_⟩
    · simp at h0
      have hc0 := (hf 0 (by omega)).2.2.2.2 0 (by omega)
      have hsp : a.spot = none := by simpa [Addr.add] using World.cell?_spot hc0
      obtain ⟨b, off, sp⟩ := a
      simp at hsp; subst hsp
      refine ⟨b, off, rfl, by simpa [add_spot] using lt_of_cell hc0, fun i hii => ?_⟩
      simp at hii
      obtain ⟨_, _, _, hS, hk⟩ := hf i hii
      simp only [add_spot] at hk
      rw [e i hii]
      exact ⟨(f i).2, ⟨hk 0 (by omega), hk 1 (by omega), hk 2 (by omega), hk 3 (by omega), hk 4 (by omega), hk 5 (by omega), hk 6 (by omega)⟩, hS⟩
    · simp at hii
      rw [e i hii]
      exact ⟨(hf i hii).1, (hf i hii).2.1, (hf i hii).2.2.1⟩
end
end Go.Proofs.Ythcdemmamggboaa
