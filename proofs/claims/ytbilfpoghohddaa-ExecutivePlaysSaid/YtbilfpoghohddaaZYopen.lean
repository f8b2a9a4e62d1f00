/- arguments: lists of lists of numbers. -/
import Derived.Test.YtbilfpoghohddaaG11
import Derived.Test.YtbilfpoghohddaaZYlaw
namespace Go.Proofs.Ytbilfpoghohddaa
open Go.ChangeShapes Go.WideShapes Go.ChangeAt Go.RowKit Go.Deep
section
variable {H : Type} {enc : TypeId × Value → H} {w : World} {base : Nat} {spare : Nat → Bool} {held : Bool}
theorem longs_len {fuel : Nat} {v : Value} {y : DataW H × List MemPlace} (h : DataW.trod enc Try.prog w base spare held fuel 36 [v] = some y) : ∃ l : List Int, IntsAt w w.heap.size v l ∧ l.length ≤ maxLen := by
  obtain ⟨l, hll, hwf, A, c, hv, hc, hr⟩ := rows_open (0 : Int) Try.underlying36 Try.co2 (by decide) (fun (n : Int) cs => cs = [.int .i64 n] ∧ i64 n) long_open1 h
  refine ⟨l, ⟨A, c, hv, hc, fun h0 => ?_⟩, hll⟩
  obtain ⟨b, off, rfl, hb, hi⟩ := hr h0
  refine ⟨b, off, rfl, hb, fun i hii => ?_⟩
  obtain ⟨cs, ⟨rfl, _⟩, hk⟩ := hi i hii
  simpa using hk 0 (by omega)
theorem longs_el {fuel : Nat} {cs : List Value} {y : DataW H × List MemPlace} (h : DataW.trod enc Try.prog w base spare held fuel 36 cs = some y) : ∃ l : List Int, ∃ v, cs = [v] ∧ IntsAt w w.heap.size v l ∧ l.length ≤ maxLen := by
  have : ∃ v, cs = [v] := by
    rcases open_slice Try.underlying36 h with ⟨hcs, _⟩ | ⟨a, len, cap, m, n, D, Pl, hcs, _⟩
    · exact ⟨_, hcs⟩
    · exact ⟨_, hcs⟩
  obtain ⟨v, rfl⟩ := this
  obtain ⟨l, h1, h2⟩ := longs_len h
  exact ⟨l, v, rfl, h1, h2⟩
theorem nds_open {fuel : Nat} {v : Value} {y : DataW H × List MemPlace} (h : DataW.trod enc Try.prog w base spare held fuel 26 [v] = some y) : ∃ nss : List (List Int), NdsAt w w.heap.size v nss ∧ ∀ ns ∈ nss, ns.length ≤ maxLen := by
  obtain ⟨l, _, hwf, A, c, hv, hc, hr⟩ := rows_open ([] : List Int) Try.underlying26 Try.coLongs (by decide) (fun (ns : List Int) cs => ∃ v, cs = [v] ∧ IntsAt w w.heap.size v ns ∧ ns.length ≤ maxLen) longs_el h
  refine ⟨l, ⟨A, c, hv, hc, fun h0 => ?_⟩, fun x hx => ?_⟩
  · obtain ⟨b, off, rfl, hb, hi⟩ := hr h0
    refine ⟨b, off, rfl, hb, fun i hii => ?_⟩
    obtain ⟨cs, ⟨u, rfl, h1, _⟩, hk⟩ := hi i hii
    exact ⟨u, by simpa using hk 0 (by omega), h1⟩
  · obtain ⟨i, hi, rfl⟩ := List.mem_iff_getElem.mp hx
    obtain ⟨cs, u, _, _, hw⟩ := hwf i hi
    simpa [List.getD_eq_getElem?_getD, hi] using hw
theorem nds_arg {v : Value} {d : DataW H} {q : List MemPlace} (h : DataW.Trod enc Try.prog w base spare held 26 v d q) (hv : ∃ A n c, v = .slice A n c) :
    ∃ nss : List (List Int), NdsAt w w.heap.size v nss ∧ ∀ ns ∈ nss, ns.length ≤ maxLen := by
  obtain ⟨A, n, c, rfl⟩ := hv
  obtain ⟨fuel, hf⟩ := h
  exact nds_open (v := .slice A n c) hf
end
end Go.Proofs.Ytbilfpoghohddaa
