/- any seat: a drawn region where blocks of a list may change (as Xkmem has it for the executive). -/
import Derived.Test.YthidbmeocifkcaaZTaket
namespace Go.Proofs.Ythidbmeocifkcaa
open Go Region Go.RowKit
theorem grs_alloc {wc w : World} {rs : List Nat} (h : GrsOk wc rs w) (o : Obj) : GrsOk wc rs (w.alloc o) :=
  ⟨h.os, h.tape, h.output, Nat.le_trans h.size (by simp [go_sem]), fun k hk hr => (Below.heap_alloc w o k (Nat.lt_of_lt_of_le hk h.size)).trans (h.block k hk hr)⟩
theorem grs_grown {wc w w' : World} {rs : List Nat} {row : Option Nat} (h : GrsOk wc rs w) (g : w.grownBy w' row) (hr : ∀ k, row = some k → k < wc.heap.size → k ∈ rs) : GrsOk wc rs w' :=
  ⟨g.os.trans h.os, g.tape.trans h.tape, g.output.trans h.output, Nat.le_trans h.size g.size, fun k hk hn => (g.block k (Nat.lt_of_lt_of_le hk h.size) (fun e => hn (hr k e.symm hk))).trans (h.block k hk hn)⟩
section
variable {P : Program} {Q : Exit → Act → World → Prop}
theorem wp_region_ES {id : Nat} {a : Act} {w : World} {l : List Oper} (n : Nat) (rs : List Nat) (hm : P.follows .mixedOrders = true)
    (h : wpAnyE P .any l.toArray (NoPanic Q) (fun w' => ∃ y : Grs w rs, w' = y.w) n l.toArray.size (Array.replicate l.toArray.size false) a w.drew) : (Code.region id l.toArray true).wp P Q a w :=
  wp_region_noPanic (wp_region_any hm (wpAny_of_anyE (n := n) (S := fun w' => ∃ y : Grs w rs, w' = y.w) _ _ _ _ h))
end
end Go.Proofs.Ythidbmeocifkcaa
