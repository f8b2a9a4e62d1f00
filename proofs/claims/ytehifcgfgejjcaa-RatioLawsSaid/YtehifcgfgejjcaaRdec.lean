import Derived.Test.YtehifcgfgejjcaaRval
import Derived.Laws.IdiomStrings
import Derived.Laws.Concat
namespace Go.Proofs.Ytehifcgfgejjcaa
open Go.RowKit
/-- the digits of k ahead of acc; none is written of 0 behind another -/
def digF : Nat → Nat → List UInt8 → List UInt8
  | 0, _, acc => acc
  | f + 1, k, acc => if k = 0 ∧ acc ≠ [] then acc else digF f (k / 10) (UInt8.ofNat (48 + k % 10) :: acc)
def digs (k : Nat) : List UInt8 := digF 20 k []
def decL (n : Int) : List UInt8 := (if n < 0 then [45] else []) ++ digs n.natAbs
theorem conv_one (W : World) (c : Int) (h0 : 0 ≤ c) (h1 : c ≤ 255) :
    (convert 55 9 (.slice (some ⟨W.heap.size, 0, none⟩) 1 1)).run Try.prog (W.alloc (.cells #[.int .u8 c] 5)) = .ok (.string ⟨[UInt8.ofNat c.toNat].toArray⟩) (W.alloc (.cells #[.int .u8 c] 5)) := by
  refine run_convert_bytes_back (W.alloc (.cells #[.int .u8 c] 5)) 55 9 5 ⟨W.heap.size, 0, none⟩ 1 [UInt8.ofNat c.toNat] Try.underlying55 Try.underlying5 Try.underlying9 ?_
  intro j hj
  have : j = 0 := by simpa using hj
  subst this
  simp [go_sem, Addr.add]
  omega
theorem digF_stop {f j : Nat} {acc : List UInt8} (h : j = 0) (ha : acc ≠ []) : digF f j acc = acc := by
  cases f <;> simp [digF, h, ha]
theorem digF_go {f j : Nat} {acc : List UInt8} (h : ¬ (j = 0 ∧ acc ≠ [])) : digF (f + 1) j acc = digF f (j / 10) (UInt8.ofNat (48 + j % 10) :: acc) := by
  simp only [digF, if_neg h]
theorem pow_step {j m : Nat} (h : j < 10 ^ (m + 1)) : j / 10 < 10 ^ m := by
  rw [Nat.pow_succ] at h; omega
set_option maxHeartbeats 1000000 in
theorem rdec_any (n : Int) (w : World) (h : i64 n) :
    Calls Try.prog 42 #[.int .i64 n] w fun e w' => e = .returned (.string ⟨(decL n).toArray⟩) ∧ Bel w w' := by
  have HN := Lib.hid h
  unfold i64 at h
  have HK : absU n = ((n.natAbs : Nat) : Int) := rfl
  replace HK := Lib.hid HK
  go_enter Try.func42, Try.ntmps42
  go_wp2_with (go_at_call 49; (with_reducible refine (rsize_any n _ HN.out).mono ?_); rintro e w2 ⟨rfl, hb2⟩; obtain ⟨x, rfl⟩ : ∃ x : Ext w, w2 = x.w := ext_of (hb2.after (by (repeat (first | exact Ext.bel _ | exact Bel.refl | refine Bel.alloc ?_ _ | refine Bel.drew ?_ | refine Bel.drewN ?_ _)))); clear hb2)
  go_loopw [3, 4] (fun s k wr => ∃ (j : Nat) (acc : List UInt8) (z : Ext w), (acc = [] ∨ j < 10 ^ (19 - acc.length)) ∧ acc.length ≤ 19 ∧ s = .string ⟨acc.toArray⟩ ∧ k = .int .u64 (j : Int) ∧ wr = z.w ∧ digF (20 - acc.length) j acc = digs n.natAbs ∧ j < 10 ^ 19) (fun s k _ => (intOf k).toNat + (match s with | .string b => if b.size = 0 then 1 else 0 | _ => 0))
  case atStart => exact ⟨n.natAbs, [], x, .inl rfl, by simp, rfl, rfl, rfl, rfl, by omega⟩
  case round =>
    obtain ⟨j, acc, z, hj, hl, rfl, rfl, rfl, hd, hj19⟩ := hrel
    by_cases hs : j = 0 ∧ acc ≠ []
    · have HD := Lib.hid ((digF_stop hs.1 hs.2).symm.trans hd)
      obtain ⟨rfl, hne⟩ := hs
      have hne2 : acc.isEmpty = false := by simpa using hne
      clear hd hj hne
      go_wp2
      · go_ret
        exact ⟨by simp only [decL, if_pos (show n < 0 by assumption), ← HD.out]; rw [show (ByteArray.mk #[45] ++ ByteArray.mk acc.toArray) = ByteArray.mk (([45] : List UInt8) ++ acc).toArray from ByteArray.mk_append_mk [45] acc]; rfl, z.bel⟩
      · go_ret
        exact ⟨by simp only [decL, if_neg (show ¬ n < 0 by omega), ← HD.out, List.nil_append]; try rfl, z.bel⟩
    · have HD := Lib.hid ((digF_go (f := 19 - acc.length) hs).symm.trans (show digF (19 - acc.length + 1) j acc = digs n.natAbs by rw [show 19 - acc.length + 1 = 20 - acc.length by omega]; exact hd))
      have HL : Hid (acc.length + 1 ≤ 19) := Lib.hid (by
        rcases hj with rfl | hj
        · simp
        · by_cases h19 : acc.length = 19
          · exfalso
            rw [h19] at hj
            exact hs ⟨by omega, by intro h0; rw [h0] at h19; simp at h19⟩
          · omega)
      have HJ : Hid (j / 10 < 10 ^ (19 - (acc.length + 1))) := Lib.hid (by
        rcases hj with rfl | hj
        · exact pow_step (by simpa using hj19)
        · exact pow_step (by rw [show 19 - (acc.length + 1) + 1 = 19 - acc.length by have := HL.out; omega]; exact hj))
      have hcv := fun (W : World) => conv_one W (48 + (j : Int) % 10) (by omega) (by omega)
      have HS := Lib.hid hs
      have hjb : (j : Int) ≤ 9999999999999999999 := by omega
      have hcv0 := fun (W : World) => conv_one W 48 (by omega) (by omega)
      have HX : ∀ j : Nat, Value.string (ByteArray.mk #[48 + UInt8.ofNat (j % 10)] ++ ByteArray.mk acc.toArray) = .string ⟨(UInt8.ofNat (48 + j % 10) :: acc).toArray⟩ := fun j => by
        rw [show (ByteArray.mk #[48 + UInt8.ofNat (j % 10)] ++ ByteArray.mk acc.toArray) = ByteArray.mk ([48 + UInt8.ofNat (j % 10)] ++ acc).toArray from ByteArray.mk_append_mk _ acc, UInt8.ofNat_add]
        rfl
      replace HX := Lib.hid HX
      clear hd hj hs
      by_cases h0 : j = 0
      · subst h0
        have hne : acc = [] := by have := HS.out; simpa using this
        subst hne
        go_wp2
        go_roundw
        case rel => exact ⟨0, [48], ⟨_, z.bel.alloc _⟩, .inr (by simp), by simp, by first | rfl | trace_state, by go_num, rfl, HD.out, by omega⟩
        case measure => simp [intOf, ByteArray.size]
      · go_wp2
        go_roundw
        case rel => exact ⟨j / 10, UInt8.ofNat (48 + j % 10) :: acc, ⟨_, z.bel.alloc _⟩, .inr (by simpa using HJ.out), by simpa using HL.out, HX.out _, by go_num, rfl, by have := HD.out; simpa [show 20 - (acc.length + 1) = 19 - acc.length by omega] using this, by omega⟩
        case measure => simp [intOf, ByteArray.size]; omega
end Go.Proofs.Ytehifcgfgejjcaa
