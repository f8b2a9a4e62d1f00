/- EnforceNone: the walk. -/
import Derived.Test.YthidbmeocifkcaaZEshow
namespace Go.Proofs.Ythidbmeocifkcaa
open Go.RowKit
/-- an enforcer that is none: nil, or not made -/
def NoneAt (W : World) (a : Option Addr) : Prop := a = none ∨ ∃ bf, a = some ⟨bf, 0, none⟩ ∧ W.cell? ⟨bf, 0, none⟩ = some (.pointer none) ∧ bf < W.heap.size
theorem NoneAt.bel {W V : World} {a : Option Addr} (h : NoneAt W a) (hb : Bel W V) : NoneAt V a :=
  h.imp id (fun ⟨bf, e, h1, h2⟩ => ⟨bf, e, (hb.cells _ _ h2).trans h1, Nat.lt_of_lt_of_le h2 hb.le⟩)
theorem none_w {W : World} {a : Option Addr} (h : NoneAt W a) : Calls Try.prog 35 #[.pointer a] W fun e w' => e = .returned (.bool true) ∧ W = w' := by
  rcases h with rfl | ⟨bf, rfl, h, _⟩
  · exact enone_nil W
  · exact enone_un W h
set_option maxRecDepth 100000 in
set_option maxHeartbeats 1000000 in
theorem event_none {W : World} {a : Option Addr} (s t : Int) (h : NoneAt W a) : Calls Try.prog 18 #[.pointer a, .agg #[.int .i64 s, .int .i64 t]] W fun e w' => e = .returned (.tuple #[.slice none 0 0, .int .i64 1]) ∧ Bel W w' := by
  have H := Lib.hid h
  clear h
  go_enter Try.func18, Try.ntmps18
  go_upto_region 1 with (fail)
  generalize hW : World.alloc W _ = W1 at *
  have hB : Bel W W1 := by rw [← hW]; exact Bel.refl.alloc _
  clear hW
  have HB := Lib.hid hB
  clear hB
  go_wp2_with fail
  refine (none_w (H.out.bel HB.out)).mono ?_
  rintro e w2 ⟨rfl, hw⟩
  have HB2 : Hid (Bel W w2) := Lib.hid (by rw [← hw]; exact HB.out)
  clear hw
  go_wp2
  go_ret2
  exact ⟨rfl, HB2.out⟩
set_option maxRecDepth 100000 in
set_option maxHeartbeats 1000000 in
theorem held_none {W : World} {a : Option Addr} (h : NoneAt W a) : Calls Try.prog 20 #[.pointer a] W fun e w' => e = .returned (.int .i64 0) ∧ Bel W w' := by
  have H := Lib.hid h
  clear h
  go_enter Try.func20, Try.ntmps20
  go_wp2_with fail
  refine (none_w H.out).mono ?_
  rintro e w2 ⟨rfl, hw⟩
  have HB2 : Hid (Bel W w2) := Lib.hid (by rw [← hw]; exact Bel.refl)
  clear hw
  go_wp2
  go_ret
  exact ⟨rfl, HB2.out⟩
set_option maxRecDepth 100000 in
set_option maxHeartbeats 1000000 in
theorem out_none {W : World} {a : Option Addr} (h : NoneAt W a) : Calls Try.prog 21 #[.pointer a] W fun e w' => e = .returned (.slice none 0 0) ∧ Bel W w' := by
  have H := Lib.hid h
  clear h
  go_enter Try.func21, Try.ntmps21
  go_wp2_with fail
  refine (none_w H.out).mono ?_
  rintro e w2 ⟨rfl, hw⟩
  have HB2 : Hid (Bel W w2) := Lib.hid (by rw [← hw]; exact Bel.refl)
  clear hw
  go_wp2
  go_ret
  exact ⟨rfl, HB2.out⟩
theorem idx0 (b : Nat) (w : World) : (Instr.index 62 (.agg #[.pointer none, .pointer (some ⟨b, 0, none⟩)]) (.int .i64 0)).run Try.prog w = .ok (.pointer none) w := by kernel_rfl
theorem idx1 (b : Nat) (w : World) : (Instr.index 62 (.agg #[.pointer none, .pointer (some ⟨b, 0, none⟩)]) (.int .i64 1)).run Try.prog w = .ok (.pointer (some ⟨b, 0, none⟩)) w := by kernel_rfl
set_option maxRecDepth 100000 in
set_option maxHeartbeats 2000000 in
theorem enone_law (s t : Int) (W : World) : Calls Try.prog 6 #[.agg #[.int .i64 s, .int .i64 t]] W fun e w' => e = .returned (.bool true) ∧ Bel W w' := by
  go_enter Try.func6, Try.ntmps6
  go_upto_region 1 with (fail)
  generalize hW1 : World.alloc W _ = W1 at *
  have rb : RowAt W1 W.heap.size 48 [.int .i64 s, .int .i64 t] := by rw [← hW1]; exact RowAt.new _ _ _
  have hB1 : Bel W W1 := by rw [← hW1]; exact Bel.refl.alloc _
  clear hW1
  obtain ⟨bp, hbp⟩ : ∃ b, b = W.heap.size := ⟨_, rfl⟩
  rw [← hbp] at rb ⊢
  clear hbp
  have HRB := Lib.hid rb
  have HB1 := Lib.hid hB1
  clear rb hB1
  go_wp2_with fail
  refine (shown36_any W1).mono ?_
  rintro e W2 ⟨rfl, hB⟩
  have HB2 := Lib.hid (HB1.out.trans hB)
  have HR2 := Lib.hid (HRB.out.bel hB)
  clear HB1 HRB hB
  go_upto_region 5 with (fail)
  generalize hW3 : World.alloc W2 _ = W3 at *
  have rf : RowAt W3 W2.heap.size 61 [.pointer none, .int .i64 0, .int .i64 0, .int .i64 0, .int .i64 0, .int .i64 0, .int .i64 0, .int .i64 0, .int .i64 0, .slice none 0 0, .slice none 0 0] := by rw [← hW3]; exact RowAt.new _ _ _
  have hB3 : Bel W2 W3 := by rw [← hW3]; exact Bel.refl.alloc _
  clear hW3
  have HB3 := Lib.hid (HB2.out.trans hB3)
  have HR3 := Lib.hid (HR2.out.bel hB3)
  have HF := Lib.hid rf
  clear rf hB3 HB2 HR2
  generalize W2.heap.size = bf at *
  have i0 := idx0 bf
  have i1 := idx1 bf
  go_loopw [14] (fun s14 wq => ∃ (i : Nat) (z : Ext W3), i ≤ 2 ∧ s14 = .int .i64 i ∧ wq = z.w) (fun s14 _ => 2 - (intOf s14).toNat)
  case atStart => exact ⟨0, ⟨W3, Bel.refl⟩, Nat.zero_le _, rfl, rfl⟩
  case round =>
    obtain ⟨i, z, hi, rfl, rfl⟩ := hrel
    have s0 := (HR3.out.bel z.bel).cell (i := 0) rfl
    have s1 := (HR3.out.bel z.bel).cell (i := 1) rfl
    have sz := (HR3.out.bel z.bel).lt
    have hcase : i = 0 ∨ i = 1 ∨ i = 2 := by omega
    rcases hcase with rfl | rfl | rfl
    · have HN : Hid (NoneAt z.w none) := Lib.hid (.inl rfl)
      have HZ := Lib.hid z.bel
      go_wp2_with fail
      refine (event_none s t HN.out).mono ?_
      rintro e w4 ⟨rfl, hB4⟩
      have HN4 := Lib.hid (HN.out.bel hB4)
      have HZ4 := Lib.hid (HZ.out.trans hB4)
      clear hB4 HN HZ s0 s1 sz
      go_wp2_with fail
      refine (held_none HN4.out).mono ?_
      rintro e w5 ⟨rfl, hB5⟩
      have HN5 := Lib.hid (HN4.out.bel hB5)
      have HZ5 := Lib.hid (HZ4.out.trans hB5)
      clear hB5 HN4 HZ4
      go_wp2_with fail
      refine (out_none HN5.out).mono ?_
      rintro e w6 ⟨rfl, hB6⟩
      obtain ⟨z6, hz6⟩ := ext_of (HZ5.out.trans hB6)
      subst hz6
      clear hB6 HN5 HZ5
      go_wp2
      go_roundw
      case rel => exact ⟨1, z6, by omega, rfl, rfl⟩
      case measure => simp [intOf]
    · have HN : Hid (NoneAt z.w (some ⟨bf, 0, none⟩)) := Lib.hid (.inr ⟨bf, rfl, (HF.out.bel z.bel).cell (i := 0) rfl, (HF.out.bel z.bel).lt⟩)
      have HZ := Lib.hid z.bel
      go_wp2_with fail
      refine (event_none s t HN.out).mono ?_
      rintro e w4 ⟨rfl, hB4⟩
      have HN4 := Lib.hid (HN.out.bel hB4)
      have HZ4 := Lib.hid (HZ.out.trans hB4)
      clear hB4 HN HZ s0 s1 sz
      go_wp2_with fail
      refine (held_none HN4.out).mono ?_
      rintro e w5 ⟨rfl, hB5⟩
      have HN5 := Lib.hid (HN4.out.bel hB5)
      have HZ5 := Lib.hid (HZ4.out.trans hB5)
      clear hB5 HN4 HZ4
      go_wp2_with fail
      refine (out_none HN5.out).mono ?_
      rintro e w6 ⟨rfl, hB6⟩
      obtain ⟨z6, hz6⟩ := ext_of (HZ5.out.trans hB6)
      subst hz6
      clear hB6 HN5 HZ5
      go_wp2
      go_roundw
      case rel => exact ⟨2, z6, by omega, rfl, rfl⟩
      case measure => simp [intOf]
    · go_wp2
      go_ret
      exact ⟨rfl, HB3.out.trans z.bel⟩
end Go.Proofs.Ythidbmeocifkcaa
