import Derived.Test.YthcdemmamggboaaSsecs
namespace Go.Proofs.Ythcdemmamggboaa
open Go.RowKit
set_option maxRecDepth 100000 in
set_option maxHeartbeats 4000000 in
theorem run1_one (x : Tsk) (A : Option Addr) (c : Nat) (w : World) :
    Calls Try.prog 24 #[.agg #[.string x.name, .int .i64 x.per, .int .i64 x.off, .int .i64 x.dl, .int .i64 x.cost, .int .i64 x.prio, .slice A x.secs.length c]] w fun e w' => e = .returned (.bool (hasSec x)) ∧ Bel w w' := by
  have HR : Hid (decide (0 < x.secs.length) = hasSec x) := Lib.hid rfl
  go_enter Try.func24, Try.ntmps24
  go_wp2
  go_ret
  exact ⟨ret_bool (by rw [← HR.out]), Bel.refl.alloc _⟩
set_option maxRecDepth 100000 in
set_option maxHeartbeats 4000000 in
theorem run1_idx (sv : Value) (l : List Tsk) (w : World) (h : TsksAt w w.heap.size sv l) (hl : l.length ≤ 1000000) :
    Calls Try.prog 36 #[sv, .func (.func 24) #[] #[]] w fun e w' => e = .returned (.int .i64 (idxT hasSec l 0)) ∧ Bel w w' := by
  obtain ⟨A, c, rfl, hc, hA⟩ := h
  have HA := Lib.hid hA
  clear hA
  go_enter Try.func36, Try.ntmps36
  go_wp2
  go_loopw [8] (fun si wr => ∃ (j : Nat) (z : Ext w), j ≤ l.length ∧ si = .int .i64 j ∧ wr = z.w ∧ idxT hasSec (l.drop j) j = idxT hasSec l 0) (fun si _ => l.length - (intOf si).toNat)
  case atStart => exact ⟨0, ⟨w, Bel.refl⟩, by omega, rfl, rfl, rfl⟩
  case round =>
    obtain ⟨j, x, hj, rfl, rfl, hd⟩ := hrel
    by_cases hlt : j < l.length
    · rw [tsks_drop hlt] at hd
      obtain ⟨b, off, rfl, hb, hA⟩ := HA.out (by omega)
      obtain ⟨sv, ⟨t0, t1, t2, t3, t4, t5, t6⟩, hS⟩ := (hA j hlt)
      obtain ⟨A2, c2, rfl, _⟩ := hS.form
      clear hA hS
      have HH := fun (y : Ext w) => run1_one (tskAt l j) A2 c2 y.w
      cases hh : hasSec (tskAt l j)
      · have HD : Hid (idxT hasSec (l.drop (j + 1)) (j + 1) = idxT hasSec l 0) := Lib.hid (by rw [← hd]; simp only [idxT, hh]; rfl)
        rw [hh] at HH
        replace HH := Lib.hid HH
        clear hd hh
        go_wp2_with (first | (go_at_call 24; (with_reducible refine (HH.out _).mono ?_); rintro e w2 ⟨rfl, hb2⟩; obtain ⟨x, rfl⟩ : ∃ x : Ext w, w2 = x.w := ext_of (hb2.after (by (repeat (first | exact Ext.bel _ | exact Bel.refl | refine Bel.alloc ?_ _ | refine Bel.drew ?_ | refine Bel.drewN ?_ _)))); clear hb2))
        go_roundw
        case rel => exact ⟨j + 1, x, by omega, by go_num, rfl, HD.out⟩
        case measure => simp [intOf]; omega
      · have HD : Hid (idxT hasSec l 0 = (j : Int)) := Lib.hid (by rw [← hd]; simp only [idxT, hh]; rfl)
        rw [hh] at HH
        replace HH := Lib.hid HH
        clear hd hh
        go_wp2_with (first | (go_at_call 24; (with_reducible refine (HH.out _).mono ?_); rintro e w2 ⟨rfl, hb2⟩; obtain ⟨x, rfl⟩ : ∃ x : Ext w, w2 = x.w := ext_of (hb2.after (by (repeat (first | exact Ext.bel _ | exact Bel.refl | refine Bel.alloc ?_ _ | refine Bel.drew ?_ | refine Bel.drewN ?_ _)))); clear hb2))
        go_ret
        exact ⟨ret_int HD.out.symm, x.bel⟩
    · obtain rfl : j = l.length := by omega
      have HD : Hid (idxT hasSec l 0 = -1) := Lib.hid (by rw [← hd]; simp [idxT])
      clear hd
      go_wp2
      go_ret
      exact ⟨ret_int HD.out.symm, x.bel⟩
set_option maxHeartbeats 1000000 in
theorem run1_has (sv : Value) (l : List Tsk) (w : World) (h : TsksAt w w.heap.size sv l) (hl : l.length ≤ 1000000) :
    Calls Try.prog 23 #[sv, .func (.func 24) #[] #[]] w fun e w' => e = .returned (.bool (l.any hasSec)) ∧ Bel w w' := by
  have HK := Lib.hid (run1_idx sv l w h hl)
  have HR := Lib.hid (idxT_any hasSec l 0)
  obtain ⟨A, c, rfl, hc⟩ := h.form
  generalize idxT hasSec l 0 = n at *
  clear h
  go_enter Try.func23, Try.ntmps23
  go_wp2_with (first | (go_at_call 36; (with_reducible refine (HK.out).mono ?_); rintro e w2 ⟨rfl, hb2⟩; obtain ⟨x, rfl⟩ : ∃ x : Ext w, w2 = x.w := ext_of (hb2.after (by (repeat (first | exact Ext.bel _ | exact Bel.refl | refine Bel.alloc ?_ _ | refine Bel.drew ?_ | refine Bel.drewN ?_ _)))); clear hb2))
  go_ret
  exact ⟨ret_bool (by rw [← HR.out]), x.bel⟩
end Go.Proofs.Ythcdemmamggboaa
