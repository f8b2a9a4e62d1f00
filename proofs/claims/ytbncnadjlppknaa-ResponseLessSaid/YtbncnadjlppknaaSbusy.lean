import Derived.Test.YtbncnadjlppknaaSref
import Derived.Test.YtbncnadjlppknaaSleast
import Derived.Test.YtbncnadjlppknaaTckp
import Derived.Test.YtbncnadjlppknaaSdem
namespace Go.Proofs.Ytbncnadjlppknaa
open Go.RowKit
theorem rchk_pos {l : List Tsk} (h : rchk l = 0) : 0 < l.length := by
  unfold rchk at h
  by_cases h8 : 8 < l.length
  · omega
  · rw [if_neg h8] at h
    cases hm : manySecs l
    · rw [hm] at h
      by_cases h0 : l.length = 0
      · simp [h0] at h
      · omega
    · simp [hm] at h
theorem busyR_0 {l : List Tsk} (h : rchk l = 0) (hb : busyM l = 0) : busyR l = (0, 3) := by simp [busyR, h, hb]
theorem busyR_1 {l : List Tsk} (h : rchk l = 0) (hb : ¬ busyM l = 0) : busyR l = (busyM l, 0) := by simp [busyR, h, hb]
theorem busyR_no {l : List Tsk} (h : ¬ rchk l = 0) : busyR l = (0, rchk l) := by simp [busyR, h]
set_option maxRecDepth 100000 in
set_option maxHeartbeats 4000000 in
theorem pBusy_any (v : Value) (l : List Tsk) (w : World) (h : TsksAt w w.heap.size v l) (hs : Sized l) :
    Calls Try.prog 11 #[v] w fun e w' => e = .returned (.tuple #[.int .i64 (busyR l).1, .int .i64 (busyR l).2]) ∧ Bel w w' := by
  have HC := checkP v l w h hs
  obtain ⟨A, c, rfl, hc⟩ := h.form
  by_cases h0 : rchk l = 0
  · have hB := fun (x : Ext w) => pbusy_any _ l x.w (h.keep x.bel.keeps x.bel.le) (rchk_ok h0).1 (toks_of h0) (rchk_pos h0)
    rw [h0] at HC
    replace HC := Lib.hid HC
    have hbd := busyM_bd l
    by_cases hb : busyM l = 0
    · have HR := Lib.hid (busyR_0 h0 hb)
      rw [hb] at hB
      have HB := Lib.hid hB
      clear h hs h0 hb hB hbd
      go_enter Try.func11, Try.ntmps11
      go_wp2_with (first | (go_at_call 28; (with_reducible refine (HC.out).mono ?_); rintro e w2 ⟨rfl, hb2⟩; obtain ⟨x, rfl⟩ : ∃ x : Ext w, w2 = x.w := ext_of (hb2.after (by (repeat (first | exact Ext.bel _ | exact Bel.refl | refine Bel.alloc ?_ _ | refine Bel.drew ?_ | refine Bel.drewN ?_ _)))); clear hb2) | (go_at_call 29; (with_reducible refine (HB.out _).mono ?_); rintro e w2 ⟨rfl, hb2⟩; obtain ⟨x, rfl⟩ : ∃ x : Ext w, w2 = x.w := ext_of (hb2.after (by (repeat (first | exact Ext.bel _ | exact Bel.refl | refine Bel.alloc ?_ _ | refine Bel.drew ?_ | refine Bel.drewN ?_ _)))); clear hb2))
      go_ret2
      exact ⟨by rw [HR.out]; rfl, x.bel⟩
    · have HR := Lib.hid (busyR_1 h0 hb)
      have HB := Lib.hid hB
      generalize busyM l = m at *
      have hd : decide (0 < m) = true := by simp; omega
      clear h hs h0 hB
      go_enter Try.func11, Try.ntmps11
      go_wp2_with (first | (go_at_call 28; (with_reducible refine (HC.out).mono ?_); rintro e w2 ⟨rfl, hb2⟩; obtain ⟨x, rfl⟩ : ∃ x : Ext w, w2 = x.w := ext_of (hb2.after (by (repeat (first | exact Ext.bel _ | exact Bel.refl | refine Bel.alloc ?_ _ | refine Bel.drew ?_ | refine Bel.drewN ?_ _)))); clear hb2) | (go_at_call 29; (with_reducible refine (HB.out _).mono ?_); rintro e w2 ⟨rfl, hb2⟩; obtain ⟨x, rfl⟩ : ∃ x : Ext w, w2 = x.w := ext_of (hb2.after (by (repeat (first | exact Ext.bel _ | exact Bel.refl | refine Bel.alloc ?_ _ | refine Bel.drew ?_ | refine Bel.drewN ?_ _)))); clear hb2))
      go_ret2
      exact ⟨by rw [HR.out]; rfl, x.bel⟩
  · have HR := Lib.hid (busyR_no h0)
    replace HC := Lib.hid HC
    generalize rchk l = ck at *
    have hne : (ck == 0) = false := by simpa using h0
    clear h hs
    go_enter Try.func11, Try.ntmps11
    go_wp2_with (first | (go_at_call 28; (with_reducible refine (HC.out).mono ?_); rintro e w2 ⟨rfl, hb2⟩; obtain ⟨x, rfl⟩ : ∃ x : Ext w, w2 = x.w := ext_of (hb2.after (by (repeat (first | exact Ext.bel _ | exact Bel.refl | refine Bel.alloc ?_ _ | refine Bel.drew ?_ | refine Bel.drewN ?_ _)))); clear hb2))
    go_ret2
    exact ⟨by rw [HR.out]; rfl, x.bel⟩
set_option maxRecDepth 100000 in
set_option maxHeartbeats 4000000 in
theorem rBusy_any (v : Value) (l : List Tsk) (w : World) (h : TsksAt w w.heap.size v l) (hs : Sized l) :
    Calls Try.prog 12 #[v] w fun e w' => e = .returned (.tuple #[.int .i64 (busyR l).1, .int .i64 (busyR l).2]) ∧ Bel w w' := by
  have HC := rcheck_any v l w h hs.len hs.parts
  obtain ⟨A, c, rfl, hc⟩ := h.form
  by_cases h0 : rchk l = 0
  · have hB := fun (x : Ext w) => rbusy_any _ l x.w (h.keep x.bel.keeps x.bel.le) (rchk_ok h0).1 (toks_of h0)
    rw [h0] at HC
    replace HC := Lib.hid HC
    have hbd := busyM_bd l
    by_cases hb : busyM l = 0
    · have HR := Lib.hid (busyR_0 h0 hb)
      rw [hb] at hB
      have HB := Lib.hid hB
      clear h hs h0 hb hB hbd
      go_enter Try.func12, Try.ntmps12
      go_wp2_with (first | (go_at_call 15; (with_reducible refine (HC.out).mono ?_); rintro e w2 ⟨rfl, hb2⟩; obtain ⟨x, rfl⟩ : ∃ x : Ext w, w2 = x.w := ext_of (hb2.after (by (repeat (first | exact Ext.bel _ | exact Bel.refl | refine Bel.alloc ?_ _ | refine Bel.drew ?_ | refine Bel.drewN ?_ _)))); clear hb2) | (go_at_call 30; (with_reducible refine (HB.out _).mono ?_); rintro e w2 ⟨rfl, hb2⟩; obtain ⟨x, rfl⟩ : ∃ x : Ext w, w2 = x.w := ext_of (hb2.after (by (repeat (first | exact Ext.bel _ | exact Bel.refl | refine Bel.alloc ?_ _ | refine Bel.drew ?_ | refine Bel.drewN ?_ _)))); clear hb2))
      go_ret2
      exact ⟨by rw [HR.out]; rfl, x.bel⟩
    · have HR := Lib.hid (busyR_1 h0 hb)
      have HB := Lib.hid hB
      generalize busyM l = m at *
      have hd : (m == 0) = false := by simpa using hb
      clear h hs h0 hB
      go_enter Try.func12, Try.ntmps12
      go_wp2_with (first | (go_at_call 15; (with_reducible refine (HC.out).mono ?_); rintro e w2 ⟨rfl, hb2⟩; obtain ⟨x, rfl⟩ : ∃ x : Ext w, w2 = x.w := ext_of (hb2.after (by (repeat (first | exact Ext.bel _ | exact Bel.refl | refine Bel.alloc ?_ _ | refine Bel.drew ?_ | refine Bel.drewN ?_ _)))); clear hb2) | (go_at_call 30; (with_reducible refine (HB.out _).mono ?_); rintro e w2 ⟨rfl, hb2⟩; obtain ⟨x, rfl⟩ : ∃ x : Ext w, w2 = x.w := ext_of (hb2.after (by (repeat (first | exact Ext.bel _ | exact Bel.refl | refine Bel.alloc ?_ _ | refine Bel.drew ?_ | refine Bel.drewN ?_ _)))); clear hb2))
      go_ret2
      exact ⟨by rw [HR.out]; rfl, x.bel⟩
  · have HR := Lib.hid (busyR_no h0)
    replace HC := Lib.hid HC
    generalize rchk l = ck at *
    have hne : (ck == 0) = false := by simpa using h0
    clear h hs
    go_enter Try.func12, Try.ntmps12
    go_wp2_with (first | (go_at_call 15; (with_reducible refine (HC.out).mono ?_); rintro e w2 ⟨rfl, hb2⟩; obtain ⟨x, rfl⟩ : ∃ x : Ext w, w2 = x.w := ext_of (hb2.after (by (repeat (first | exact Ext.bel _ | exact Bel.refl | refine Bel.alloc ?_ _ | refine Bel.drew ?_ | refine Bel.drewN ?_ _)))); clear hb2))
    go_ret2
    exact ⟨by rw [HR.out]; rfl, x.bel⟩
end Go.Proofs.Ytbncnadjlppknaa
