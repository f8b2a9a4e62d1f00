import Derived.Test.YtcnjojhbcijdmaaPbey
import Derived.Test.YtcnjojhbcijdmaaPshow
import Derived.Test.YtcnjojhbcijdmaaPjudge
import Derived.Test.YtcnjojhbcijdmaaPwordr
import Derived.Test.YtcnjojhbcijdmaaPstc
import Derived.Test.YtcnjojhbcijdmaaPlate
import Derived.Deep.LoopGhost
namespace Go.Proofs.Ytcnjojhbcijdmaa
open Go.RowKit
theorem psAt_mem {l : List PS} {i : Nat} (h : i < l.length) : psAt l i ∈ l := by
  simp [psAt, List.getD, h]
theorem word_up {evs : Int} : ∀ (l : List PS) (a : Int), wordF evs a l = true → ∀ t ∈ l, t.at_ ≤ 1000000
  | [], _, _, t, h => by simp at h
  | s :: ss, a, h, t, ht => by
    by_cases hb : stampBad evs a s = true
    · rw [wordF_t hb] at h; cases h
    · have hb0 : stampBad evs a s = false := by simpa using hb
      rw [wordF_f hb0] at h
      rcases List.mem_cons.mp ht with rfl | ht
      · exact (stampBad_f hb0).2.1
      · exact word_up ss _ h t ht
theorem word_bd {evs : Int} {l : List PS} (h : wordF evs 0 l = true) {i : Nat} (hi : i < l.length) : 0 ≤ (psAt l i).at_ ∧ (psAt l i).at_ ≤ 1000000 :=
  ⟨word_ge l 0 h _ (psAt_mem hi), word_up l 0 h _ (psAt_mem hi)⟩
def LateTo (l : List PS) (k j : Nat) (L : List PS) : Prop := L.length = l.length ∧ ∀ i, i < l.length → psAt L i = if k ≤ i ∧ i < j then inc (psAt l i) else psAt l i
theorem LateTo.start {l : List PS} {k : Nat} : LateTo l k k l := ⟨rfl, fun i hi => by rw [if_neg (by omega)]⟩
theorem LateTo.cur {l L : List PS} {k j : Nat} (h : LateTo l k j L) (hj : j < l.length) : psAt L j = psAt l j := by
  rw [h.2 j hj, if_neg (by omega)]
theorem psAt_set {L : List PS} {j : Nat} (hj : j < L.length) (s : PS) (i : Nat) : psAt (L.set j s) i = if i = j then s else psAt L i := by
  by_cases h : i = j
  · subst h; simp [psAt, List.getD, hj]
  · simp [psAt, List.getD, h, Ne.symm h, List.getElem?_set]
theorem LateTo.step {l L : List PS} {k j : Nat} (h : LateTo l k j L) (hk : k ≤ j) (hj : j < l.length) : LateTo l k (j + 1) (L.set j (inc (psAt l j))) := by
  refine ⟨by simpa using h.1, fun i hi => ?_⟩
  rw [psAt_set (by rw [h.1]; exact hj)]
  by_cases hij : i = j
  · subst hij; rw [if_pos rfl, if_pos (by omega)]
  · rw [if_neg hij, h.2 i hi]
    by_cases hc : k ≤ i ∧ i < j
    · rw [if_pos hc, if_pos (by omega)]
    · rw [if_neg hc, if_neg (by omega)]
theorem LateTo.fin {l L : List PS} {k : Nat} (h : LateTo l k l.length L) : L = lateL l k := by
  apply List.ext_getElem
  · rw [h.1, lateL_len]
  · intro i h1 h2
    have hi : i < l.length := by rw [← h.1]; exact h1
    have e1 := h.2 i hi
    have e2 := lateL_at l k i hi
    have g1 : psAt L i = L[i] := by simp [psAt, List.getD, h1]
    have g2 : psAt (lateL l k) i = (lateL l k)[i] := by simp [psAt, List.getD, h2]
    rw [← g1, ← g2, e1, e2]
    by_cases hc : k ≤ i
    · rw [if_pos ⟨hc, hi⟩, if_pos hc]
    · rw [if_neg (by omega), if_neg hc]
theorem stCs_set : ∀ (L : List PS) (j : Nat) (a : Int), j < L.length → (stCs L).set (j * 2) (.int .i64 a) = stCs (L.set j ⟨a, (psAt L j).ev⟩)
  | [], _, _, h => by simp at h
  | s :: ss, 0, a, _ => by simp [stCs, stC, psAt]
  | s :: ss, j + 1, a, h => by
    have := stCs_set ss j a (by simpa using h)
    simp only [stCs, List.flatMap_cons] at this ⊢
    rw [show (j + 1) * 2 = (j * 2) + 1 + 1 by omega]
    simp only [stC, List.cons_append, List.nil_append, List.set_cons_succ, List.flatMap_cons]
    rw [this]
    rfl
set_option maxRecDepth 100000 in
set_option maxHeartbeats 8000000 in
theorem late_any (p : PP) (gv ev sv : Value) (l : List PS) (at_ : Int) (w : World) (h : PropAt w w.heap.size gv ev p) (hw : p.wf) (hl : StampsAt w w.heap.size sv l) (hlw : ∀ c ∈ l, c.wf) (hat : i64 at_) :
    Calls Try.prog 6 #[.agg #[.int .i64 p.evs, .int .i64 p.clks, .int .i64 p.ini, gv, ev], sv, .int .i64 at_] w fun e w' => e = .returned (.bool true) ∧ Bel w w' := by
  have hby := fun (W : World) (hW : Bel w W) => beyond_any p gv ev W (h.bel hW)
  by_cases hb : beyondM p = true
  · rw [hb] at hby
    have HBY := Lib.hid hby
    obtain ⟨A1, k1, rfl, hk1⟩ := h.g.form
    obtain ⟨A2, k2, rfl, hk2⟩ := h.e.form
    obtain ⟨A, c, rfl, hc⟩ := hl.form
    clear h hl hby hb
    go_enter Try.func6, Try.ntmps6
    go_upto_region 1 with (fail)
    (generalize hW : World.alloc _ _ = wb; have q0_0 := (congrArg (fun W : World => W.cell? ⟨w.heap.size, 0, none⟩) hW).symm; simp [go_sem] at q0_0; have q0_1 := (congrArg (fun W : World => W.cell? ⟨w.heap.size, 1, none⟩) hW).symm; simp [go_sem] at q0_1; have q0_2 := (congrArg (fun W : World => W.cell? ⟨w.heap.size, 2, none⟩) hW).symm; simp [go_sem] at q0_2; have q0_3 := (congrArg (fun W : World => W.cell? ⟨w.heap.size, 3, none⟩) hW).symm; simp [go_sem] at q0_3; have q0_4 := (congrArg (fun W : World => W.cell? ⟨w.heap.size, 4, none⟩) hW).symm; simp [go_sem] at q0_4; have qz0 : w.heap.size < wb.heap.size := (by rw [← hW]; simp [go_sem]; try omega); have HBW : Hid (Bel w wb) := Lib.hid (by rw [← hW]; (repeat (first | exact Ext.bel _ | exact Bel.refl | refine Bel.alloc ?_ _ | refine Bel.drew ?_ | refine Bel.drewN ?_ _))); clear hW; have hkw := HBW.out.cells)
    go_wp2_with (first | (go_at_call 7; (with_reducible refine (shown_any _).mono ?_); rintro e w2 ⟨rfl, hb2⟩; obtain ⟨x, rfl⟩ : ∃ x : Ext wb, w2 = x.w := ext_of hb2; clear hb2) | (go_at_call 8; (with_reducible refine (HBY.out _ (HBW.out.trans (by (repeat (first | exact Ext.bel _ | exact Bel.refl | refine Bel.alloc ?_ _ | refine Bel.drew ?_ | refine Bel.drewN ?_ _))))).mono ?_); rintro e w2 ⟨rfl, hb2⟩; obtain ⟨x, rfl⟩ : ∃ x : Ext wb, w2 = x.w := ext_of (hb2.after (by (repeat (first | exact Ext.bel _ | exact Bel.refl | refine Bel.alloc ?_ _ | refine Bel.drew ?_ | refine Bel.drewN ?_ _)))); clear hb2))
    go_ret
    exact ⟨rfl, HBW.out.trans x.bel⟩
  have hb0 : beyondM p = false := by simpa using hb
  rw [hb0] at hby
  have HBY := Lib.hid hby
  have hs := beyond_sized hb0 hw
  have hwd := fun (W : World) (hW : Bel w W) => rword_all p gv ev sv l W (h.bel hW) hs (hl.bel hW)
  clear hby hb hb0
  by_cases h0 : ¬ rpword p l = 0
  · have HWD := Lib.hid hwd
    clear hwd
    generalize rpword p l = wk at *
    have hne : (wk == 0) = false := by simpa using h0
    obtain ⟨A1, k1, rfl, hk1⟩ := h.g.form
    obtain ⟨A2, k2, rfl, hk2⟩ := h.e.form
    obtain ⟨A, c, rfl, hc⟩ := hl.form
    clear h hl hs
    go_enter Try.func6, Try.ntmps6
    go_upto_region 1 with (fail)
    (generalize hW : World.alloc _ _ = wb; have q0_0 := (congrArg (fun W : World => W.cell? ⟨w.heap.size, 0, none⟩) hW).symm; simp [go_sem] at q0_0; have q0_1 := (congrArg (fun W : World => W.cell? ⟨w.heap.size, 1, none⟩) hW).symm; simp [go_sem] at q0_1; have q0_2 := (congrArg (fun W : World => W.cell? ⟨w.heap.size, 2, none⟩) hW).symm; simp [go_sem] at q0_2; have q0_3 := (congrArg (fun W : World => W.cell? ⟨w.heap.size, 3, none⟩) hW).symm; simp [go_sem] at q0_3; have q0_4 := (congrArg (fun W : World => W.cell? ⟨w.heap.size, 4, none⟩) hW).symm; simp [go_sem] at q0_4; have qz0 : w.heap.size < wb.heap.size := (by rw [← hW]; simp [go_sem]; try omega); have HBW : Hid (Bel w wb) := Lib.hid (by rw [← hW]; (repeat (first | exact Ext.bel _ | exact Bel.refl | refine Bel.alloc ?_ _ | refine Bel.drew ?_ | refine Bel.drewN ?_ _))); clear hW; have hkw := HBW.out.cells)
    go_wp2_with (first | (go_at_call 7; (with_reducible refine (shown_any _).mono ?_); rintro e w2 ⟨rfl, hb2⟩; obtain ⟨x, rfl⟩ : ∃ x : Ext wb, w2 = x.w := ext_of hb2; clear hb2) | (go_at_call 8; (with_reducible refine (HBY.out _ (HBW.out.trans (by (repeat (first | exact Ext.bel _ | exact Bel.refl | refine Bel.alloc ?_ _ | refine Bel.drew ?_ | refine Bel.drewN ?_ _))))).mono ?_); rintro e w2 ⟨rfl, hb2⟩; obtain ⟨x, rfl⟩ : ∃ x : Ext wb, w2 = x.w := ext_of (hb2.after (by (repeat (first | exact Ext.bel _ | exact Bel.refl | refine Bel.alloc ?_ _ | refine Bel.drew ?_ | refine Bel.drewN ?_ _)))); clear hb2) | (go_at_call 14; (with_reducible refine (HWD.out _ (HBW.out.trans (by (repeat (first | exact Ext.bel _ | exact Bel.refl | refine Bel.alloc ?_ _ | refine Bel.drew ?_ | refine Bel.drewN ?_ _))))).mono ?_); rintro e w2 ⟨rfl, hb2⟩; obtain ⟨x, rfl⟩ : ∃ x : Ext wb, w2 = x.w := ext_of (hb2.after (by (repeat (first | exact Ext.bel _ | exact Bel.refl | refine Bel.alloc ?_ _ | refine Bel.drew ?_ | refine Bel.drewN ?_ _)))); clear hb2))
    go_ret
    exact ⟨rfl, HBW.out.trans x.bel⟩
  have h0' : rpword p l = 0 := by simpa using h0
  rw [h0'] at hwd
  have HWD := Lib.hid hwd
  clear hwd h0
  by_cases hn : at_ < 0
  · have hd1 : decide (at_ < 0) = true := by simpa using hn
    obtain ⟨A1, k1, rfl, hk1⟩ := h.g.form
    obtain ⟨A2, k2, rfl, hk2⟩ := h.e.form
    obtain ⟨A, c, rfl, hc⟩ := hl.form
    clear h hl hs hn
    go_enter Try.func6, Try.ntmps6
    go_upto_region 1 with (fail)
    (generalize hW : World.alloc _ _ = wb; have q0_0 := (congrArg (fun W : World => W.cell? ⟨w.heap.size, 0, none⟩) hW).symm; simp [go_sem] at q0_0; have q0_1 := (congrArg (fun W : World => W.cell? ⟨w.heap.size, 1, none⟩) hW).symm; simp [go_sem] at q0_1; have q0_2 := (congrArg (fun W : World => W.cell? ⟨w.heap.size, 2, none⟩) hW).symm; simp [go_sem] at q0_2; have q0_3 := (congrArg (fun W : World => W.cell? ⟨w.heap.size, 3, none⟩) hW).symm; simp [go_sem] at q0_3; have q0_4 := (congrArg (fun W : World => W.cell? ⟨w.heap.size, 4, none⟩) hW).symm; simp [go_sem] at q0_4; have qz0 : w.heap.size < wb.heap.size := (by rw [← hW]; simp [go_sem]; try omega); have HBW : Hid (Bel w wb) := Lib.hid (by rw [← hW]; (repeat (first | exact Ext.bel _ | exact Bel.refl | refine Bel.alloc ?_ _ | refine Bel.drew ?_ | refine Bel.drewN ?_ _))); clear hW; have hkw := HBW.out.cells)
    go_wp2_with (first | (go_at_call 7; (with_reducible refine (shown_any _).mono ?_); rintro e w2 ⟨rfl, hb2⟩; obtain ⟨x, rfl⟩ : ∃ x : Ext wb, w2 = x.w := ext_of hb2; clear hb2) | (go_at_call 8; (with_reducible refine (HBY.out _ (HBW.out.trans (by (repeat (first | exact Ext.bel _ | exact Bel.refl | refine Bel.alloc ?_ _ | refine Bel.drew ?_ | refine Bel.drewN ?_ _))))).mono ?_); rintro e w2 ⟨rfl, hb2⟩; obtain ⟨x, rfl⟩ : ∃ x : Ext wb, w2 = x.w := ext_of (hb2.after (by (repeat (first | exact Ext.bel _ | exact Bel.refl | refine Bel.alloc ?_ _ | refine Bel.drew ?_ | refine Bel.drewN ?_ _)))); clear hb2) | (go_at_call 14; (with_reducible refine (HWD.out _ (HBW.out.trans (by (repeat (first | exact Ext.bel _ | exact Bel.refl | refine Bel.alloc ?_ _ | refine Bel.drew ?_ | refine Bel.drewN ?_ _))))).mono ?_); rintro e w2 ⟨rfl, hb2⟩; obtain ⟨x, rfl⟩ : ∃ x : Ext wb, w2 = x.w := ext_of (hb2.after (by (repeat (first | exact Ext.bel _ | exact Bel.refl | refine Bel.alloc ?_ _ | refine Bel.drew ?_ | refine Bel.drewN ?_ _)))); clear hb2))
    go_ret
    exact ⟨rfl, HBW.out.trans x.bel⟩
  have hd1 : decide (at_ < 0) = false := by simpa using hn
  by_cases hn2 : (l.length : Int) ≤ at_
  · have hd2 : decide ((l.length : Int) ≤ at_) = true := by simpa using hn2
    obtain ⟨A1, k1, rfl, hk1⟩ := h.g.form
    obtain ⟨A2, k2, rfl, hk2⟩ := h.e.form
    obtain ⟨A, c, rfl, hc⟩ := hl.form
    clear h hl hs hn2
    go_enter Try.func6, Try.ntmps6
    go_upto_region 1 with (fail)
    (generalize hW : World.alloc _ _ = wb; have q0_0 := (congrArg (fun W : World => W.cell? ⟨w.heap.size, 0, none⟩) hW).symm; simp [go_sem] at q0_0; have q0_1 := (congrArg (fun W : World => W.cell? ⟨w.heap.size, 1, none⟩) hW).symm; simp [go_sem] at q0_1; have q0_2 := (congrArg (fun W : World => W.cell? ⟨w.heap.size, 2, none⟩) hW).symm; simp [go_sem] at q0_2; have q0_3 := (congrArg (fun W : World => W.cell? ⟨w.heap.size, 3, none⟩) hW).symm; simp [go_sem] at q0_3; have q0_4 := (congrArg (fun W : World => W.cell? ⟨w.heap.size, 4, none⟩) hW).symm; simp [go_sem] at q0_4; have qz0 : w.heap.size < wb.heap.size := (by rw [← hW]; simp [go_sem]; try omega); have HBW : Hid (Bel w wb) := Lib.hid (by rw [← hW]; (repeat (first | exact Ext.bel _ | exact Bel.refl | refine Bel.alloc ?_ _ | refine Bel.drew ?_ | refine Bel.drewN ?_ _))); clear hW; have hkw := HBW.out.cells)
    go_wp2_with (first | (go_at_call 7; (with_reducible refine (shown_any _).mono ?_); rintro e w2 ⟨rfl, hb2⟩; obtain ⟨x, rfl⟩ : ∃ x : Ext wb, w2 = x.w := ext_of hb2; clear hb2) | (go_at_call 8; (with_reducible refine (HBY.out _ (HBW.out.trans (by (repeat (first | exact Ext.bel _ | exact Bel.refl | refine Bel.alloc ?_ _ | refine Bel.drew ?_ | refine Bel.drewN ?_ _))))).mono ?_); rintro e w2 ⟨rfl, hb2⟩; obtain ⟨x, rfl⟩ : ∃ x : Ext wb, w2 = x.w := ext_of (hb2.after (by (repeat (first | exact Ext.bel _ | exact Bel.refl | refine Bel.alloc ?_ _ | refine Bel.drew ?_ | refine Bel.drewN ?_ _)))); clear hb2) | (go_at_call 14; (with_reducible refine (HWD.out _ (HBW.out.trans (by (repeat (first | exact Ext.bel _ | exact Bel.refl | refine Bel.alloc ?_ _ | refine Bel.drew ?_ | refine Bel.drewN ?_ _))))).mono ?_); rintro e w2 ⟨rfl, hb2⟩; obtain ⟨x, rfl⟩ : ∃ x : Ext wb, w2 = x.w := ext_of (hb2.after (by (repeat (first | exact Ext.bel _ | exact Bel.refl | refine Bel.alloc ?_ _ | refine Bel.drew ?_ | refine Bel.drewN ?_ _)))); clear hb2))
    go_ret
    exact ⟨rfl, HBW.out.trans x.bel⟩
  have hd2 : decide ((l.length : Int) ≤ at_) = false := by simpa using hn2
  obtain ⟨k, rfl⟩ : ∃ k : Nat, at_ = (k : Int) := ⟨at_.toNat, by omega⟩
  have hk : k < l.length := by omega
  have hd2' : decide (l.length ≤ k) = false := by simp; omega
  clear hn hn2 hd1 hd2
  obtain ⟨hck, hlen, hwf⟩ := rpword_ok h0'
  have hbd := fun (i : Nat) (hi : i < l.length) => word_bd hwf hi
  have HBD := Lib.hid hbd
  have HP := Lib.hid h
  have HSZ := Lib.hid hs
  have HL := Lib.hid hl
  obtain ⟨A1, k1, rfl, hk1⟩ := h.g.form
  obtain ⟨A2, k2, rfl, hk2⟩ := h.e.form
  obtain ⟨A, c, rfl, hc⟩ := hl.form
  obtain ⟨b, off, rfl, hbl, hcs⟩ := hl.at_ (by omega)
  have cl0 := (hcs (l.length - 1) (by omega)).c0
  have ck0 := (hcs k hk).c0
  have ⟨ma0, ma1⟩ := hbd (l.length - 1) (by omega)
  have ⟨mk0, mk1⟩ := hbd k hk
  have hll : ((l.length : Nat) : Int) - 1 = ((l.length - 1 : Nat) : Int) := by omega
  have cp0 : ∀ j, k = j + 1 → w.cell? ⟨b, off + j * 2, none⟩ = some (.int .i64 (psAt l j).at_) := fun j hj => (hcs j (by omega)).c0
  have mp0 : ∀ j, k = j + 1 → 0 ≤ (psAt l j).at_ ∧ (psAt l j).at_ ≤ 1000000 := fun j hj => hbd j (by omega)
  have HLAW := Lib.hid (fun hd hm => late_law (k := k) h0' hk hd hm)
  clear h hl hs hcs hbd hwf hck h0'
  go_enter Try.func6, Try.ntmps6
  go_upto_region 1 with (fail)
  (generalize hW : World.alloc _ _ = wb; have q0_0 := (congrArg (fun W : World => W.cell? ⟨w.heap.size, 0, none⟩) hW).symm; simp [go_sem] at q0_0; have q0_1 := (congrArg (fun W : World => W.cell? ⟨w.heap.size, 1, none⟩) hW).symm; simp [go_sem] at q0_1; have q0_2 := (congrArg (fun W : World => W.cell? ⟨w.heap.size, 2, none⟩) hW).symm; simp [go_sem] at q0_2; have q0_3 := (congrArg (fun W : World => W.cell? ⟨w.heap.size, 3, none⟩) hW).symm; simp [go_sem] at q0_3; have q0_4 := (congrArg (fun W : World => W.cell? ⟨w.heap.size, 4, none⟩) hW).symm; simp [go_sem] at q0_4; have qz0 : w.heap.size < wb.heap.size := (by rw [← hW]; simp [go_sem]; try omega); have HBW : Hid (Bel w wb) := Lib.hid (by rw [← hW]; (repeat (first | exact Ext.bel _ | exact Bel.refl | refine Bel.alloc ?_ _ | refine Bel.drew ?_ | refine Bel.drewN ?_ _))); clear hW; have hkw := HBW.out.cells)
  have hbw : b < wb.heap.size := Nat.lt_of_lt_of_le hbl HBW.out.le
  go_upto_region 5 with (first | (go_at_call 7; (with_reducible refine (shown_any _).mono ?_); rintro e w2 ⟨rfl, hb2⟩; obtain ⟨x, rfl⟩ : ∃ x : Ext wb, w2 = x.w := ext_of hb2; clear hb2) | (go_at_call 8; (with_reducible refine (HBY.out _ (HBW.out.trans (by (repeat (first | exact Ext.bel _ | exact Bel.refl | refine Bel.alloc ?_ _ | refine Bel.drew ?_ | refine Bel.drewN ?_ _))))).mono ?_); rintro e w2 ⟨rfl, hb2⟩; obtain ⟨x, rfl⟩ : ∃ x : Ext wb, w2 = x.w := ext_of (hb2.after (by (repeat (first | exact Ext.bel _ | exact Bel.refl | refine Bel.alloc ?_ _ | refine Bel.drew ?_ | refine Bel.drewN ?_ _)))); clear hb2) | (go_at_call 14; (with_reducible refine (HWD.out _ (HBW.out.trans (by (repeat (first | exact Ext.bel _ | exact Bel.refl | refine Bel.alloc ?_ _ | refine Bel.drew ?_ | refine Bel.drewN ?_ _))))).mono ?_); rintro e w2 ⟨rfl, hb2⟩; obtain ⟨x, rfl⟩ : ∃ x : Ext wb, w2 = x.w := ext_of (hb2.after (by (repeat (first | exact Ext.bel _ | exact Bel.refl | refine Bel.alloc ?_ _ | refine Bel.drew ?_ | refine Bel.drewN ?_ _)))); clear hb2))
  have hwl : IntKind.i64.wrap ((l.length : Int) - 1) = ((l.length - 1 : Nat) : Int) := by rw [hll]; exact IntWalk.i64_in _ (by omega)
  by_cases hk0 : k = 0
  · have hd5 : decide (0 < (k : Int)) = false := by simp; omega
    have hd5' : decide (0 < k) = false := by simp; omega
    have HK0 := Lib.hid hk0
    have hwr : IntKind.i64.wrap (psAt l k).at_ = (psAt l k).at_ := IntWalk.i64_in _ (by omega)
    clear cp0 hk0 mp0
    go_upto_region 8 with (fail)
    by_cases ht1 : (psAt l k).at_ ≤ 30
    · have hd3 : decide ((psAt l k).at_ ≤ 30) = true := by simpa using ht1
      clear ht1 HLAW
      go_wp2
      go_ret
      exact ⟨rfl, HBW.out.trans x.bel⟩
    have hd3 : decide ((psAt l k).at_ ≤ 30) = false := by simpa using ht1
    by_cases ht2 : 1000000 ≤ (psAt l (l.length - 1)).at_
    · have hd4 : decide (1000000 ≤ (psAt l (l.length - 1)).at_) = true := by simpa using ht2
      clear ht1 ht2 HLAW
      go_wp2
      go_ret
      exact ⟨rfl, HBW.out.trans x.bel⟩
    have hd4 : decide (1000000 ≤ (psAt l (l.length - 1)).at_) = false := by simpa using ht2
    obtain ⟨law1, law2⟩ := HLAW.out (by rw [if_pos HK0.out]; omega) (by omega)
    have HE1 := Lib.hid law1
    have HE2 := Lib.hid law2
    clear law1 law2 HLAW ht1 ht2
    go_upto_region 10 with (fail)
    have HB5 := Lib.hid (HBW.out.trans x.bel)
    have hbx : Bel wb x.w := x.bel
    generalize hx5 : x.w = w5 at *
    have ho0 := World.ownsRow_made w5 #[] 0 (base := w5.heap.size) (e := 39) (size := 2) (by omega) (by unfold maxLen; omega) (by simp)
    obtain ⟨v1, w6, hap1, ho1, hg1⟩ := append_stamps ho0 HL.out (HB5.out.alloc _) (by omega) (by simp [go_sem])
    have hb6 : Bel w5 w6 := bel_grown (Bel.refl.alloc _) ho0 hg1
    simp only [Nat.zero_add, List.nil_append] at ho1
    obtain ⟨g, cap, hv1, hcap⟩ : ∃ g cap, v1 = .slice (some ⟨g, 0, none⟩) l.length cap ∧ l.length ≤ cap := by
      rcases ho1.2 with ⟨_, h0⟩ | ⟨g, cap, cur, e1, _, _, e2, _⟩
      · omega
      · exact ⟨g, cap, e1, e2⟩
    subst hv1
    have hgl := (ho1.lt g rfl).1

    have HQ := Lib.hid (⟨qz0, q0_0, q0_1, q0_2, q0_3, q0_4⟩ : _ ∧ _ ∧ _ ∧ _ ∧ _ ∧ _)
    have HBX := Lib.hid hbx
    have HA1 := Lib.hid hap1
    have HO := Lib.hid ho1
    have HG := Lib.hid hb6
    clear ho0 ho1 hg1 hbx hx5 hap1 hb6
    go_upto_region 11 with (at_builtin; refine wpList_append_run rfl _ _ _ rfl _ _ _ rfl rfl HA1.out ?_)
    clear HA1 q0_0 q0_1 q0_2 q0_3 q0_4 qz0 hkw HBW HBY HWD
    go_wp2
    obtain ⟨z0, rfl⟩ := ext_of HG.out
    clear HG
    go_loopg [9] (l.length - k) (fun gk s9 wr => ∃ (i : Nat) (L : List PS) (z : Ext w5), i + gk = l.length ∧ k ≤ i ∧ s9 = .int .i64 i ∧ wr = z.w ∧ z.w.ownsRow w5.heap.size 39 2 (.slice (some ⟨g, 0, none⟩) l.length cap) l.length (stCs L) ∧ LateTo l k i L)
    case atStart => exact ⟨k, l, z0, by omega, by omega, rfl, rfl, HO.out, LateTo.start⟩
    case round =>
      clear HO z0
      obtain ⟨i, L, z, hi, hki, rfl, rfl, ho, hL⟩ := hrel
      by_cases hlj : i < l.length
      · have hdl : decide ((i : Int) < (l.length : Int)) = true := by simp; omega
        have hdl' : decide (i < l.length) = true := by simp; omega
        have hc0 := ho.cellAt (i * 2) (by omega)
        have hat := stCs_at L i 0 (by rw [hL.1]; exact hlj) (by omega)
        rw [Nat.add_zero] at hat
        rw [hat, hL.cur hlj] at hc0
        replace hc0 : z.w.cell? ⟨g, i * 2, none⟩ = some (.int .i64 (psAt l i).at_) := hc0
        have hfz := ho.frozenAt (i * 2)
        obtain ⟨m0, m1⟩ := HBD.out i hlj
        have hw1 : IntKind.i64.wrap ((psAt l i).at_ + 1) = (psAt l i).at_ + 1 := IntWalk.i64_in _ (by omega)
        have hst := ho.stored (i * 2) (.int .i64 ((psAt l i).at_ + 1))
        rw [stCs_set L i _ (by rw [hL.1]; exact hlj), hL.cur hlj] at hst
        have HST := Lib.hid hst
        have HBZ := Lib.hid (bel_grown z.bel ho hst.2)
        have HL2 := Lib.hid (hL.step hki hlj)
        clear ho hL hst hat
        generalize z.w = wz at *
        go_wp2
        go_roundg (gk - 1)
        case measure => omega
        case rel =>
          obtain ⟨z2, hz2⟩ := ext_of HBZ.out
          exact ⟨i + 1, _, z2, by omega, by omega, by go_num, hz2, by rw [← hz2]; exact HST.out.1, HL2.out⟩
      · obtain rfl : i = l.length := by omega
        have hdl : decide ((l.length : Int) < (l.length : Int)) = false := by simp
        have hdl' : decide (l.length < l.length) = false := by simp
        have hLe := hL.fin
        subst hLe
        have hst := StampsAt.of_own (l := lateL l k) (n := l.length) (lateL_len l k).symm ho
        obtain ⟨qz0, q0_0, q0_1, q0_2, q0_3, q0_4⟩ := HQ.out
        have hq := (HBX.out.trans z.bel).cells
        have g0 := (hq _ _ qz0).trans q0_0
        have g1 := (hq _ _ qz0).trans q0_1
        have g2 := (hq _ _ qz0).trans q0_2
        have g3 := (hq _ _ qz0).trans q0_3
        have g4 := (hq _ _ qz0).trans q0_4
        have gz := Nat.lt_of_lt_of_le qz0 (HBX.out.trans z.bel).le
        have hB := HB5.out.trans z.bel
        have hJ1 := fun (W : World) (hW : Bel z.w W) => pjudge_any p _ _ _ l W (HP.out.bel (hB.trans hW)) HSZ.out (HL.out.bel (hB.trans hW)) (by omega)
        have hJ2 := fun (W : World) (hW : Bel z.w W) => pjudge_any p _ _ _ (lateL l k) W (HP.out.bel (hB.trans hW)) HSZ.out (hst.bel hW) (by rw [lateL_len]; omega)
        rw [HE1.out] at hJ2
        rw [HE2.out] at hJ1 hJ2
        generalize (judgeM p l).1 = ja at *
        generalize (judgeM p l).2.1 = ji at *
        have HJ1 := Lib.hid hJ1
        have HJ2 := Lib.hid hJ2
        have HB7 := Lib.hid hB
        clear hJ1 hJ2 hB hst ho hL hq qz0 q0_0 q0_1 q0_2 q0_3 q0_4 HQ HBX HE1 HE2 HB5 HP HL HSZ
        generalize z.w = w7 at *
        go_wp2_with (first | (go_at_call 9; (with_reducible refine (HJ1.out _ (by (repeat (first | exact Ext.bel _ | exact Bel.refl | refine Bel.alloc ?_ _ | refine Bel.drew ?_ | refine Bel.drewN ?_ _)))).mono ?_); rintro e w2 ⟨rfl, hb2⟩; obtain ⟨x, rfl⟩ : ∃ x : Ext w7, w2 = x.w := ext_of (hb2.after (by (repeat (first | exact Ext.bel _ | exact Bel.refl | refine Bel.alloc ?_ _ | refine Bel.drew ?_ | refine Bel.drewN ?_ _)))); clear hb2) | (go_at_call 9; (with_reducible refine (HJ2.out _ (by (repeat (first | exact Ext.bel _ | exact Bel.refl | refine Bel.alloc ?_ _ | refine Bel.drew ?_ | refine Bel.drewN ?_ _)))).mono ?_); rintro e w2 ⟨rfl, hb2⟩; obtain ⟨x, rfl⟩ : ∃ x : Ext w7, w2 = x.w := ext_of (hb2.after (by (repeat (first | exact Ext.bel _ | exact Bel.refl | refine Bel.alloc ?_ _ | refine Bel.drew ?_ | refine Bel.drewN ?_ _)))); clear hb2))
        go_ret
        exact ⟨rfl, HB7.out.trans x.bel⟩
  · obtain ⟨j, hj⟩ : ∃ j, k = j + 1 := ⟨k - 1, by omega⟩
    have hd5 : decide (0 < (k : Int)) = true := by simp; omega
    have hd5' : decide (0 < k) = true := by simp; omega
    have hc1 := cp0 j hj
    have hkj : (k : Int) - 1 = (j : Int) := by omega
    have hwj : IntKind.i64.wrap ((k : Int) - 1) = (j : Int) := by rw [hkj]; exact IntWalk.i64_in _ (by omega)
    have hwl : IntKind.i64.wrap ((l.length : Int) - 1) = ((l.length - 1 : Nat) : Int) := by rw [hll]; exact IntWalk.i64_in _ (by omega)
    have HK0 := Lib.hid hk0
    have HJ := Lib.hid hj
    obtain ⟨mj0, mj1⟩ := mp0 j hj
    have hwr : IntKind.i64.wrap ((psAt l k).at_ - (psAt l j).at_) = (psAt l k).at_ - (psAt l j).at_ := IntWalk.i64_in _ (by omega)
    clear cp0 hk0 hj mp0
    go_upto_region 8 with (fail)
    by_cases ht1 : (psAt l k).at_ - (psAt l j).at_ ≤ 30
    · have hd3 : decide ((psAt l k).at_ - (psAt l j).at_ ≤ 30) = true := by simpa using ht1
      clear ht1 HLAW
      go_wp2
      go_ret
      exact ⟨rfl, HBW.out.trans x.bel⟩
    have hd3 : decide ((psAt l k).at_ - (psAt l j).at_ ≤ 30) = false := by simpa using ht1
    by_cases ht2 : 1000000 ≤ (psAt l (l.length - 1)).at_
    · have hd4 : decide (1000000 ≤ (psAt l (l.length - 1)).at_) = true := by simpa using ht2
      clear ht1 ht2 HLAW
      go_wp2
      go_ret
      exact ⟨rfl, HBW.out.trans x.bel⟩
    have hd4 : decide (1000000 ≤ (psAt l (l.length - 1)).at_) = false := by simpa using ht2
    obtain ⟨law1, law2⟩ := HLAW.out (by have e : k - 1 = j := (by have := HJ.out; omega); rw [if_neg HK0.out, e]; omega) (by omega)
    have HE1 := Lib.hid law1
    have HE2 := Lib.hid law2
    clear law1 law2 HLAW ht1 ht2
    go_upto_region 10 with (fail)
    have HB5 := Lib.hid (HBW.out.trans x.bel)
    have hbx : Bel wb x.w := x.bel
    generalize hx5 : x.w = w5 at *
    have ho0 := World.ownsRow_made w5 #[] 0 (base := w5.heap.size) (e := 39) (size := 2) (by omega) (by unfold maxLen; omega) (by simp)
    obtain ⟨v1, w6, hap1, ho1, hg1⟩ := append_stamps ho0 HL.out (HB5.out.alloc _) (by omega) (by simp [go_sem])
    have hb6 : Bel w5 w6 := bel_grown (Bel.refl.alloc _) ho0 hg1
    simp only [Nat.zero_add, List.nil_append] at ho1
    obtain ⟨g, cap, hv1, hcap⟩ : ∃ g cap, v1 = .slice (some ⟨g, 0, none⟩) l.length cap ∧ l.length ≤ cap := by
      rcases ho1.2 with ⟨_, h0⟩ | ⟨g, cap, cur, e1, _, _, e2, _⟩
      · omega
      · exact ⟨g, cap, e1, e2⟩
    subst hv1
    have hgl := (ho1.lt g rfl).1

    have HQ := Lib.hid (⟨qz0, q0_0, q0_1, q0_2, q0_3, q0_4⟩ : _ ∧ _ ∧ _ ∧ _ ∧ _ ∧ _)
    have HBX := Lib.hid hbx
    have HA1 := Lib.hid hap1
    have HO := Lib.hid ho1
    have HG := Lib.hid hb6
    clear ho0 ho1 hg1 hbx hx5 hap1 hb6
    go_upto_region 11 with (at_builtin; refine wpList_append_run rfl _ _ _ rfl _ _ _ rfl rfl HA1.out ?_)
    clear HA1 q0_0 q0_1 q0_2 q0_3 q0_4 qz0 hkw HBW HBY HWD
    go_wp2
    obtain ⟨z0, rfl⟩ := ext_of HG.out
    clear HG
    go_loopg [9] (l.length - k) (fun gk s9 wr => ∃ (i : Nat) (L : List PS) (z : Ext w5), i + gk = l.length ∧ k ≤ i ∧ s9 = .int .i64 i ∧ wr = z.w ∧ z.w.ownsRow w5.heap.size 39 2 (.slice (some ⟨g, 0, none⟩) l.length cap) l.length (stCs L) ∧ LateTo l k i L)
    case atStart => exact ⟨k, l, z0, by omega, by omega, rfl, rfl, HO.out, LateTo.start⟩
    case round =>
      clear HO z0
      obtain ⟨i, L, z, hi, hki, rfl, rfl, ho, hL⟩ := hrel
      by_cases hlj : i < l.length
      · have hdl : decide ((i : Int) < (l.length : Int)) = true := by simp; omega
        have hdl' : decide (i < l.length) = true := by simp; omega
        have hc0 := ho.cellAt (i * 2) (by omega)
        have hat := stCs_at L i 0 (by rw [hL.1]; exact hlj) (by omega)
        rw [Nat.add_zero] at hat
        rw [hat, hL.cur hlj] at hc0
        replace hc0 : z.w.cell? ⟨g, i * 2, none⟩ = some (.int .i64 (psAt l i).at_) := hc0
        have hfz := ho.frozenAt (i * 2)
        obtain ⟨m0, m1⟩ := HBD.out i hlj
        have hw1 : IntKind.i64.wrap ((psAt l i).at_ + 1) = (psAt l i).at_ + 1 := IntWalk.i64_in _ (by omega)
        have hst := ho.stored (i * 2) (.int .i64 ((psAt l i).at_ + 1))
        rw [stCs_set L i _ (by rw [hL.1]; exact hlj), hL.cur hlj] at hst
        have HST := Lib.hid hst
        have HBZ := Lib.hid (bel_grown z.bel ho hst.2)
        have HL2 := Lib.hid (hL.step hki hlj)
        clear ho hL hst hat
        generalize z.w = wz at *
        go_wp2
        go_roundg (gk - 1)
        case measure => omega
        case rel =>
          obtain ⟨z2, hz2⟩ := ext_of HBZ.out
          exact ⟨i + 1, _, z2, by omega, by omega, by go_num, hz2, by rw [← hz2]; exact HST.out.1, HL2.out⟩
      · obtain rfl : i = l.length := by omega
        have hdl : decide ((l.length : Int) < (l.length : Int)) = false := by simp
        have hdl' : decide (l.length < l.length) = false := by simp
        have hLe := hL.fin
        subst hLe
        have hst := StampsAt.of_own (l := lateL l k) (n := l.length) (lateL_len l k).symm ho
        obtain ⟨qz0, q0_0, q0_1, q0_2, q0_3, q0_4⟩ := HQ.out
        have hq := (HBX.out.trans z.bel).cells
        have g0 := (hq _ _ qz0).trans q0_0
        have g1 := (hq _ _ qz0).trans q0_1
        have g2 := (hq _ _ qz0).trans q0_2
        have g3 := (hq _ _ qz0).trans q0_3
        have g4 := (hq _ _ qz0).trans q0_4
        have gz := Nat.lt_of_lt_of_le qz0 (HBX.out.trans z.bel).le
        have hB := HB5.out.trans z.bel
        have hJ1 := fun (W : World) (hW : Bel z.w W) => pjudge_any p _ _ _ l W (HP.out.bel (hB.trans hW)) HSZ.out (HL.out.bel (hB.trans hW)) (by omega)
        have hJ2 := fun (W : World) (hW : Bel z.w W) => pjudge_any p _ _ _ (lateL l k) W (HP.out.bel (hB.trans hW)) HSZ.out (hst.bel hW) (by rw [lateL_len]; omega)
        rw [HE1.out] at hJ2
        rw [HE2.out] at hJ1 hJ2
        generalize (judgeM p l).1 = ja at *
        generalize (judgeM p l).2.1 = ji at *
        have HJ1 := Lib.hid hJ1
        have HJ2 := Lib.hid hJ2
        have HB7 := Lib.hid hB
        clear hJ1 hJ2 hB hst ho hL hq qz0 q0_0 q0_1 q0_2 q0_3 q0_4 HQ HBX HE1 HE2 HB5 HP HL HSZ
        generalize z.w = w7 at *
        go_wp2_with (first | (go_at_call 9; (with_reducible refine (HJ1.out _ (by (repeat (first | exact Ext.bel _ | exact Bel.refl | refine Bel.alloc ?_ _ | refine Bel.drew ?_ | refine Bel.drewN ?_ _)))).mono ?_); rintro e w2 ⟨rfl, hb2⟩; obtain ⟨x, rfl⟩ : ∃ x : Ext w7, w2 = x.w := ext_of (hb2.after (by (repeat (first | exact Ext.bel _ | exact Bel.refl | refine Bel.alloc ?_ _ | refine Bel.drew ?_ | refine Bel.drewN ?_ _)))); clear hb2) | (go_at_call 9; (with_reducible refine (HJ2.out _ (by (repeat (first | exact Ext.bel _ | exact Bel.refl | refine Bel.alloc ?_ _ | refine Bel.drew ?_ | refine Bel.drewN ?_ _)))).mono ?_); rintro e w2 ⟨rfl, hb2⟩; obtain ⟨x, rfl⟩ : ∃ x : Ext w7, w2 = x.w := ext_of (hb2.after (by (repeat (first | exact Ext.bel _ | exact Bel.refl | refine Bel.alloc ?_ _ | refine Bel.drew ?_ | refine Bel.drewN ?_ _)))); clear hb2))
        go_ret
        exact ⟨rfl, HB7.out.trans x.bel⟩
end Go.Proofs.Ytcnjojhbcijdmaa
