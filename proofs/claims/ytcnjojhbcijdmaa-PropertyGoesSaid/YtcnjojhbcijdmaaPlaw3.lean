import Derived.Test.YtcnjojhbcijdmaaPlaw2
import Derived.Test.YtcnjojhbcijdmaaPgoes
import Derived.Test.YtcnjojhbcijdmaaAppend
namespace Go.Proofs.Ytcnjojhbcijdmaa
open Go.RowKit
def stC (s : PS) : List Value := [.int .i64 s.at_, .int .i64 s.ev]
def stCs (l : List PS) : List Value := l.flatMap stC
theorem stCs_len (l : List PS) : (stCs l).length = l.length * 2 := by
  induction l with
  | nil => rfl
  | cons y L ih => simp only [stCs, List.flatMap_cons, List.length_append, List.length_cons] at ih ⊢; rw [ih]; simp [stC]; omega
theorem stCs_app (l m : List PS) : stCs (l ++ m) = stCs l ++ stCs m := by simp [stCs]
theorem stCs_at : ∀ (l : List PS) (i j : Nat), i < l.length → j < 2 → (stCs l)[i * 2 + j]? = (stC (psAt l i))[j]?
  | [], i, j, h, _ => by simp at h
  | s :: ss, 0, j, _, hj => by
    show (stC s ++ stCs ss)[0 * 2 + j]? = _
    rw [List.getElem?_append_left (by simp [stC]; omega)]; simp [psAt]
  | s :: ss, i + 1, j, h, hj => by
    show (stC s ++ stCs ss)[(i + 1) * 2 + j]? = _
    rw [List.getElem?_append_right (by simp [stC]; omega)]
    have := stCs_at ss i j (by simpa using h) hj
    rw [show (i + 1) * 2 + j - (stC s).length = i * 2 + j by simp [stC]; omega, this]
    simp [psAt]
theorem stCs_one (l : List PS) : ∀ u ∈ stCs l, u.oneCell' = true := fun u hu => by
  simp only [stCs, List.mem_flatMap] at hu
  obtain ⟨s, _, hs⟩ := hu
  simp [stC] at hs
  rcases hs with rfl | rfl <;> rfl
theorem addOf (b off k : Nat) : (⟨b, off, none⟩ : Addr).add k = ⟨b, off + k, none⟩ := by
  unfold Addr.add; split
  · subst_vars; rfl
  · rfl
theorem stamps_src {w w' : World} {l : List PS} {A : Option Addr} {n c : Nat} (h : StampsAt w w.heap.size (.slice A n c) l) (hb : Bel w w') :
    (A = none ∧ l.length = 0) ∨ ∃ ad, A = some ad ∧ ∀ j u, (stCs l)[j]? = some u → w'.cell? (ad.add j) = some u := by
  rcases Nat.eq_zero_or_pos l.length with h0 | h0
  · have hl := List.length_eq_zero_iff.1 h0
    cases A with
    | none => exact .inl ⟨rfl, h0⟩
    | some a => exact .inr ⟨a, rfl, fun j u hu => by rw [hl] at hu; simp [stCs] at hu⟩
  · obtain ⟨b, off, rfl, hbb, hc⟩ := h.at_ h0
    refine .inr ⟨_, rfl, fun j u hu => ?_⟩
    have hj : j < l.length * 2 := by rw [← stCs_len]; exact (List.getElem?_eq_some_iff.1 hu).1
    obtain ⟨q, r, rfl, hr⟩ : ∃ q r, j = q * 2 + r ∧ r < 2 := ⟨j / 2, j % 2, by omega, by omega⟩
    rw [stCs_at l q r (by omega) hr] at hu
    obtain ⟨c0, c1⟩ := hc q (by omega)
    rw [addOf, hb.cells _ _ hbb]
    match r, hr with
    | 0, _ => simp [stC] at hu; subst hu; exact c0
    | 1, _ => simp [stC] at hu; subst hu; exact c1
theorem StampsAt.of_own {w : World} {base : Nat} {v : Value} {l : List PS} {n : Nat} (hn : n = l.length) (ho : w.ownsRow base 39 2 v n (stCs l)) : StampsAt w w.heap.size v l := by
  subst hn
  rcases ho.2 with ⟨rfl, h0⟩ | ⟨g, cap, cur, rfl, h2, h3, h4, h5, h6, h7⟩
  · exact ⟨none, 0, by rw [h0], by omega, fun h => by omega⟩
  · refine ⟨_, cap, rfl, h4, fun _ => ⟨g, 0, rfl, (ho.lt g rfl).2, fun i hi => ?_⟩⟩
    have e0 := stCs_at l i 0 hi (by omega)
    have e1 := stCs_at l i 1 hi (by omega)
    have k0 := ho.cells (g := g) rfl (i * 2 + 0) (.int .i64 (psAt l i).at_) (by rw [e0]; rfl)
    have k1 := ho.cells (g := g) rfl (i * 2 + 1) (.int .i64 (psAt l i).ev) (by rw [e1]; rfl)
    rw [addOf] at k0 k1
    exact ⟨k0, k1⟩
theorem Try.infoStamp : (Try.prog.info? 39).map (fun i => (i.zero, i.size, i.bytes)) = some (some (.agg #[.int .i64 0, .int .i64 0]), 2, 16) := by kernel_rfl
/-- append of a word onto a slice of the call's own -/
theorem append_stamps {w w0 : World} {base : Nat} {v : Value} {n : Nat} {xs : List Value} (ho : w.ownsRow base 39 2 v n xs) {l : List PS} {A : Option Addr} {c : Nat} (hs : StampsAt w0 w0.heap.size (.slice A l.length c) l) (hb : Bel w0 w) (hn : n + l.length ≤ 1000000) (hbase : base ≤ w.heap.size) :
    ∃ v' w', (Builtin.append_ #[26, 26] 26 #[v, .slice A l.length c]).run Try.prog w = .ok v' w' ∧ w'.ownsRow base 39 2 v' (n + l.length) (xs ++ stCs l) ∧ w.grownBy w' v.ownBlock := by
  obtain ⟨j0, hj0, hy0, hy1, hy2⟩ := info_parts' Try.infoStamp
  exact append_row w base 26 26 39 j0 _ 2 16 Try.underlying26 hj0 hy0 hy1 hy2 rfl (by decide) v n xs ho A l.length c (stCs l) (stamps_src hs hb) (stCs_len l) (stCs_one l) (by unfold maxLen; omega) (by omega) hbase
set_option maxRecDepth 100000 in
set_option maxHeartbeats 8000000 in
theorem goes_any (p : PP) (gv ev sv mv : Value) (l m : List PS) (w : World) (h : PropAt w w.heap.size gv ev p) (hw : p.wf) (hl : StampsAt w w.heap.size sv l) (hm : StampsAt w w.heap.size mv m) :
    Calls Try.prog 5 #[.agg #[.int .i64 p.evs, .int .i64 p.clks, .int .i64 p.ini, gv, ev], sv, mv] w fun e w' => e = .returned (.bool true) ∧ Bel w w' := by
  have hby := fun (W : World) (hW : Bel w W) => beyond_any p gv ev W (h.bel hW)
  by_cases hb : beyondM p = true
  · rw [hb] at hby
    have HBY := Lib.hid hby
    obtain ⟨A1, k1, rfl, hk1⟩ := h.g.form
    obtain ⟨A2, k2, rfl, hk2⟩ := h.e.form
    obtain ⟨A, c, rfl, hc⟩ := hl.form
    obtain ⟨D, d, rfl, hd⟩ := hm.form
    clear h hl hm hby hb
    go_enter Try.func5, Try.ntmps5
    go_upto_region 1 with (fail)
    (generalize hW : World.alloc _ _ = wb; have q0_0 := (congrArg (fun W : World => W.cell? ⟨w.heap.size, 0, none⟩) hW).symm; simp [go_sem] at q0_0; have q0_1 := (congrArg (fun W : World => W.cell? ⟨w.heap.size, 1, none⟩) hW).symm; simp [go_sem] at q0_1; have q0_2 := (congrArg (fun W : World => W.cell? ⟨w.heap.size, 2, none⟩) hW).symm; simp [go_sem] at q0_2; have q0_3 := (congrArg (fun W : World => W.cell? ⟨w.heap.size, 3, none⟩) hW).symm; simp [go_sem] at q0_3; have q0_4 := (congrArg (fun W : World => W.cell? ⟨w.heap.size, 4, none⟩) hW).symm; simp [go_sem] at q0_4; have qz0 : w.heap.size < wb.heap.size := (by rw [← hW]; simp [go_sem]; try omega); have HBW : Hid (Bel w wb) := Lib.hid (by rw [← hW]; (repeat (first | exact Ext.bel _ | exact Bel.refl | refine Bel.alloc ?_ _ | refine Bel.drew ?_ | refine Bel.drewN ?_ _))); clear hW; have hkw := HBW.out.cells)
    go_wp2_with (first | (go_at_call 7; (with_reducible refine (shown_any _).mono ?_); rintro e w2 ⟨rfl, hb2⟩; obtain ⟨x, rfl⟩ : ∃ x : Ext wb, w2 = x.w := ext_of hb2; clear hb2) | (go_at_call 8; (with_reducible refine (HBY.out _ (HBW.out.trans (by (repeat (first | exact Ext.bel _ | exact Bel.refl | refine Bel.alloc ?_ _ | refine Bel.drew ?_ | refine Bel.drewN ?_ _))))).mono ?_); rintro e w2 ⟨rfl, hb2⟩; obtain ⟨x, rfl⟩ : ∃ x : Ext wb, w2 = x.w := ext_of (hb2.after (by (repeat (first | exact Ext.bel _ | exact Bel.refl | refine Bel.alloc ?_ _ | refine Bel.drew ?_ | refine Bel.drewN ?_ _)))); clear hb2))
    go_ret
    exact ⟨rfl, HBW.out.trans x.bel⟩
  have hb0 : beyondM p = false := by simpa using hb
  rw [hb0] at hby
  have HBY := Lib.hid hby
  have hs := beyond_sized hb0 hw
  have hck := fun (W : World) (hW : Bel w W) => rcheck35_any p gv ev W (h.bel hW) hs
  clear hby hb hb0
  by_cases h0 : rpchk p = 0
  case neg =>
    have HCK := Lib.hid hck
    generalize rpchk p = ck at *
    have hne : (ck == 0) = false := by simpa using h0
    obtain ⟨A1, k1, rfl, hk1⟩ := h.g.form
    obtain ⟨A2, k2, rfl, hk2⟩ := h.e.form
    obtain ⟨A, c, rfl, hc⟩ := hl.form
    obtain ⟨D, d, rfl, hd⟩ := hm.form
    clear h hl hm hs hck
    go_enter Try.func5, Try.ntmps5
    go_upto_region 1 with (fail)
    (generalize hW : World.alloc _ _ = wb; have q0_0 := (congrArg (fun W : World => W.cell? ⟨w.heap.size, 0, none⟩) hW).symm; simp [go_sem] at q0_0; have q0_1 := (congrArg (fun W : World => W.cell? ⟨w.heap.size, 1, none⟩) hW).symm; simp [go_sem] at q0_1; have q0_2 := (congrArg (fun W : World => W.cell? ⟨w.heap.size, 2, none⟩) hW).symm; simp [go_sem] at q0_2; have q0_3 := (congrArg (fun W : World => W.cell? ⟨w.heap.size, 3, none⟩) hW).symm; simp [go_sem] at q0_3; have q0_4 := (congrArg (fun W : World => W.cell? ⟨w.heap.size, 4, none⟩) hW).symm; simp [go_sem] at q0_4; have qz0 : w.heap.size < wb.heap.size := (by rw [← hW]; simp [go_sem]; try omega); have HBW : Hid (Bel w wb) := Lib.hid (by rw [← hW]; (repeat (first | exact Ext.bel _ | exact Bel.refl | refine Bel.alloc ?_ _ | refine Bel.drew ?_ | refine Bel.drewN ?_ _))); clear hW; have hkw := HBW.out.cells)
    go_wp2_with (first | (go_at_call 7; (with_reducible refine (shown_any _).mono ?_); rintro e w2 ⟨rfl, hb2⟩; obtain ⟨x, rfl⟩ : ∃ x : Ext wb, w2 = x.w := ext_of hb2; clear hb2) | (go_at_call 8; (with_reducible refine (HBY.out _ (HBW.out.trans (by (repeat (first | exact Ext.bel _ | exact Bel.refl | refine Bel.alloc ?_ _ | refine Bel.drew ?_ | refine Bel.drewN ?_ _))))).mono ?_); rintro e w2 ⟨rfl, hb2⟩; obtain ⟨x, rfl⟩ : ∃ x : Ext wb, w2 = x.w := ext_of (hb2.after (by (repeat (first | exact Ext.bel _ | exact Bel.refl | refine Bel.alloc ?_ _ | refine Bel.drew ?_ | refine Bel.drewN ?_ _)))); clear hb2) | (go_at_call 12; (with_reducible refine (HCK.out _ (HBW.out.trans (by (repeat (first | exact Ext.bel _ | exact Bel.refl | refine Bel.alloc ?_ _ | refine Bel.drew ?_ | refine Bel.drewN ?_ _))))).mono ?_); rintro e w2 ⟨rfl, hb2⟩; obtain ⟨x, rfl⟩ : ∃ x : Ext wb, w2 = x.w := ext_of (hb2.after (by (repeat (first | exact Ext.bel _ | exact Bel.refl | refine Bel.alloc ?_ _ | refine Bel.drew ?_ | refine Bel.drewN ?_ _)))); clear hb2))
    go_ret
    exact ⟨rfl, HBW.out.trans x.bel⟩
  have hsm := fun (W : World) (hW : Bel w W) => small_any p gv ev W (h.bel hW) hs
  rw [h0] at hck
  have HCK := Lib.hid hck
  clear hck h0
  by_cases hsx : smallM p = false
  · rw [hsx] at hsm
    have HSM := Lib.hid hsm
    obtain ⟨A1, k1, rfl, hk1⟩ := h.g.form
    obtain ⟨A2, k2, rfl, hk2⟩ := h.e.form
    obtain ⟨A, c, rfl, hc⟩ := hl.form
    obtain ⟨D, d, rfl, hd⟩ := hm.form
    clear h hl hm hs hsm hsx
    go_enter Try.func5, Try.ntmps5
    go_upto_region 1 with (fail)
    (generalize hW : World.alloc _ _ = wb; have q0_0 := (congrArg (fun W : World => W.cell? ⟨w.heap.size, 0, none⟩) hW).symm; simp [go_sem] at q0_0; have q0_1 := (congrArg (fun W : World => W.cell? ⟨w.heap.size, 1, none⟩) hW).symm; simp [go_sem] at q0_1; have q0_2 := (congrArg (fun W : World => W.cell? ⟨w.heap.size, 2, none⟩) hW).symm; simp [go_sem] at q0_2; have q0_3 := (congrArg (fun W : World => W.cell? ⟨w.heap.size, 3, none⟩) hW).symm; simp [go_sem] at q0_3; have q0_4 := (congrArg (fun W : World => W.cell? ⟨w.heap.size, 4, none⟩) hW).symm; simp [go_sem] at q0_4; have qz0 : w.heap.size < wb.heap.size := (by rw [← hW]; simp [go_sem]; try omega); have HBW : Hid (Bel w wb) := Lib.hid (by rw [← hW]; (repeat (first | exact Ext.bel _ | exact Bel.refl | refine Bel.alloc ?_ _ | refine Bel.drew ?_ | refine Bel.drewN ?_ _))); clear hW; have hkw := HBW.out.cells)
    go_wp2_with (first | (go_at_call 7; (with_reducible refine (shown_any _).mono ?_); rintro e w2 ⟨rfl, hb2⟩; obtain ⟨x, rfl⟩ : ∃ x : Ext wb, w2 = x.w := ext_of hb2; clear hb2) | (go_at_call 8; (with_reducible refine (HBY.out _ (HBW.out.trans (by (repeat (first | exact Ext.bel _ | exact Bel.refl | refine Bel.alloc ?_ _ | refine Bel.drew ?_ | refine Bel.drewN ?_ _))))).mono ?_); rintro e w2 ⟨rfl, hb2⟩; obtain ⟨x, rfl⟩ : ∃ x : Ext wb, w2 = x.w := ext_of (hb2.after (by (repeat (first | exact Ext.bel _ | exact Bel.refl | refine Bel.alloc ?_ _ | refine Bel.drew ?_ | refine Bel.drewN ?_ _)))); clear hb2) | (go_at_call 12; (with_reducible refine (HCK.out _ (HBW.out.trans (by (repeat (first | exact Ext.bel _ | exact Bel.refl | refine Bel.alloc ?_ _ | refine Bel.drew ?_ | refine Bel.drewN ?_ _))))).mono ?_); rintro e w2 ⟨rfl, hb2⟩; obtain ⟨x, rfl⟩ : ∃ x : Ext wb, w2 = x.w := ext_of (hb2.after (by (repeat (first | exact Ext.bel _ | exact Bel.refl | refine Bel.alloc ?_ _ | refine Bel.drew ?_ | refine Bel.drewN ?_ _)))); clear hb2) | (go_at_call 15; (with_reducible refine (HSM.out _ (HBW.out.trans (by (repeat (first | exact Ext.bel _ | exact Bel.refl | refine Bel.alloc ?_ _ | refine Bel.drew ?_ | refine Bel.drewN ?_ _))))).mono ?_); rintro e w2 ⟨rfl, hb2⟩; obtain ⟨x, rfl⟩ : ∃ x : Ext wb, w2 = x.w := ext_of (hb2.after (by (repeat (first | exact Ext.bel _ | exact Bel.refl | refine Bel.alloc ?_ _ | refine Bel.drew ?_ | refine Bel.drewN ?_ _)))); clear hb2))
    go_ret
    exact ⟨rfl, HBW.out.trans x.bel⟩
  have hs0 : smallM p = true := by simpa using hsx
  rw [hs0] at hsm
  have HSM := Lib.hid hsm
  clear hsm hsx hs0
  by_cases hl1 : 100 < l.length
  · have hd1 : decide (100 < (l.length : Int)) = true := by simp; omega
    obtain ⟨A1, k1, rfl, hk1⟩ := h.g.form
    obtain ⟨A2, k2, rfl, hk2⟩ := h.e.form
    obtain ⟨A, c, rfl, hc⟩ := hl.form
    obtain ⟨D, d, rfl, hd⟩ := hm.form
    clear h hl hm hs hl1
    go_enter Try.func5, Try.ntmps5
    go_upto_region 1 with (fail)
    (generalize hW : World.alloc _ _ = wb; have q0_0 := (congrArg (fun W : World => W.cell? ⟨w.heap.size, 0, none⟩) hW).symm; simp [go_sem] at q0_0; have q0_1 := (congrArg (fun W : World => W.cell? ⟨w.heap.size, 1, none⟩) hW).symm; simp [go_sem] at q0_1; have q0_2 := (congrArg (fun W : World => W.cell? ⟨w.heap.size, 2, none⟩) hW).symm; simp [go_sem] at q0_2; have q0_3 := (congrArg (fun W : World => W.cell? ⟨w.heap.size, 3, none⟩) hW).symm; simp [go_sem] at q0_3; have q0_4 := (congrArg (fun W : World => W.cell? ⟨w.heap.size, 4, none⟩) hW).symm; simp [go_sem] at q0_4; have qz0 : w.heap.size < wb.heap.size := (by rw [← hW]; simp [go_sem]; try omega); have HBW : Hid (Bel w wb) := Lib.hid (by rw [← hW]; (repeat (first | exact Ext.bel _ | exact Bel.refl | refine Bel.alloc ?_ _ | refine Bel.drew ?_ | refine Bel.drewN ?_ _))); clear hW; have hkw := HBW.out.cells)
    go_wp2_with (first | (go_at_call 7; (with_reducible refine (shown_any _).mono ?_); rintro e w2 ⟨rfl, hb2⟩; obtain ⟨x, rfl⟩ : ∃ x : Ext wb, w2 = x.w := ext_of hb2; clear hb2) | (go_at_call 8; (with_reducible refine (HBY.out _ (HBW.out.trans (by (repeat (first | exact Ext.bel _ | exact Bel.refl | refine Bel.alloc ?_ _ | refine Bel.drew ?_ | refine Bel.drewN ?_ _))))).mono ?_); rintro e w2 ⟨rfl, hb2⟩; obtain ⟨x, rfl⟩ : ∃ x : Ext wb, w2 = x.w := ext_of (hb2.after (by (repeat (first | exact Ext.bel _ | exact Bel.refl | refine Bel.alloc ?_ _ | refine Bel.drew ?_ | refine Bel.drewN ?_ _)))); clear hb2) | (go_at_call 12; (with_reducible refine (HCK.out _ (HBW.out.trans (by (repeat (first | exact Ext.bel _ | exact Bel.refl | refine Bel.alloc ?_ _ | refine Bel.drew ?_ | refine Bel.drewN ?_ _))))).mono ?_); rintro e w2 ⟨rfl, hb2⟩; obtain ⟨x, rfl⟩ : ∃ x : Ext wb, w2 = x.w := ext_of (hb2.after (by (repeat (first | exact Ext.bel _ | exact Bel.refl | refine Bel.alloc ?_ _ | refine Bel.drew ?_ | refine Bel.drewN ?_ _)))); clear hb2) | (go_at_call 15; (with_reducible refine (HSM.out _ (HBW.out.trans (by (repeat (first | exact Ext.bel _ | exact Bel.refl | refine Bel.alloc ?_ _ | refine Bel.drew ?_ | refine Bel.drewN ?_ _))))).mono ?_); rintro e w2 ⟨rfl, hb2⟩; obtain ⟨x, rfl⟩ : ∃ x : Ext wb, w2 = x.w := ext_of (hb2.after (by (repeat (first | exact Ext.bel _ | exact Bel.refl | refine Bel.alloc ?_ _ | refine Bel.drew ?_ | refine Bel.drewN ?_ _)))); clear hb2))
    go_ret
    exact ⟨rfl, HBW.out.trans x.bel⟩
  have hd1 : decide (100 < (l.length : Int)) = false := by simp; omega
  by_cases hm1 : 100 < m.length
  · have hd2 : decide (100 < (m.length : Int)) = true := by simp; omega
    obtain ⟨A1, k1, rfl, hk1⟩ := h.g.form
    obtain ⟨A2, k2, rfl, hk2⟩ := h.e.form
    obtain ⟨A, c, rfl, hc⟩ := hl.form
    obtain ⟨D, d, rfl, hd⟩ := hm.form
    clear h hl hm hs hm1
    go_enter Try.func5, Try.ntmps5
    go_upto_region 1 with (fail)
    (generalize hW : World.alloc _ _ = wb; have q0_0 := (congrArg (fun W : World => W.cell? ⟨w.heap.size, 0, none⟩) hW).symm; simp [go_sem] at q0_0; have q0_1 := (congrArg (fun W : World => W.cell? ⟨w.heap.size, 1, none⟩) hW).symm; simp [go_sem] at q0_1; have q0_2 := (congrArg (fun W : World => W.cell? ⟨w.heap.size, 2, none⟩) hW).symm; simp [go_sem] at q0_2; have q0_3 := (congrArg (fun W : World => W.cell? ⟨w.heap.size, 3, none⟩) hW).symm; simp [go_sem] at q0_3; have q0_4 := (congrArg (fun W : World => W.cell? ⟨w.heap.size, 4, none⟩) hW).symm; simp [go_sem] at q0_4; have qz0 : w.heap.size < wb.heap.size := (by rw [← hW]; simp [go_sem]; try omega); have HBW : Hid (Bel w wb) := Lib.hid (by rw [← hW]; (repeat (first | exact Ext.bel _ | exact Bel.refl | refine Bel.alloc ?_ _ | refine Bel.drew ?_ | refine Bel.drewN ?_ _))); clear hW; have hkw := HBW.out.cells)
    go_wp2_with (first | (go_at_call 7; (with_reducible refine (shown_any _).mono ?_); rintro e w2 ⟨rfl, hb2⟩; obtain ⟨x, rfl⟩ : ∃ x : Ext wb, w2 = x.w := ext_of hb2; clear hb2) | (go_at_call 8; (with_reducible refine (HBY.out _ (HBW.out.trans (by (repeat (first | exact Ext.bel _ | exact Bel.refl | refine Bel.alloc ?_ _ | refine Bel.drew ?_ | refine Bel.drewN ?_ _))))).mono ?_); rintro e w2 ⟨rfl, hb2⟩; obtain ⟨x, rfl⟩ : ∃ x : Ext wb, w2 = x.w := ext_of (hb2.after (by (repeat (first | exact Ext.bel _ | exact Bel.refl | refine Bel.alloc ?_ _ | refine Bel.drew ?_ | refine Bel.drewN ?_ _)))); clear hb2) | (go_at_call 12; (with_reducible refine (HCK.out _ (HBW.out.trans (by (repeat (first | exact Ext.bel _ | exact Bel.refl | refine Bel.alloc ?_ _ | refine Bel.drew ?_ | refine Bel.drewN ?_ _))))).mono ?_); rintro e w2 ⟨rfl, hb2⟩; obtain ⟨x, rfl⟩ : ∃ x : Ext wb, w2 = x.w := ext_of (hb2.after (by (repeat (first | exact Ext.bel _ | exact Bel.refl | refine Bel.alloc ?_ _ | refine Bel.drew ?_ | refine Bel.drewN ?_ _)))); clear hb2) | (go_at_call 15; (with_reducible refine (HSM.out _ (HBW.out.trans (by (repeat (first | exact Ext.bel _ | exact Bel.refl | refine Bel.alloc ?_ _ | refine Bel.drew ?_ | refine Bel.drewN ?_ _))))).mono ?_); rintro e w2 ⟨rfl, hb2⟩; obtain ⟨x, rfl⟩ : ∃ x : Ext wb, w2 = x.w := ext_of (hb2.after (by (repeat (first | exact Ext.bel _ | exact Bel.refl | refine Bel.alloc ?_ _ | refine Bel.drew ?_ | refine Bel.drewN ?_ _)))); clear hb2))
    go_ret
    exact ⟨rfl, HBW.out.trans x.bel⟩
  have hd2 : decide (100 < (m.length : Int)) = false := by simp; omega
  have hll : l.length ≤ 100 := by omega
  have hml : m.length ≤ 100 := by omega
  have HP := Lib.hid h
  have HSZ := Lib.hid hs
  have HL := Lib.hid hl
  have HM := Lib.hid hm
  clear hl1 hm1
  obtain ⟨A1, k1, rfl, hk1⟩ := h.g.form
  obtain ⟨A2, k2, rfl, hk2⟩ := h.e.form
  obtain ⟨A, c, rfl, hc⟩ := hl.form
  obtain ⟨D, d, rfl, hd⟩ := hm.form
  clear h hl hm hs
  go_enter Try.func5, Try.ntmps5
  go_upto_region 1 with (fail)
  (generalize hW : World.alloc _ _ = wb; have q0_0 := (congrArg (fun W : World => W.cell? ⟨w.heap.size, 0, none⟩) hW).symm; simp [go_sem] at q0_0; have q0_1 := (congrArg (fun W : World => W.cell? ⟨w.heap.size, 1, none⟩) hW).symm; simp [go_sem] at q0_1; have q0_2 := (congrArg (fun W : World => W.cell? ⟨w.heap.size, 2, none⟩) hW).symm; simp [go_sem] at q0_2; have q0_3 := (congrArg (fun W : World => W.cell? ⟨w.heap.size, 3, none⟩) hW).symm; simp [go_sem] at q0_3; have q0_4 := (congrArg (fun W : World => W.cell? ⟨w.heap.size, 4, none⟩) hW).symm; simp [go_sem] at q0_4; have qz0 : w.heap.size < wb.heap.size := (by rw [← hW]; simp [go_sem]; try omega); have HBW : Hid (Bel w wb) := Lib.hid (by rw [← hW]; (repeat (first | exact Ext.bel _ | exact Bel.refl | refine Bel.alloc ?_ _ | refine Bel.drew ?_ | refine Bel.drewN ?_ _))); clear hW; have hkw := HBW.out.cells)
  go_upto_region 5 with (first | (go_at_call 7; (with_reducible refine (shown_any _).mono ?_); rintro e w2 ⟨rfl, hb2⟩; obtain ⟨x, rfl⟩ : ∃ x : Ext wb, w2 = x.w := ext_of hb2; clear hb2) | (go_at_call 8; (with_reducible refine (HBY.out _ (HBW.out.trans (by (repeat (first | exact Ext.bel _ | exact Bel.refl | refine Bel.alloc ?_ _ | refine Bel.drew ?_ | refine Bel.drewN ?_ _))))).mono ?_); rintro e w2 ⟨rfl, hb2⟩; obtain ⟨x, rfl⟩ : ∃ x : Ext wb, w2 = x.w := ext_of (hb2.after (by (repeat (first | exact Ext.bel _ | exact Bel.refl | refine Bel.alloc ?_ _ | refine Bel.drew ?_ | refine Bel.drewN ?_ _)))); clear hb2) | (go_at_call 12; (with_reducible refine (HCK.out _ (HBW.out.trans (by (repeat (first | exact Ext.bel _ | exact Bel.refl | refine Bel.alloc ?_ _ | refine Bel.drew ?_ | refine Bel.drewN ?_ _))))).mono ?_); rintro e w2 ⟨rfl, hb2⟩; obtain ⟨x, rfl⟩ : ∃ x : Ext wb, w2 = x.w := ext_of (hb2.after (by (repeat (first | exact Ext.bel _ | exact Bel.refl | refine Bel.alloc ?_ _ | refine Bel.drew ?_ | refine Bel.drewN ?_ _)))); clear hb2) | (go_at_call 15; (with_reducible refine (HSM.out _ (HBW.out.trans (by (repeat (first | exact Ext.bel _ | exact Bel.refl | refine Bel.alloc ?_ _ | refine Bel.drew ?_ | refine Bel.drewN ?_ _))))).mono ?_); rintro e w2 ⟨rfl, hb2⟩; obtain ⟨x, rfl⟩ : ∃ x : Ext wb, w2 = x.w := ext_of (hb2.after (by (repeat (first | exact Ext.bel _ | exact Bel.refl | refine Bel.alloc ?_ _ | refine Bel.drew ?_ | refine Bel.drewN ?_ _)))); clear hb2))
  have HB5 := Lib.hid (HBW.out.trans x.bel)
  have hbx : Bel wb x.w := x.bel
  generalize hx5 : x.w = w5 at *
  have hw5 : wb.heap.size ≤ w5.heap.size := hbx.le
  have hm5 : w.heap.size ≤ w5.heap.size := HB5.out.le
  have ho0 := World.ownsRow_made w5 #[] 0 (base := w5.heap.size) (e := 39) (size := 2) (by omega) (by unfold maxLen; omega) (by simp)
  obtain ⟨v1, w6, hap1, ho1, hg1⟩ := append_stamps ho0 HL.out (HB5.out.alloc _) (by omega) (by simp [go_sem])
  have hb6 : Bel w5 w6 := bel_grown (Bel.refl.alloc _) ho0 hg1
  obtain ⟨v2, w7, hap2, ho2, hg2⟩ := append_stamps ho1 HM.out (HB5.out.trans hb6) (by omega) hb6.le
  have hb7 : Bel w5 w7 := bel_grown hb6 ho1 hg2
  have hst := StampsAt.of_own (l := l ++ m) (n := 0 + l.length + m.length) (by simp) (by rw [stCs_app]; exact ho2)
  obtain ⟨B, c2, hv2, hc2⟩ := hst.form
  rw [List.length_append] at hv2
  subst hv2
  have HST := Lib.hid hst
  have HB7 := Lib.hid (HB5.out.trans hb7)
  have hq := (hbx.trans hb7).cells
  have g0 := (hq _ _ qz0).trans q0_0
  have g1 := (hq _ _ qz0).trans q0_1
  have g2 := (hq _ _ qz0).trans q0_2
  have g3 := (hq _ _ qz0).trans q0_3
  have g4 := (hq _ _ qz0).trans q0_4
  have gz := Nat.lt_of_lt_of_le qz0 (hbx.trans hb7).le
  clear ho0 ho1 ho2 hg1 hg2 hb6 hb7 hst hbx hq hc2 hx5
  have HA1 := Lib.hid hap1
  have HA2 := Lib.hid hap2
  clear hap1 hap2
  go_upto_region 6 with (at_builtin; first | (refine wpList_append_run rfl _ _ _ rfl _ _ _ rfl rfl HA1.out ?_) | (refine wpList_append_run rfl _ _ _ rfl _ _ _ rfl rfl HA2.out ?_))
  clear HA1 HA2 q0_0 q0_1 q0_2 q0_3 q0_4 qz0 hw5 hm5 hkw HB5 HBW HBY HCK HSM
  have hWA := fun (W : World) (hW : Bel w7 W) => rword_any p _ _ _ (l ++ m) W (HP.out.bel (HB7.out.trans hW)) HSZ.out (HST.out.bel hW) (by simp; omega)
  by_cases hwd : rpword p (l ++ m) = 0
  case neg =>
    have HWA := Lib.hid hWA
    generalize rpword p (l ++ m) = wk at *
    have hne : (wk == 0) = false := by simpa using hwd
    clear hwd hWA
    go_wp2_with (first | (go_at_call 14; (with_reducible refine (HWA.out _ (by (repeat (first | exact Ext.bel _ | exact Bel.refl | refine Bel.alloc ?_ _ | refine Bel.drew ?_ | refine Bel.drewN ?_ _)))).mono ?_); rintro e w2 ⟨rfl, hb2⟩; obtain ⟨x, rfl⟩ : ∃ x : Ext w7, w2 = x.w := ext_of (hb2.after (by (repeat (first | exact Ext.bel _ | exact Bel.refl | refine Bel.alloc ?_ _ | refine Bel.drew ?_ | refine Bel.drewN ?_ _)))); clear hb2))
    go_ret
    exact ⟨rfl, HB7.out.trans x.bel⟩
  rw [hwd] at hWA
  have hJ1 := fun (W : World) (hW : Bel w7 W) => pjudge_any p _ _ _ l W (HP.out.bel (HB7.out.trans hW)) HSZ.out (HL.out.bel (HB7.out.trans hW)) (by omega)
  have hJ2 := fun (W : World) (hW : Bel w7 W) => pjudge_any p _ _ _ (l ++ m) W (HP.out.bel (HB7.out.trans hW)) HSZ.out (HST.out.bel hW) (by simp; omega)
  have hH1 := fun (W : World) (hW : Bel w7 W) => phope_any p _ _ _ l W (HP.out.bel (HB7.out.trans hW)) HSZ.out (HL.out.bel (HB7.out.trans hW)) (by omega)
  have hH2 := fun (W : World) (hW : Bel w7 W) => phope_any p _ _ _ (l ++ m) W (HP.out.bel (HB7.out.trans hW)) HSZ.out (HST.out.bel hW) (by simp; omega)
  obtain ⟨e1, e2, e3, e4, hgo⟩ := goes_law hwd
  have e1' : (judgeM p l).2.2 = 0 := by rw [e1]
  have e2' : (judgeM p (l ++ m)).2.2 = 0 := by rw [e2]
  rw [e1'] at hJ1
  rw [e2'] at hJ2
  rw [e3] at hH1
  rw [e4] at hH2
  clear e1 e2 e3 e4 e1' e2' hwd
  generalize (judgeM p l).1 = ja at *
  generalize (judgeM p l).2.1 = ji at *
  generalize (judgeM p (l ++ m)).1 = jb at *
  generalize (judgeM p (l ++ m)).2.1 = jk at *
  generalize (hopeM p l).1 = hc1 at *
  generalize (hopeM p (l ++ m)).1 = hc2 at *
  have HWA := Lib.hid hWA
  have HJ1 := Lib.hid hJ1
  have HJ2 := Lib.hid hJ2
  have HH1 := Lib.hid hH1
  have HH2 := Lib.hid hH2
  obtain ⟨i1, i2, j1, j2, hpit, hpit2, hac, hbd, hdc, hgo⟩ := hgo
  clear hWA hJ1 hJ2 hH1 hH2 HST HL HM HP HSZ
  have a1 : decide ((l.length : Int) ≤ ji) = false := by simp; omega
  have a2 : decide ((l.length : Int) + (m.length : Int) ≤ jk) = false := by simp; omega
  have a3 : decide (ji < -1) = false := by simp; omega
  have a4 : decide (jk < -1) = false := by simp; omega
  go_upto_region 12 with (first | (go_at_call 14; (with_reducible refine (HWA.out _ (by (repeat (first | exact Ext.bel _ | exact Bel.refl | refine Bel.alloc ?_ _ | refine Bel.drew ?_ | refine Bel.drewN ?_ _)))).mono ?_); rintro e w2 ⟨rfl, hb2⟩; obtain ⟨x, rfl⟩ : ∃ x : Ext w7, w2 = x.w := ext_of (hb2.after (by (repeat (first | exact Ext.bel _ | exact Bel.refl | refine Bel.alloc ?_ _ | refine Bel.drew ?_ | refine Bel.drewN ?_ _)))); clear hb2) | (go_at_call 9; (with_reducible refine (HJ1.out _ (by (repeat (first | exact Ext.bel _ | exact Bel.refl | refine Bel.alloc ?_ _ | refine Bel.drew ?_ | refine Bel.drewN ?_ _)))).mono ?_); rintro e w2 ⟨rfl, hb2⟩; obtain ⟨x, rfl⟩ : ∃ x : Ext w7, w2 = x.w := ext_of (hb2.after (by (repeat (first | exact Ext.bel _ | exact Bel.refl | refine Bel.alloc ?_ _ | refine Bel.drew ?_ | refine Bel.drewN ?_ _)))); clear hb2) | (go_at_call 9; (with_reducible refine (HJ2.out _ (by (repeat (first | exact Ext.bel _ | exact Bel.refl | refine Bel.alloc ?_ _ | refine Bel.drew ?_ | refine Bel.drewN ?_ _)))).mono ?_); rintro e w2 ⟨rfl, hb2⟩; obtain ⟨x, rfl⟩ : ∃ x : Ext w7, w2 = x.w := ext_of (hb2.after (by (repeat (first | exact Ext.bel _ | exact Bel.refl | refine Bel.alloc ?_ _ | refine Bel.drew ?_ | refine Bel.drewN ?_ _)))); clear hb2) | (go_at_call 16; (with_reducible refine (HH1.out _ (by (repeat (first | exact Ext.bel _ | exact Bel.refl | refine Bel.alloc ?_ _ | refine Bel.drew ?_ | refine Bel.drewN ?_ _)))).mono ?_); rintro e w2 ⟨rfl, hb2⟩; obtain ⟨x, rfl⟩ : ∃ x : Ext w7, w2 = x.w := ext_of (hb2.after (by (repeat (first | exact Ext.bel _ | exact Bel.refl | refine Bel.alloc ?_ _ | refine Bel.drew ?_ | refine Bel.drewN ?_ _)))); clear hb2) | (go_at_call 16; (with_reducible refine (HH2.out _ (by (repeat (first | exact Ext.bel _ | exact Bel.refl | refine Bel.alloc ?_ _ | refine Bel.drew ?_ | refine Bel.drewN ?_ _)))).mono ?_); rintro e w2 ⟨rfl, hb2⟩; obtain ⟨x, rfl⟩ : ∃ x : Ext w7, w2 = x.w := ext_of (hb2.after (by (repeat (first | exact Ext.bel _ | exact Bel.refl | refine Bel.alloc ?_ _ | refine Bel.drew ?_ | refine Bel.drewN ?_ _)))); clear hb2))
  by_cases hi : 0 ≤ ji
  · obtain ⟨rfl, rfl, rfl, rfl, rfl⟩ := hpit hi
    have b1 : decide (0 ≤ jk) = true := by simpa using hi
    clear hpit hpit2 hac hbd hdc hgo
    go_wp2
    go_ret
    exact ⟨rfl, HB7.out.trans x.bel⟩
  have b1 : decide (0 ≤ ji) = false := by simpa using hi
  by_cases hk : 0 ≤ jk
  · obtain ⟨rfl, rfl⟩ := hpit2 hk
    have b2 : decide (0 ≤ jk) = true := by simpa using hk
    have b3 : decide (jk < 0) = false := by simp; omega
    have b4 : decide ((l.length : Int) ≤ jk) = true := by have := hgo (by omega); simp; omega
    clear hpit hpit2 hbd hdc hgo
    cases ja <;> cases hc1
    case true.false => exact absurd (hac rfl) Bool.false_ne_true
    all_goals
      clear hac
      go_wp2
      go_ret
      exact ⟨rfl, HB7.out.trans x.bel⟩
  have b2 : decide (0 ≤ jk) = false := by simpa using hk
  have b3 : decide (jk < 0) = true := by simp; omega
  clear hpit hpit2 hgo
  cases ja <;> cases hc1 <;> cases jb <;> cases hc2
  all_goals first
    | exact absurd (hac rfl) Bool.false_ne_true
    | exact absurd (hbd rfl) Bool.false_ne_true
    | exact absurd (hdc rfl) Bool.false_ne_true
    | (clear hac hbd hdc
       go_wp2
       go_ret
       exact ⟨rfl, HB7.out.trans x.bel⟩)
end Go.Proofs.Ytcnjojhbcijdmaa
