/- poly.of: the program's lines. -/
import Derived.Test.YtalphoebmefgoaaG32
namespace Go.Proofs.Ytalphoebmefgoaa
open Go.RowKit
/-- the row while it is filled: k lines are there -/
def ofD (l : List AL) (k : Nat) : Nat → Ln := fun j => if j < k then padL (alAt l j) else zeroLn
theorem pad_c {x : AL} (_ha : x.a.length ≤ 6) {r : Nat} (h : r < 6) : (padL x).c r = .int .i64 (x.a.getD r 0) := by
  have : r = 0 ∨ r = 1 ∨ r = 2 ∨ r = 3 ∨ r = 4 ∨ r = 5 := by omega
  rcases this with rfl | rfl | rfl | rfl | rfl | rfl <;> rfl
theorem zero_c (r : Nat) (h : r < 6) : zeroLn.c r = .int .i64 0 := by
  have : r = 0 ∨ r = 1 ∨ r = 2 ∨ r = 3 ∨ r = 4 ∨ r = 5 := by omega
  rcases this with rfl | rfl | rfl | rfl | rfl | rfl <;> rfl
theorem of_row {l : List AL} {k : Nat} (_hk : k < l.length) (ha : (alAt l k).a.length ≤ 6) :
    ((setsL (rowL (ofD l k) l.length) (k * 8) ((alAt l k).a.map (Value.int .i64))).set (k * 8 + 6) (.int .i64 (alAt l k).b)).set (k * 8 + 7) (.bool (alAt l k).s) = rowL (ofD l (k + 1)) l.length := by
  apply List.ext_getElem?
  intro q
  have hL : (setsL (rowL (ofD l k) l.length) (k * 8) ((alAt l k).a.map (Value.int .i64))).length = l.length * 8 := by rw [setsL_len, rowL_len]
  by_cases hq : q < l.length * 8
  · rw [rowL_get _ hq, List.getElem?_set, List.length_set, List.getElem?_set, hL, setsL_get, rowL_len, rowL_get _ hq, List.length_map]
    by_cases hqk : q / 8 = k
    · have h8 : q % 8 < 8 := Nat.mod_lt _ (by decide)
      have hk2 : q = k * 8 + q % 8 := by omega
      rw [hqk]
      have e1 : ofD l (k + 1) k = padL (alAt l k) := by unfold ofD; rw [if_pos (by omega)]
      have e2 : ofD l k k = zeroLn := by unfold ofD; rw [if_neg (by omega)]
      rw [e1, e2]
      generalize q % 8 = r at *
      subst hk2
      by_cases h7 : r = 7
      · subst h7
        rw [if_pos rfl, if_pos hq]; rfl
      · rw [if_neg (by omega)]
        by_cases h6 : r = 6
        · subst h6
          rw [if_pos rfl, if_pos hq]; rfl
        · rw [if_neg (by omega), pad_c ha (by omega)]
          by_cases hr : r < (alAt l k).a.length
          · rw [if_pos (by omega), show k * 8 + r - k * 8 = r by omega, List.getElem?_map, List.getElem?_eq_getElem hr, List.getD_eq_getElem?_getD, List.getElem?_eq_getElem hr]; rfl
          · rw [if_neg (by omega), zero_c r (by omega), List.getD_eq_getElem?_getD, List.getElem?_eq_none (by omega)]; rfl
    · rw [if_neg (by omega), if_neg (by omega), if_neg (by omega)]
      congr 2
      unfold ofD
      by_cases h : q / 8 < k
      · rw [if_pos h, if_pos (by omega)]
      · rw [if_neg h, if_neg (by omega)]
  · rw [List.getElem?_eq_none (by rw [List.length_set, List.length_set, hL]; omega), List.getElem?_eq_none (by rw [rowL_len]; omega)]
theorem alAt_get {l : List AL} {i : Nat} (h : i < l.length) : alAt l i = l[i] := by
  unfold alAt; rw [List.getD_eq_getElem?_getD, List.getElem?_eq_getElem h]; rfl
theorem ofD_all (l : List AL) : ∀ k, k < l.length → ∀ j, j < 8 → (rowL (ofD l l.length) l.length)[k * 8 + j]? = some ((lnAt (l.map padL) k).c j) := fun k hk j hj => by
  rw [rowL_get _ (by omega), show (k * 8 + j) / 8 = k by omega, show (k * 8 + j) % 8 = j by omega]
  unfold ofD
  rw [if_pos hk, lnAt_get (by simpa using hk), alAt_get hk, List.getElem_map]
/-- what of hands back: a row of its own -/
def OfPost (l : List AL) (w : World) (e : Ending) (w' : World) : Prop :=
  ∃ b, e = .returned (.slice (some ⟨b, 0, none⟩) l.length l.length) ∧ w.heap.size ≤ b ∧ Bel w w' ∧ RowAt w' b 72 (rowL (ofD l l.length) l.length)
theorem OfPost.own {l : List AL} {w w' : World} {b : Nat} (hb : w.heap.size ≤ b) (hl : l.length ≤ 1000000) (h : RowAt w' b 72 (rowL (ofD l l.length) l.length)) : w'.ownsRow w.heap.size 72 8 (.slice (some ⟨b, 0, none⟩) l.length l.length) l.length ((l.map padL).flatMap Ln.cells) := by
  have hx : rowL (ofD l l.length) l.length = (l.map padL).flatMap Ln.cells := by
    apply List.ext_getElem?
    intro q
    by_cases hq : q < l.length * 8
    · have h8 : q % 8 < 8 := Nat.mod_lt _ (by decide)
      have := ofD_all l (q / 8) (by omega) (q % 8) h8
      rw [show q / 8 * 8 + q % 8 = q by omega] at this
      rw [this, show q = q / 8 * 8 + q % 8 by omega, flat_at cells8 _ _ _ (by simp; omega) (by omega), show (q / 8 * 8 + q % 8) / 8 = q / 8 by omega, show (q / 8 * 8 + q % 8) % 8 = q % 8 by omega, lnAt_get (by simp; omega), cells_c _ h8]
    · rw [List.getElem?_eq_none (by rw [rowL_len]; omega), List.getElem?_eq_none (by rw [flat_len cells8]; simp; omega)]
  unfold RowAt at h
  refine ⟨by rw [flat_len cells8]; simp, .inr ⟨b, l.length, (rowL (ofD l l.length) l.length).toArray, rfl, hb, h, Nat.le_refl _, by simp [maxLen]; omega, by simp [rowL_len], ?_⟩⟩
  rw [← hx, List.take_of_length_le (by rw [List.toList_toArray, rowL_len]; omega)]
set_option maxRecDepth 100000 in
set_option maxHeartbeats 4000000 in
theorem of_any (v : Value) (l : List AL) (w : World) (h : LinesAt w w.heap.size v l) (hn : l.length ≤ 1000000) (ha : ∀ i, i < l.length → (alAt l i).a.length ≤ 6) :
    Calls Try.prog 39 #[v] w (OfPost l w) := by
  have H := Lib.hid h
  obtain ⟨A, c, rfl, hc⟩ := h.form
  clear h
  have HA := Lib.hid ha
  clear ha
  have hmk := make_lines l.length l.length (Nat.le_refl _) hn
  go_enter Try.func39, Try.ntmps39
  go_upto_region 2 with (fail)
  clear hmk
  have ro : RowAt (w.alloc (.cells (rowL (fun _ => zeroLn) l.length).toArray 72)) w.heap.size 72 (rowL (ofD l 0) l.length) := by
    have e : ofD l 0 = fun _ => zeroLn := by funext j; unfold ofD; rw [if_neg (by omega)]
    rw [e]; exact RowAt.new _ _ _
  generalize hW : World.alloc _ _ = w1 at *
  have HB := Lib.hid (show Bel w w1 by rw [← hW]; exact Bel.refl.alloc _)
  clear hW
  have HR := Lib.hid ro
  clear ro
  obtain ⟨b, hb⟩ : ∃ b, b = w.heap.size := ⟨_, rfl⟩
  rw [← hb] at HR ⊢
  have HN : Hid (w.heap.size ≤ b) := Lib.hid (by omega)
  clear hb
  go_wp2
  go_loopw [11] (fun s11 wq => ∃ (k : Nat) (y : Ext w), k ≤ l.length ∧ s11 = .int .i64 k ∧ wq = y.w ∧ RowAt y.w b 72 (rowL (ofD l k) l.length)) (fun s11 _ => l.length - (intOf s11).toNat)
  case atStart => exact ⟨0, ⟨_, HB.out⟩, Nat.zero_le _, rfl, rfl, HR.out⟩
  case round =>
    obtain ⟨k, y0, hk, rfl, rfl, hr⟩ := hrel
    have HR := Lib.hid hr
    by_cases hlt : k < l.length
    · have hd : decide ((k : Int) < (l.length : Int)) = true := by simp; omega
      have hL : (k : Int) < (l.length : Int) := by omega
      have wk : IntKind.i64.wrap ((k : Int) + 1) = ((k + 1 : Nat) : Int) := IntWalk.i64_in _ (by omega)
      obtain ⟨g, off, rfl, hg, hcl⟩ := (H.out.keep y0.bel.keeps y0.bel.le).at_ (by omega)
      obtain ⟨rv, ⟨x0, x1, x2⟩, hi⟩ := hcl k hlt
      clear hcl
      have HI := Lib.hid hi
      obtain ⟨A2, c2, rfl, hc2⟩ := hi.form
      clear hr hi
      have hbb := HR.out.lt
      go_upto_region 5 with (fail)
      have rx : RowAt (World.alloc y0.w (.cells #[.slice A2 (alAt l k).a.length c2, .int .i64 (alAt l k).b, .bool (alAt l k).s] 25)) y0.w.heap.size 25 [.slice A2 (alAt l k).a.length c2, .int .i64 (alAt l k).b, .bool (alAt l k).s] := RowAt.new _ _ _
      have hBW : Bel y0.w (World.alloc y0.w (.cells #[.slice A2 (alAt l k).a.length c2, .int .i64 (alAt l k).b, .bool (alAt l k).s] 25)) := Bel.refl.alloc _
      generalize hW : World.alloc y0.w _ = w1 at *
      clear hW
      obtain ⟨p, hp⟩ : ∃ p, p = y0.w.heap.size := ⟨_, rfl⟩
      rw [← hp] at rx ⊢
      have hpb : p ≠ b := by omega
      clear hp
      have HB1 := Lib.hid (y0.bel.trans hBW)
      have hr1 := HR.out.bel hBW
      have HI1 := Lib.hid (HI.out.bel hBW)
      clear hBW hbb x0 x1 x2 hg
      have c0 := rx.cell (i := 0) rfl
      have lx := rx.lt
      have hbb := hr1.lt
      have cb := hr1.cell? (k * 8)
      rw [rowL_get _ (by omega)] at cb
      have HRX := Lib.hid rx
      have HR1 := Lib.hid hr1
      clear rx hr1
      (refine wp_region_qtail 7 (wb := w1) (by (repeat (first | exact Ext.bel _ | exact Bel.refl | refine Bel.alloc ?_ _ | refine Bel.drew ?_ | refine Bel.drewN ?_ _))) (by kernel_rfl) (by kernel_rfl) ?_; simp only [List.take_succ_cons, List.take_zero, List.drop_succ_cons, List.drop_zero]; (repeat (any_goals (first | go_big_quiet_step (fail) | quiet_step (fail) | (refine wpQuiet_step (fun K hK => ?_); go_simp; split <;> (refine hK _ ?_; clear hK K))))); all_goals (refine wpQuiet_nil ?_; intro _ hw'; obtain ⟨y, hw''⟩ := hw'; subst hw''))
      clear c0 lx hbb cb
      have r2 := HR1.out.bel y.bel
      have hc := of_copy (o := k * 8) r2 (by rw [rowL_len]; omega) (HI1.out.bel y.bel) (HA.out k hlt)
      have r3 := row_sets ((alAt l k).a.map (Value.int .i64)) (k * 8) r2
      have hB3 : Bel w (y.w.setCells b (k * 8) ((alAt l k).a.map (Value.int .i64))) := bel_sets HN.out _ _ (HB1.out.trans y.bel)
      have rx3 : RowAt (y.w.setCells b (k * 8) ((alAt l k).a.map (Value.int .i64))) p 25 [.slice A2 (alAt l k).a.length c2, .int .i64 (alAt l k).b, .bool (alAt l k).s] := (HRX.out.bel y.bel).block (World.heap_setCells_other _ _ _ _ (HRX.out.bel y.bel).lt hpb)
      have hl3 : (setsL (rowL (ofD l k) l.length) (k * 8) ((alAt l k).a.map (Value.int .i64))).length = l.length * 8 := by rw [setsL_len, rowL_len]
      have HROW := Lib.hid (of_row hlt (HA.out k hlt))
      generalize hU : y.w.setCells b (k * 8) ((alAt l k).a.map (Value.int .i64)) = U at *
      generalize hX : setsL (rowL (ofD l k) l.length) (k * 8) ((alAt l k).a.map (Value.int .i64)) = XS at *
      clear hX hU r2
      have HB3 := Lib.hid hB3
      clear hB3
      go_upto_region 6 with (fail)
      clear hc
      have fz := fun q => r3.frozen q
      have c6 : U.cell? ⟨b, k * 8 + 6, none⟩ = some (XS[k * 8 + 6]'(by omega)) := r3.cell (List.getElem?_eq_getElem _)
      have c7 : U.cell? ⟨b, k * 8 + 7, none⟩ = some (XS[k * 8 + 7]'(by omega)) := r3.cell (List.getElem?_eq_getElem _)
      have d1 := rx3.cell (i := 1) rfl
      have d2 := rx3.cell (i := 2) rfl
      have lx := rx3.lt
      have hbb := r3.lt
      have HR4 := Lib.hid ((r3.set (k * 8 + 6) (.int .i64 (alAt l k).b)).set (k * 8 + 7) (.bool (alAt l k).s))
      clear r3 rx3
      go_region
      have HB4 := Lib.hid ((HB3.out.set (p := ⟨b, k * 8 + 6, none⟩) HN.out (.int .i64 (alAt l k).b)).set (p := ⟨b, k * 8 + 7, none⟩) HN.out (.bool (alAt l k).s))
      generalize World.setCell (World.setCell U _ _) _ _ = W9 at *
      clear fz c6 c7 d1 d2 lx hbb
      go_wp2
      go_roundw
      case rel => exact ⟨k + 1, ⟨_, HB4.out.drewN 1⟩, hlt, by go_num, rfl, by rw [← HROW.out]; exact HR4.out.drewN 1⟩
      case measure => simp [intOf]; omega
    · obtain rfl : k = l.length := by omega
      have hd : decide ((l.length : Int) < (l.length : Int)) = false := by simp
      have HB1 := Lib.hid y0.bel
      go_wp2
      go_ret
      exact ⟨b, rfl, HN.out, HB1.out, HR.out⟩
end Go.Proofs.Ytalphoebmefgoaa
