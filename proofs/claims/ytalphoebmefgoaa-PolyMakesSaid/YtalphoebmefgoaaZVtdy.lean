/- poly.tidy. -/
import Derived.Test.YtalphoebmefgoaaG32
import Derived.Test.YtalphoebmefgoaaG33
import Derived.Test.YtalphoebmefgoaaG1
namespace Go.Proofs.Ytalphoebmefgoaa
open Go.RowKit
def zero6 : List Int := [0, 0, 0, 0, 0, 0]
theorem row_neq (x : Ln) (w : World) : (binOp .neq 70 (.agg #[.int .i64 x.a0, .int .i64 x.a1, .int .i64 x.a2, .int .i64 x.a3, .int .i64 x.a4, .int .i64 x.a5]) (.agg #[.int .i64 0, .int .i64 0, .int .i64 0, .int .i64 0, .int .i64 0, .int .i64 0])).run Try.prog w = .ok (.bool (decide (x.a ≠ zero6))) w := by
  obtain ⟨i, hi⟩ := Option.isSome_iff_exists.1 Try.infoI64r
  have hc : Try.prog.cellsOf 2 = 1 := by kernel_rfl
  have u2 := Try.underlying2
  rw [run_neq_struct, show (10000 : Nat) = 9999 + 1 from rfl, run_equalIn_array w 9999 _ _ Try.underlying70 hi, hc]
  simp only [show List.range 6 = [0, 1, 2, 3, 4, 5] from rfl, Op.eqItems]
  go_simp
  unfold Ln.a zero6
  repeat' split
  all_goals simp_all
/-- a line is put behind those of a row with room for it -/
theorem append_line {W : World} {b p k C : Nat} {d : Nat → Ln} {e2 : TypeId} {X : Ln} (r : RowAt W b 72 (rowL d C)) (hk : k + 1 ≤ C) (r2 : RowAt W p e2 X.cells) (ty : TypeId) :
    (Builtin.append_ #[61, 61] ty #[.slice (some ⟨b, 0, none⟩) k C, .slice (some ⟨p, 0, none⟩) 1 1]).run Try.prog W = .ok (.slice (some ⟨b, 0, none⟩) (k + 1) C) (setL W b (k * 8) X) := by
  obtain ⟨i0, hi, hz0, hz1, hz2⟩ := info_parts3 Try.infoLine
  have h := run_append_room_cells (P := Try.prog) W 61 ty 72 i0 Try.underlying61 hi b 0 k C ⟨p, 0, none⟩ 1 1 X.cells (by rw [hz1]; rfl)
    (fun j u hj => by rw [add_ofs, r2.cell?, hj]) (fun u hu => by
      simp only [Ln.cells, List.mem_cons, List.not_mem_nil, or_false] at hu
      rcases hu with rfl | rfl | rfl | rfl | rfl | rfl | rfl | rfl <;> rfl) hk
    (fun j hj => by rw [hz1, r.cell?, rowL_get d (by rw [cells8] at hj; omega)]; rfl) (fun j _ => r.frozen _)
  rw [hz1, Nat.zero_add] at h
  exact h
theorem box_set {W : World} {p : Nat} {e : TypeId} {X : Ln} (Z : Ln) (rx : RowAt W p e X.cells) : RowAt (setL W p 0 Z) p e Z.cells :=
  (((((((rx.set _ _).set _ _).set _ _).set _ _).set _ _).set _ _).set _ _).set _ _
theorem bel_setL {w W : World} {p o : Nat} (h : Bel w W) (hp : w.heap.size ≤ p) (Z : Ln) : Bel w (setL W p o Z) :=
  (((((((h.set (p := ⟨p, _, none⟩) hp _).set (p := ⟨p, _, none⟩) hp _).set (p := ⟨p, _, none⟩) hp _).set (p := ⟨p, _, none⟩) hp _).set (p := ⟨p, _, none⟩) hp _).set (p := ⟨p, _, none⟩) hp _).set (p := ⟨p, _, none⟩) hp _).set (p := ⟨p, _, none⟩) hp _
theorem far_setL {W : World} {p o b : Nat} {e : TypeId} {xs : List Value} (h : RowAt W b e xs) (hp : b ≠ p) (Z : Ln) : RowAt (setL W p o Z) b e xs :=
  (((((((h.far hp _).far hp _).far hp _).far hp _).far hp _).far hp _).far hp _).far hp _
theorem colL_cons (out : List Ln) (x : Ln) (t : List Ln) : colL out (x :: t) = if (lowL x).a ≠ [0, 0, 0, 0, 0, 0] then colL (out ++ [lowL x]) t else if (lowL x).b < 0 ∨ (lowL x).b = 0 ∧ (lowL x).s = true then none else colL out t := rfl
def TdyPost (l : List Ln) (w : World) (e : Ending) (w' : World) : Prop := ∃ v', e = .returned v' ∧ LnsAt w' w'.heap.size v' (tidyL l) ∧ Bel w w'
theorem grs_bel2 {w0 w w' : World} {b : Nat} (h : Bel w0 w) (hb : w0.heap.size ≤ b) (hg : GrsOk w [b] w') : Bel w0 w' :=
  ⟨hg.os.trans h.os, hg.tape.trans h.tape, hg.output.trans h.output, Nat.le_trans h.size hg.size, fun k hk => (hg.block k (Nat.lt_of_lt_of_le hk h.size) (by simp; omega)).trans (h.block k hk)⟩
set_option maxRecDepth 100000 in
set_option maxHeartbeats 8000000 in
theorem tidy_any (v : Value) (l : List Ln) (w : World) (h : LnsAt w w.heap.size v l) (hl : l.length ≤ 4000) (hwf : ∀ x ∈ l, x.wf) :
    Calls Try.prog 46 #[v] w (TdyPost l w) := by
  have H := Lib.hid h
  have HWF := Lib.hid hwf
  obtain ⟨A, c, rfl, hc⟩ := h.form
  clear h hwf
  have hmk : ∀ W : World, (Instr.makeSlice 61 (.int .i64 0) (.int .i64 (l.length : Int))).run Try.prog W = .ok (.slice (some ⟨W.heap.size, 0, none⟩) 0 l.length) (W.alloc (.cells (rowL (fun _ => zeroLn) l.length).toArray 72)) := fun W => make_lines 0 l.length (Nat.zero_le _) (by omega) W
  go_enter Try.func46, Try.ntmps46
  go_upto_region 2 with (fail)
  clear hmk
  have ro : RowAt (w.alloc (.cells (rowL (fun _ => zeroLn) l.length).toArray 72)) w.heap.size 72 (rowL (fun _ => zeroLn) l.length) := RowAt.new _ _ _
  generalize hW : World.alloc _ _ = w1 at *
  have HB := Lib.hid (show Bel w w1 by rw [← hW]; exact Bel.refl.alloc _)
  clear hW
  have HR := Lib.hid ro
  clear ro
  obtain ⟨b, hb⟩ : ∃ b, b = w.heap.size := ⟨_, rfl⟩
  rw [← hb] at HR ⊢
  have HN : Hid (w.heap.size ≤ b) := Lib.hid (by omega)
  clear hb
  go_wp2
  go_loopw [3, 11] (fun s3 s11 wq => ∃ (k : Nat) (y : Ext w) (d : Nat → Ln) (cs : List Ln), k ≤ l.length ∧ cs.length ≤ k ∧ s11 = .int .i64 k ∧ s3 = .slice (some ⟨b, 0, none⟩) cs.length l.length ∧ wq = y.w ∧ RowAt y.w b 72 (rowL d l.length) ∧ (∀ j, j < cs.length → d j = lnAt cs j) ∧ colL cs (l.drop k) = colL [] l) (fun _ s11 _ => l.length - (intOf s11).toNat)
  case atStart => exact ⟨0, ⟨_, HB.out⟩, fun _ => zeroLn, [], Nat.zero_le _, Nat.le_refl _, rfl, rfl, rfl, HR.out, fun j hj => absurd hj (by simp), by simp⟩
  case round =>
    obtain ⟨k, y0, d, cs, hk, hck, rfl, rfl, rfl, hr, hdc, hcol⟩ := hrel
    have HR := Lib.hid hr
    have HDC := Lib.hid hdc
    have HCOL := Lib.hid hcol
    clear hdc hcol
    by_cases hlt : k < l.length
    · have hd : decide ((k : Int) < (l.length : Int)) = true := by simp; omega
      have hL : (k : Int) < (l.length : Int) := by omega
      have wk : IntKind.i64.wrap ((k : Int) + 1) = ((k + 1 : Nat) : Int) := IntWalk.i64_in _ (by omega)
      obtain ⟨g, off, rfl, hg, hcl⟩ := (H.out.keep y0.bel.keeps y0.bel.le).at_ (by omega)
      obtain ⟨x0, x1, x2, x3, x4, x5, x6, x7⟩ := rd_line hcl hlt
      have HX := Lib.hid (show l.drop k = lnAt l k :: l.drop (k + 1) by rw [List.drop_eq_getElem_cons hlt, lnAt_get hlt])
      have HXW := Lib.hid (HWF.out _ (lnAt_mem hlt))
      clear hcl hr
      generalize lnAt l k = X at *
      have HLOW := Lib.hid (fun W => lowest_any X W HXW.out)
      have HC2 : Hid (colL cs (X :: l.drop (k + 1)) = colL [] l) := Lib.hid (by rw [← HX.out]; exact HCOL.out)
      rw [colL_cons] at HC2
      generalize lowL X = Z at *
      unfold Ln.V at HLOW
      have HBLT := Lib.hid (show b < y0.w.heap.size from HR.out.lt)
      clear HX HXW HCOL
      go_wp2_with fail
      refine (HLOW.out _).mono ?_
      rintro e w2 ⟨rfl, hB⟩
      have hBW := (show Bel y0.w _ from Bel.refl.alloc _).trans hB
      have rx := (RowAt.new y0.w 72 X.cells).bel hB
      clear hB HLOW x0 x1 x2 x3 x4 x5 x6 x7 hg
      obtain ⟨p, hp⟩ : ∃ p, p = y0.w.heap.size := ⟨_, rfl⟩
      rw [← hp] at rx ⊢
      have HPN : Hid (w.heap.size ≤ p ∧ b < p) := Lib.hid ⟨by rw [hp]; exact y0.bel.le, by rw [hp]; exact HBLT.out⟩
      clear hp
      have hrb := HR.out.bel hBW
      have HRB := Lib.hid hrb
      have HBW := Lib.hid (y0.bel.trans hBW)
      clear hrb hBW
      have q0 := rx.cell (i := 0) rfl
      have q1 := rx.cell (i := 1) rfl
      have q2 := rx.cell (i := 2) rfl
      have q3 := rx.cell (i := 3) rfl
      have q4 := rx.cell (i := 4) rfl
      have q5 := rx.cell (i := 5) rfl
      have q6 := rx.cell (i := 6) rfl
      have q7 := rx.cell (i := 7) rfl
      have fz := fun q => rx.frozen q
      have lx := rx.lt
      go_upto_region 6 with (fail)
      generalize hW : World.setCell (World.setCell _ _ _) _ _ = w3
      have rz : RowAt w3 p 72 Z.cells := by rw [← hW]; exact box_set Z rx
      have hB3 : Bel w w3 := by rw [← hW]; exact bel_setL (o := 0) HBW.out HPN.out.1 Z
      have hr3 : RowAt w3 b 72 (rowL d l.length) := by rw [← hW]; exact far_setL (o := 0) HRB.out (by have := HPN.out.2; omega) Z
      clear hW q0 q1 q2 q3 q4 q5 q6 q7 fz lx rx HRB HBW
      have HB3 := Lib.hid hB3
      have HR3 := Lib.hid hr3
      clear hB3 hr3
      have z0 := rz.cell (i := 0) rfl
      have z1 := rz.cell (i := 1) rfl
      have z2 := rz.cell (i := 2) rfl
      have z3 := rz.cell (i := 3) rfl
      have z4 := rz.cell (i := 4) rfl
      have z5 := rz.cell (i := 5) rfl
      have z6 := rz.cell (i := 6) rfl
      have z7 := rz.cell (i := 7) rfl
      have lx := rz.lt
      have hne := fun W => row_neq Z W
      obtain ⟨r, hrq⟩ : ∃ r, decide (Z.a ≠ zero6) = r := ⟨_, rfl⟩
      rw [hrq] at hne
      have HRZ := Lib.hid rz
      clear rz
      cases r
      · have hz : ¬ (Z.a ≠ [0, 0, 0, 0, 0, 0]) := of_decide_eq_false hrq
        rw [if_neg hz] at HC2
        clear hz hrq
        have HFALSE : Hid (none = colL [] l → TdyPost l w (.returned (.slice (some ⟨w3.heap.size, 0, none⟩) 1 1)) (w3.alloc (.cells #[.int .i64 0, .int .i64 0, .int .i64 0, .int .i64 0, .int .i64 0, .int .i64 0, .int .i64 0, .bool true] 72))) := Lib.hid (fun hc => by
          have e : tidyL l = [falseLn] := by unfold tidyL; rw [← hc]
          refine ⟨_, rfl, ?_, HB3.out.alloc _⟩
          rw [e]
          exact LnsAt.of_row (l := [falseLn]) (RowAt.new w3 72 falseLn.cells) (Nat.le_refl _) (fun k hk j hj => by
            obtain rfl : k = 0 := by simpa using hk
            rw [Nat.zero_mul, Nat.zero_add]; exact cells_c falseLn hj))
        by_cases hb1 : Z.b < 0
        · have hd1 : decide (Z.b < 0) = true := by simp [hb1]
          have HF := Lib.hid (HFALSE.out (by have := HC2.out; rwa [if_pos (.inl hb1)] at this))
          clear HFALSE hb1
          go_wp2
          go_ret
          exact HF.out
        · have hd1 : decide (Z.b < 0) = false := by simp [hb1]
          by_cases hb0 : Z.b = 0
          · have hd2 : (Z.b == 0) = true := by simp [hb0]
            cases hs : Z.s
            · rw [hs] at z7
              have HC3 : Hid (colL cs (l.drop (k + 1)) = colL [] l) := Lib.hid (by have := HC2.out; rwa [if_neg (by rw [hs]; simp; omega)] at this)
              clear HFALSE hb1 hb0 hs
              go_wp2
              go_roundw
              case rel => exact ⟨k + 1, ⟨_, HB3.out⟩, d, cs, hlt, by omega, by go_num, rfl, rfl, HR3.out, HDC.out, HC3.out⟩
              case measure => simp [intOf]; omega
            · rw [hs] at z7
              have HF := Lib.hid (HFALSE.out (by have := HC2.out; rwa [if_pos (.inr ⟨hb0, hs⟩)] at this))
              clear HFALSE hb1 hb0 hs
              go_wp2
              go_ret
              exact HF.out
          · have hd2 : (Z.b == 0) = false := by simp [hb0]
            have HC3 : Hid (colL cs (l.drop (k + 1)) = colL [] l) := Lib.hid (by have := HC2.out; rwa [if_neg (by intro hc; rcases hc with h | h <;> omega)] at this)
            clear HFALSE hb1 hb0
            go_wp2
            go_roundw
            case rel => exact ⟨k + 1, ⟨_, HB3.out⟩, d, cs, hlt, by omega, by go_num, rfl, rfl, HR3.out, HDC.out, HC3.out⟩
            case measure => simp [intOf]; omega
      · have hz : Z.a ≠ [0, 0, 0, 0, 0, 0] := of_decide_eq_true hrq
        rw [if_pos hz] at HC2
        clear hz hrq
        have hap := fun ty => append_line (X := Z) (HR3.out.alloc (.cells #[.int .i64 Z.a0, .int .i64 Z.a1, .int .i64 Z.a2, .int .i64 Z.a3, .int .i64 Z.a4, .int .i64 Z.a5, .int .i64 Z.b, .bool Z.s] 72)) (show cs.length + 1 ≤ l.length by omega) (RowAt.new w3 72 Z.cells) ty
        have hr4 := row_put (HR3.out.alloc (.cells #[.int .i64 Z.a0, .int .i64 Z.a1, .int .i64 Z.a2, .int .i64 Z.a3, .int .i64 Z.a4, .int .i64 Z.a5, .int .i64 Z.b, .bool Z.s] 72)) (show cs.length < l.length by omega) Z
        have hb4 := bel_setL (o := cs.length * 8) (HB3.out.alloc (.cells #[.int .i64 Z.a0, .int .i64 Z.a1, .int .i64 Z.a2, .int .i64 Z.a3, .int .i64 Z.a4, .int .i64 Z.a5, .int .i64 Z.b, .bool Z.s] 72)) HN.out Z
        generalize hU : setL _ b (cs.length * 8) Z = U at *
        clear hU
        have HR4 := Lib.hid hr4
        have HB4 := Lib.hid hb4
        clear hr4 hb4
        have wc : ((cs.length + 1 : Nat) : Int) = (cs ++ [Z]).length := by simp
        have HCL : Hid ((cs ++ [Z]).length = cs.length + 1) := Lib.hid (by simp)
        clear wc
        go_wp2_with (at_builtin; go_must (refine wpList_append_run rfl _ _ 61 rfl _ _ _ rfl rfl (hap _) ?_))
        go_roundw
        case rel => exact ⟨k + 1, ⟨_, HB4.out⟩, putL d cs.length Z, cs ++ [Z], hlt, by rw [HCL.out]; omega, by go_num, by rw [HCL.out], rfl, HR4.out, fun j hj => by
          rw [HCL.out] at hj
          unfold putL lnAt
          by_cases hjk : j = cs.length
          · rw [if_pos hjk, hjk, List.getD_eq_getElem?_getD, List.getElem?_append_right (Nat.le_refl _), Nat.sub_self]; rfl
          · rw [if_neg hjk, HDC.out j (by omega), List.getD_eq_getElem?_getD, List.getElem?_append_left (by omega), ← List.getD_eq_getElem?_getD]; rfl, HC2.out⟩
        case measure => simp [intOf]; omega
    · obtain rfl : k = l.length := by omega
      have hd : decide ((l.length : Int) < (l.length : Int)) = false := by simp
      have HCS : Hid (tidyL l = cs.foldl insL []) := Lib.hid (by
        have e := HCOL.out
        rw [List.drop_length] at e
        unfold tidyL; rw [← e]; rfl)
      have HSO := Lib.hid (sortR_any b l.length cs.length l.length d y0.w hr hck (by omega))
      clear hr
      go_wp2_with fail
      refine HSO.out.mono ?_
      rintro e w2 ⟨rfl, hg, f, hr, hsm, hst⟩
      have HB2 := Lib.hid (grs_bel2 y0.bel HN.out hg)
      have HKT := Lib.hid (kept_tidy HDC.out hsm hst)
      have HCP := Lib.hid (compact_any b l.length cs.length l.length f w2 hr hck hck (by omega))
      clear hg hr hsm hst HSO
      go_wp2_with fail
      refine HCP.out.mono ?_
      rintro e w3 ⟨rfl, hg, xs, hr, hxl, hx⟩
      have HB3 := Lib.hid (grs_bel2 HB2.out HN.out hg)
      rw [HKT.out, ← HCS.out] at hx ⊢
      have HKL : Hid ((tidyL l).length ≤ l.length) := Lib.hid (by rw [HCS.out, ← HKT.out]; exact Nat.le_trans (kept_le _ _) hck)
      have HPO := Lib.hid (LnsAt.of_row hr HKL.out hx)
      clear hg hr hxl hx HCP
      go_wp2
      go_ret
      exact ⟨_, rfl, HPO.out, HB3.out⟩
end Go.Proofs.Ytalphoebmefgoaa
