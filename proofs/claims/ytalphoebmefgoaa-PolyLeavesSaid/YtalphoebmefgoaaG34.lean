import Derived.Test.YtalphoebmefgoaaG32
import Derived.Test.YtalphoebmefgoaaG33
import Derived.Test.YtalphoebmefgoaaG1
import Derived.ArgAppend
/- poly.tidy. -/
namespace Go.Proofs.Ytalphoebmefgoaa
open Go.RowKit
def zero6 : List Int := [0, 0, 0, 0, 0, 0]
theorem row_neq (x : Ln) (w : World) : (binOp .neq 70 (.agg #[.int .i64 x.a0, .int .i64 x.a1, .int .i64 x.a2, .int .i64 x.a3, .int .i64 x.a4, .int .i64 x.a5]) (.agg #[.int .i64 0, .int .i64 0, .int .i64 0, .int .i64 0, .int .i64 0, .int .i64 0])).run Try.prog w = .ok (.bool (decide (x.a ≠ zero6))) w := by
  obtain ⟨i, hi⟩ := Option.isSome_iff_exists.1 Try.infoI64r
  have hc : Try.prog.cellsOf 2 = 1 := by kernel_rfl
  have u2 := Try.underlying2
  rw [run_neq_struct, show (10000 : Nat) = 9999 + 1 from rfl, run_equalIn_array w 9999 _ _ Try.underlying70 hi, hc]
  simp only [show List.range 6 = [0, 1, 2, 3, 4, 5] from rfl, Op.eqItems]
  go_simp
  unfold Ln.a zero6
  repeat' split
  all_goals simp_all
/-- a line is put behind those of a row with room for it -/
theorem append_line {W : World} {b p k C : Nat} {d : Nat → Ln} {e2 : TypeId} {X : Ln} (r : RowAt W b 72 (rowL d C)) (hk : k + 1 ≤ C) (r2 : RowAt W p e2 X.cells) (ty : TypeId) :
    (Builtin.append_ #[61, 61] ty #[.slice (some ⟨b, 0, none⟩) k C, .slice (some ⟨p, 0, none⟩) 1 1]).run Try.prog W = .ok (.slice (some ⟨b, 0, none⟩) (k + 1) C) (setL W b (k * 8) X) := by
  obtain ⟨i0, hi, hz0, hz1, hz2⟩ := info_parts3 Try.infoLine
  have h := run_append_room_cells (P := Try.prog) W 61 ty 72 i0 Try.underlying61 hi b 0 k C ⟨p, 0, none⟩ 1 1 X.cells (by rw [hz1]; rfl)
    (fun j u hj => by rw [add_ofs, r2.cell?, hj]) (fun u hu => by
      simp only [Ln.cells, List.mem_cons, List.not_mem_nil, or_false] at hu
      rcases hu with rfl | rfl | rfl | rfl | rfl | rfl | rfl | rfl <;> rfl) hk
    (fun j hj => by rw [hz1, r.cell?, rowL_get d (by rw [cells8] at hj; omega)]; rfl) (fun j _ => r.frozen _)
  rw [hz1, Nat.zero_add] at h
  exact h
theorem box_set {W : World} {p : Nat} {e : TypeId} {X : Ln} (Z : Ln) (rx : RowAt W p e X.cells) : RowAt (setL W p 0 Z) p e Z.cells :=
  (((((((rx.set _ _).set _ _).set _ _).set _ _).set _ _).set _ _).set _ _).set _ _
theorem bel_setL {w W : World} {p o : Nat} (h : Bel w W) (hp : w.heap.size ≤ p) (Z : Ln) : Bel w (setL W p o Z) :=
  (((((((h.set (p := ⟨p, _, none⟩) hp _).set (p := ⟨p, _, none⟩) hp _).set (p := ⟨p, _, none⟩) hp _).set (p := ⟨p, _, none⟩) hp _).set (p := ⟨p, _, none⟩) hp _).set (p := ⟨p, _, none⟩) hp _).set (p := ⟨p, _, none⟩) hp _).set (p := ⟨p, _, none⟩) hp _
theorem far_setL {W : World} {p o b : Nat} {e : TypeId} {xs : List Value} (h : RowAt W b e xs) (hp : b ≠ p) (Z : Ln) : RowAt (setL W p o Z) b e xs :=
  (((((((h.far hp _).far hp _).far hp _).far hp _).far hp _).far hp _).far hp _).far hp _
theorem colL_cons (out : List Ln) (x : Ln) (t : List Ln) : colL out (x :: t) = if (lowL x).a ≠ [0, 0, 0, 0, 0, 0] then colL (out ++ [lowL x]) t else if (lowL x).b < 0 ∨ (lowL x).b = 0 ∧ (lowL x).s = true then none else colL out t := rfl
def TdyPost (l : List Ln) (w : World) (e : Ending) (w' : World) : Prop := ∃ v', e = .returned v' ∧ LnsAt w' w'.heap.size v' (tidyL l) ∧ Bel w w'
theorem grs_bel2 {w0 w w' : World} {b : Nat} (h : Bel w0 w) (hb : w0.heap.size ≤ b) (hg : GrsOk w [b] w') : Bel w0 w' :=
  ⟨hg.os.trans h.os, hg.tape.trans h.tape, hg.output.trans h.output, Nat.le_trans h.size hg.size, fun k hk => (hg.block k (Nat.lt_of_lt_of_le hk h.size) (by simp; omega)).trans (h.block k hk)⟩
set_option maxRecDepth 100000 in
set_option maxHeartbeats 8000000 in
theorem tidy_any (v : Value) (l : List Ln) (w : World) (h : LnsAt w w.heap.size v l) (hl : l.length ≤ 4000) (hwf : ∀ x ∈ l, x.wf) :
    Calls Try.prog 46 #[v] w (TdyPost l w) := by
  have H := Lib.hid h
  have HWF := Lib.hid hwf
  obtain ⟨A, c, rfl, hc⟩ := h.form
  clear h hwf
  have hmk : ∀ W : World, (Instr.makeSlice 61 (.int .i64 0) (.int .i64 (l.length : Int))).run Try.prog W = .ok (.slice (some ⟨W.heap.size, 0, none⟩) 0 l.length) (W.alloc (.cells (rowL (fun _ => zeroLn) l.length).toArray 72)) := fun W => make_lines 0 l.length (Nat.zero_le _) (by omega) W
  go_enter Try.func46, Try.ntmps46
  go_upto_region 2 with (fail)
  clear hmk
  have ro : RowAt (w.alloc (.cells (rowL (fun _ => zeroLn) l.length).toArray 72)) w.heap.size 72 (rowL (fun _ => zeroLn) l.length) := RowAt.new _ _ _
  generalize hW : World.alloc _ _ = w1 at *
  have HB := Lib.hid (show Bel w w1 by rw [← hW]; exact Bel.refl.alloc _)
  clear hW
  have HR := Lib.hid ro
  clear ro
  obtain ⟨b, hb⟩ : ∃ b, b = w.heap.size := ⟨_, rfl⟩
  rw [← hb] at HR ⊢
  have HN : Hid (w.heap.size ≤ b) := Lib.hid (by omega)
  clear hb
  go_wp2
  go_loopw [3, 11] (fun s3 s11 wq => ∃ (k : Nat) (y : Ext w) (d : Nat → Ln) (cs : List Ln), k ≤ l.length ∧ cs.length ≤ k ∧ s11 = .int .i64 k ∧ s3 = .slice (some ⟨b, 0, none⟩) cs.length l.length ∧ wq = y.w ∧ RowAt y.w b 72 (rowL d l.length) ∧ (∀ j, j < cs.length → d j = lnAt cs j) ∧ colL cs (l.drop k) = colL [] l) (fun _ s11 _ => l.length - (intOf s11).toNat)
  case atStart => exact ⟨0, ⟨_, HB.out⟩, fun _ => zeroLn, [], Nat.zero_le _, Nat.le_refl _, rfl, rfl, rfl, HR.out, fun j hj => absurd hj (by simp), by simp⟩
  case round =>
    obtain ⟨k, y0, d, cs, hk, hck, rfl, rfl, rfl, hr, hdc, hcol⟩ := hrel
    have HR := Lib.hid hr
    have HDC := Lib.hid hdc
    have HCOL := Lib.hid hcol
    clear hdc hcol
    by_cases hlt : k < l.length
    · have hd : decide ((k : Int) < (l.length : Int)) = true := by simp; omega
      have hL : (k : Int) < (l.length : Int) := by omega
      have wk : IntKind.i64.wrap ((k : Int) + 1) = ((k + 1 : Nat) : Int) := IntWalk.i64_in _ (by omega)
      obtain ⟨g, off, rfl, hg, hcl⟩ := (H.out.keep y0.bel.keeps y0.bel.le).at_ (by omega)
      obtain ⟨x0, x1, x2, x3, x4, x5, x6, x7⟩ := rd_line hcl hlt
      have HX := Lib.hid (show l.drop k = lnAt l k :: l.drop (k + 1) by rw [List.drop_eq_getElem_cons hlt, lnAt_get hlt])
      have HXW := Lib.hid (HWF.out _ (lnAt_mem hlt))
      clear hcl hr
      generalize lnAt l k = X at *
      have HLOW := Lib.hid (fun W => lowest_any X W HXW.out)
      have HC2 : Hid (colL cs (X :: l.drop (k + 1)) = colL [] l) := Lib.hid (by rw [← HX.out]; exact HCOL.out)
      rw [colL_cons] at HC2
      generalize lowL X = Z at *
      unfold Ln.V at HLOW
      have HBLT := Lib.hid (show b < y0.w.heap.size from HR.out.lt)
      clear HX HXW HCOL
      go_wp2_with fail
      refine (HLOW.out _).mono ?_
      rintro e w2 ⟨rfl, hB⟩
      have hBW := (show Bel y0.w _ from Bel.refl.alloc _).trans hB
      have rx := (RowAt.new y0.w 72 X.cells).bel hB
      clear hB HLOW x0 x1 x2 x3 x4 x5 x6 x7 hg
      obtain ⟨p, hp⟩ : ∃ p, p = y0.w.heap.size := ⟨_, rfl⟩
      rw [← hp] at rx ⊢
      have HPN : Hid (w.heap.size ≤ p ∧ b < p) := Lib.hid ⟨by rw [hp]; exact y0.bel.le, by rw [hp]; exact HBLT.out⟩
      clear hp
      have hrb := HR.out.bel hBW
      have HRB := Lib.hid hrb
      have HBW := Lib.hid (y0.bel.trans hBW)
      clear hrb hBW
      have q0 := rx.cell (i := 0) rfl
      have q1 := rx.cell (i := 1) rfl
      have q2 := rx.cell (i := 2) rfl
      have q3 := rx.cell (i := 3) rfl
      have q4 := rx.cell (i := 4) rfl
      have q5 := rx.cell (i := 5) rfl
      have q6 := rx.cell (i := 6) rfl
      have q7 := rx.cell (i := 7) rfl
      have fz := fun q => rx.frozen q
      have lx := rx.lt
      go_upto_region 6 with (fail)
      generalize hW : World.setCell (World.setCell _ _ _) _ _ = w3
      have rz : RowAt w3 p 72 Z.cells := by rw [← hW]; exact box_set Z rx
      have hB3 : Bel w w3 := by rw [← hW]; exact bel_setL (o := 0) HBW.out HPN.out.1 Z
      have hr3 : RowAt w3 b 72 (rowL d l.length) := by rw [← hW]; exact far_setL (o := 0) HRB.out (by have := HPN.out.2; omega) Z
      clear hW q0 q1 q2 q3 q4 q5 q6 q7 fz lx rx HRB HBW
      have HB3 := Lib.hid hB3
      have HR3 := Lib.hid hr3
      clear hB3 hr3
      have z0 := rz.cell (i := 0) rfl
      have z1 := rz.cell (i := 1) rfl
      have z2 := rz.cell (i := 2) rfl
      have z3 := rz.cell (i := 3) rfl
      have z4 := rz.cell (i := 4) rfl
      have z5 := rz.cell (i := 5) rfl
      have z6 := rz.cell (i := 6) rfl
      have z7 := rz.cell (i := 7) rfl
      have lx := rz.lt
      have hne := fun W => row_neq Z W
      obtain ⟨r, hrq⟩ : ∃ r, decide (Z.a ≠ zero6) = r := ⟨_, rfl⟩
      rw [hrq] at hne
      have HRZ := Lib.hid rz
      clear rz
      cases r
      · have hz : ¬ (Z.a ≠ [0, 0, 0, 0, 0, 0]) := of_decide_eq_false hrq
        rw [if_neg hz] at HC2
        clear hz hrq
        have HFALSE : Hid (none = colL [] l → TdyPost l w (.returned (.slice (some ⟨w3.heap.size, 0, none⟩) 1 1)) (w3.alloc (.cells #[.int .i64 0, .int .i64 0, .int .i64 0, .int .i64 0, .int .i64 0, .int .i64 0, .int .i64 0, .bool true] 72))) := Lib.hid (fun hc => by
          have e : tidyL l = [falseLn] := by unfold tidyL; rw [← hc]
          refine ⟨_, rfl, ?_, HB3.out.alloc _⟩
          rw [e]
          exact LnsAt.of_row (l := [falseLn]) (RowAt.new w3 72 falseLn.cells) (Nat.le_refl _) (fun k hk j hj => by
            obtain rfl : k = 0 := by simpa using hk
            rw [Nat.zero_mul, Nat.zero_add]; exact cells_c falseLn hj))
        by_cases hb1 : Z.b < 0
        · have hd1 : decide (Z.b < 0) = true := by simp [hb1]
          have HF := Lib.hid (HFALSE.out (by have := HC2.out; rwa [if_pos (.inl hb1)] at this))
          clear HFALSE hb1
          go_wp2
          go_ret
          exact HF.out
        · have hd1 : decide (Z.b < 0) = false := by simp [hb1]
          by_cases hb0 : Z.b = 0
          · have hd2 : (Z.b == 0) = true := by simp [hb0]
            cases hs : Z.s
            · rw [hs] at z7
              have HC3 : Hid (colL cs (l.drop (k + 1)) = colL [] l) := Lib.hid (by have := HC2.out; rwa [if_neg (by rw [hs]; simp; omega)] at this)
              clear HFALSE hb1 hb0 hs
              go_wp2
              go_roundw
              case rel => exact ⟨k + 1, ⟨_, HB3.out⟩, d, cs, hlt, by omega, by go_num, rfl, rfl, HR3.out, HDC.out, HC3.out⟩
              case measure => simp [intOf]; omega
            · rw [hs] at z7
              have HF := Lib.hid (HFALSE.out (by have := HC2.out; rwa [if_pos (.inr ⟨hb0, hs⟩)] at this))
              clear HFALSE hb1 hb0 hs
              go_wp2
              go_ret
              exact HF.out
          · have hd2 : (Z.b == 0) = false := by simp [hb0]
            have HC3 : Hid (colL cs (l.drop (k + 1)) = colL [] l) := Lib.hid (by have := HC2.out; rwa [if_neg (by intro hc; rcases hc with h | h <;> omega)] at this)
            clear HFALSE hb1 hb0
            go_wp2
            go_roundw
            case rel => exact ⟨k + 1, ⟨_, HB3.out⟩, d, cs, hlt, by omega, by go_num, rfl, rfl, HR3.out, HDC.out, HC3.out⟩
            case measure => simp [intOf]; omega
      · have hz : Z.a ≠ [0, 0, 0, 0, 0, 0] := of_decide_eq_true hrq
        rw [if_pos hz] at HC2
        clear hz hrq
        have hap := fun ty => append_line (X := Z) (HR3.out.alloc (.cells #[.int .i64 Z.a0, .int .i64 Z.a1, .int .i64 Z.a2, .int .i64 Z.a3, .int .i64 Z.a4, .int .i64 Z.a5, .int .i64 Z.b, .bool Z.s] 72)) (show cs.length + 1 ≤ l.length by omega) (RowAt.new w3 72 Z.cells) ty
        have hr4 := row_put (HR3.out.alloc (.cells #[.int .i64 Z.a0, .int .i64 Z.a1, .int .i64 Z.a2, .int .i64 Z.a3, .int .i64 Z.a4, .int .i64 Z.a5, .int .i64 Z.b, .bool Z.s] 72)) (show cs.length < l.length by omega) Z
        have hb4 := bel_setL (o := cs.length * 8) (HB3.out.alloc (.cells #[.int .i64 Z.a0, .int .i64 Z.a1, .int .i64 Z.a2, .int .i64 Z.a3, .int .i64 Z.a4, .int .i64 Z.a5, .int .i64 Z.b, .bool Z.s] 72)) HN.out Z
        generalize hU : setL _ b (cs.length * 8) Z = U at *
        clear hU
        have HR4 := Lib.hid hr4
        have HB4 := Lib.hid hb4
        clear hr4 hb4
        have wc : ((cs.length + 1 : Nat) : Int) = (cs ++ [Z]).length := by simp
        have HCL : Hid ((cs ++ [Z]).length = cs.length + 1) := Lib.hid (by simp)
        clear wc
        go_wp2_with (at_builtin; go_must (refine wpList_append_run rfl _ _ 61 rfl _ _ _ rfl rfl (hap _) ?_))
        go_roundw
        case rel => exact ⟨k + 1, ⟨_, HB4.out⟩, putL d cs.length Z, cs ++ [Z], hlt, by rw [HCL.out]; omega, by go_num, by rw [HCL.out], rfl, HR4.out, fun j hj => by
          rw [HCL.out] at hj
          unfold putL lnAt
          by_cases hjk : j = cs.length
          · rw [if_pos hjk, hjk, List.getD_eq_getElem?_getD, List.getElem?_append_right (Nat.le_refl _), Nat.sub_self]; rfl
          · rw [if_neg hjk, HDC.out j (by omega), List.getD_eq_getElem?_getD, List.getElem?_append_left (by omega), ← List.getD_eq_getElem?_getD]; rfl, HC2.out⟩
        case measure => simp [intOf]; omega
    · obtain rfl : k = l.length := by omega
      have hd : decide ((l.length : Int) < (l.length : Int)) = false := by simp
      have HCS : Hid (tidyL l = cs.foldl insL []) := Lib.hid (by
        have e := HCOL.out
        rw [List.drop_length] at e
        unfold tidyL; rw [← e]; rfl)
      have HSO := Lib.hid (sortR_any b l.length cs.length l.length d y0.w hr hck (by omega))
      clear hr
      go_wp2_with fail
      refine HSO.out.mono ?_
      rintro e w2 ⟨rfl, hg, f, hr, hsm, hst⟩
      have HB2 := Lib.hid (grs_bel2 y0.bel HN.out hg)
      have HKT := Lib.hid (kept_tidy HDC.out hsm hst)
      have HCP := Lib.hid (compact_any b l.length cs.length l.length f w2 hr hck hck (by omega))
      clear hg hr hsm hst HSO
      go_wp2_with fail
      refine HCP.out.mono ?_
      rintro e w3 ⟨rfl, hg, xs, hr, hxl, hx⟩
      have HB3 := Lib.hid (grs_bel2 HB2.out HN.out hg)
      rw [HKT.out, ← HCS.out] at hx ⊢
      have HKL : Hid ((tidyL l).length ≤ l.length) := Lib.hid (by rw [HCS.out, ← HKT.out]; exact Nat.le_trans (kept_le _ _) hck)
      have HPO := Lib.hid (LnsAt.of_row hr HKL.out hx)
      clear hg hr hxl hx HCP
      go_wp2
      go_ret
      exact ⟨_, rfl, HPO.out, HB3.out⟩
end Go.Proofs.Ytalphoebmefgoaa
/- poly.leave: the model, its numbers, the row of what is gathered. -/
namespace Go.Proofs.Ytalphoebmefgoaa
open Go.RowKit
def mulL (a : Int) (x : Ln) (b : Int) (y : Ln) (k : Nat) : Ln :=
  ⟨if 0 < k then a * x.a0 + b * y.a0 else 0, if 1 < k then a * x.a1 + b * y.a1 else 0, if 2 < k then a * x.a2 + b * y.a2 else 0, if 3 < k then a * x.a3 + b * y.a3 else 0, if 4 < k then a * x.a4 + b * y.a4 else 0, if 5 < k then a * x.a5 + b * y.a5 else 0, a * x.b + b * y.b, x.s || y.s⟩
def gdL (i : Nat) (p : Ln × Ln) : Nat := Int.gcd (-(ci p.2 i)) (ci p.1 i)
def saL (i : Nat) (p : Ln × Ln) : Int := (-(ci p.2 i)).tdiv (gdL i p)
def sbL (i : Nat) (p : Ln × Ln) : Int := (ci p.1 i).tdiv (gdL i p)
def sumL (i : Nat) (p : Ln × Ln) : Ln := lowL (shortL (mulL (saL i p) p.1 (sbL i p) p.2 6) i)
/-- the numbers of a valid line -/
def Ln.inr (x : Ln) : Prop := ∀ c, c ∈ x.a ++ [x.b] → c.natAbs ≤ 2147483647
def okL (x : Ln) : Bool := (x.a ++ [x.b]).all inR
def leaveL (l : List Ln) (i : Nat) : List Ln × Int :=
  let outs := (l.filter fun x => decide (ci x i = 0)).map (shortL · i)
  if 1000 < outs.length + (posL l i).length * (negL l i).length then ([], 3)
  else if (PL l i).all (fun p => okL (sumL i p)) then (tidyL (outs ++ (PL l i).map (sumL i)), 0) else ([], 7)
theorem Ln.inr.ci {x : Ln} (h : x.inr) (i : Nat) : (ci x i).natAbs ≤ 2147483647 := by
  unfold Go.Proofs.Ytalphoebmefgoaa.ci
  rw [List.getD_eq_getElem?_getD]
  cases e : x.a[i]? with
  | none => simp
  | some c => exact h c (List.mem_append_left _ (List.mem_of_getElem? e))
theorem Ln.inr.b {x : Ln} (h : x.inr) : x.b.natAbs ≤ 2147483647 := h _ (by simp)
theorem Ln.inr.wf {x : Ln} (h : x.inr) : x.wf := fun c hc => Nat.lt_of_le_of_lt (h c hc) (by decide)
theorem okL_inr {x : Ln} (h : okL x = true) : x.inr := fun c hc => by
  have := List.all_eq_true.1 h c hc
  unfold inR at this
  simp only [Bool.and_eq_true, decide_eq_true_eq] at this
  omega
theorem gd_pos {i : Nat} {p : Ln × Ln} (h : 0 < ci p.1 i) : 1 ≤ gdL i p := by
  unfold gdL
  rcases Nat.eq_zero_or_pos (Int.gcd (-(ci p.2 i)) (ci p.1 i)) with e | e
  · have := (Int.gcd_eq_zero_iff.1 e).2; omega
  · exact e
theorem tdiv_le {a : Int} {g : Nat} {M : Nat} (h : a.natAbs ≤ M) : (a.tdiv (g : Int)).natAbs ≤ M := by
  rw [Int.natAbs_tdiv]
  exact Nat.le_trans (Nat.div_le_self _ _) h
theorem sa_in {i : Nat} {p : Ln × Ln} (h : p.2.inr) : (saL i p).natAbs ≤ 2147483647 := tdiv_le (by have := h.ci i; omega)
theorem sb_in {i : Nat} {p : Ln × Ln} (h : p.1.inr) : (sbL i p).natAbs ≤ 2147483647 := tdiv_le (h.ci i)
theorem mul_in {a c : Int} (ha : a.natAbs ≤ 2147483647) (hc : c.natAbs ≤ 2147483647) : (a * c).natAbs ≤ 4611686014132420609 := by
  rw [Int.natAbs_mul]
  exact Nat.le_trans (Nat.mul_le_mul ha hc) (by decide)
theorem wrap_in {a : Int} (h : a.natAbs ≤ 9223372028264841218) : IntKind.i64.wrap a = a := IntWalk.i64_in _ (by omega)
theorem lin_in {a x b y : Int} (ha : a.natAbs ≤ 2147483647) (hx : x.natAbs ≤ 2147483647) (hb : b.natAbs ≤ 2147483647) (hy : y.natAbs ≤ 2147483647) :
    IntKind.i64.wrap (a * x) = a * x ∧ IntKind.i64.wrap (b * y) = b * y ∧ IntKind.i64.wrap (a * x + b * y) = a * x + b * y ∧ (a * x + b * y).natAbs ≤ 9223372028264841218 := by
  have h1 := mul_in ha hx
  have h2 := mul_in hb hy
  exact ⟨wrap_in (by omega), wrap_in (by omega), wrap_in (by omega), by omega⟩
theorem mul_wf {a b : Int} {x y : Ln} (ha : a.natAbs ≤ 2147483647) (hb : b.natAbs ≤ 2147483647) (hx : x.inr) (hy : y.inr) : (mulL a x b y 6).wf := by
  intro c hc
  have hk : ∀ i, (a * ci x i + b * ci y i).natAbs ≤ 9223372028264841218 := fun i => (lin_in ha (hx.ci i) hb (hy.ci i)).2.2.2
  have hb' : (a * x.b + b * y.b).natAbs ≤ 9223372028264841218 := (lin_in ha hx.b hb hy.b).2.2.2
  simp only [mulL, Ln.a, List.cons_append, List.nil_append, List.mem_cons, List.not_mem_nil, or_false] at hc
  have h0 := hk 0
  have h1 := hk 1
  have h2 := hk 2
  have h3 := hk 3
  have h4 := hk 4
  have h5 := hk 5
  simp only [Go.Proofs.Ytalphoebmefgoaa.ci, Ln.a, List.getD_cons_zero, List.getD_cons_succ] at h0 h1 h2 h3 h4 h5
  rcases hc with rfl | rfl | rfl | rfl | rfl | rfl | rfl
  all_goals (try simp only [Nat.reduceLT, if_true]); omega
theorem short_wf {x : Ln} (h : x.wf) (i : Nat) : (shortL x i).wf := by
  intro c hc
  have h0 := h x.a0 (by simp [Ln.a])
  have h1 := h x.a1 (by simp [Ln.a])
  have h2 := h x.a2 (by simp [Ln.a])
  have h3 := h x.a3 (by simp [Ln.a])
  have h4 := h x.a4 (by simp [Ln.a])
  have h5 := h x.a5 (by simp [Ln.a])
  have h6 := h x.b (by simp [Ln.a])
  simp only [shortL, Ln.a, List.cons_append, List.nil_append, List.mem_cons, List.not_mem_nil, or_false] at hc
  rcases hc with rfl | rfl | rfl | rfl | rfl | rfl | rfl
  all_goals first | (split <;> assumption) | assumption | decide
theorem short_inr {x : Ln} (h : x.inr) (i : Nat) : (shortL x i).inr := by
  intro c hc
  have h0 := h x.a0 (by simp [Ln.a])
  have h1 := h x.a1 (by simp [Ln.a])
  have h2 := h x.a2 (by simp [Ln.a])
  have h3 := h x.a3 (by simp [Ln.a])
  have h4 := h x.a4 (by simp [Ln.a])
  have h5 := h x.a5 (by simp [Ln.a])
  have h6 := h x.b (by simp [Ln.a])
  simp only [shortL, Ln.a, List.cons_append, List.nil_append, List.mem_cons, List.not_mem_nil, or_false] at hc
  rcases hc with rfl | rfl | rfl | rfl | rfl | rfl | rfl
  all_goals first | (split <;> assumption) | assumption | decide
theorem mul_set (a : Int) (x : Ln) (b : Int) (y : Ln) {k : Nat} (hk : k < 6) : (mulL a x b y k).cells.set k (.int .i64 (a * ci x k + b * ci y k)) = (mulL a x b y (k + 1)).cells := by
  have : k = 0 ∨ k = 1 ∨ k = 2 ∨ k = 3 ∨ k = 4 ∨ k = 5 := by omega
  rcases this with rfl | rfl | rfl | rfl | rfl | rfl <;> rfl
/-- the row of the call's own that is gathered in a variable -/
structure OutAt (base : Nat) (W : World) (v : Value) (cs : List Ln) : Prop where
  own : W.ownsRow base 72 8 v cs.length (cs.flatMap Ln.cells)
  nn : cs.length = 0 → v = .slice none 0 0
/-- of the older blocks only those of ex, and rows of two lines or more from base on, may have changed -/
structure GroX (base : Nat) (ex : List Nat) (W W' : World) : Prop where
  os : W'.os = W.os
  tape : W'.tape = W.tape
  output : W'.output = W.output
  size : W.heap.size ≤ W'.heap.size
  block : ∀ k, k < W.heap.size → k ∉ ex → (k < base ∨ ∀ cs, W.heap[k]? = some (.cells cs 72 (0, 0)) → cs.size ≤ 8) → W'.heap[k]? = W.heap[k]?
theorem GroX.of_bel {base : Nat} {ex : List Nat} {W W' : World} (h : Bel W W') : GroX base ex W W' := ⟨h.os, h.tape, h.output, h.size, fun k hk _ _ => h.block k hk⟩
theorem GroX.trans {base : Nat} {ex : List Nat} {A B C : World} (h : GroX base ex A B) (k : GroX base ex B C) : GroX base ex A C :=
  ⟨k.os.trans h.os, k.tape.trans h.tape, k.output.trans h.output, Nat.le_trans h.size k.size, fun q hq hn hc => by
    have e := h.block q hq hn hc
    exact (k.block q (Nat.lt_of_lt_of_le hq h.size) hn (hc.imp_right fun g cs hcs => g cs (e ▸ hcs))).trans e⟩
theorem GroX.set {base p o : Nat} {ex : List Nat} {A B : World} (h : GroX base ex A B) (hp : p ∈ ex) (u : Value) : GroX base ex A (B.setCell ⟨p, o, none⟩ u) :=
  ⟨h.os, h.tape, h.output, Nat.le_trans h.size (by simp [World.setCell]), fun k hk hn hc => (Below.heap_setCell B ⟨p, o, none⟩ u k (fun e => hn (by rw [e]; exact hp))).trans (h.block k hk hn hc)⟩
theorem GroX.wide {base : Nat} {ex ex' : List Nat} {A B : World} (h : GroX base ex A B) (hs : ∀ p, p ∈ ex → p ∈ ex') : GroX base ex' A B :=
  ⟨h.os, h.tape, h.output, h.size, fun k hk hn hc => h.block k hk (fun g => hn (hs k g)) hc⟩
theorem GroX.row {base p : Nat} {ex : List Nat} {A B : World} {e : TypeId} {xs : List Value} (h : GroX base ex A B) (r : RowAt A p e xs) (hn : p ∉ ex) (he : p < base ∨ e ≠ 72 ∨ xs.length ≤ 8) : RowAt B p e xs := by
  refine (h.block p r.lt hn ?_).trans r
  rcases he with he | he | he
  · exact .inl he
  · refine .inr fun cs hcs => ?_
    unfold RowAt at r
    rw [r] at hcs
    injection hcs with hcs
    injection hcs with _ hcs
    exact absurd hcs he
  · refine .inr fun cs hcs => ?_
    unfold RowAt at r
    rw [r] at hcs
    injection hcs with hcs
    injection hcs with hcs
    subst hcs
    simpa using he
theorem GroX.bel {base : Nat} {ex : List Nat} {w A B : World} (h : GroX base ex A B) (hb : Bel w A) (h1 : w.heap.size ≤ base) (h2 : ∀ p, p ∈ ex → w.heap.size ≤ p) : Bel w B :=
  ⟨h.os.trans hb.os, h.tape.trans hb.tape, h.output.trans hb.output, Nat.le_trans hb.size h.size, fun k hk => (h.block k (Nat.lt_of_lt_of_le hk hb.size) (fun g => absurd (h2 k g) (by omega)) (.inl (by omega))).trans (hb.block k hk)⟩
theorem OutAt.bel {base : Nat} {W W' : World} {v : Value} {cs : List Ln} (h : OutAt base W v cs) (hb : Bel W W') : OutAt base W' v cs := ⟨ownsRow_bel h.own hb, h.nn⟩
theorem OutAt.lns {base : Nat} {W : World} {v : Value} {cs : List Ln} (h : OutAt base W v cs) : LnsAt W W.heap.size v cs := RdAt.of_own cells8 rfl h.own
theorem OutAt.snoc {base : Nat} {W : World} {v : Value} {cs : List Ln} {X : Ln} (h : W.ownsRow base 72 8 v (cs.length + 1) (cs.flatMap Ln.cells ++ X.cells)) : OutAt base W v (cs ++ [X]) :=
  ⟨by rw [List.length_append, List.flatMap_append]; simpa using h, fun g => absurd g (by simp)⟩
/-- a line is appended -/
theorem out_append {base : Nat} {W : World} {v : Value} {cs : List Ln} {q : Nat} {e2 : TypeId} {X : Ln} (h : OutAt base W v cs) (hl : cs.length ≤ 1000000) (hb : base ≤ W.heap.size) (r : RowAt W q e2 X.cells) :
    ∃ A c W', (∀ ty, (Builtin.append_ #[61, 61] ty #[v, .slice (some ⟨q, 0, none⟩) 1 1]).run Try.prog W = .ok (.slice A (cs.length + 1) c) W') ∧ OutAt base W' (.slice A (cs.length + 1) c) (cs ++ [X]) ∧ GroX base [] W W' ∧ W.grownBy W' v.ownBlock := by
  obtain ⟨i0, hi, hz0, hz1, hz2⟩ := info_parts3 Try.infoLine
  have hu := Try.underlying61
  have hone : ∀ u ∈ X.cells, u.oneCell' = true := fun u hu => by
    simp only [Ln.cells, List.mem_cons, List.not_mem_nil, or_false] at hu
    rcases hu with rfl | rfl | rfl | rfl | rfl | rfl | rfl | rfl <;> rfl
  have hnew : ∀ j u, X.cells[j]? = some u → W.cell? ((⟨q, 0, none⟩ : Addr).add j) = some u := fun j u hj => by rw [add_ofs, r.cell?, hj]
  have hfl : (cs ++ [X]).flatMap Ln.cells = cs.flatMap Ln.cells ++ X.cells := by simp
  have hm1 : cs.length + 1 ≤ maxLen := by unfold maxLen; omega
  rcases Nat.eq_zero_or_pos cs.length with h0 | h0
  · have e := h.nn h0
    subst e
    have e2 : cs = [] := List.eq_nil_of_length_eq_zero h0
    subst e2
    have hr := fun ty => run_append_nil (P := Try.prog) (w := W) 61 ty 72 i0 _ hu hi hz0 ⟨q, 0, none⟩ 1 1 X.cells (by rw [hz1]; rfl) hnew (by decide) (by decide) (by rw [hz2]; decide)
    have hge := grownCap_ge W 1 0 72
    refine ⟨_, _, _, hr, OutAt.snoc ⟨rfl, .inr ⟨W.heap.size, _, _, rfl, hb, heap_alloc_new W.drew _, hge, grownCap_le_maxLen W 1 0 72 (by decide), ?_, ?_⟩⟩, ⟨rfl, rfl, rfl, by simp, fun k hk _ _ => heap_alloc_old W.drew _ k hk⟩, ⟨rfl, rfl, rfl, by simp, fun k hk _ => heap_alloc_old W.drew _ k hk⟩⟩
    · simp only [Array.size_append, List.size_toArray, size_zeroCells, cells8]
      rw [show zeroLn.V.cells.size = 8 from rfl]
      omega
    · simp only [Array.toList_append]
      exact List.take_left (l₁ := X.cells)
  · rcases h.own.2 with ⟨_, hn⟩ | ⟨g, cap, cur, rfl, hbg, hgh, hnc, hcm, hcs, htk⟩
    · omega
    · have hlen : (cs.length + 1) * 8 = (cs.flatMap Ln.cells ++ X.cells).length := by rw [List.length_append, flat_len cells8, cells8]; omega
      by_cases hroom : cs.length + 1 ≤ cap
      · have hr := fun ty => run_append_room (P := Try.prog) W 61 ty 72 i0 hu hi g cs.length cap cur hgh ⟨q, 0, none⟩ 1 1 X.cells (by rw [hz1]; rfl) hnew hone hroom (by rw [hz1, cells8, hcs]; omega)
        refine ⟨_, _, _, hr, OutAt.snoc ⟨by rw [← hlen], .inr ⟨g, cap, _, rfl, hbg, setRow_heap W g cur _ _ _ hgh, hroom, hcm, ?_, ?_⟩⟩, ⟨rfl, rfl, rfl, by simp, fun k hk _ hc => setRow_other W g k _ (fun e => ?_)⟩, ⟨rfl, rfl, rfl, by simp, fun k _ hk => setRow_other W g k _ (fun e => hk (by rw [e]; rfl))⟩⟩
        · simp only [List.size_toArray, List.length_append, List.length_take, List.length_drop, Array.length_toList, cells8, hz1]; omega
        · rw [hz1, htk, hlen]
          exact List.take_left
        · subst e
          rcases hc with hc | hc
          · omega
          · have := hc cur hgh
            omega
      · have hr := fun ty => run_append_grow (P := Try.prog) (w := W) 61 ty 72 i0 _ hu hi hz0 ⟨g, 0, none⟩ cs.length cap (cs.flatMap Ln.cells) (by rw [flat_len cells8, hz1]) (fun j u hj => by rw [add_ofs]; exact (h.own.cellAt j (by rw [← flat_len cells8]; exact (List.getElem?_eq_some_iff.1 hj).1)).trans hj) ⟨q, 0, none⟩ 1 1 X.cells (by rw [hz1]; rfl) hnew (by omega) (by omega) (growslice_fits (by omega) (by rw [hz2]; omega))
        have hge := grownCap_ge W (cs.length + 1) cap 72
        refine ⟨_, _, _, hr, OutAt.snoc ⟨by rw [← hlen], .inr ⟨W.heap.size, _, _, rfl, hb, heap_alloc_new W.drew _, hge, grownCap_le_maxLen W _ cap 72 hm1, ?_, ?_⟩⟩, ⟨rfl, rfl, rfl, by simp, fun k hk _ _ => heap_alloc_old W.drew _ k hk⟩, ⟨rfl, rfl, rfl, by simp, fun k hk _ => heap_alloc_old W.drew _ k hk⟩⟩
        · simp only [Array.size_append, List.size_toArray, size_zeroCells, cells8, flat_len cells8]
          rw [show zeroLn.V.cells.size = 8 from rfl]
          omega
        · simp only [Array.toList_append]
          rw [hlen]
          exact List.take_left
end Go.Proofs.Ytalphoebmefgoaa
/- poly.of: the program's lines. -/
namespace Go.Proofs.Ytalphoebmefgoaa
open Go.RowKit
/-- the row while it is filled: k lines are there -/
def ofD (l : List AL) (k : Nat) : Nat → Ln := fun j => if j < k then padL (alAt l j) else zeroLn
theorem pad_c {x : AL} (ha : x.a.length ≤ 6) {r : Nat} (h : r < 6) : (padL x).c r = .int .i64 (x.a.getD r 0) := by
  have : r = 0 ∨ r = 1 ∨ r = 2 ∨ r = 3 ∨ r = 4 ∨ r = 5 := by omega
  rcases this with rfl | rfl | rfl | rfl | rfl | rfl <;> rfl
theorem zero_c (r : Nat) (h : r < 6) : zeroLn.c r = .int .i64 0 := by
  have : r = 0 ∨ r = 1 ∨ r = 2 ∨ r = 3 ∨ r = 4 ∨ r = 5 := by omega
  rcases this with rfl | rfl | rfl | rfl | rfl | rfl <;> rfl
theorem of_row {l : List AL} {k : Nat} (hk : k < l.length) (ha : (alAt l k).a.length ≤ 6) :
    ((setsL (rowL (ofD l k) l.length) (k * 8) ((alAt l k).a.map (Value.int .i64))).set (k * 8 + 6) (.int .i64 (alAt l k).b)).set (k * 8 + 7) (.bool (alAt l k).s) = rowL (ofD l (k + 1)) l.length := by
  apply List.ext_getElem?
  intro q
  have hL : (setsL (rowL (ofD l k) l.length) (k * 8) ((alAt l k).a.map (Value.int .i64))).length = l.length * 8 := by rw [setsL_len, rowL_len]
  by_cases hq : q < l.length * 8
  · rw [rowL_get _ hq, List.getElem?_set, List.length_set, List.getElem?_set, hL, setsL_get, rowL_len, rowL_get _ hq, List.length_map]
    by_cases hqk : q / 8 = k
    · have h8 : q % 8 < 8 := Nat.mod_lt _ (by decide)
      have hk2 : q = k * 8 + q % 8 := by omega
      rw [hqk]
      have e1 : ofD l (k + 1) k = padL (alAt l k) := by unfold ofD; rw [if_pos (by omega)]
      have e2 : ofD l k k = zeroLn := by unfold ofD; rw [if_neg (by omega)]
      rw [e1, e2]
      generalize q % 8 = r at *
      subst hk2
      by_cases h7 : r = 7
      · subst h7
        rw [if_pos rfl, if_pos hq]; rfl
      · rw [if_neg (by omega)]
        by_cases h6 : r = 6
        · subst h6
          rw [if_pos rfl, if_pos hq]; rfl
        · rw [if_neg (by omega), pad_c ha (by omega)]
          by_cases hr : r < (alAt l k).a.length
          · rw [if_pos (by omega), show k * 8 + r - k * 8 = r by omega, List.getElem?_map, List.getElem?_eq_getElem hr, List.getD_eq_getElem?_getD, List.getElem?_eq_getElem hr]; rfl
          · rw [if_neg (by omega), zero_c r (by omega), List.getD_eq_getElem?_getD, List.getElem?_eq_none (by omega)]; rfl
    · rw [if_neg (by omega), if_neg (by omega), if_neg (by omega)]
      congr 2
      unfold ofD
      by_cases h : q / 8 < k
      · rw [if_pos h, if_pos (by omega)]
      · rw [if_neg h, if_neg (by omega)]
  · rw [List.getElem?_eq_none (by rw [List.length_set, List.length_set, hL]; omega), List.getElem?_eq_none (by rw [rowL_len]; omega)]
theorem alAt_get {l : List AL} {i : Nat} (h : i < l.length) : alAt l i = l[i] := by
  unfold alAt; rw [List.getD_eq_getElem?_getD, List.getElem?_eq_getElem h]; rfl
theorem ofD_all (l : List AL) : ∀ k, k < l.length → ∀ j, j < 8 → (rowL (ofD l l.length) l.length)[k * 8 + j]? = some ((lnAt (l.map padL) k).c j) := fun k hk j hj => by
  rw [rowL_get _ (by omega), show (k * 8 + j) / 8 = k by omega, show (k * 8 + j) % 8 = j by omega]
  unfold ofD
  rw [if_pos hk, lnAt_get (by simpa using hk), alAt_get hk, List.getElem_map]
/-- what of hands back: a row of its own -/
def OfPost (l : List AL) (w : World) (e : Ending) (w' : World) : Prop :=
  ∃ b, e = .returned (.slice (some ⟨b, 0, none⟩) l.length l.length) ∧ w.heap.size ≤ b ∧ Bel w w' ∧ RowAt w' b 72 (rowL (ofD l l.length) l.length)
theorem OfPost.own {l : List AL} {w w' : World} {b : Nat} (hb : w.heap.size ≤ b) (hl : l.length ≤ 1000000) (h : RowAt w' b 72 (rowL (ofD l l.length) l.length)) : w'.ownsRow w.heap.size 72 8 (.slice (some ⟨b, 0, none⟩) l.length l.length) l.length ((l.map padL).flatMap Ln.cells) := by
  have hx : rowL (ofD l l.length) l.length = (l.map padL).flatMap Ln.cells := by
    apply List.ext_getElem?
    intro q
    by_cases hq : q < l.length * 8
    · have h8 : q % 8 < 8 := Nat.mod_lt _ (by decide)
      have := ofD_all l (q / 8) (by omega) (q % 8) h8
      rw [show q / 8 * 8 + q % 8 = q by omega] at this
      rw [this, show q = q / 8 * 8 + q % 8 by omega, flat_at cells8 _ _ _ (by simp; omega) (by omega), show (q / 8 * 8 + q % 8) / 8 = q / 8 by omega, show (q / 8 * 8 + q % 8) % 8 = q % 8 by omega, lnAt_get (by simp; omega), cells_c _ h8]
    · rw [List.getElem?_eq_none (by rw [rowL_len]; omega), List.getElem?_eq_none (by rw [flat_len cells8]; simp; omega)]
  unfold RowAt at h
  refine ⟨by rw [flat_len cells8]; simp, .inr ⟨b, l.length, (rowL (ofD l l.length) l.length).toArray, rfl, hb, h, Nat.le_refl _, by simp [maxLen]; omega, by simp [rowL_len], ?_⟩⟩
  rw [← hx, List.take_of_length_le (by rw [List.toList_toArray, rowL_len]; omega)]
set_option maxRecDepth 100000 in
set_option maxHeartbeats 4000000 in
theorem of_any (v : Value) (l : List AL) (w : World) (h : LinesAt w w.heap.size v l) (hn : l.length ≤ 1000000) (ha : ∀ i, i < l.length → (alAt l i).a.length ≤ 6) :
    Calls Try.prog 39 #[v] w (OfPost l w) := by
  have H := Lib.hid h
  obtain ⟨A, c, rfl, hc⟩ := h.form
  clear h
  have HA := Lib.hid ha
  clear ha
  have hmk := make_lines l.length l.length (Nat.le_refl _) hn
  go_enter Try.func39, Try.ntmps39
  go_upto_region 2 with (fail)
  clear hmk
  have ro : RowAt (w.alloc (.cells (rowL (fun _ => zeroLn) l.length).toArray 72)) w.heap.size 72 (rowL (ofD l 0) l.length) := by
    have e : ofD l 0 = fun _ => zeroLn := by funext j; unfold ofD; rw [if_neg (by omega)]
    rw [e]; exact RowAt.new _ _ _
  generalize hW : World.alloc _ _ = w1 at *
  have HB := Lib.hid (show Bel w w1 by rw [← hW]; exact Bel.refl.alloc _)
  clear hW
  have HR := Lib.hid ro
  clear ro
  obtain ⟨b, hb⟩ : ∃ b, b = w.heap.size := ⟨_, rfl⟩
  rw [← hb] at HR ⊢
  have HN : Hid (w.heap.size ≤ b) := Lib.hid (by omega)
  clear hb
  go_wp2
  go_loopw [11] (fun s11 wq => ∃ (k : Nat) (y : Ext w), k ≤ l.length ∧ s11 = .int .i64 k ∧ wq = y.w ∧ RowAt y.w b 72 (rowL (ofD l k) l.length)) (fun s11 _ => l.length - (intOf s11).toNat)
  case atStart => exact ⟨0, ⟨_, HB.out⟩, Nat.zero_le _, rfl, rfl, HR.out⟩
  case round =>
    obtain ⟨k, y0, hk, rfl, rfl, hr⟩ := hrel
    have HR := Lib.hid hr
    by_cases hlt : k < l.length
    · have hd : decide ((k : Int) < (l.length : Int)) = true := by simp; omega
      have hL : (k : Int) < (l.length : Int) := by omega
      have wk : IntKind.i64.wrap ((k : Int) + 1) = ((k + 1 : Nat) : Int) := IntWalk.i64_in _ (by omega)
      obtain ⟨g, off, rfl, hg, hcl⟩ := (H.out.keep y0.bel.keeps y0.bel.le).at_ (by omega)
      obtain ⟨rv, ⟨x0, x1, x2⟩, hi⟩ := hcl k hlt
      clear hcl
      have HI := Lib.hid hi
      obtain ⟨A2, c2, rfl, hc2⟩ := hi.form
      clear hr hi
      have hbb := HR.out.lt
      go_upto_region 5 with (fail)
      have rx : RowAt (World.alloc y0.w (.cells #[.slice A2 (alAt l k).a.length c2, .int .i64 (alAt l k).b, .bool (alAt l k).s] 25)) y0.w.heap.size 25 [.slice A2 (alAt l k).a.length c2, .int .i64 (alAt l k).b, .bool (alAt l k).s] := RowAt.new _ _ _
      have hBW : Bel y0.w (World.alloc y0.w (.cells #[.slice A2 (alAt l k).a.length c2, .int .i64 (alAt l k).b, .bool (alAt l k).s] 25)) := Bel.refl.alloc _
      generalize hW : World.alloc y0.w _ = w1 at *
      clear hW
      obtain ⟨p, hp⟩ : ∃ p, p = y0.w.heap.size := ⟨_, rfl⟩
      rw [← hp] at rx ⊢
      have hpb : p ≠ b := by omega
      clear hp
      have HB1 := Lib.hid (y0.bel.trans hBW)
      have hr1 := HR.out.bel hBW
      have HI1 := Lib.hid (HI.out.bel hBW)
      clear hBW hbb x0 x1 x2 hg
      have c0 := rx.cell (i := 0) rfl
      have lx := rx.lt
      have hbb := hr1.lt
      have cb := hr1.cell? (k * 8)
      rw [rowL_get _ (by omega)] at cb
      have HRX := Lib.hid rx
      have HR1 := Lib.hid hr1
      clear rx hr1
      (refine wp_region_qtail 7 (wb := w1) (by (repeat (first | exact Ext.bel _ | exact Bel.refl | refine Bel.alloc ?_ _ | refine Bel.drew ?_ | refine Bel.drewN ?_ _))) (by kernel_rfl) (by kernel_rfl) ?_; simp only [List.take_succ_cons, List.take_zero, List.drop_succ_cons, List.drop_zero]; (repeat (any_goals (first | go_big_quiet_step (fail) | quiet_step (fail) | (refine wpQuiet_step (fun K hK => ?_); go_simp; split <;> (refine hK _ ?_; clear hK K))))); all_goals (refine wpQuiet_nil ?_; intro _ hw'; obtain ⟨y, hw''⟩ := hw'; subst hw''))
      clear c0 lx hbb cb
      have r2 := HR1.out.bel y.bel
      have hc := of_copy (o := k * 8) r2 (by rw [rowL_len]; omega) (HI1.out.bel y.bel) (HA.out k hlt)
      have r3 := row_sets ((alAt l k).a.map (Value.int .i64)) (k * 8) r2
      have hB3 : Bel w (y.w.setCells b (k * 8) ((alAt l k).a.map (Value.int .i64))) := bel_sets HN.out _ _ (HB1.out.trans y.bel)
      have rx3 : RowAt (y.w.setCells b (k * 8) ((alAt l k).a.map (Value.int .i64))) p 25 [.slice A2 (alAt l k).a.length c2, .int .i64 (alAt l k).b, .bool (alAt l k).s] := (HRX.out.bel y.bel).block (World.heap_setCells_other _ _ _ _ (HRX.out.bel y.bel).lt hpb)
      have hl3 : (setsL (rowL (ofD l k) l.length) (k * 8) ((alAt l k).a.map (Value.int .i64))).length = l.length * 8 := by rw [setsL_len, rowL_len]
      have HROW := Lib.hid (of_row hlt (HA.out k hlt))
      generalize hU : y.w.setCells b (k * 8) ((alAt l k).a.map (Value.int .i64)) = U at *
      generalize hX : setsL (rowL (ofD l k) l.length) (k * 8) ((alAt l k).a.map (Value.int .i64)) = XS at *
      clear hX hU r2
      have HB3 := Lib.hid hB3
      clear hB3
      go_upto_region 6 with (fail)
      clear hc
      have fz := fun q => r3.frozen q
      have c6 : U.cell? ⟨b, k * 8 + 6, none⟩ = some (XS[k * 8 + 6]'(by omega)) := r3.cell (List.getElem?_eq_getElem _)
      have c7 : U.cell? ⟨b, k * 8 + 7, none⟩ = some (XS[k * 8 + 7]'(by omega)) := r3.cell (List.getElem?_eq_getElem _)
      have d1 := rx3.cell (i := 1) rfl
      have d2 := rx3.cell (i := 2) rfl
      have lx := rx3.lt
      have hbb := r3.lt
      have HR4 := Lib.hid ((r3.set (k * 8 + 6) (.int .i64 (alAt l k).b)).set (k * 8 + 7) (.bool (alAt l k).s))
      clear r3 rx3
      go_region
      have HB4 := Lib.hid ((HB3.out.set (p := ⟨b, k * 8 + 6, none⟩) HN.out (.int .i64 (alAt l k).b)).set (p := ⟨b, k * 8 + 7, none⟩) HN.out (.bool (alAt l k).s))
      generalize World.setCell (World.setCell U _ _) _ _ = W9 at *
      clear fz c6 c7 d1 d2 lx hbb
      go_wp2
      go_roundw
      case rel => exact ⟨k + 1, ⟨_, HB4.out.drewN 1⟩, hlt, by go_num, rfl, by rw [← HROW.out]; exact HR4.out.drewN 1⟩
      case measure => simp [intOf]; omega
    · obtain rfl : k = l.length := by omega
      have hd : decide ((l.length : Int) < (l.length : Int)) = false := by simp
      have HB1 := Lib.hid y0.bel
      go_wp2
      go_ret
      exact ⟨b, rfl, HN.out, HB1.out, HR.out⟩
end Go.Proofs.Ytalphoebmefgoaa
/- poly: what is left when coordinates are left out (plain); the numbers stay small. -/
namespace Go.Proofs.Ytalphoebmefgoaa
theorem lowL_inr {x : Ln} (h : x.inr) : (lowL x).inr := by
  unfold lowL
  split
  · intro c hc
    simp only [dk, Ln.a, List.cons_append, List.nil_append, List.mem_cons, List.not_mem_nil, or_false] at hc
    have h0 := h x.a0 (by simp [Ln.a])
    have h1 := h x.a1 (by simp [Ln.a])
    have h2 := h x.a2 (by simp [Ln.a])
    have h3 := h x.a3 (by simp [Ln.a])
    have h4 := h x.a4 (by simp [Ln.a])
    have h5 := h x.a5 (by simp [Ln.a])
    have h6 := h x.b (by simp [Ln.a])
    rcases hc with rfl | rfl | rfl | rfl | rfl | rfl | rfl
    all_goals (try simp only [Nat.reduceLT, if_true]); exact tdiv_le (by assumption)
  · exact h
theorem falseLn_inr : falseLn.inr := by
  intro c hc
  simp [falseLn, Ln.a] at hc
  subst hc; decide
theorem colL_sub : ∀ (l out : List Ln) {c : List Ln}, colL out l = some c → (∀ z, z ∈ c → z ∈ out ∨ ∃ x, x ∈ l ∧ z = lowL x) ∧ c.length ≤ out.length + l.length
  | [], out, c, h => by
    simp only [colL, Option.some.injEq] at h
    subst h
    exact ⟨fun z hz => .inl hz, by simp⟩
  | x :: t, out, c, h => by
    unfold colL at h
    split at h
    · obtain ⟨h1, h2⟩ := colL_sub t _ h
      refine ⟨fun z hz => ?_, by simp at h2 ⊢; omega⟩
      rcases h1 z hz with k | ⟨y, hy, k⟩
      · rcases List.mem_append.1 k with k | k
        · exact .inl k
        · exact .inr ⟨x, by simp, by simpa using k⟩
      · exact .inr ⟨y, List.mem_cons_of_mem _ hy, k⟩
    · split at h
      · cases h
      · obtain ⟨h1, h2⟩ := colL_sub t _ h
        refine ⟨fun z hz => ?_, by simp at h2 ⊢; omega⟩
        rcases h1 z hz with k | ⟨y, hy, k⟩
        · exact .inl k
        · exact .inr ⟨y, List.mem_cons_of_mem _ hy, k⟩
theorem ins_len (x : Ln) : ∀ out : List Ln, (insL out x).length ≤ out.length + 1
  | [] => by simp [insL]
  | y :: t => by
    unfold insL
    split
    · have := ins_len x t; simp; omega
    · split <;> simp
theorem insAll_len : ∀ (c out : List Ln), (c.foldl insL out).length ≤ out.length + c.length
  | [], _ => by simp
  | x :: t, out => by
    have := insAll_len t (insL out x)
    have := ins_len x out
    simp only [List.foldl_cons, List.length_cons]; omega
theorem tidy_len (l : List Ln) : (tidyL l).length ≤ l.length := by
  unfold tidyL
  split
  · rename_i h
    cases l with
    | nil => simp [colL] at h
    | cons => simp
  · rename_i c h
    have h1 := (colL_sub l [] h).2
    have h2 := insAll_len c []
    simp at h1 h2; omega
theorem tidy_mem {l : List Ln} {z : Ln} (h : z ∈ tidyL l) : z = falseLn ∨ ∃ x, x ∈ l ∧ z = lowL x := by
  unfold tidyL at h
  split at h
  · exact .inl (by simpa using h)
  · rename_i c hc
    rcases (colL_sub l [] hc).1 z ((tdy_all c).sub z h) with k | k
    · simp at k
    · exact .inr k
theorem tidy_inr {l : List Ln} (h : ∀ x, x ∈ l → x.inr) : ∀ z, z ∈ tidyL l → z.inr := fun z hz => by
  rcases tidy_mem hz with rfl | ⟨x, hx, rfl⟩
  · exact falseLn_inr
  · exact lowL_inr (h x hx)
theorem leave_inr {l : List Ln} {i : Nat} (h : ∀ x, x ∈ l → x.inr) : ∀ z, z ∈ (leaveL l i).1 → z.inr := by
  unfold leaveL
  simp only
  split
  · simp
  · split
    · rename_i hok
      refine tidy_inr fun x hx => ?_
      rcases List.mem_append.1 hx with hx | hx
      · obtain ⟨y, hy, rfl⟩ := List.mem_map.1 hx
        exact short_inr (h y (List.mem_filter.1 hy).1) i
      · obtain ⟨p, hp, rfl⟩ := List.mem_map.1 hx
        exact okL_inr (List.all_eq_true.1 hok p hp)
    · simp
theorem leave_len (l : List Ln) (i : Nat) : (leaveL l i).1.length ≤ 1000 := by
  unfold leaveL
  simp only
  split
  · simp
  · rename_i hb
    split
    · refine Nat.le_trans (tidy_len _) ?_
      have e : ((PL l i).map (sumL i)).length = (posL l i).length * (negL l i).length := by rw [List.length_map, pl_len]
      rw [List.length_append, e]
      omega
    · exact Nat.zero_le _
theorem leave_errs (l : List Ln) (i : Nat) : (leaveL l i).2 = 0 ∨ (leaveL l i).2 = 3 ∨ (leaveL l i).2 = 7 := by
  unfold leaveL
  simp only
  split
  · exact .inr (.inl rfl)
  · split
    · exact .inl rfl
    · exact .inr (.inr rfl)
theorem leave_nil (l : List Ln) (i : Nat) (h : (leaveL l i).2 ≠ 0) : (leaveL l i).1 = [] := by
  unfold leaveL at *
  simp only at *
  split
  · rfl
  · split
    · rename_i h1 h2; rw [if_neg h1, if_pos h2] at h; exact absurd rfl h
    · rfl
/-- the coordinates k + m - 1 down to k are left out -/
def downL (k : Nat) : Nat → List Ln → List Ln × Int
  | 0, l => (l, 0)
  | m + 1, l => if (leaveL l (k + m)).2 = 0 then downL k m (leaveL l (k + m)).1 else leaveL l (k + m)
theorem down_inr (k : Nat) : ∀ (m : Nat) {l : List Ln}, (∀ x, x ∈ l → x.inr) → ∀ z, z ∈ (downL k m l).1 → z.inr
  | 0, _, h => h
  | m + 1, l, h => by
    unfold downL
    split
    · exact down_inr k m (leave_inr h)
    · exact leave_inr h
theorem down_len (k : Nat) : ∀ (m : Nat) {l : List Ln} {b : Nat}, 1000 ≤ b → l.length ≤ b → (downL k m l).1.length ≤ b
  | 0, _, _, _, h => h
  | m + 1, l, b, hb, h => by
    unfold downL
    split
    · exact down_len k m hb (Nat.le_trans (leave_len _ _) hb)
    · exact Nat.le_trans (leave_len _ _) hb
def emptyL (n : Nat) (l : List Ln) : Bool × Int := (decide ((downL 0 n (tidyL l)).2 = 0) && decide (0 < (downL 0 n (tidyL l)).1.length), (downL 0 n (tidyL l)).2)
def oppL (x : Ln) : Ln := ⟨-x.a0, -x.a1, -x.a2, -x.a3, -x.a4, -x.a5, -x.b, !x.s⟩
theorem opp_inr {x : Ln} (h : x.inr) : (oppL x).inr := by
  intro c hc
  have h0 := h x.a0 (by simp [Ln.a])
  have h1 := h x.a1 (by simp [Ln.a])
  have h2 := h x.a2 (by simp [Ln.a])
  have h3 := h x.a3 (by simp [Ln.a])
  have h4 := h x.a4 (by simp [Ln.a])
  have h5 := h x.a5 (by simp [Ln.a])
  have h6 := h x.b (by simp [Ln.a])
  simp only [oppL, Ln.a, List.cons_append, List.nil_append, List.mem_cons, List.not_mem_nil, or_false] at hc
  rcases hc with rfl | rfl | rfl | rfl | rfl | rfl | rfl <;> omega
/-- the numbers of a line that fits -/
theorem fits_inr {n : Int} {x : AL} (h : x.fits n = true) (hn : n ≤ 6) : (padL x).inr := by
  unfold AL.fits at h
  simp only [Bool.and_eq_true, decide_eq_true_eq] at h
  obtain ⟨⟨⟨h1, h2⟩, h3⟩, h4⟩ := h
  have hc : ∀ i, (x.a.getD i 0).natAbs ≤ 2147483647 := fun i => by
    rw [List.getD_eq_getElem?_getD]
    cases e : x.a[i]? with
    | none => simp
    | some c =>
      have := List.all_eq_true.1 h1 c (List.mem_of_getElem? e)
      simp only [Bool.and_eq_true, decide_eq_true_eq] at this
      simp only [Option.getD_some]; omega
  intro c hc2
  simp only [padL, Ln.a, List.cons_append, List.nil_append, List.mem_cons, List.not_mem_nil, or_false] at hc2
  rcases hc2 with rfl | rfl | rfl | rfl | rfl | rfl | rfl
  · exact hc 0
  · exact hc 1
  · exact hc 2
  · exact hc 3
  · exact hc 4
  · exact hc 5
  · omega
theorem check_fits {n : Int} {l : List AL} (h : checkM n l = 0) : (0 ≤ n ∧ n ≤ 5) ∧ l.length ≤ 1000 ∧ ∀ x, x ∈ l → x.fits n = true := by
  unfold checkM at h
  split at h
  · cases h
  · split at h
    · cases h
    · split at h
      · rename_i h3; exact ⟨by omega, by omega, fun x hx => List.all_eq_true.1 h3 x hx⟩
      · cases h
theorem fits_len {n : Int} {x : AL} (h : x.fits n = true) : (x.a.length : Int) = n := by
  unfold AL.fits at h
  simp only [Bool.and_eq_true, decide_eq_true_eq] at h
  exact h.1.1.2
end Go.Proofs.Ytalphoebmefgoaa
