import Derived.Test.YthidbmeocifkcaaG21
import Derived.Test.YthidbmeocifkcaaZEmach
import Derived.Test.YthidbmeocifkcaaZPword
import Derived.Test.YthidbmeocifkcaaZErtt
import Derived.Deep.CutRange
/- enforce: Best of the program. -/
namespace Go.Proofs.Ythidbmeocifkcaa
open Go.RowKit
theorem endW_at {w : List PS} (h : 0 < w.length) : endW w = (psAt w (w.length - 1)).at_ := by
  unfold endW
  rw [List.getLast?_eq_getElem?]
  rw [List.getElem?_eq_getElem (by omega), psAt_eq (by omega)]
theorem timesP_eq (p : PP) (x : Pt) (last : Int) (w : List PS) : srP p (endL last w) w x last = timesP p x last w := by
  unfold srP timesP
  cases w with
  | nil => rfl
  | cons s ss =>
    have : endL last (s :: ss) = endW (s :: ss) := by rw [endW_at (by simp)]; unfold endL; rw [if_pos (by simp)]
    rw [this]
theorem timesR_eq (p : PP) (x : Pt) (last E : Int) (w : List PS) (hE : 0 < w.length → E = (psAt w (w.length - 1)).at_) : srR p E w x last = timesR p x last w := by
  unfold srR timesR
  cases w with
  | nil => rfl
  | cons s ss => rw [endW_at (by simp), hE (by simp)]
theorem stamps_take {w : World} {B : Nat} {A : Option Addr} {n c : Nat} {l : List PS} (h : StampsAt w B (.slice A n c) l) {k : Nat} (hk : k ≤ l.length) : StampsAt w B (.slice A k c) (l.take k) := by
  obtain ⟨A', c', e, hc, h⟩ := h
  injection e with e1 e2 e3
  subst e1 e3
  have hl : (l.take k).length = k := by simp; omega
  refine ⟨A, c, by rw [hl], by omega, fun h0 => ?_⟩
  obtain ⟨b, off, e, hb, h⟩ := h (by omega)
  refine ⟨b, off, e, hb, fun i hi => ?_⟩
  have := h i (by omega)
  have e2 : psAt (l.take k) i = psAt l i := by
    rw [hl] at hi
    simp [psAt, List.getD, List.getElem?_take, hi]
  show StampCells w b (off + i * 2) (psAt (l.take k) i)
  rw [e2]; exact this
theorem madeM_take {w : List PS} {l : List Int} {k : Nat} (h : l.length ≤ k) : madeM (w.take k) l = madeM w l := by
  unfold madeM
  apply List.ext_getElem
  · simp; omega
  · intro j h1 h2; simp
def bestI (tm : List PS → Option (List Int)) (w : List PS) (k : Int) : List PS × Int := if k < 0 then ([], 4) else bestK tm w k.toNat
theorem bestI_neg {tm : List PS → Option (List Int)} {w : List PS} {k : Int} (h : k < 0) : bestI tm w k = ([], 4) := if_pos h
theorem bestI_some {tm : List PS → Option (List Int)} {w : List PS} {k : Nat} {l : List Int} (h : tm (w.take k) = some l) : bestI tm w k = (madeM w l, 0) := by
  unfold bestI
  rw [if_neg (by omega), Int.toNat_natCast]
  cases k with
  | zero => simp only [bestK]; rw [List.take_zero] at h; rw [h]
  | succ k => simp only [bestK]; rw [h]
theorem bestI_none {tm : List PS → Option (List Int)} {w : List PS} {k : Nat} (h : tm (w.take k) = none) : bestI tm w k = bestI tm w ((k : Int) - 1) := by
  unfold bestI
  rw [if_neg (by omega), Int.toNat_natCast]
  cases k with
  | zero => simp only [bestK]; rw [List.take_zero] at h; rw [h, if_pos (by omega)]
  | succ k => simp only [bestK]; rw [h, if_neg (by omega)]; show bestK tm w k = _; congr 1; omega
def BestPost (W : World) (r : List PS × Int) (e : Ending) (W' : World) : Prop :=
  ∃ v, e = .returned (.tuple #[v, .int .i64 r.2]) ∧ W'.ownsRow W.heap.size 48 2 v r.1.length (r.1.flatMap psC) ∧ Bel W W'
theorem bestPost_nil {W W' : World} (r : List PS × Int) {er : Int} (h : r = ([], er)) (hb : Bel W W') : BestPost W r (.returned (.tuple #[.slice none 0 0, .int .i64 er])) W' := by
  subst h
  exact ⟨_, rfl, World.ownsRow_nil _ _ _ _, hb⟩
/-- what a word that is searched is like -/
structure WordOk (p : PP) (w : List PS) : Prop where
  hv : PValid p p.clks.toNat
  len : w.length ≤ 200
  ok : ∀ s ∈ w, 0 ≤ s.at_ ∧ s.at_ ≤ 1000000 ∧ i64 s.ev
theorem ps_at_mem {l : List PS} {s : PS} (h : s ∈ l) : ∃ k, k < l.length ∧ psAt l k = s := by
  obtain ⟨k, hk, e⟩ := List.mem_iff_getElem.mp h
  exact ⟨k, hk, by rw [psAt_eq hk, e]⟩
theorem wordF_ev {evs : Int} : ∀ (l : List PS) (a : Int), wordF evs a l = true → ∀ s ∈ l, 0 ≤ s.ev ∧ s.ev < evs
  | [], _, _, s, h => by simp at h
  | x :: xs, a, hw, s, h => by
    simp only [wordF] at hw
    cases hb : stampBad evs a x with
    | true => rw [hb] at hw; simp at hw
    | false =>
      rw [hb] at hw
      rcases List.mem_cons.mp h with rfl | h
      · have := stampBad_false.mp hb; omega
      · exact wordF_ev xs _ (by simpa using hw) s h
theorem wordOk {p : PP} {w : List PS} (h : rpword p w = 0) : WordOk p w := by
  obtain ⟨h1, h2, h3⟩ := rpword_ok h
  refine ⟨pvalid_of h1, h2, fun s hs => ?_⟩
  obtain ⟨k, hk, rfl⟩ := ps_at_mem hs
  have a := word_at w 0 (Int.le_refl _) h3 k hk
  have b := wordF_ev w 0 h3 _ hs
  have hc : p.evs ≤ 8 := by
    unfold rpchk at h1
    cases hh : headBad p with
    | true => rw [hh] at h1; simp at h1
    | false => have := headBad_false.mp hh; omega
  refine ⟨by omega, by omega, ?_⟩
  unfold i64
  omega
theorem gro_of_bel {w w' : World} {row : Option Nat} (h : Bel w w') : w.grownBy w' row := ⟨h.os, h.tape, h.output, h.size, fun k hk _ => h.block k hk⟩
theorem ints_row {w : World} {g : Nat} {e : TypeId} {ts : List Int} (h : RowAt w g e (ts.map (Value.int .i64))) : IntsAt w w.heap.size (.slice (some ⟨g, 0, none⟩) ts.length ts.length) ts := by
  refine ⟨_, ts.length, rfl, Nat.le_refl _, fun _ => ⟨g, 0, rfl, h.lt, fun i hi => ?_⟩⟩
  rw [Nat.zero_add]
  exact h.cell (by simp [List.getD, hi])
end Go.Proofs.Ythidbmeocifkcaa
/- enforce: Best of the program: the walk. -/
namespace Go.Proofs.Ythidbmeocifkcaa
open Go.RowKit
set_option maxRecDepth 100000 in
set_option maxHeartbeats 16000000 in
theorem pbest_any (p : PP) (gv ev : Value) (A : Option Addr) (c : Nat) (w : List PS) (W : World) (h : PropAt W W.heap.size gv ev p) (hs : PSized p) (hw : StampsAt W W.heap.size (.slice A w.length c) w) (hwl : w.length ≤ 1000000)
    (hN : rpword p w = 0 → longW w = false → ∀ k ≤ w.length, putsM (stepP p) (mostM p) (endL 0 (w.take k)) (w.take k) (start p) 0 + 1 < 9223372036854775807) :
    Calls Try.prog 13 #[.agg #[.int .i64 p.evs, .int .i64 p.clks, .int .i64 p.ini, gv, ev], .slice A w.length c] W (BestPost W (bestP p w)) := by
  have HWD := Lib.hid (fun (V : World) (hV : Bel W V) => pword_any p gv ev (.slice A w.length c) w V (h.bel hV) hs (hw.bel hV) hwl)
  have HP := Lib.hid h
  have HW := Lib.hid hw
  have HS := Lib.hid hs
  have HN := Lib.hid hN
  obtain ⟨A1, k1, rfl, _⟩ := h.g.form
  obtain ⟨A2, k2, rfl, _⟩ := h.e.form
  clear h hw hs hN
  go_enter Try.func13, Try.ntmps13
  go_upto_region 1 with (fail)
  generalize hW1 : World.alloc W _ = W1 at *
  have rb : RowAt W1 W.heap.size 25 [.int .i64 p.evs, .int .i64 p.clks, .int .i64 p.ini, .slice A1 p.good.length k1, .slice A2 p.edges.length k2] := by rw [← hW1]; exact RowAt.new _ _ _
  have hB1 : Bel W W1 := by rw [← hW1]; exact Bel.refl.alloc _
  clear hW1
  obtain ⟨bp, hbp⟩ : ∃ b, b = W.heap.size := ⟨_, rfl⟩
  rw [← hbp] at rb ⊢
  have HBP := Lib.hid hbp
  clear hbp
  have q0 := rb.cell (i := 0) rfl
  have q1 := rb.cell (i := 1) rfl
  have q2 := rb.cell (i := 2) rfl
  have q3 := rb.cell (i := 3) rfl
  have q4 := rb.cell (i := 4) rfl
  have qz := rb.lt
  have HRB := Lib.hid rb
  have HB1 := Lib.hid hB1
  clear rb hB1
  go_step3
  go_wp2_with fail
  refine (HWD.out W1 HB1.out).mono ?_
  rintro e W2 ⟨rfl, hB⟩
  clear q0 q1 q2 q3 q4 qz HWD
  have HB2 := Lib.hid (HB1.out.trans hB)
  have HR2 := Lib.hid (HRB.out.bel hB)
  clear HB1 HRB hB
  have q0 := HR2.out.cell (i := 0) rfl
  have q1 := HR2.out.cell (i := 1) rfl
  have q2 := HR2.out.cell (i := 2) rfl
  have q3 := HR2.out.cell (i := 3) rfl
  have q4 := HR2.out.cell (i := 4) rfl
  have qz := HR2.out.lt
  by_cases hwd : rpword p w = 0
  case neg =>
    have HPO := Lib.hid (bestPost_nil (W := W) (W' := W2) (bestP p w) (er := rpword p w) (by unfold bestP bestM; rw [if_neg hwd]) HB2.out)
    have t1 : (rpword p w == 0) = false := by simpa using hwd
    have t2 : (rpword p w != 0) = true := by simpa using hwd
    generalize rpword p w = er at *
    clear hwd
    go_wp2
    go_ret2
    exact HPO.out
  have HOK := Lib.hid (wordOk hwd)
  have HWD := Lib.hid hwd
  rw [hwd]
  clear hwd
  have hwl2 := HOK.out.len
  cases hlw : longW w
  case true =>
    have HPO := Lib.hid (fun (V : World) (hV : Bel W2 V) => bestPost_nil (W := W) (W' := V) (bestP p w) (er := 3) (by unfold bestP bestM; rw [if_pos HWD.out, hlw]; rfl) (HB2.out.trans hV))
    go_upto_region 5 with (fail)
    by_cases h40 : 40 < w.length
    · have t1 : decide (40 < w.length) = true := decide_eq_true h40
      have t2 : decide ((40 : Int) < (w.length : Int)) = true := decide_eq_true (by omega)
      clear hlw
      (refine wp_region_ext (wb := W2) (by (repeat (first | exact Ext.bel _ | exact Bel.refl | refine Bel.alloc ?_ _ | refine Bel.drew ?_ | refine Bel.drewN ?_ _))) (by kernel_rfl) (by kernel_rfl) ?_; (repeat (any_goals (first | go_big_quiet_step (fail) | quiet_step (fail) | (refine wpQuiet_step (fun K hK => ?_); go_simp; split <;> (refine hK _ ?_; clear hK K))))); all_goals (refine wpQuiet_nil ?_; intro _ hw'; obtain ⟨y, hw''⟩ := hw'; subst hw''))
      go_wp2
      try rw [Exit.noGoto_ret]
      go_ret2
      exact HPO.out _ y.bel
    · have t1 : decide (40 < w.length) = false := decide_eq_false h40
      have t2 : decide ((40 : Int) < (w.length : Int)) = false := decide_eq_false (by omega)
      unfold longW at hlw
      rw [t1, Bool.false_or] at hlw
      simp only [Bool.and_eq_true, decide_eq_true_eq] at hlw
      obtain ⟨hl0, hl1⟩ := hlw
      rw [endW_at hl0] at hl1
      have t3 : decide (0 < w.length) = true := decide_eq_true hl0
      have t4 : decide ((0 : Int) < (w.length : Int)) = true := decide_eq_true (by omega)
      obtain ⟨b, off, rfl, hb, hA⟩ := HW.out.at_ hl0
      obtain ⟨a0, _⟩ := hA 0 hl0
      obtain ⟨e0, _⟩ := hA (w.length - 1) (by omega)
      replace a0 := (HB2.out.cells _ _ hb).trans a0
      replace e0 := (HB2.out.cells _ _ hb).trans e0
      have az := Nat.lt_of_lt_of_le hb HB2.out.le
      have hw0 : IntKind.i64.wrap ((w.length : Int) - 1) = ((w.length - 1 : Nat) : Int) := by
        rw [show (w.length : Int) - 1 = ((w.length - 1 : Nat) : Int) by omega]
        exact IntWalk.i64_in _ (by omega)
      have ho1 := HOK.out.ok _ (ps_mem (l := w) (k := w.length - 1) (by omega))
      have ho2 := HOK.out.ok _ (ps_mem (l := w) (k := 0) (by omega))
      have hw1 : IntKind.i64.wrap ((psAt w (w.length - 1)).at_ - (psAt w 0).at_) = (psAt w (w.length - 1)).at_ - (psAt w 0).at_ := IntWalk.i64_in _ (by omega)
      have t5 : decide (200 < (psAt w (w.length - 1)).at_ - (psAt w 0).at_) = true := decide_eq_true hl1
      have hlt1 : ((w.length - 1 : Nat) : Int) < (w.length : Int) := by omega
      have hlt0 : (0 : Int) < (w.length : Int) := by omega
      generalize hq : w.length - 1 = q at *
      have HQ := Lib.hid hq
      simp only [Nat.zero_mul, Nat.add_zero] at a0
      clear hA ho1 ho2 hl1 hq h40
      (refine wp_region_ext (wb := W2) (by (repeat (first | exact Ext.bel _ | exact Bel.refl | refine Bel.alloc ?_ _ | refine Bel.drew ?_ | refine Bel.drewN ?_ _))) (by kernel_rfl) (by kernel_rfl) ?_; (repeat (any_goals (first | go_big_quiet_step (fail) | quiet_step (fail) | (refine wpQuiet_step (fun K hK => ?_); go_simp; split <;> (refine hK _ ?_; clear hK K))))); all_goals (refine wpQuiet_nil ?_; intro _ hw'; obtain ⟨y, hw''⟩ := hw'; subst hw''))
      go_wp2
      try rw [Exit.noGoto_ret]
      go_ret2
      exact HPO.out _ y.bel
  have HLW := Lib.hid hlw
  go_upto_region 5 with (fail)
  go_cut [39] from 20 to 39 (fun s39 wx => s39 = .bool false ∧ ∃ z : Ext W2, wx = z.w)
  case first =>
    unfold longW at hlw
    simp only [Bool.or_eq_false_iff, Bool.and_eq_false_iff, decide_eq_false_iff_not] at hlw
    obtain ⟨h40, hl1⟩ := hlw
    have t1 : decide (40 < w.length) = false := decide_eq_false h40
    have t2 : decide ((40 : Int) < (w.length : Int)) = false := decide_eq_false (by omega)
    by_cases hl0 : 0 < w.length
    · rw [endW_at hl0] at hl1
      have t3 : decide (0 < w.length) = true := decide_eq_true hl0
      have t4 : decide ((0 : Int) < (w.length : Int)) = true := decide_eq_true (by omega)
      obtain ⟨b, off, rfl, hb, hA⟩ := HW.out.at_ hl0
      obtain ⟨a0, _⟩ := hA 0 hl0
      obtain ⟨e0, _⟩ := hA (w.length - 1) (by omega)
      replace a0 := (HB2.out.cells _ _ hb).trans a0
      replace e0 := (HB2.out.cells _ _ hb).trans e0
      have az := Nat.lt_of_lt_of_le hb HB2.out.le
      have hw0 : IntKind.i64.wrap ((w.length : Int) - 1) = ((w.length - 1 : Nat) : Int) := by
        rw [show (w.length : Int) - 1 = ((w.length - 1 : Nat) : Int) by omega]
        exact IntWalk.i64_in _ (by omega)
      have ho1 := HOK.out.ok _ (ps_mem (l := w) (k := w.length - 1) (by omega))
      have ho2 := HOK.out.ok _ (ps_mem (l := w) (k := 0) (by omega))
      have hw1 : IntKind.i64.wrap ((psAt w (w.length - 1)).at_ - (psAt w 0).at_) = (psAt w (w.length - 1)).at_ - (psAt w 0).at_ := IntWalk.i64_in _ (by omega)
      have t5 : decide (200 < (psAt w (w.length - 1)).at_ - (psAt w 0).at_) = false := decide_eq_false (by omega)
      have hlt1 : ((w.length - 1 : Nat) : Int) < (w.length : Int) := by omega
      have hlt0 : (0 : Int) < (w.length : Int) := by omega
      generalize hq : w.length - 1 = q at *
      have HQ := Lib.hid hq
      simp only [Nat.zero_mul, Nat.add_zero] at a0
      clear hA ho1 ho2 hl1 hq h40
      (refine wp_region_ext (wb := W2) (by (repeat (first | exact Ext.bel _ | exact Bel.refl | refine Bel.alloc ?_ _ | refine Bel.drew ?_ | refine Bel.drewN ?_ _))) (by kernel_rfl) (by kernel_rfl) ?_; (repeat (any_goals (first | go_big_quiet_step (fail) | quiet_step (fail) | (refine wpQuiet_step (fun K hK => ?_); go_simp; split <;> (refine hK _ ?_; clear hK K))))); all_goals (refine wpQuiet_nil ?_; intro _ hw'; obtain ⟨y, hw''⟩ := hw'; subst hw''))
      go_wp2
      go_meet
      case rel => exact ⟨rfl, y, rfl⟩
    · have t3 : decide (0 < w.length) = false := decide_eq_false hl0
      have t4 : decide ((0 : Int) < (w.length : Int)) = false := decide_eq_false (by omega)
      clear hl1 h40
      (refine wp_region_ext (wb := W2) (by (repeat (first | exact Ext.bel _ | exact Bel.refl | refine Bel.alloc ?_ _ | refine Bel.drew ?_ | refine Bel.drewN ?_ _))) (by kernel_rfl) (by kernel_rfl) ?_; (repeat (any_goals (first | go_big_quiet_step (fail) | quiet_step (fail) | (refine wpQuiet_step (fun K hK => ?_); go_simp; split <;> (refine hK _ ?_; clear hK K))))); all_goals (refine wpQuiet_nil ?_; intro _ hw'; obtain ⟨y, hw''⟩ := hw'; subst hw''))
      go_wp2
      go_meet
      case rel => exact ⟨rfl, y, rfl⟩
  case rest =>
  obtain ⟨rfl, y, hy⟩ := hcut
  subst hy
  have HB3 := Lib.hid (HB2.out.trans y.bel)
  have HR3 := Lib.hid (HR2.out.bel y.bel)
  clear q0 q1 q2 q3 q4 qz HR2 HB2 hlw
  generalize y.w = W3 at *
  clear y W2
  have q0 := HR3.out.cell (i := 0) rfl
  have q1 := HR3.out.cell (i := 1) rfl
  have q2 := HR3.out.cell (i := 2) rfl
  have q3 := HR3.out.cell (i := 3) rfl
  have q4 := HR3.out.cell (i := 4) rfl
  have qz := HR3.out.lt
  have hn3 := HOK.out.hv.n3
  go_wp2_with fail
  refine (mach_any p _ _ W3 (HP.out.bel HB3.out) HS.out (by have := HOK.out.hv.cn; omega) HOK.out.hv.ed).mono ?_
  rintro e W4 ⟨bm, rfl, _, hm, hB⟩
  have HM := Lib.hid hm
  have HB4 := Lib.hid (HB3.out.trans hB)
  have HR4 := Lib.hid (HR3.out.bel hB)
  clear q0 q1 q2 q3 q4 qz HR3 HB3 hm hB hn3
  have HBE : Hid (bestP p w = bestI (fun u => timesP p (start p) 0 u) w w.length) := Lib.hid (by
    unfold bestP bestM bestI
    rw [if_pos HWD.out, if_neg (by rw [HLW.out]; simp), if_neg (by omega), Int.toNat_natCast])
  obtain ⟨z0, hz0⟩ : ∃ z : Ext W4, W4 = z.w := ext_of Bel.refl
  have HZ0 := Lib.hid hz0
  clear hz0
  go_wp2
  go_step3
  go_wp2
  go_loopw [4, 5, 9] (fun s4 s5 s9 wq => ∃ (k : Int) (z : Ext W4), -1 ≤ k ∧ k ≤ w.length ∧ s4 = .slice none 0 0 ∧ s5 = .int .i64 4 ∧ s9 = .int .i64 k ∧ wq = z.w ∧ bestP p w = bestI (fun u => timesP p (start p) 0 u) w k) (fun _ _ s9 _ => (intOf s9 + 1).toNat)
  case atStart => exact ⟨w.length, z0, by omega, by omega, rfl, rfl, rfl, HZ0.out, HBE.out⟩
  case round =>
    clear HZ0 z0 HBE
    obtain ⟨k, z, hk1, hk2, rfl, rfl, rfl, rfl, hbe⟩ := hrel
    have HBE := Lib.hid hbe
    clear hbe
    by_cases hk : 0 ≤ k
    case neg =>
      have hco : decide (0 ≤ k) = false := decide_eq_false hk
      have HPO := Lib.hid (bestPost_nil (W := W) (W' := z.w) (bestP p w) (er := 4) (by rw [HBE.out, bestI_neg (by omega)]) (HB4.out.trans z.bel))
      go_wp2
      try rw [Exit.noGoto_ret]
      go_ret2
      exact HPO.out
    case pos =>
    have hco : decide (0 ≤ k) = true := decide_eq_true hk
    obtain ⟨j, rfl⟩ : ∃ j : Nat, k = j := ⟨k.toNat, by omega⟩
    have hjl : j ≤ w.length := by omega
    have hjL : (j : Int) ≤ (w.length : Int) := by omega
    have hj0 : (0 : Int) ≤ (j : Int) := by omega
    have hjc : j ≤ c := by
      obtain ⟨A', c', e, h1, _⟩ := HW.out
      injection e with _ _ e
      omega
    have hjC : (j : Int) ≤ (c : Int) := by omega
    have q2 := HR4.out.cell (i := 2) rfl
    have qz := HR4.out.lt
    have HTM := Lib.hid (fun (V : World) (hV : Bel W4 V) => times_any (W := V) (A := A) (c := c) (w := w.take j) p.ini 0 0 0 0 HOK.out.hv HS.out (HM.out.bel hV)
      (by have := stamps_take (HW.out.bel (HB4.out.trans hV)) hjl; rw [show (w.take j).length = j by simp; omega]; exact this)
      (fun s hs => HOK.out.ok s (List.mem_of_mem_take hs)) (by simp; omega) (Int.le_refl _) (by omega) ((start_ok HOK.out.hv).1) (start_rel HOK.out.hv).p3 (HN.out HWD.out HLW.out j hjl))
    have htl : (w.take j).length = j := by simp; omega
    rw [htl] at HTM
    have hte : srP p (endL 0 (w.take j)) (w.take j) ⟨p.ini, [0, 0, 0]⟩ 0 = timesP p (start p) 0 (w.take j) := timesP_eq p (start p) 0 (w.take j)
    have HTE := Lib.hid hte
    have HTL := Lib.hid htl
    clear hte htl
    have q2 := (z.bel.cells _ _ qz).trans q2
    have qz := Nat.lt_of_lt_of_le qz z.bel.le
    have HZB := Lib.hid z.bel
    generalize z.w = wz at *
    clear z
    go_upto_region 12 with (fail)
    (refine wp_region_E 12 none (by kernel_rfl) ?_; refine anyE_takes [0, 1, 2, 3, 4, 5, 6] (fun _ _ _ _ _ h => h) ⟨⟨_, gro_drew (gro_refl _)⟩, rfl⟩ (by kernel_rfl) (by rfl) ?_; simp only [opsOf, List.filterMap_cons, List.filterMap_nil, List.getElem?_toArray, List.getElem?_cons_succ, List.getElem?_cons_zero, List.foldl_cons, List.foldl_nil]; (repeat (any_goals (first | go_big_quiet_step (fail) | quiet_step (fail)))); refine wpQuiet_nil ?_)
    have G0 : Hid (Bel wz wz.drew) := Lib.hid (gro_bel (gro_drew (gro_refl _)))
    clear q2 qz
    generalize wz.drew = wf at *
    (refine anyE_one 7 _ (by kernel_rfl) (by rfl) (fun K hK => ?_))
    rw [if_pos (by rfl)]
    go_simp
    refine (HTM.out wf (HZB.out.trans G0.out)).mono ?_
    rintro _ w5 ⟨g, ts, rfl, hg, hrow, htsl, hB, hlt⟩
    refine hK _ _ (fun _ => ⟨⟨_, gro_of_bel (G0.out.trans hB)⟩, rfl⟩) ?_
    clear hK K
    (refine anyE_takes [8, 9, 10, 11] (fun _ _ _ _ _ h => h) ⟨⟨_, gro_of_bel (G0.out.trans hB)⟩, rfl⟩ (by kernel_rfl) (by rfl) ?_; simp only [opsOf, List.filterMap_cons, List.filterMap_nil, List.getElem?_toArray, List.getElem?_cons_succ, List.getElem?_cons_zero, List.foldl_cons, List.foldl_nil]; (repeat (any_goals (first | go_big_quiet_step (fail) | quiet_step (fail)))); refine wpQuiet_nil ?_)
    have HB5 := Lib.hid (HZB.out.trans (G0.out.trans hB))
    have HRW := Lib.hid hrow
    have HTS := Lib.hid htsl
    have HLT := Lib.hid hlt
    rw [HTE.out] at HLT ⊢
    rw [HTL.out] at HTS
    try rw [HTL.out]
    clear hB hrow hg htsl hlt G0 HTM
    (refine anyE_tail 12 (by decide) (by rfl) (by kernel_rfl) ?_; simp only [List.drop_succ_cons, List.drop_zero])
    go_wp2
    refine NoPanic.normal ?_
    cases htm : timesP p (start p) 0 (w.take j) with
    | none =>
      simp only [Option.isSome_none]
      have HX : Hid (bestP p w = bestI (fun u => timesP p (start p) 0 u) w ((j : Int) - 1)) := Lib.hid (by rw [HBE.out]; exact bestI_none htm)
      have hw0 : IntKind.i64.wrap ((j : Int) - 1) = (j : Int) - 1 := IntWalk.i64_in _ (by omega)
      clear htm HLT
      obtain ⟨z5, hz5⟩ := ext_of HB5.out
      subst hz5
      go_wp2
      go_roundw
      case rel => exact ⟨(j : Int) - 1, z5, by omega, by omega, rfl, rfl, rfl, rfl, HX.out⟩
      case measure => simp [intOf]
    | some l =>
      simp only [Option.isSome_some]
      obtain rfl : ts = l := HLT.out l htm
      have HX : Hid (bestP p w = (madeM (w.take j) ts, 0)) := Lib.hid (by
        rw [HBE.out, bestI_some htm, madeM_take (by rw [HTS.out]; exact Nat.le_refl _)])
      have HST := Lib.hid (fun (V : World) (hV : Bel w5 V) => stamped_any (W := V) (A := A) (c := c) (w := w.take j) (ts := ts) (by have := stamps_take (HW.out.bel ((HB4.out.trans HB5.out).trans hV)) hjl; rw [HTL.out]; exact this) (ints_row (HRW.out.bel hV)) (by rw [HTS.out, HTL.out]) (by rw [HTL.out]; omega))
      rw [HTL.out, HTS.out] at HST
      clear htm HLT
      go_wp2_with fail
      refine (HST.out w5 Bel.refl).mono ?_
      rintro _ w6 ⟨v, rfl, hown, hB⟩
      have HPO : Hid (BestPost W (bestP p w) (.returned (.tuple #[v, .int .i64 0])) w6) := Lib.hid (by
        rw [HX.out]
        exact ⟨v, rfl, own_mono hown (HB4.out.trans HB5.out).le, (HB4.out.trans HB5.out).trans hB⟩)
      clear hown hB
      go_wp2
      try rw [Exit.noGoto_ret]
      go_ret2
      exact HPO.out
end Go.Proofs.Ythidbmeocifkcaa
