import Derived.Test.YthcdemmamggboaaG9
import Derived.Test.YthcdemmamggboaaG1
import Derived.Test.YthcdemmamggboaaZHap
namespace Go.Proofs.Ythcdemmamggboaa
open Go.RowKit
theorem manyS_len (r d : Int) : ∀ ss : List Sec, manyS r d ss ≤ ss.length
  | [] => Nat.le_refl _
  | s :: ss => by have := manyS_len r d ss; simp only [manyS, List.length_cons]; split <;> omega
theorem manyJ_len {l : List Tsk} (r : Int) (g : Nat → Int) (m : Nat) : ∀ (ds : List Don) (k : Nat), (∀ i, i < ds.length → (tskAt l (dnAt ds i).tk).secs.length ≤ m) → manyJ l r g k ds ≤ m * ds.length
  | [], k, _ => by simp [manyJ]
  | d :: ds, k, h => by
    have h0 := h 0 (by simp)
    have e0 : dnAt (d :: ds) 0 = d := rfl
    rw [e0] at h0
    have h1 := manyS_len r (g k) (tskAt l d.tk).secs
    have h2 := manyJ_len r g m ds (k + 1) (fun i hi => by have := h (i + 1) (by simpa using hi); rwa [show dnAt (d :: ds) (i + 1) = dnAt ds i by simp [dnAt, List.getD]] at this)
    simp only [manyJ, List.length_cons]
    rw [Nat.mul_add]
    omega
theorem dons_drop {js : List Don} {k : Nat} (h : k < js.length) : js.drop k = dnAt js k :: js.drop (k + 1) := by
  rw [List.drop_eq_getElem_cons h]; simp [dnAt, List.getD, h]
set_option maxRecDepth 100000 in
set_option maxHeartbeats 8000000 in
theorem many_any (v vj : Value) (l : List Tsk) (js : List Don) (p : Nat) (g : Nat → Int) (r : Int) (w : World) (h : TsksAt w w.heap.size v l) (hj : RdAt w w.heap.size vj 5 donC js) (hd : ArrAt w p 2 js.length g)
    (h0 : rchk l = 0) (hjl : js.length ≤ 160000) (htk : ∀ k, k < js.length → (dnAt js k).tk < l.length) (hsl : ∀ k, k < l.length → (tskAt l k).secs.length ≤ 4) :
    Calls Try.prog 20 #[v, vj, .slice (some ⟨p, 0, none⟩) js.length js.length, .int .i64 r] w fun e w' => e = .returned (.int .i64 (manyJ l r g 0 js)) ∧ Bel w w' := by
  obtain ⟨A, c, rfl, _⟩ := h.form
  obtain ⟨bt, ot, rfl, hbt, hAT⟩ := h.at_ (rchk_pos h0)
  obtain ⟨A2, c2, rfl, _⟩ := hj.form
  have HAT := Lib.hid hAT
  have HJ := Lib.hid hj
  have HD := Lib.hid hd
  have HTK := Lib.hid htk
  have HSL := Lib.hid hsl
  have H0 := Lib.hid h0
  have hl8 := (rchk_ok h0).1
  have hpz := hd.lt
  have HTOT : Hid (manyJ l r g 0 js ≤ 4 * js.length) := Lib.hid (manyJ_len r g 4 js 0 (fun i hi => hsl _ (htk i hi)))
  have HST : Hid (0 + manyJ l r g 0 (js.drop 0) = manyJ l r g 0 js) := Lib.hid (by simp)
  clear hAT h hj hd htk hsl h0
  go_enter Try.func20, Try.ntmps20
  go_wp2
  go_loopg [9, 10] js.length (fun gk s9 s10 wr => ∃ (k n : Nat) (x : Ext w), k + gk = js.length ∧ s9 = .int .i64 n ∧ s10 = .int .i64 k ∧ wr = x.w ∧ n + manyJ l r g k (js.drop k) = manyJ l r g 0 js)
  case atStart => exact ⟨0, 0, ⟨w, Bel.refl⟩, by omega, rfl, rfl, rfl, HST.out⟩
  case round =>
    clear HST
    obtain ⟨k, n, x, hk, rfl, rfl, rfl, hn⟩ := hrel
    by_cases hlt : k < js.length
    · have hdl : decide ((k : Int) < (js.length : Int)) = true := by simp; omega
      have hkl : (k : Int) < (js.length : Int) := by omega
      obtain ⟨bj, oj, rfl, hbj, kj⟩ := HJ.out.at_ (by omega)
      obtain ⟨j0, _, _, _, _⟩ := rd_don hlt kj
      have ht := HTK.out k hlt
      have htl : ((dnAt js k).tk : Int) < (l.length : Int) := by omega
      have hts := HSL.out _ ht
      have HFIT := Lib.hid (fun s (hs : s ∈ (tskAt l (dnAt js k).tk).secs) => sec_fit H0.out ht hs)
      obtain ⟨sv, ⟨t0, t1, t2, t3, t4, t5, t6⟩, hsv⟩ := HAT.out _ ht
      obtain ⟨As, cs, rfl, _⟩ := hsv.form
      have htot := HTOT.out
      rw [dons_drop hlt] at hn
      simp only [manyJ] at hn
      have hcell := HD.out.cell hlt
      have t7 : decide (((dnAt js k).tk : Int) < 0) = false := by simp
      have t8 : decide ((l.length : Int) ≤ ((dnAt js k).tk : Int)) = false := by simp; omega
      clear kj
      generalize (dnAt js k).tk = tk at *
      generalize hsecs : (tskAt l tk).secs = secs at *
      clear hsecs
      generalize hgk : g k = d at *
      clear hgk
      obtain ⟨G, hG⟩ : ∃ G, G = gk := ⟨_, rfl⟩
      rw [← hG] at hk
      obtain ⟨N, hN⟩ : ∃ N, N = n + manyS r d secs := ⟨_, rfl⟩
      have HN : Hid (n + manyS r d (secs.drop 0) = N) := Lib.hid (by rw [hN]; simp)
      have HN2 : Hid (N + manyJ l r g (k + 1) (js.drop (k + 1)) = manyJ l r g 0 js) := Lib.hid (by rw [hN]; omega)
      have hNb : N ≤ 4 * js.length := by omega
      clear hN hn htot
      go_upto_region 8 with (fail)
      generalize hW : World.alloc x.w _ = W at *
      have r11 : RowAt W x.w.heap.size 45 [.string (tskAt l tk).name, .int .i64 (tskAt l tk).per, .int .i64 (tskAt l tk).off, .int .i64 (tskAt l tk).dl, .int .i64 (tskAt l tk).cost, .int .i64 (tskAt l tk).prio, .slice As secs.length cs] := by rw [← hW]; exact RowAt.new _ _ _
      have hbW : Bel x.w W := by rw [← hW]; exact Bel.refl.alloc _
      clear hW t0 t1 t2 t3 t4 t5 t6 j0
      obtain ⟨x2, hx2⟩ := ext_of (x.bel.trans hbW)
      clear hbW
      subst hx2
      have q6 := r11.cell (i := 6) rfl
      have x11 := r11.lt
      clear r11
      generalize x.w.heap.size = p11 at *
      have HSV := Lib.hid hsv
      rw [← ext_cells x2 _ _ hpz] at hcell
      have hpz2 := ext_lt x2 hpz
      clear hsv x
      go_wp2
      go_loopg [9, 12] secs.length (fun gk s9 s12 wr => ∃ (i m : Nat) (y : Ext x2.w), i + gk = secs.length ∧ s9 = .int .i64 m ∧ s12 = .int .i64 i ∧ wr = y.w ∧ m + manyS r d (secs.drop i) = N)
      case atStart => exact ⟨0, n, ⟨x2.w, Bel.refl⟩, by omega, rfl, rfl, rfl, HN.out⟩
      case round =>
        clear HN
        obtain ⟨i, m, y, hi, rfl, rfl, rfl, hm⟩ := hrel
        by_cases hlt2 : i < secs.length
        · have hdl2 : decide ((i : Int) < (secs.length : Int)) = true := by simp; omega
          have hil : (i : Int) < (secs.length : Int) := by omega
          obtain ⟨bs, os, rfl, hbs, hS⟩ := HSV.out.at_ (by omega)
          obtain ⟨c0, c1, c2'⟩ := hS i hlt2
          rw [← ext_cells x2 _ _ hbs] at c0 c1 c2'
          have hbs2 := ext_lt x2 hbs
          have hfit := HFIT.out (secAt secs i) (by simp [secAt, List.getD, hlt2])
          rw [secs_drop hlt2] at hm
          simp only [manyS] at hm
          have f0 := hfit.f0
          have f1 := hfit.l1
          have f2 := hfit.fl
          have f3 := hfit.c1
          clear hS hfit
          generalize secAt secs i = s at *
          have hw1 : IntKind.i64.wrap (s.frm + s.len) = s.frm + s.len := IntWalk.i64_in _ (by omega)
          have HM := Lib.hid hm
          have hmb : m ≤ 4 * js.length := by omega
          clear hm
          go_upto_region 12 with (fail)
          generalize hW : World.alloc y.w _ = W at *
          have r13 : RowAt W y.w.heap.size 70 [.int .i64 s.res, .int .i64 s.frm, .int .i64 s.len] := by rw [← hW]; exact RowAt.new _ _ _
          have hbW : Bel y.w W := by rw [← hW]; exact Bel.refl.alloc _
          clear hW c0 c1 c2'
          obtain ⟨y2, hy2⟩ := ext_of (y.bel.trans hbW)
          clear hbW
          subst hy2
          have q0 := r13.cell (i := 0) rfl
          have q1 := r13.cell (i := 1) rfl
          have q2 := r13.cell (i := 2) rfl
          have x13 := r13.lt
          clear r13
          generalize y.w.heap.size = p13 at *
          by_cases h1 : s.res = r
          · have u1 : (s.res == r) = true := by simpa using h1
            by_cases h2 : s.frm < d
            · have u2 : decide (s.frm < d) = true := by simpa using h2
              by_cases h3 : d < s.frm + s.len
              · have u3 : decide (d < s.frm + s.len) = true := by simpa using h3
                have HM2 : Hid (m + 1 + manyS r d (secs.drop (i + 1)) = N) := Lib.hid (by have := HM.out; rw [if_pos (by simp [hitS, insideB, h1, h2, h3])] at this; omega)
                clear h1 h2 h3 HM
                (refine wp_region_ext (wb := y2.w) (by (repeat (first | exact Ext.bel _ | exact Bel.refl | refine Bel.alloc ?_ _ | refine Bel.drew ?_ | refine Bel.drewN ?_ _))) (by kernel_rfl) (by kernel_rfl) ?_; (repeat (any_goals (first | go_big_quiet_step (fail) | quiet_step (fail) | (refine wpQuiet_step (fun K hK => ?_); go_simp; split <;> (refine hK _ ?_; clear hK K))))); all_goals (refine wpQuiet_nil ?_; intro _ hw'; obtain ⟨y, hw''⟩ := hw'; subst hw''))
                go_wp2
                go_roundg (gk - 1)
                case measure => omega
                case rel => exact ⟨i + 1, m + 1, ⟨_, y2.bel.trans y.bel⟩, by omega, by go_num, by go_num, rfl, HM2.out⟩
              · have u3 : decide (d < s.frm + s.len) = false := by simpa using h3
                have HM2 : Hid (m + manyS r d (secs.drop (i + 1)) = N) := Lib.hid (by have := HM.out; rw [if_neg (by simp [hitS, insideB, h3])] at this; omega)
                clear h1 h2 h3 HM
                (refine wp_region_ext (wb := y2.w) (by (repeat (first | exact Ext.bel _ | exact Bel.refl | refine Bel.alloc ?_ _ | refine Bel.drew ?_ | refine Bel.drewN ?_ _))) (by kernel_rfl) (by kernel_rfl) ?_; (repeat (any_goals (first | go_big_quiet_step (fail) | quiet_step (fail) | (refine wpQuiet_step (fun K hK => ?_); go_simp; split <;> (refine hK _ ?_; clear hK K))))); all_goals (refine wpQuiet_nil ?_; intro _ hw'; obtain ⟨y, hw''⟩ := hw'; subst hw''))
                go_wp2
                go_roundg (gk - 1)
                case measure => omega
                case rel => exact ⟨i + 1, m, ⟨_, y2.bel.trans y.bel⟩, by omega, rfl, by go_num, rfl, HM2.out⟩
            · have u2 : decide (s.frm < d) = false := by simpa using h2
              have HM2 : Hid (m + manyS r d (secs.drop (i + 1)) = N) := Lib.hid (by have := HM.out; rw [if_neg (by simp [hitS, insideB, h2])] at this; omega)
              clear h1 h2 HM
              (refine wp_region_ext (wb := y2.w) (by (repeat (first | exact Ext.bel _ | exact Bel.refl | refine Bel.alloc ?_ _ | refine Bel.drew ?_ | refine Bel.drewN ?_ _))) (by kernel_rfl) (by kernel_rfl) ?_; (repeat (any_goals (first | go_big_quiet_step (fail) | quiet_step (fail) | (refine wpQuiet_step (fun K hK => ?_); go_simp; split <;> (refine hK _ ?_; clear hK K))))); all_goals (refine wpQuiet_nil ?_; intro _ hw'; obtain ⟨y, hw''⟩ := hw'; subst hw''))
              go_wp2
              go_roundg (gk - 1)
              case measure => omega
              case rel => exact ⟨i + 1, m, ⟨_, y2.bel.trans y.bel⟩, by omega, rfl, by go_num, rfl, HM2.out⟩
          · have u1 : (s.res == r) = false := by simpa using h1
            have HM2 : Hid (m + manyS r d (secs.drop (i + 1)) = N) := Lib.hid (by have := HM.out; rw [if_neg (by simp [hitS, h1])] at this; omega)
            clear h1 HM
            (refine wp_region_ext (wb := y2.w) (by (repeat (first | exact Ext.bel _ | exact Bel.refl | refine Bel.alloc ?_ _ | refine Bel.drew ?_ | refine Bel.drewN ?_ _))) (by kernel_rfl) (by kernel_rfl) ?_; (repeat (any_goals (first | go_big_quiet_step (fail) | quiet_step (fail) | (refine wpQuiet_step (fun K hK => ?_); go_simp; split <;> (refine hK _ ?_; clear hK K))))); all_goals (refine wpQuiet_nil ?_; intro _ hw'; obtain ⟨y, hw''⟩ := hw'; subst hw''))
            go_wp2
            go_roundg (gk - 1)
            case measure => omega
            case rel => exact ⟨i + 1, m, ⟨_, y2.bel.trans y.bel⟩, by omega, rfl, by go_num, rfl, HM2.out⟩
        · obtain rfl : i = secs.length := by omega
          have hdl2 : decide ((secs.length : Int) < (secs.length : Int)) = false := by simp
          have HM2 : Hid (m = N) := Lib.hid (by have := hm; simp [manyS] at this; exact this)
          clear hm
          go_wp2
          go_roundg (G - 1)
          case measure => omega
          case rel => exact ⟨k + 1, m, ⟨_, x2.bel.trans y.bel⟩, by omega, rfl, by go_num, rfl, by rw [HM2.out]; exact HN2.out⟩
    · obtain rfl : k = js.length := by omega
      have hdl : decide ((js.length : Int) < (js.length : Int)) = false := by simp
      have HM2 : Hid (n = manyJ l r g 0 js) := Lib.hid (by have := hn; simp [manyJ] at this; exact this)
      clear hn
      go_wp2
      go_ret
      exact ⟨by rw [← HM2.out]; rfl, x.bel⟩
end Go.Proofs.Ythcdemmamggboaa
