import Derived.Test.YtbilfpoghohddaaG7
import Derived.Test.YtbilfpoghohddaaG3
import Derived.Test.YtbilfpoghohddaaG1
import Derived.Test.YtbilfpoghohddaaG6
import Derived.Deep.LoopGhost
namespace Go.Proofs.Ytbilfpoghohddaa
open Go.RowKit
theorem own_int {w : World} {base g n cap : Nat} {e : TypeId} {xs : List Int} (h : w.ownsRow base e 1 (.slice (some ⟨g, 0, none⟩) n cap) n (xs.map (Value.int .i64))) {k : Nat} (hk : k < xs.length) : w.cell? ⟨g, k, none⟩ = some (.int .i64 (xs.getD k 0)) := by
  have := h.cells (g := g) rfl k (.int .i64 (xs.getD k 0)) (by simp [List.getD, hk])
  rwa [add_ofs] at this
theorem serve_last {l : List Tsk} {i : Nat} {part : List Int} (h : ¬ inAt (posL i 0 part) ((tskAt l i).cost - 1) < (tskAt l i).dl) : serveB l i part = false := by
  have : decide (inAt (posL i 0 part) ((tskAt l i).cost - 1) < (tskAt l i).dl) = false := by simpa using h
  unfold serveB
  rw [this]; simp
theorem ints_at {xs : List Int} {k : Nat} (h : k < xs.length) : xs.take (k + 1) = xs.take k ++ [xs.getD k 0] := by
  rw [List.take_succ_eq_append_getElem h]; simp [List.getD, h]
theorem posL_take {i : Int} {xs : List Int} {k : Nat} (h : k < xs.length) : posL i 0 (xs.take (k + 1)) = posL i 0 (xs.take k) ++ (if xs.getD k 0 = i then [(k : Int)] else []) := by
  rw [ints_at h, posL_append]
  congr 1
  have : (0 : Int) + ((xs.take k).length : Int) = k := by simp; omega
  rw [this]
  simp only [posL]
theorem cut_len {xs : List Int} {a b : Int} (h0 : 0 ≤ a) (hab : a ≤ b) (hb : b ≤ xs.length) : ((cutL xs a b).length : Int) = b - a := by
  unfold cutL; simp; omega
theorem cut_at {xs : List Int} {a b : Int} {q : Nat} (h0 : 0 ≤ a) (h : a + q < b) (hb : b ≤ xs.length) : (cutL xs a b).getD q 0 = xs.getD (a.toNat + q) 0 ∧ a.toNat + q < xs.length := by
  unfold cutL
  refine ⟨?_, by omega⟩
  rw [List.getD_eq_getElem?_getD, List.getElem?_take, if_pos (by omega), List.getElem?_drop, List.getD_eq_getElem?_getD]
theorem all_drop {f : Int → Bool} {xs : List Int} {q : Nat} (h : q < xs.length) : (xs.drop q).all f = (f (xs.getD q 0) && (xs.drop (q + 1)).all f) := by
  rw [List.drop_eq_getElem_cons h, List.all_cons]
  simp [List.getD, h]
theorem secs_all {f : Sec → Bool} {ss : List Sec} {q : Nat} (h : q < ss.length) : (ss.drop q).all f = (f (secAt ss q) && (ss.drop (q + 1)).all f) := by
  rw [secs_drop h, List.all_cons]
set_option maxRecDepth 100000 in
set_option maxHeartbeats 16000000 in
theorem serves_any (v pv : Value) (l : List Tsk) (i : Nat) (part : List Int) (w : World) (h : TsksAt w w.heap.size v l) (hp : IntsAt w w.heap.size pv part) (h0 : rchk l = 0) (hi : i < l.length) (hpl : part.length ≤ 1000000)
    (hk : ∀ k ∈ part, -1 ≤ k ∧ k < l.length) (hsz : Sized l) :
    Calls Try.prog 49 #[v, .int .i64 i, pv] w fun e w' => e = .returned (.bool (serveB l i part)) ∧ Bel w w' := by
  obtain ⟨A, c, rfl, _⟩ := h.form
  obtain ⟨bt, ot, rfl, hbt, hAT⟩ := h.at_ (by omega)
  obtain ⟨Ap, cp, rfl, hcp⟩ := hp.form
  have HT := Lib.hid h
  have HP := Lib.hid hp
  have HAT := Lib.hid hAT
  have H0 := Lib.hid h0
  have HK := Lib.hid hk
  have hil : (i : Int) < (l.length : Int) := by omega
  obtain ⟨iI, hiI, hz0, hz1, hz2⟩ := info_parts Try.infoInt
  clear h hp hAT h0 hk
  go_enter Try.func49, Try.ntmps49
  go_wp2
  go_loopg [7, 17] part.length (fun gk s7 s17 wr => ∃ (k : Nat) (x : Ext w) (atv : Value), k + gk = part.length ∧ s7 = atv ∧ s17 = .int .i64 k ∧ wr = x.w ∧ x.w.ownsRow w.heap.size 3 1 atv (posL i 0 (part.take k)).length ((posL i 0 (part.take k)).map (Value.int .i64)))
  case atStart => exact ⟨0, ⟨w, Bel.refl⟩, _, by omega, rfl, rfl, rfl, World.ownsRow_nil _ _ _ _⟩
  case round =>
    obtain ⟨k, x, atv, hkk, rfl, rfl, rfl, hown⟩ := hrel
    have HOWN := Lib.hid hown
    clear hown
    by_cases hlt : k < part.length
    · have hdl : decide ((k : Int) < (part.length : Int)) = true := by simp; omega
      have hkl : (k : Int) < (part.length : Int) := by omega
      obtain ⟨bp, op, rfl, hbp, hcell⟩ := HP.out.at_ (by omega)
      have cc := hcell k hlt
      have HPT := Lib.hid (posL_take (i := (i : Int)) hlt)
      have hPl := posL_len (i : Int) (part.take k) 0
      rw [List.length_take] at hPl
      clear hcell
      generalize part.getD k 0 = d at *
      by_cases hd : d = (i : Int)
      · have q1 : (d == (i : Int)) = true := by simpa using hd
        have hxle := x.bel.le
        go_wp2_with (at_builtin; go_must (refine wpList_append_own _ rfl _ _ 23 rfl w.heap.size 3 iI (.int .i64 0) 1 8 Try.underlying23 hiI hz0 hz1 hz2 rfl (by decide) _ _ _ rfl (HOWN.out.alloc _) ⟨x.w.heap.size, 0, none⟩ 1 1 [.int .i64 (k : Int)] rfl rfl ?c1 ?c2 ?c3 ?c4 ?c5 ?_))
        case c1 => exact cells_new _ [.int .i64 (k : Int)] _
        case c2 => intro u hu; simp at hu; subst hu; rfl
        case c3 => unfold maxLen; omega
        case c4 => omega
        case c5 => simp; omega
        intro v' w1 hown1 hg1 _
        have hbel := bel_grown (x.bel.alloc _) (HOWN.out.alloc _) hg1
        obtain ⟨y, rfl⟩ := ext_of hbel
        have HO : Hid (y.w.ownsRow w.heap.size 3 1 v' (posL i 0 (part.take (k + 1))).length ((posL i 0 (part.take (k + 1))).map (Value.int .i64))) := Lib.hid (by
          rw [HPT.out, if_pos hd, List.map_append, List.length_append]; exact hown1)
        clear hown1 hg1 hbel
        go_wp2
        go_roundg (gk - 1)
        case measure => omega
        case rel => exact ⟨k + 1, y, v', by omega, rfl, by go_num, rfl, HO.out⟩
      · have q1 : (d == (i : Int)) = false := by simpa using hd
        have HO : Hid (x.w.ownsRow w.heap.size 3 1 u7 (posL i 0 (part.take (k + 1))).length ((posL i 0 (part.take (k + 1))).map (Value.int .i64))) := Lib.hid (by
          rw [HPT.out, if_neg hd, List.append_nil]; exact HOWN.out)
        clear hd
        go_wp2
        go_roundg (gk - 1)
        case measure => omega
        case rel => exact ⟨k + 1, x, _, by omega, rfl, by go_num, rfl, HO.out⟩
    · obtain rfl : k = part.length := by omega
      have hdl : decide ((part.length : Int) < (part.length : Int)) = false := by simp
      have hOW := HOWN.out
      rw [List.take_length] at hOW
      have HOW := Lib.hid hOW
      clear hOW HOWN
      have hPl := posL_len (i : Int) part 0
      obtain ⟨sv, ⟨t0, t1, t2, t3, t4, t5, t6⟩, hsv⟩ := HAT.out i hi
      obtain ⟨As, cs, rfl, _⟩ := hsv.form
      have HSV := Lib.hid hsv
      have hpk := tok_at H0.out hi
      have hs4 := sec_four H0.out hi
      have hc1 := hpk.c1
      have hFIT := Lib.hid (fun s (hs : s ∈ (tskAt l i).secs) => sec_fit H0.out hi hs)
      clear hsv hpk
      obtain ⟨P, hP⟩ : ∃ P, P = posL (i : Int) 0 part := ⟨_, rfl⟩
      rw [← hP] at HOW hPl
      have HPP := Lib.hid hP
      clear hP
      go_upto_region 9 with (fail)
      generalize hW : World.alloc x.w _ = W at *
      have r10 : RowAt W x.w.heap.size 57 [.string (tskAt l i).name, .int .i64 (tskAt l i).per, .int .i64 (tskAt l i).off, .int .i64 (tskAt l i).dl, .int .i64 (tskAt l i).cost, .int .i64 (tskAt l i).prio, .slice As (tskAt l i).secs.length cs] := by rw [← hW]; exact RowAt.new _ _ _
      have hbW : Bel x.w W := by rw [← hW]; exact Bel.refl.alloc _
      clear hW t0 t1 t2 t3 t4 t5 t6
      have HO2 := Lib.hid (ownsRow_bel HOW.out hbW)
      obtain ⟨x2, hx2⟩ := ext_of (x.bel.trans hbW)
      clear hbW HOW
      subst hx2
      generalize x.w.heap.size = p10 at *
      clear x
      have c3 := r10.cell (i := 3) rfl
      have c4 := r10.cell (i := 4) rfl
      have c6 := r10.cell (i := 6) rfl
      have z10 := r10.lt
      clear r10
      by_cases hL : (P.length : Int) = (tskAt l i).cost
      case neg =>
        have q1 : ((P.length : Int) == (tskAt l i).cost) = false := by simpa using hL
        have q1' : ((P.length : Int) != (tskAt l i).cost) = true := by simpa using hL
        have q1'' : decide ((P.length : Int) = (tskAt l i).cost) = false := by simpa using hL
        have HF := Lib.hid (serve_len (l := l) (i := i) (part := part) (by rw [← HPP.out]; exact hL))
        obtain ⟨Aw, cw, rfl, _⟩ := own_slice HO2.out
        clear hL
        (refine wp_region_ext (wb := x2.w) (by (repeat (first | exact Ext.bel _ | exact Bel.refl | refine Bel.alloc ?_ _ | refine Bel.drew ?_ | refine Bel.drewN ?_ _))) (by kernel_rfl) (by kernel_rfl) ?_; (repeat (any_goals (first | go_big_quiet_step (fail) | quiet_step (fail) | (refine wpQuiet_step (fun K hK => ?_); go_simp; split <;> (refine hK _ ?_; clear hK K))))); all_goals (refine wpQuiet_nil ?_; intro _ hw'; obtain ⟨y, hw''⟩ := hw'; subst hw''))
        go_wp2
        go_ret
        exact ⟨ret_bool HF.out.symm, x2.bel.trans y.bel⟩
      have hPpos : 0 < P.length := by omega
      obtain ⟨g, cap, rfl, hcap, hgb, hgz⟩ := own_form HO2.out hPpos
      have HCELL := Lib.hid (fun (k : Nat) (hk : k < P.length) => own_int HO2.out hk)
      have elast : P.getD (P.length - 1) 0 = inAt P ((tskAt l i).cost - 1) := by unfold inAt; congr 1; omega
      have HFN : Hid (¬ inAt P ((tskAt l i).cost - 1) < (tskAt l i).dl → serveB l i part = false) := Lib.hid (fun h => serve_last (l := l) (i := i) (part := part) (by rw [← HPP.out]; exact h))
      have HFY : Hid (inAt P ((tskAt l i).cost - 1) < (tskAt l i).dl → (((tskAt l i).secs.drop 0).all (secFree l i part P)) = serveB l i part) := Lib.hid (fun h => by
        rw [serve_in (by rw [← HPP.out]; exact hL) (by rw [← HPP.out]; exact h), ← HPP.out]; rfl)
      generalize (tskAt l i).cost = co at *
      subst hL
      have cl := HCELL.out (P.length - 1) (by omega)
      rw [elast] at cl
      clear elast
      have hwl : IntKind.i64.wrap ((P.length : Int) - 1) = ((P.length - 1 : Nat) : Int) := by rw [IntWalk.i64_in _ (by omega)]; omega
      have hll : ((P.length - 1 : Nat) : Int) < (P.length : Int) := by omega
      generalize inAt P ((P.length : Int) - 1) = last at *
      by_cases hlate : last < (tskAt l i).dl
      case neg =>
        have q2 : decide ((tskAt l i).dl ≤ last) = true := by simp; omega
        have HF := Lib.hid (HFN.out hlate)
        clear hlate
        (refine wp_region_ext (wb := x2.w) (by (repeat (first | exact Ext.bel _ | exact Bel.refl | refine Bel.alloc ?_ _ | refine Bel.drew ?_ | refine Bel.drewN ?_ _))) (by kernel_rfl) (by kernel_rfl) ?_; (repeat (any_goals (first | go_big_quiet_step (fail) | quiet_step (fail) | (refine wpQuiet_step (fun K hK => ?_); go_simp; split <;> (refine hK _ ?_; clear hK K))))); all_goals (refine wpQuiet_nil ?_; intro _ hw'; obtain ⟨y, hw''⟩ := hw'; subst hw''))
        go_wp2
        go_ret
        exact ⟨ret_bool HF.out.symm, x2.bel.trans y.bel⟩
      have q2 : decide ((tskAt l i).dl ≤ last) = false := by simp; omega
      have HSI := Lib.hid (HFY.out hlate)
      clear hlate
      (refine wp_region_ext (wb := x2.w) (by (repeat (first | exact Ext.bel _ | exact Bel.refl | refine Bel.alloc ?_ _ | refine Bel.drew ?_ | refine Bel.drewN ?_ _))) (by kernel_rfl) (by kernel_rfl) ?_; (repeat (any_goals (first | go_big_quiet_step (fail) | quiet_step (fail) | (refine wpQuiet_step (fun K hK => ?_); go_simp; split <;> (refine hK _ ?_; clear hK K))))); all_goals (refine wpQuiet_nil ?_; intro _ hw'; obtain ⟨y, hw''⟩ := hw'; subst hw''))
      have HCELL2 := Lib.hid (fun (k : Nat) (hk : k < P.length) => (ext_cells y g k hgz).trans (HCELL.out k hk))
      rw [← ext_cells y _ _ z10] at c3 c4 c6
      have z11 := ext_lt y z10
      have hgz2 := ext_lt y hgz
      obtain ⟨x3, hx3⟩ := ext_of (x2.bel.trans y.bel)
      clear cl hwl hll q2 z10 hgz HCELL HO2
      generalize y.w = wy at *
      subst hx3
      clear y x2
      have HSV3 := Lib.hid (HSV.out.keep x3.bel.keeps x3.bel.le)
      have HT3 := Lib.hid (HT.out.keep x3.bel.keeps x3.bel.le)
      go_wp2
      go_loopg [53] (tskAt l i).secs.length (fun gk s53 wr => ∃ (q : Nat) (y : Ext x3.w), q + gk = (tskAt l i).secs.length ∧ s53 = .int .i64 q ∧ wr = y.w ∧ (((tskAt l i).secs.drop q).all (secFree l i part P)) = serveB l i part)
      case atStart => exact ⟨0, ⟨x3.w, Bel.refl⟩, by omega, rfl, rfl, HSI.out⟩
      case round =>
        clear HSI
        obtain ⟨q, y, hq, rfl, rfl, hs⟩ := hrel
        by_cases hlq : q < (tskAt l i).secs.length
        · have hdq : decide ((q : Int) < ((tskAt l i).secs.length : Int)) = true := by simp; omega
          have hql : (q : Int) < ((tskAt l i).secs.length : Int) := by omega
          obtain ⟨bs, os, rfl, hbs, hS⟩ := HSV3.out.at_ (by omega)
          obtain ⟨d0, d1, d2⟩ := hS q hlq
          rw [secs_all hlq] at hs
          have hfit := hFIT.out (secAt (tskAt l i).secs q) (by simp [secAt, List.getD, hlq])
          obtain ⟨r0, r1, f0, l1, fl, hco⟩ := hfit
          have hFS := Lib.hid hs
          have HCUT : Hid (∀ m, m < 0 → False) := Lib.hid (fun m h => by omega)
          clear hS hs HCUT
          have hsd : secFree l i part P (secAt (tskAt l i).secs q) = (cutL part (inAt P (secAt (tskAt l i).secs q).frm) (inAt P ((secAt (tskAt l i).secs q).frm + (secAt (tskAt l i).secs q).len - 1))).all (freeB l i (secAt (tskAt l i).secs q).res) := rfl
          have HSD := Lib.hid hsd
          clear hsd
          generalize secFree l i part P (secAt (tskAt l i).secs q) = fb at *
          generalize secAt (tskAt l i).secs q = s at *
          obtain ⟨res, frm, len⟩ := s
          dsimp only at *
          obtain ⟨f, rfl⟩ : ∃ f : Nat, frm = f := ⟨frm.toNat, by omega⟩
          obtain ⟨e, he⟩ : ∃ e : Nat, (f : Int) + len - 1 = e := ⟨((f : Int) + len - 1).toNat, by omega⟩
          have hw1 : IntKind.i64.wrap ((f : Int) + len) = (f : Int) + len := IntWalk.i64_in _ (by omega)
          have hw2 : IntKind.i64.wrap ((f : Int) + len - 1) = (e : Int) := by rw [IntWalk.i64_in _ (by omega)]; exact he
          have hfl : f < P.length := by omega
          have hel : e < P.length := by omega
          have hfe : f ≤ e := by omega
          rw [he] at HSD
          obtain ⟨a1, a2, _⟩ := posL_in (i : Int) part (q := (f : Int)) (by omega) (by rw [← HPP.out]; omega)
          obtain ⟨b1, b2, _⟩ := posL_in (i : Int) part (q := (e : Int)) (by omega) (by rw [← HPP.out]; omega)
          have hab := (sorted_at (posL_sorted (i : Int) part 0) (a := (f : Int)) (b := (e : Int)) (by omega) (by omega) (by rw [← HPP.out]; omega)).1
          rw [← HPP.out] at a1 a2 b1 b2 hab
          have cf := HCELL2.out f hfl
          have ce := HCELL2.out e hel
          have e1 : P.getD f 0 = inAt P f := by simp [inAt]
          have e2 : P.getD e 0 = inAt P e := by simp [inAt]
          rw [e1] at cf
          rw [e2] at ce
          generalize inAt P (f : Int) = av at *
          generalize inAt P (e : Int) = bv at *
          obtain ⟨an, rfl⟩ : ∃ an : Nat, av = an := ⟨av.toNat, by omega⟩
          obtain ⟨bn, rfl⟩ : ∃ bn : Nat, bv = bn := ⟨bv.toNat, by omega⟩
          have hfli : (f : Int) < (P.length : Int) := by omega
          have heli : (e : Int) < (P.length : Int) := by omega
          have habn : an ≤ bn := by omega
          have hbc : bn ≤ cp := by omega
          have hbci : (bn : Int) ≤ (cp : Int) := by omega
          have han : ¬ cp = an := by omega
          obtain ⟨bp, op, rfl, hbp, hcell⟩ := HP.out.at_ (by omega)
          clear e1 e2 he f0 l1 fl
          obtain ⟨G, hG⟩ : ∃ G, G = gk := ⟨_, rfl⟩
          rw [← hG] at hq
          go_upto_region 14 with (fail)
          generalize hW : World.alloc y.w _ = W at *
          have r12 : RowAt W y.w.heap.size 119 [.int .i64 res, .int .i64 (f : Int), .int .i64 len] := by rw [← hW]; exact RowAt.new _ _ _
          have hbW : Bel y.w W := by rw [← hW]; exact Bel.refl.alloc _
          clear hW d0 d1 d2
          obtain ⟨y2, hy2⟩ := ext_of (y.bel.trans hbW)
          clear hbW
          subst hy2
          generalize y.w.heap.size = p12 at *
          clear y
          have s0 := r12.cell (i := 0) rfl
          have s1 := r12.cell (i := 1) rfl
          have s2 := r12.cell (i := 2) rfl
          have z12 := r12.lt
          clear r12
          (refine wp_region_ext (wb := y2.w) (by (repeat (first | exact Ext.bel _ | exact Bel.refl | refine Bel.alloc ?_ _ | refine Bel.drew ?_ | refine Bel.drewN ?_ _))) (by kernel_rfl) (by kernel_rfl) ?_; (repeat (any_goals (first | go_big_quiet_step (fail) | quiet_step (fail) | (refine wpQuiet_step (fun K hK => ?_); go_simp; split <;> (refine hK _ ?_; clear hK K))))); all_goals (refine wpQuiet_nil ?_; intro _ hw'; obtain ⟨y, hw''⟩ := hw'; subst hw''))
          obtain ⟨y3, hy3⟩ := ext_of (y2.bel.trans y.bel)
          rw [← ext_cells y _ _ z12] at s0
          have z13 := ext_lt y z12
          clear s1 s2 z12 cf ce
          generalize y.w = wy at *
          subst hy3
          clear y y2
          have HBY := Lib.hid (x3.bel.trans y3.bel)
          have HTY := Lib.hid (HT.out.keep HBY.out.keeps HBY.out.le)
          have HPC := Lib.hid (fun k (hk : k < part.length) => (HBY.out.cells bp (op + k) hbp).trans (hcell k hk))
          have hbpy : bp < y3.w.heap.size := Nat.lt_of_lt_of_le hbp HBY.out.le
          have HS0 : Hid (((cutL part an bn).drop 0).all (freeB l i res) = fb) := Lib.hid (by rw [HSD.out]; rfl)
          have hcl := cut_len (xs := part) (a := (an : Int)) (b := (bn : Int)) (by omega) (by omega) (by omega)
          have hcl2 : (cutL part an bn).length = bn - an := by omega
          clear hcell hcl
          go_wp2
          go_loopg [74] (bn - an) (fun gk s74 wr => ∃ (m : Nat) (u : Ext y3.w), m + gk = bn - an ∧ s74 = .int .i64 m ∧ wr = u.w ∧ ((cutL part an bn).drop m).all (freeB l i res) = fb)
          case atStart => exact ⟨0, ⟨y3.w, Bel.refl⟩, by omega, rfl, rfl, HS0.out⟩
          case round =>
            clear HS0
            obtain ⟨m, u, hm, rfl, rfl, hfm⟩ := hrel
            by_cases hlm : m < bn - an
            · have hml : (m : Int) < ((bn - an : Nat) : Int) := by omega
              have hml2 : (m : Int) < (bn : Int) - (an : Int) := by omega
              have hdm : decide ((m : Int) < ((bn - an : Nat) : Int)) = true := by simp; omega
              have hdm2 : decide ((m : Int) < (bn : Int) - (an : Int)) = true := by simp; omega
              obtain ⟨g1, g2⟩ := cut_at (xs := part) (a := (an : Int)) (b := (bn : Int)) (q := m) (by omega) (by omega) (by omega)
              rw [Int.toNat_natCast] at g1 g2
              have cd := HPC.out (an + m) g2
              have hdr := HK.out (part.getD (an + m) 0) (by simp [List.getD, g2])
              rw [all_drop (by omega), g1] at hfm
              generalize part.getD (an + m) 0 = d at *
              rw [← Nat.add_assoc] at cd
              have HFM := Lib.hid hfm
              clear hfm g1 g2
              by_cases hd0 : d < 0
              · have q1 : decide (0 ≤ d) = false := by simp; omega
                have HN : Hid (((cutL part an bn).drop (m + 1)).all (freeB l i res) = fb) := Lib.hid (by
                  have e : freeB l i res d = true := by unfold freeB; rw [q1]; rfl
                  rw [← HFM.out, e, Bool.true_and])
                clear hd0
                go_upto_region 17 with (fail)
                (refine wp_region_ext (wb := u.w) (by (repeat (first | exact Ext.bel _ | exact Bel.refl | refine Bel.alloc ?_ _ | refine Bel.drew ?_ | refine Bel.drewN ?_ _))) (by kernel_rfl) (by kernel_rfl) ?_; (repeat (any_goals (first | go_big_quiet_step (fail) | quiet_step (fail) | (refine wpQuiet_step (fun K hK => ?_); go_simp; split <;> (refine hK _ ?_; clear hK K))))); all_goals (refine wpQuiet_nil ?_; intro _ hw'; obtain ⟨y, hw''⟩ := hw'; subst hw''))
                go_wp2
                go_roundg (gk - 1)
                case measure => omega
                case rel => exact ⟨m + 1, ⟨_, u.bel.trans y.bel⟩, by omega, by go_num, rfl, HN.out⟩
              · obtain ⟨dn, rfl⟩ : ∃ dn : Nat, d = dn := ⟨d.toNat, by omega⟩
                have q1 : decide (0 ≤ (dn : Int)) = true := by simp
                have hdl2 : dn < l.length := by omega
                have hdl3 : (dn : Int) < (l.length : Int) := by omega
                by_cases hdi : dn = i
                · subst hdi
                  have HN : Hid (((cutL part an bn).drop (m + 1)).all (freeB l dn res) = fb) := Lib.hid (by
                    rw [← HFM.out, free_self, Bool.true_and])
                  go_upto_region 17 with (fail)
                  (refine wp_region_ext (wb := u.w) (by (repeat (first | exact Ext.bel _ | exact Bel.refl | refine Bel.alloc ?_ _ | refine Bel.drew ?_ | refine Bel.drewN ?_ _))) (by kernel_rfl) (by kernel_rfl) ?_; (repeat (any_goals (first | go_big_quiet_step (fail) | quiet_step (fail) | (refine wpQuiet_step (fun K hK => ?_); go_simp; split <;> (refine hK _ ?_; clear hK K))))); all_goals (refine wpQuiet_nil ?_; intro _ hw'; obtain ⟨y, hw''⟩ := hw'; subst hw''))
                  go_wp2
                  go_roundg (gk - 1)
                  case measure => omega
                  case rel => exact ⟨m + 1, ⟨_, u.bel.trans y.bel⟩, by omega, by go_num, rfl, HN.out⟩
                · have q2 : ((dn : Int) == (i : Int)) = false := by simp; omega
                  have q3 : decide ((dn : Int) = (i : Int)) = false := by simp; omega
                  have q4 : ((dn : Int) != (i : Int)) = true := by simp; omega
                  have hfree : freeB l i res dn = !usesB (tskAt l dn) res := by unfold freeB; rw [q1, q3]; simp
                  rw [hfree] at HFM
                  obtain ⟨bt2, ot2, hte, hbt2, hAT2⟩ := HTY.out.at_ (by omega)
                  injection hte with hte
                  injection hte with hte1 hte2
                  subst hte1 hte2
                  obtain ⟨sv2, ⟨t0, t1, t2, t3, t4, t5, t6⟩, hsv2⟩ := hAT2 dn hdl2
                  obtain ⟨As2, cs2, rfl, _⟩ := hsv2.form
                  have HU := Lib.hid (fun (x : Ext u.w) => uses_any (tskAt l dn) _ res x.w (hsv2.keep (u.bel.trans x.bel).keeps (u.bel.trans x.bel).le) (hsz.parts dn hdl2).1)
                  clear hAT2 hsv2 hfree
                  go_upto_region 17 with (fail)
                  cases hub : usesB (tskAt l dn) res
                  · rw [hub] at HU HFM
                    have HN : Hid (((cutL part an bn).drop (m + 1)).all (freeB l i res) = fb) := Lib.hid (by
                      rw [← HFM.out]; rfl)
                    clear hub
                    (refine wp_region_ext (wb := u.w) (by (repeat (first | exact Ext.bel _ | exact Bel.refl | refine Bel.alloc ?_ _ | refine Bel.drew ?_ | refine Bel.drewN ?_ _))) (by kernel_rfl) (by kernel_rfl) ?_; (repeat (any_goals (first | go_big_quiet_step ((go_at_call 74; with_reducible exact ext_call (HU.out _))) | quiet_step ((go_at_call 74; with_reducible exact ext_call (HU.out _))) | (refine wpQuiet_step (fun K hK => ?_); go_simp; split <;> (refine hK _ ?_; clear hK K))))); all_goals (refine wpQuiet_nil ?_; intro _ hw'; obtain ⟨y, hw''⟩ := hw'; subst hw''))
                    go_wp2
                    go_roundg (gk - 1)
                    case measure => omega
                    case rel => exact ⟨m + 1, ⟨_, u.bel.trans y.bel⟩, by omega, by go_num, rfl, HN.out⟩
                  · rw [hub] at HU HFM
                    have HN : Hid (serveB l i part = false) := Lib.hid (by
                      rw [← hFS.out, ← HFM.out]; rfl)
                    clear hub
                    (refine wp_region_ext (wb := u.w) (by (repeat (first | exact Ext.bel _ | exact Bel.refl | refine Bel.alloc ?_ _ | refine Bel.drew ?_ | refine Bel.drewN ?_ _))) (by kernel_rfl) (by kernel_rfl) ?_; (repeat (any_goals (first | go_big_quiet_step ((go_at_call 74; with_reducible exact ext_call (HU.out _))) | quiet_step ((go_at_call 74; with_reducible exact ext_call (HU.out _))) | (refine wpQuiet_step (fun K hK => ?_); go_simp; split <;> (refine hK _ ?_; clear hK K))))); all_goals (refine wpQuiet_nil ?_; intro _ hw'; obtain ⟨y, hw''⟩ := hw'; subst hw''))
                    go_wp2
                    go_ret
                    exact ⟨ret_bool HN.out.symm, (HBY.out.trans u.bel).trans y.bel⟩
            · have hdm : decide ((m : Int) < ((bn - an : Nat) : Int)) = false := by simp; omega
              have hdm2 : decide ((m : Int) < (bn : Int) - (an : Int)) = false := by simp; omega
              have HN : Hid (((tskAt l i).secs.drop (q + 1)).all (secFree l i part P) = serveB l i part) := Lib.hid (by
                have hfb : fb = true := by rw [← hfm, List.drop_eq_nil_of_le (by omega)]; rfl
                rw [← hFS.out, hfb, Bool.true_and])
              clear hfm
              go_wp2
              go_roundg (G - 1)
              case measure => omega
              case rel => exact ⟨q + 1, ⟨_, y3.bel.trans u.bel⟩, by omega, by go_num, rfl, HN.out⟩
        · obtain rfl : q = (tskAt l i).secs.length := by omega
          have hdq : decide (((tskAt l i).secs.length : Int) < ((tskAt l i).secs.length : Int)) = false := by simp
          have HF : Hid (serveB l i part = true) := Lib.hid (by rw [← hs]; simp)
          clear hs
          go_wp2
          go_ret
          exact ⟨ret_bool HF.out.symm, x3.bel.trans y.bel⟩
end Go.Proofs.Ytbilfpoghohddaa
