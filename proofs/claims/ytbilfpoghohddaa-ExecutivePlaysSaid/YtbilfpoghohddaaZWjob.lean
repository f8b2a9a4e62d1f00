import Derived.Test.YtbilfpoghohddaaG7
import Derived.Test.YtbilfpoghohddaaZWserve
namespace Go.Proofs.Ytbilfpoghohddaa
open Go.RowKit
theorem Try.infoI64 : (Try.prog.info? 2).map (fun i => (i.zero, i.size, i.bytes)) = some (some (.int .i64 0), 1, 8) := by kernel_rfl
theorem posL_mem {i : Int} {xs : List Int} {q : Nat} (h : q < xs.length) (e : xs.getD q 0 = i) : (q : Int) ∈ posL i 0 xs := by
  have h1 : xs = xs.take (q + 1) ++ xs.drop (q + 1) := (List.take_append_drop (q + 1) xs).symm
  rw [h1, posL_append, posL_take h, if_pos e]
  simp
theorem part_at {xs : List Int} {p c q : Nat} (hq : q < p) (hfull : (c + 1) * p ≤ xs.length) : (partN xs p c).getD q 0 = xs.getD (c * p + q) 0 ∧ c * p + q < xs.length := by
  have e : (c + 1) * p = c * p + p := by rw [Nat.add_mul, Nat.one_mul]
  unfold partN
  refine ⟨?_, by omega⟩
  rw [List.getD_eq_getElem?_getD, List.getElem?_take, if_pos hq, List.getElem?_drop, List.getD_eq_getElem?_getD]
theorem part_len {xs : List Int} {p c : Nat} (hfull : (c + 1) * p ≤ xs.length) : (partN xs p c).length = p := by
  have e : (c + 1) * p = c * p + p := by rw [Nat.add_mul, Nat.one_mul]
  unfold partN; simp; omega
def absL (o : Nat) (P : List Int) : List Int := P.map (fun p => p + o)
theorem abs_at {o : Nat} {P : List Int} {k : Nat} (h : k < P.length) : (absL o P).getD k 0 = P.getD k 0 + o := by simp [absL, List.getD, h]
theorem abs_len (o : Nat) (P : List Int) : (absL o P).length = P.length := by simp [absL]
theorem serve_all {l : List Tsk} {i : Nat} {part : List Int} (h : ((posL i 0 part).length : Int) = (tskAt l i).cost) (hc : 1 ≤ (tskAt l i).cost) (hd : ∀ p ∈ posL i 0 part, p < (tskAt l i).dl) :
    serveB l i part = (tskAt l i).secs.all (secFree l i part (posL i 0 part)) :=
  serve_in h (hd _ (inAt_mem (by omega) (by omega)))
set_option maxRecDepth 100000 in
set_option maxHeartbeats 16000000 in
theorem job_any (v xv : Value) (l : List Tsk) (i : Nat) (xs : List Int) (c : Nat) (w : World) (h : TsksAt w w.heap.size v l) (hp : IntsAt w w.heap.size xv xs) (h0 : rchk l = 0) (hi : i < l.length) (hpl : xs.length ≤ 1000000)
    (hk : ∀ k ∈ xs, -1 ≤ k ∧ k < l.length) (hsz : Sized l) (hfull : (c + 1) * (tskAt l i).per.toNat ≤ xs.length) :
    Calls Try.prog 39 #[v, .agg #[xv], .int .i64 i, .int .i64 (c * (tskAt l i).per.toNat : Nat)] w fun e w' => e = .returned (.bool (serveB l i (partN xs (tskAt l i).per.toNat c))) ∧ Bel w w' := by
  obtain ⟨A, cA, rfl, _⟩ := h.form
  obtain ⟨bt, ot, rfl, hbt, hAT⟩ := h.at_ (by omega)
  obtain ⟨Ap, cp, rfl, hcp⟩ := hp.form
  have hpk := tok_at h0 hi
  have hp1 := hpk.p1
  have hp2 := hpk.p2
  have hc1 := hpk.c1
  have hd1 := hpk.d1
  have hdp := hpk.d2
  obtain ⟨pn, hpn⟩ : ∃ pn : Nat, (tskAt l i).per = pn := ⟨(tskAt l i).per.toNat, by omega⟩
  rw [hpn, Int.toNat_natCast] at hfull ⊢
  have HPART := Lib.hid (fun q (hq : q < pn) => part_at (xs := xs) (c := c) hq hfull)
  have hplen := part_len hfull
  obtain ⟨part, hpart⟩ : ∃ part, part = partN xs pn c := ⟨_, rfl⟩
  rw [← hpart] at HPART hplen ⊢
  have hoff : c * pn + pn ≤ xs.length := by have : (c + 1) * pn = c * pn + pn := by rw [Nat.add_mul, Nat.one_mul]
                                            omega
  clear hpart hfull
  generalize c * pn = o at *
  have HT := Lib.hid h
  have HP := Lib.hid hp
  have HAT := Lib.hid hAT
  have H0 := Lib.hid h0
  have HK := Lib.hid hk
  have hs4 := sec_four h0 hi
  have hil : (i : Int) < (l.length : Int) := by omega
  obtain ⟨iI, hiI, hz0, hz1, hz2⟩ := info_parts Try.infoI64
  obtain ⟨bp, op, rfl, hbp, hcell⟩ := hp.at_ (by omega)
  have HCELL := Lib.hid hcell
  clear h hp hAT h0 hk hpk hcell
  go_enter Try.func39, Try.ntmps39
  go_upto_region 1 with (fail)
  generalize hW1 : World.alloc w _ = W1 at *
  have r5 : RowAt W1 w.heap.size 25 [.slice (some ⟨bp, op, none⟩) xs.length cp] := by rw [← hW1]; exact RowAt.new _ _ _
  have b1 : Bel w W1 := by rw [← hW1]; exact Bel.refl.alloc _
  clear hW1
  have x5 := r5.cell (i := 0) rfl
  have z5 := r5.lt
  have g5 : w.heap.size ≤ W1.heap.size := b1.le
  have HB1 := Lib.hid b1
  generalize hp5 : w.heap.size = p5 at r5 x5 z5 ⊢
  clear hp5 r5
  obtain ⟨sv, ⟨t0, t1, t2, t3, t4, t5, t6⟩, hsv⟩ := HAT.out i hi
  rw [hpn] at t1
  obtain ⟨As, cs, rfl, _⟩ := hsv.form
  have HSV := Lib.hid hsv
  have kc := fun b off hb => b1.cells b off hb
  have HCE := Lib.hid (fun k (hk : k < xs.length) => (kc bp (op + k) hbp).trans (HCELL.out k hk))
  have hbp1 : bp < W1.heap.size := by omega
  have hbt1 : bt < W1.heap.size := by omega
  rw [← kc bt _ hbt] at t1 t3 t4 t6
  clear t0 t2 t5 hsv b1 kc HCELL
  have hwo : IntKind.i64.wrap ((o : Int) + (pn : Int)) = (o : Int) + (pn : Int) := IntWalk.i64_in _ (by omega)
  have hwd : IntKind.i64.wrap ((o : Int) + (tskAt l i).dl) = (o : Int) + (tskAt l i).dl := IntWalk.i64_in _ (by omega)
  have HO0 : Hid ((o : Int) = (o : Int) + ((0 : Nat) : Int)) := Lib.hid (by simp)
  go_wp2
  go_loopg [9, 10] pn (fun gk s9 s10 wr => ∃ (q : Nat) (x : Ext W1) (atv : Value), q + gk = pn ∧ s9 = atv ∧ s10 = .int .i64 ((o : Int) + q) ∧ wr = x.w ∧ x.w.ownsRow W1.heap.size 2 1 atv (posL i 0 (part.take q)).length ((absL o (posL i 0 (part.take q))).map (Value.int .i64)) ∧
    ∀ p ∈ posL i 0 (part.take q), p < (tskAt l i).dl)
  case atStart => exact ⟨0, ⟨W1, Bel.refl⟩, _, by omega, rfl, by rw [← HO0.out], rfl, World.ownsRow_nil _ _ _ _, fun p hp => by simp [posL] at hp⟩
  case round =>
    obtain ⟨q, x, atv, hq, rfl, rfl, rfl, hown, hearly⟩ := hrel
    have HOWN := Lib.hid hown
    have HE := Lib.hid hearly
    clear hown hearly
    by_cases hlt : q < pn
    · have hdl : decide ((o : Int) + (q : Int) < (o : Int) + (pn : Int)) = true := by simp; omega
      have hdl2 : decide ((q : Int) < (pn : Int)) = true := by simp; omega
      obtain ⟨e1, e2⟩ := HPART.out q hlt
      have cc := HCE.out (o + q) e2
      rw [← e1] at cc
      have hib : (o : Int) + (q : Int) < (xs.length : Int) := by omega
      have hib0 : 0 ≤ (o : Int) + (q : Int) := by omega
      have hib1 : ((o : Int) + (q : Int)).toNat = o + q := by omega
      have HPT := Lib.hid (posL_take (i := (i : Int)) (xs := part) (k := q) (by omega))
      have HMEM := Lib.hid (fun (e : part.getD q 0 = (i : Int)) => posL_mem (xs := part) (q := q) (by omega) e)
      have hPl := posL_len (i : Int) (part.take q) 0
      rw [List.length_take] at hPl
      clear e1
      generalize part.getD q 0 = d at *
      have hwq : IntKind.i64.wrap ((o : Int) + (q : Int) + 1) = (o : Int) + (q : Int) + 1 := IntWalk.i64_in _ (by omega)
      by_cases hd : d = (i : Int)
      · have q1 : (d == (i : Int)) = true := by simpa using hd
        have hmem := HMEM.out hd
        by_cases hlate : (tskAt l i).dl ≤ (q : Int)
        · have q2 : decide ((o : Int) + (tskAt l i).dl ≤ (o : Int) + (q : Int)) = true := by simp; omega
          have q3 : decide ((tskAt l i).dl ≤ (q : Int)) = true := by simpa using hlate
          have HF := Lib.hid (serve_late (l := l) (i := i) hmem hlate hc1)
          clear hlate hmem hd HMEM
          go_wp2
          go_ret
          exact ⟨ret_bool HF.out.symm, HB1.out.trans x.bel⟩
        · have q2 : decide ((o : Int) + (tskAt l i).dl ≤ (o : Int) + (q : Int)) = false := by simp; omega
          have q3 : decide ((tskAt l i).dl ≤ (q : Int)) = false := by simpa using hlate
          have HE2 : Hid (∀ p ∈ posL i 0 (part.take (q + 1)), p < (tskAt l i).dl) := Lib.hid (fun p hp => by
            rw [HPT.out, if_pos hd] at hp
            rcases List.mem_append.mp hp with hp | hp
            · exact HE.out p hp
            · simp at hp; omega)
          have hxle := x.bel.le
          clear hmem HMEM hlate
          go_upto_region 8 with (fail)
          go_wp2_with (at_builtin; go_must (refine wpList_append_own _ rfl _ _ 36 rfl W1.heap.size 2 iI (.int .i64 0) 1 8 Try.underlying36 hiI hz0 hz1 hz2 rfl (by decide) _ _ _ rfl (HOWN.out.alloc _) ⟨x.w.heap.size, 0, none⟩ 1 1 [.int .i64 ((o : Int) + (q : Int))] rfl rfl ?c1 ?c2 ?c3 ?c4 ?c5 ?_))
          case c1 => exact cells_new _ [.int .i64 ((o : Int) + (q : Int))] _
          case c2 => intro u hu; simp at hu; subst hu; rfl
          case c3 => unfold maxLen; omega
          case c4 => omega
          case c5 => simp; omega
          intro v' w1 hown1 hg1 _
          have hbel := bel_grown (x.bel.alloc _) (HOWN.out.alloc _) hg1
          obtain ⟨y, rfl⟩ := ext_of hbel
          have HO : Hid (y.w.ownsRow W1.heap.size 2 1 v' (posL i 0 (part.take (q + 1))).length ((absL o (posL i 0 (part.take (q + 1)))).map (Value.int .i64))) := Lib.hid (by
            rw [HPT.out, if_pos hd, List.length_append]
            unfold absL
            rw [List.map_append, List.map_append]
            have e : (List.map (Value.int .i64) (List.map (fun p => p + (o : Int)) [(q : Int)])) = [.int .i64 ((o : Int) + (q : Int))] := by simp; omega
            rw [e]
            exact hown1)
          clear hown1 hg1 hbel
          go_wp2
          go_roundg (gk - 1)
          case measure => omega
          case rel => exact ⟨q + 1, y, v', by omega, rfl, by push_cast; rw [Int.add_assoc], rfl, HO.out, HE2.out⟩
      · have q1 : (d == (i : Int)) = false := by simpa using hd
        have HO : Hid (x.w.ownsRow W1.heap.size 2 1 u9 (posL i 0 (part.take (q + 1))).length ((absL o (posL i 0 (part.take (q + 1)))).map (Value.int .i64))) := Lib.hid (by
          rw [HPT.out, if_neg hd, List.append_nil]; exact HOWN.out)
        have HE2 : Hid (∀ p ∈ posL i 0 (part.take (q + 1)), p < (tskAt l i).dl) := Lib.hid (fun p hp => by
          rw [HPT.out, if_neg hd, List.append_nil] at hp; exact HE.out p hp)
        clear hd
        go_wp2
        go_roundg (gk - 1)
        case measure => omega
        case rel => exact ⟨q + 1, x, _, by omega, rfl, by push_cast; rw [Int.add_assoc], rfl, HO.out, HE2.out⟩
    · obtain rfl : q = pn := by omega
      have hdl : decide ((o : Int) + (q : Int) < (o : Int) + (q : Int)) = false := by simp
      have eT : part.take q = part := List.take_of_length_le (by omega)
      have HOW : Hid (x.w.ownsRow W1.heap.size 2 1 u9 (posL i 0 part).length ((absL o (posL i 0 part)).map (Value.int .i64))) := Lib.hid (by have := HOWN.out; rwa [eT] at this)
      have HEE : Hid (∀ p ∈ posL i 0 part, p < (tskAt l i).dl) := Lib.hid (by have := HE.out; rwa [eT] at this)
      clear HOWN HE eT
      have hPl := posL_len (i : Int) part 0
      obtain ⟨P, hP⟩ : ∃ P, P = posL (i : Int) 0 part := ⟨_, rfl⟩
      rw [← hP] at HOW HEE hPl
      have HPP := Lib.hid hP
      clear hP
      rw [← ext_cells x _ _ hbt1] at t1 t3 t4 t6
      rw [← ext_cells x _ _ z5] at x5
      have hbt2 := ext_lt x hbt1
      have hbp2 := ext_lt x hbp1
      have z6 := ext_lt x z5
      have HCE2 := Lib.hid (fun k (hk : k < xs.length) => (ext_cells x bp (op + k) hbp1).trans (HCE.out k hk))
      have HSV2 := Lib.hid (HSV.out.keep (HB1.out.trans x.bel).keeps (HB1.out.trans x.bel).le)
      have HFIT := Lib.hid (fun s (hs : s ∈ (tskAt l i).secs) => sec_fit H0.out hi hs)
      obtain ⟨Aw, cw, rfl, _⟩ := own_slice HOW.out
      by_cases hL : (P.length : Int) = (tskAt l i).cost
      case neg =>
        have q1 : ((P.length : Int) == (tskAt l i).cost) = false := by simpa using hL
        have q1'' : decide ((P.length : Int) = (tskAt l i).cost) = false := by simpa using hL
        have HF := Lib.hid (serve_len (l := l) (i := i) (part := part) (by rw [← HPP.out]; exact hL))
        clear hL
        go_wp2
        go_ret
        exact ⟨ret_bool HF.out.symm, HB1.out.trans x.bel⟩
      have HSI : Hid ((((tskAt l i).secs.drop 0).all (secFree l i part P)) = serveB l i part) := Lib.hid (by
        rw [serve_all (by rw [← HPP.out]; exact hL) hc1 (by rw [← HPP.out]; exact HEE.out), ← HPP.out]; rfl)
      have hPpos : 0 < P.length := by omega
      obtain ⟨g, cap, hgv, hcap, hgb, hgz⟩ := own_form HOW.out hPpos
      injection hgv with hgv _ hcc
      subst hgv hcc
      have HOW2 : Hid (x.w.ownsRow W1.heap.size 2 1 (.slice (some ⟨g, 0, none⟩) (absL o P).length cw) (absL o P).length ((absL o P).map (Value.int .i64))) := Lib.hid (by rw [abs_len]; exact HOW.out)
      have HCELL := Lib.hid (fun (k : Nat) (hk : k < P.length) => (own_int HOW2.out (k := k) (by rw [abs_len]; exact hk)))
      have HLL : Hid ((P.length : Int) = (tskAt l i).cost) := Lib.hid hL
      generalize (tskAt l i).cost = co at *
      subst hL
      clear HOW HOW2 hlt hdl
      go_wp2
      go_loopg [11] (tskAt l i).secs.length (fun gk s11 wr => ∃ (q : Nat) (y : Ext x.w), q + gk = (tskAt l i).secs.length ∧ s11 = .int .i64 q ∧ wr = y.w ∧ (((tskAt l i).secs.drop q).all (secFree l i part P)) = serveB l i part)
      case atStart => exact ⟨0, ⟨x.w, Bel.refl⟩, by omega, rfl, rfl, HSI.out⟩
      case round =>
        clear HSI
        obtain ⟨q2, y, hq2, rfl, rfl, hs⟩ := hrel
        by_cases hlq : q2 < (tskAt l i).secs.length
        · have hdq : decide ((q2 : Int) < ((tskAt l i).secs.length : Int)) = true := by simp; omega
          have hql : (q2 : Int) < ((tskAt l i).secs.length : Int) := by omega
          obtain ⟨bs, os, rfl, hbs, hS⟩ := HSV2.out.at_ (by omega)
          obtain ⟨d0, d1, d2⟩ := hS q2 hlq
          rw [secs_all hlq] at hs
          have hfit := HFIT.out (secAt (tskAt l i).secs q2) (by simp [secAt, List.getD, hlq])
          have HSD := Lib.hid (secFree_incl (l := l) (i := i) (part := part) (s := secAt (tskAt l i).secs q2) (by rw [← HPP.out]) hfit)
          rw [← HPP.out] at HSD
          obtain ⟨r0, r1, f0, l1, fl, hco⟩ := hfit
          have hFS := Lib.hid hs
          clear hS hs
          generalize secFree l i part P (secAt (tskAt l i).secs q2) = fb at *
          generalize secAt (tskAt l i).secs q2 = s at *
          obtain ⟨res, frm, len⟩ := s
          dsimp only at *
          obtain ⟨f, rfl⟩ : ∃ f : Nat, frm = f := ⟨frm.toNat, by omega⟩
          obtain ⟨e, he⟩ : ∃ e : Nat, (f : Int) + len - 1 = e := ⟨((f : Int) + len - 1).toNat, by omega⟩
          have hw1 : IntKind.i64.wrap ((f : Int) + len) = (f : Int) + len := IntWalk.i64_in _ (by omega)
          have hw2 : IntKind.i64.wrap ((f : Int) + len - 1) = (e : Int) := by rw [IntWalk.i64_in _ (by omega)]; exact he
          have hfl : f < P.length := by omega
          have hel : e < P.length := by omega
          rw [he] at HSD
          obtain ⟨a1, a2, _⟩ := posL_in (i : Int) part (q := (f : Int)) (by omega) (by rw [← HPP.out]; omega)
          obtain ⟨b1, b2, _⟩ := posL_in (i : Int) part (q := (e : Int)) (by omega) (by rw [← HPP.out]; omega)
          have hab := (sorted_at (posL_sorted (i : Int) part 0) (a := (f : Int)) (b := (e : Int)) (by omega) (by omega) (by rw [← HPP.out]; omega)).1
          rw [← HPP.out] at a1 a2 b1 b2 hab
          have cf := HCELL.out f hfl
          have ce := HCELL.out e hel
          rw [abs_at hfl] at cf
          rw [abs_at hel] at ce
          have e1 : P.getD f 0 = inAt P f := by simp [inAt]
          have e2 : P.getD e 0 = inAt P e := by simp [inAt]
          rw [e1] at cf
          rw [e2] at ce
          generalize inAt P (f : Int) = av at *
          generalize inAt P (e : Int) = bv at *
          obtain ⟨an, rfl⟩ : ∃ an : Nat, av = an := ⟨av.toNat, by omega⟩
          obtain ⟨bn, rfl⟩ : ∃ bn : Nat, bv = bn := ⟨bv.toNat, by omega⟩
          have hfli : (f : Int) < (P.length : Int) := by omega
          have heli : (e : Int) < (P.length : Int) := by omega
          clear e1 e2 he f0 l1 fl
          obtain ⟨G, hG⟩ : ∃ G, G = gk := ⟨_, rfl⟩
          rw [← hG] at hq2
          go_upto_region 15 with (fail)
          generalize hW : World.alloc y.w _ = W at *
          have r12 : RowAt W y.w.heap.size 119 [.int .i64 res, .int .i64 (f : Int), .int .i64 len] := by rw [← hW]; exact RowAt.new _ _ _
          have hbW : Bel y.w W := by rw [← hW]; exact Bel.refl.alloc _
          clear hW d0 d1 d2
          obtain ⟨y2, hy2⟩ := ext_of (y.bel.trans hbW)
          clear hbW
          subst hy2
          generalize y.w.heap.size = p12 at *
          clear y
          have s0 := r12.cell (i := 0) rfl
          have s1 := r12.cell (i := 1) rfl
          have s2 := r12.cell (i := 2) rfl
          have z12 := r12.lt
          clear r12
          rw [← ext_cells y2 _ _ hgz] at cf ce
          rw [← ext_cells y2 _ _ z6] at x5
          have hgz2 := ext_lt y2 hgz
          have hbp3 := ext_lt y2 hbp2
          have z7 := ext_lt y2 z6
          have HCE3 := Lib.hid (fun k (hk : k < xs.length) => (ext_cells y2 bp (op + k) hbp2).trans (HCE2.out k hk))
          have HBY := Lib.hid ((HB1.out.trans x.bel).trans y2.bel)
          have HTY := Lib.hid (HT.out.keep HBY.out.keeps HBY.out.le)
          have HS0 : Hid (((cutL part an ((bn : Int) + 1)).drop 0).all (freeB l i res) = fb) := Lib.hid (by rw [← HSD.out]; rfl)
          have hcl := cut_len (xs := part) (a := (an : Int)) (b := (bn : Int) + 1) (by omega) (by omega) (by omega)
          have HA0 : Hid ((an : Int) + (o : Int) = (an : Int) + (o : Int) + ((0 : Nat) : Int)) := Lib.hid (by simp)
          have habn : an ≤ bn := by omega
          go_wp2
          go_loopg [13] (bn - an + 1) (fun gk s13 wr => ∃ (m : Nat) (u : Ext y2.w), m + gk = bn - an + 1 ∧ s13 = .int .i64 ((an : Int) + (o : Int) + m) ∧ wr = u.w ∧ ((cutL part an ((bn : Int) + 1)).drop m).all (freeB l i res) = fb)
          case atStart => exact ⟨0, ⟨y2.w, Bel.refl⟩, by omega, by rw [← HA0.out], rfl, HS0.out⟩
          case round =>
            clear HS0 HA0
            obtain ⟨m, u, hm, rfl, rfl, hfm⟩ := hrel
            by_cases hlm : m < bn - an + 1
            · have hdm : decide ((an : Int) + (o : Int) + (m : Int) ≤ (bn : Int) + (o : Int)) = true := by simp; omega
              obtain ⟨g1, g2⟩ := cut_at (xs := part) (a := (an : Int)) (b := (bn : Int) + 1) (q := m) (by omega) (by omega) (by omega)
              rw [Int.toNat_natCast] at g1 g2
              obtain ⟨e1, e2⟩ := HPART.out (an + m) (by omega)
              have cd := HCE3.out (o + (an + m)) e2
              have hdr := HK.out (part.getD (an + m) 0) (by rw [e1]; simp [List.getD, e2])
              rw [← e1, show o + (an + m) = an + o + m by omega] at cd
              rw [all_drop (by omega), g1] at hfm
              have hib : (an : Int) + (o : Int) + (m : Int) < (xs.length : Int) := by omega
              have hib0 : 0 ≤ (an : Int) + (o : Int) + (m : Int) := by omega
              have hwm : IntKind.i64.wrap ((an : Int) + (o : Int) + (m : Int) + 1) = (an : Int) + (o : Int) + (m : Int) + 1 := IntWalk.i64_in _ (by omega)
              generalize part.getD (an + m) 0 = d at *
              have HFM := Lib.hid hfm
              clear hfm g1 g2 e1 e2
              by_cases hd0 : d < 0
              · have q1 : decide (0 ≤ d) = false := by simp; omega
                have HN : Hid (((cutL part an ((bn : Int) + 1)).drop (m + 1)).all (freeB l i res) = fb) := Lib.hid (by
                  have e : freeB l i res d = true := by unfold freeB; rw [q1]; rfl
                  rw [← HFM.out, e, Bool.true_and])
                clear hd0
                go_upto_region 19 with (fail)
                (refine wp_region_ext (wb := u.w) (by (repeat (first | exact Ext.bel _ | exact Bel.refl | refine Bel.alloc ?_ _ | refine Bel.drew ?_ | refine Bel.drewN ?_ _))) (by kernel_rfl) (by kernel_rfl) ?_; (repeat (any_goals (first | go_big_quiet_step (fail) | quiet_step (fail) | (refine wpQuiet_step (fun K hK => ?_); go_simp; split <;> (refine hK _ ?_; clear hK K))))); all_goals (refine wpQuiet_nil ?_; intro _ hw'; obtain ⟨y, hw''⟩ := hw'; subst hw''))
                go_wp2
                go_roundg (gk - 1)
                case measure => omega
                case rel => exact ⟨m + 1, ⟨_, u.bel.trans y.bel⟩, by omega, by push_cast; rw [Int.add_assoc ((an : Int) + o)], rfl, HN.out⟩
              · obtain ⟨dn, rfl⟩ : ∃ dn : Nat, d = dn := ⟨d.toNat, by omega⟩
                have q1 : decide (0 ≤ (dn : Int)) = true := by simp
                have hdl2 : dn < l.length := by omega
                have hdl3 : (dn : Int) < (l.length : Int) := by omega
                by_cases hdi : dn = i
                · subst hdi
                  have HN : Hid (((cutL part an ((bn : Int) + 1)).drop (m + 1)).all (freeB l dn res) = fb) := Lib.hid (by
                    rw [← HFM.out, free_self, Bool.true_and])
                  go_upto_region 19 with (fail)
                  (refine wp_region_ext (wb := u.w) (by (repeat (first | exact Ext.bel _ | exact Bel.refl | refine Bel.alloc ?_ _ | refine Bel.drew ?_ | refine Bel.drewN ?_ _))) (by kernel_rfl) (by kernel_rfl) ?_; (repeat (any_goals (first | go_big_quiet_step (fail) | quiet_step (fail) | (refine wpQuiet_step (fun K hK => ?_); go_simp; split <;> (refine hK _ ?_; clear hK K))))); all_goals (refine wpQuiet_nil ?_; intro _ hw'; obtain ⟨y, hw''⟩ := hw'; subst hw''))
                  go_wp2
                  go_roundg (gk - 1)
                  case measure => omega
                  case rel => exact ⟨m + 1, ⟨_, u.bel.trans y.bel⟩, by omega, by push_cast; rw [Int.add_assoc ((an : Int) + o)], rfl, HN.out⟩
                · have q2 : ((dn : Int) == (i : Int)) = false := by simp; omega
                  have q3 : decide ((dn : Int) = (i : Int)) = false := by simp; omega
                  have q4 : ((dn : Int) != (i : Int)) = true := by simp; omega
                  have hfree : freeB l i res dn = !usesB (tskAt l dn) res := by unfold freeB; rw [q1, q3]; simp
                  rw [hfree] at HFM
                  obtain ⟨bt2, ot2, hte, hbt2', hAT2⟩ := HTY.out.at_ (by omega)
                  injection hte with hte
                  injection hte with hte1 hte2
                  subst hte1 hte2
                  obtain ⟨sv2, ⟨k0, k1, k2, k3, k4, k5, k6⟩, hsv2⟩ := hAT2 dn hdl2
                  obtain ⟨As2, cs2, rfl, _⟩ := hsv2.form
                  have HU := Lib.hid (fun (z : Ext u.w) => ruses_any (tskAt l dn) _ res z.w (hsv2.keep (u.bel.trans z.bel).keeps (u.bel.trans z.bel).le) (hsz.parts dn hdl2).1)
                  clear hAT2 hsv2 hfree
                  go_upto_region 19 with (fail)
                  cases hub : usesB (tskAt l dn) res
                  · rw [hub] at HU HFM
                    have HN : Hid (((cutL part an ((bn : Int) + 1)).drop (m + 1)).all (freeB l i res) = fb) := Lib.hid (by
                      rw [← HFM.out]; rfl)
                    clear hub
                    (refine wp_region_ext (wb := u.w) (by (repeat (first | exact Ext.bel _ | exact Bel.refl | refine Bel.alloc ?_ _ | refine Bel.drew ?_ | refine Bel.drewN ?_ _))) (by kernel_rfl) (by kernel_rfl) ?_; (repeat (any_goals (first | go_big_quiet_step ((go_at_call 67; with_reducible exact ext_call (HU.out _))) | quiet_step ((go_at_call 67; with_reducible exact ext_call (HU.out _))) | (refine wpQuiet_step (fun K hK => ?_); go_simp; split <;> (refine hK _ ?_; clear hK K))))); all_goals (refine wpQuiet_nil ?_; intro _ hw'; obtain ⟨y, hw''⟩ := hw'; subst hw''))
                    go_wp2
                    go_roundg (gk - 1)
                    case measure => omega
                    case rel => exact ⟨m + 1, ⟨_, u.bel.trans y.bel⟩, by omega, by push_cast; rw [Int.add_assoc ((an : Int) + o)], rfl, HN.out⟩
                  · rw [hub] at HU HFM
                    have HN : Hid (serveB l i part = false) := Lib.hid (by
                      rw [← hFS.out, ← HFM.out]; rfl)
                    clear hub
                    (refine wp_region_ext (wb := u.w) (by (repeat (first | exact Ext.bel _ | exact Bel.refl | refine Bel.alloc ?_ _ | refine Bel.drew ?_ | refine Bel.drewN ?_ _))) (by kernel_rfl) (by kernel_rfl) ?_; (repeat (any_goals (first | go_big_quiet_step ((go_at_call 67; with_reducible exact ext_call (HU.out _))) | quiet_step ((go_at_call 67; with_reducible exact ext_call (HU.out _))) | (refine wpQuiet_step (fun K hK => ?_); go_simp; split <;> (refine hK _ ?_; clear hK K))))); all_goals (refine wpQuiet_nil ?_; intro _ hw'; obtain ⟨y, hw''⟩ := hw'; subst hw''))
                    go_wp2
                    go_ret
                    exact ⟨ret_bool HN.out.symm, (HBY.out.trans u.bel).trans y.bel⟩
            · have hdm : decide ((an : Int) + (o : Int) + (m : Int) ≤ (bn : Int) + (o : Int)) = false := by simp; omega
              have HN : Hid (((tskAt l i).secs.drop (q2 + 1)).all (secFree l i part P) = serveB l i part) := Lib.hid (by
                have hfb : fb = true := by rw [← hfm, List.drop_eq_nil_of_le (by omega)]; rfl
                rw [← hFS.out, hfb, Bool.true_and])
              clear hfm
              go_wp2
              go_roundg (G - 1)
              case measure => omega
              case rel => exact ⟨q2 + 1, ⟨_, y2.bel.trans u.bel⟩, by omega, by go_num, rfl, HN.out⟩
        · obtain rfl : q2 = (tskAt l i).secs.length := by omega
          have hdq : decide (((tskAt l i).secs.length : Int) < ((tskAt l i).secs.length : Int)) = false := by simp
          have HF : Hid (serveB l i part = true) := Lib.hid (by rw [← hs]; simp)
          clear hs
          go_wp2
          go_ret
          exact ⟨ret_bool HF.out.symm, (HB1.out.trans x.bel).trans y.bel⟩
end Go.Proofs.Ytbilfpoghohddaa
