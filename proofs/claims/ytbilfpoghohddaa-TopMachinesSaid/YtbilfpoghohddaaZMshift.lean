/- foliottop.shift: the walk. -/
import Derived.Test.YtbilfpoghohddaaZMmem
import Derived.Test.YtbilfpoghohddaaZTpick
import Derived.Deep.CutRange
namespace Go.Proofs.Ytbilfpoghohddaa
open Go.RowKit
set_option maxRecDepth 100000 in
set_option maxHeartbeats 16000000 in
theorem shift_any (v xv nv : Value) (l : List Tsk) (xs ns : List Int) (T : Nat) (w : World) (h : TsksAt w w.heap.size v l) (hx : IntsAt w w.heap.size xv xs) (hn : IntsAt w w.heap.size nv ns) (hni : ∀ c ∈ ns, i64 c)
    (hck : chkT l xs = 0) (hxl : xs.length ≤ 200) (hnl : ns.length ≤ 300) (hT : T ≤ 400) (hsz : Sized l) :
    Calls Try.prog 34 #[v, .agg #[xv], nv, .int .i64 T] w (ShPost l xs (ns.length = 0) T w) := by
  have HZ := Lib.hid hsz
  have HT := Lib.hid h
  have HX := Lib.hid hx
  have HNS := Lib.hid hn
  have HNI := Lib.hid hni
  have HCK := Lib.hid hck
  have HLX := Lib.hid hxl
  have HLN := Lib.hid hnl
  have HTT := Lib.hid hT
  obtain ⟨A, c, rfl, _⟩ := h.form
  obtain ⟨Ax, cx, rfl, _⟩ := hx.form
  obtain ⟨An, cn, rfl, _⟩ := hn.form
  clear h hx hn hni hck hxl hnl hT hsz
  go_enter Try.func34, Try.ntmps34
  go_wp2_with fail
  generalize hW : World.alloc w _ = w1 at *
  have hB : Bel w w1 := by rw [← hW]; exact Bel.refl.alloc _
  have r5 : RowAt w1 w.heap.size 25 [.slice Ax xs.length cx] := by rw [← hW]; exact RowAt.new _ _ _
  clear hW
  have HT1 := Lib.hid (HT.out.keep hB.keeps hB.le)
  have HX1 := Lib.hid (HX.out.keep hB.keeps hB.le)
  have HN1 := Lib.hid (HNS.out.keep hB.keeps hB.le)
  have HB1 := Lib.hid hB
  have HR1 := Lib.hid r5
  clear hB r5 HT HX HNS
  obtain ⟨n5, hn5⟩ : ∃ n, n = w.heap.size := ⟨_, rfl⟩
  rw [← hn5] at HR1 ⊢
  clear hn5
  refine (new_any _ _ l xs w1 w1 HT1.out HX1.out Bel.refl (by have := HLX.out; omega) HZ.out).mono ?_
  rintro e w4 hN
  rcases hN with ⟨hc, _⟩ | ⟨_, bE, le, te, rfl, hE, hbE, hB⟩
  · exact absurd HCK.out hc
  have HE := Lib.hid hE
  clear hE hB hbE
  obtain ⟨iL, hiL, hy0, hy1, hy2⟩ := info_parts Try.shInfo
  have hmk : ∀ W : World, (Instr.makeSlice 36 (.int .i64 (l.length : Int)) (.int .i64 (l.length : Int))).run Try.prog W = .ok (.slice (some ⟨W.heap.size, 0, none⟩) l.length l.length) (W.alloc (.cells (Array.replicate l.length (Value.int .i64 0)) 2)) := fun W => by
    have := make_ints Try.underlying36 hiL hy0 hy1 hy2 l.length (by have := HZ.out.len; omega) W
    rw [sh_made] at this
    exact this
  go_upto_region 6 with (fail)
  clear hmk
  generalize hW : World.alloc w4 _ = w6 at *
  have HK : Hid (ShOut w1 w6 bE w4.heap.size le te l xs (ns.length = 0) 0 0 (ex0 l) (List.replicate l.length 0)) := Lib.hid (by
    have hb : Bel w4 w6 := by rw [← hW]; exact Bel.refl.alloc _
    have ho : RowAt w6 w4.heap.size 2 (List.replicate l.length (.int .i64 0)) := by rw [← hW]; exact RowAt.newRep _ _ _ _
    rw [sh_rep] at ho
    exact shOut_start _ HCK.out ⟨HE.out.bel hb, ho, HE.out.bl.le⟩)
  clear hW HE
  generalize w4.heap.size = bw at *
  have hl1 := (ex0_ok HCK.out).l1
  have hl8 := (ex0_ok HCK.out).l8
  have HSRV := Lib.hid (srv_of HCK.out)
  obtain ⟨bt, ot, rfl, hbt, hAT⟩ := HT1.out.at_ (by omega)
  have HCELL : Hid (∀ i, i < l.length → ∀ W, Bel w1 W → W.cell? ⟨bt, ot + i * 7 + 3, none⟩ = some (.int .i64 (tskAt l i).dl) ∧ W.cell? ⟨bt, ot + i * 7 + 4, none⟩ = some (.int .i64 (tskAt l i).cost)) := Lib.hid (fun i hi W hW => by
    obtain ⟨sv, ⟨t0, t1, t2, t3, t4, t5, t6⟩, _⟩ := hAT i hi
    exact ⟨(hW.cells _ _ hbt).trans t3, (hW.cells _ _ hbt).trans t4⟩)
  have HBT := Lib.hid hbt
  have HL8 := Lib.hid hl8
  have HL1 := Lib.hid hl1
  have HX0 := Lib.hid (ex0_ok HCK.out).x1
  clear hbt hAT hl8 hl1
  obtain ⟨z6, rfl⟩ := ext_of HK.out.m.bl
  go_wp2
  go_loopw [13, 14] (fun s13 s14 wq => ∃ (t k : Nat) (z : Ext w1) (sE : ExS) (wr : List Int), t ≤ T ∧ s13 = .int .i64 k ∧ s14 = .int .i64 t ∧ wq = z.w ∧ ShOut w1 z.w bE bw le te l xs (ns.length = 0) t k sE wr) (fun _ s14 _ => T - (intOf s14).toNat)
  case atStart => exact ⟨0, 0, z6, _, _, Nat.zero_le _, rfl, rfl, rfl, HK.out⟩
  case round =>
    clear HK
    obtain ⟨t, k, z, sE, wr, htT, rfl, rfl, rfl, hO⟩ := hrel
    have HO := Lib.hid hO
    clear hO
    have hTT := HTT.out
    have hkt := HO.out.kt
    by_cases hlt : t < T
    case neg =>
      as_aux_lemma =>
        obtain rfl : t = T := by omega
        have hd : decide ((t : Int) < (t : Int)) = false := by simp
        obtain ⟨At, ct, rfl, _⟩ := HO.out.m.e.xform
        have HNOW := Lib.hid (now_at z.w HO.out.m.e.c1 HO.out.m.e.c2)
        have hx0 := HX0.out
        rw [if_neg (by omega), HO.out.n] at HNOW
        have HP := Lib.hid (sh_post HO.out HB1.out)
        go_wp2_with (first | (go_at_call 16; (with_reducible refine (HNOW.out).mono ?_); rintro e w2 ⟨rfl, rfl⟩))
        go_ret2
        exact HP.out
    have hd : decide ((t : Int) < (T : Int)) = true := by simp; omega
    go_wp2_with fail
    refine (released_any _ HO.out.m.e HO.out.ok (by have := HO.out.n; omega)).mono ?_
    rintro e w7 ⟨rv, rfl, ho, hB⟩
    rw [HO.out.n] at ho
    have HI : Hid (ShIn w1 w7 bE bw le te l xs (ns.length = 0) t sE wr w7.heap.size z.w.heap.size rv (relL t 0 l) 0 k (.slice none 0 0) []) := Lib.hid ⟨HO.out.m.bel hB, Nat.lt_of_lt_of_le HO.out.m.o.lt hB.le, Nat.le_refl _, ho, World.ownsRow_nil _ _ _ _, Nat.zero_le _, rfl, by simp [needOk], fun _ => by simp, by omega⟩
    have HRL : Hid ((relL t 0 l).length ≤ 8) := Lib.hid (Nat.le_trans (relL_len _ _ _) HL8.out)
    have HRM : Hid (∀ i ∈ relL t 0 l, i < l.length) := Lib.hid (fun i hi => by have := relL_mem l 0 hi; omega)
    obtain ⟨r, hr⟩ : ∃ r, r = relL t 0 l := ⟨_, rfl⟩
    have HRE := Lib.hid hr
    rw [← hr] at HI HRL HRM
    generalize w7.heap.size = nb at *
    generalize z.w.heap.size = rb at *
    obtain ⟨z7, rfl⟩ := ext_of (z.bel.trans hB)
    obtain ⟨Ar, cr, rfl, _⟩ := own_slice HI.out.rr
    clear hB ho hr hd
    go_wp2
    go_loopw [13, 16, 17] (fun s13 s16 s17 wq => ∃ (j k : Nat) (z : Ext w1) (v1 : Value) (ms : List Int), s13 = .int .i64 k ∧ v1 = s16 ∧ s17 = .int .i64 j ∧ wq = z.w ∧ ShIn w1 z.w bE bw le te l xs (ns.length = 0) t sE wr nb rb (.slice Ar r.length cr) r j k v1 ms) (fun _ _ s17 _ => r.length - (intOf s17).toNat)
    case atStart => exact ⟨0, k, z7, _, _, rfl, rfl, rfl, rfl, HI.out⟩
    case round =>
      clear HI
      obtain ⟨j, k, z, v1, ms, rfl, rfl, rfl, rfl, hI⟩ := hrel
      have HI := Lib.hid hI
      clear hI
      have hrl := HRL.out
      by_cases hj : j < r.length
      · skip
        as_aux_lemma =>
          have hdj : decide ((j : Int) < (r.length : Int)) = true := by simp; omega
          obtain ⟨i, hri⟩ : ∃ i, r[j]? = some i := ⟨_, List.getElem?_eq_getElem hj⟩
          have hil : i < l.length := HRM.out i (List.mem_of_getElem? hri)
          have HRI := Lib.hid hri
          obtain ⟨gr, cr', e1, _, _, hgr⟩ := own_form HI.out.rr (by omega)
          injection e1 with e1 _ e2
          subst e1; subst e2
          have r0 : z.w.cell? ⟨gr, j, none⟩ = some (.int .i64 i) := by
            rw [HI.out.rr.cellAt j (by omega)]
            simp [natC, hri]
          clear hri
          obtain ⟨_, t4⟩ := HCELL.out i hil z.w z.bel
          have hbt := Nat.lt_of_lt_of_le HBT.out z.bel.le
          have q1 : decide ((i : Int) < 0) = false := by simp
          have q2 : decide ((l.length : Int) ≤ (i : Int)) = false := by simp; omega
          have hil' : (i : Int) < (l.length : Int) := by omega
          have htk := tok_at HSRV.out.h0 hil
          have hp1 := htk.p1
          have hp2 := htk.p2
          have hc1 := htk.c1
          have hd2 := htk.d2
          have hcd := htk.c2
          have hll := HL8.out
          have hkt2 := HI.out.kt
          go_upto_region 17 with (fail)
          clear r0 t4 q1 q2 htk
          go_upto_if 75 with (fail)
          have hln := HLN.out
          go_cut [13, 18] from 45 to 92 (fun s13 s18 wx => ∃ (k' : Nat) (x1 : Int), k' ≤ k + 1 ∧ 0 ≤ x1 ∧ x1 ≤ (tskAt l i).cost ∧ (ns.length = 0 → x1 = (tskAt l i).cost) ∧ s13 = .int .i64 k' ∧ s18 = .int .i64 x1 ∧ Bel z.w wx)
          case first =>
            by_cases hn0 : 0 < ns.length
            · have hdn : decide ((0 : Int) < (ns.length : Int)) = true := decide_eq_true (by omega)
              have hdn2 : decide (0 < ns.length) = true := decide_eq_true (by omega)
              obtain ⟨bn, on, rfl, hbn, hAN⟩ := (HN1.out.keep z.bel.keeps z.bel.le).at_ hn0
              have hq := Nat.mod_lt k hn0
              have htq : (k : Int).tmod (ns.length : Int) = ((k % ns.length : Nat) : Int) := by rw [Int.tmod_eq_emod_of_nonneg (by omega)]; exact (Int.natCast_emod _ _).symm
              have hnz : ((ns.length : Int) == 0) = false := beq_eq_false_iff_ne.mpr (by omega)
              have y0 := hAN _ hq
              have hy : i64 (ns.getD (k % ns.length) 0) := HNI.out _ (by simp [List.getD, hq])
              generalize k % ns.length = q at *
              generalize ns.getD q 0 = y at *
              have hym : -1000 < y.tmod 1000 ∧ y.tmod 1000 < 1000 := by
                have h2 := Int.natAbs_tmod y 1000
                have h3 := Nat.mod_lt y.natAbs (y := 1000) (by omega)
                have h4 : (1000 : Int).natAbs = 1000 := rfl
                rw [h4] at h2
                omega
              obtain ⟨hym1, hym2⟩ := hym
              have hqn : (q : Int) < (ns.length : Int) := by omega
              clear hAN hy
              go_wp2_with fail
              refine (pick_any (y.tmod 1000) ((tskAt l i).cost + 1) z.w (by omega) (by omega) (by unfold i64; omega)).mono ?_
              rintro e w9 ⟨⟨x1, hx1, rfl⟩, hB⟩
              have HB9 := Lib.hid hB
              clear hB
              go_wp2
              go_meet
              case rel => exact ⟨k + 1, x1, by omega, by omega, by omega, fun h => by omega, by go_num, rfl, HB9.out⟩
            · have hdn : decide ((0 : Int) < (ns.length : Int)) = false := decide_eq_false (by omega)
              have hdn2 : decide (0 < ns.length) = false := decide_eq_false (by omega)
              go_wp2
              go_meet
              case rel => exact ⟨k, _, by omega, by omega, Int.le_refl _, fun _ => rfl, rfl, rfl, Bel.refl⟩
          case rest =>
          obtain ⟨k', x1, hkk, hn0, hn1, hcf, rfl, rfl, hB⟩ := hcut
          have HCF := Lib.hid hcf
          have HBC := Lib.hid hB
          have HO4 := Lib.hid (ownsRow_bel HI.out.o1 hB)
          have hnw := Nat.le_trans HI.out.nw hB.le
          have hnl : ms.length ≤ 8 := by rw [HI.out.nl]; omega
          clear hcf hB
          go_wp2_with (at_builtin; go_must (refine wpList_append_own _ rfl _ _ 36 rfl nb 2 iL (.int .i64 0) 1 8 Try.underlying36 hiL hy0 hy1 hy2 rfl (by decide) _ _ _ rfl (HO4.out.alloc _) ⟨wc.heap.size, 0, none⟩ 1 1 [.int .i64 x1] rfl rfl ?d1 ?d2 ?d3 ?d4 ?d5 ?_))
          case d2 => first | rfl | (intro u hu; simp at hu; subst hu; rfl)
          case d3 => unfold maxLen; omega
          case d4 => omega
          case d5 => first | omega | (simp; omega)
          intro v' w5 hown1 hg1 _
          have HIN := Lib.hid (HI.out.made (HBC.out.alloc _) hj HRI.out hn0 hn1 HCF.out hkk hown1 hg1)
          clear hown1 hg1
          obtain ⟨z9, rfl⟩ := ext_of HIN.out.m.bl
          go_wp2
          go_roundw
          case rel => exact ⟨j + 1, k', z9, v', _, rfl, rfl, by go_num, rfl, HIN.out⟩
          case measure => simp [intOf]; omega
      · skip
        as_aux_lemma =>
          have hdj : decide ((j : Int) < (r.length : Int)) = false := by simp; omega
          obtain rfl : j = r.length := by have := HI.out.j_; omega
          have hnn := HI.out.nn
          have hnl := HI.out.nl
          have hcc := HI.out.cc
          rw [List.take_length] at hnn hcc
          have hkt2 := HI.out.kt
          rw [HRE.out] at hnn hnl hcc
          obtain ⟨eE, nE, pE, hdo⟩ := sh_tick HSRV.out HO.out.n HO.out.p hnn hnl
          have HPE : Hid ((tickX l xs sE ms).st.now = ((t + 1 : Nat) : Int) ∧ PreT l xs False (t + 1) (tickX l xs sE ms).st.js ∧ ExOk l xs (tickX l xs sE ms).st ∧ ((ns.length = 0) → PreT l xs True (t + 1) (tickX l xs sE ms).st.js ∧ FullW l xs (t + 1) (worstL wr (tickX l xs sE ms).done)) ∧ LessW l xs (t + 1) (worstL wr (tickX l xs sE ms).done)) :=
            Lib.hid ⟨nE, pE, tick_ok HO.out.ok ms, fun hf => ⟨(keep_full HSRV.out HO.out.n (HO.out.pf hf) (hcc hf)).2.2.1, (HO.out.fw hf).step HSRV.out HO.out.n (HO.out.pf hf) (hcc hf)⟩, HO.out.lw.step HSRV.out HO.out.n HO.out.p hnn hnl⟩
          have HDO := Lib.hid hdo
          have HOK := Lib.hid HO.out.ok
          have HLN2 := Lib.hid HO.out.ln
          have HNOW : Hid (sE.now ≤ 100000) := Lib.hid (by have h1 := HO.out.n; omega)
          have HML : Hid (ms.length ≤ 8) := Lib.hid (by rw [← HRE.out] at hnl; omega)
          clear hnn hcc nE pE hdo HO hnl
          go_wp2_with fail
          refine (tick_any z.w _ ms HI.out.m.e HOK.out HNOW.out (IntsNe.of_own HI.out.o1 HI.out.m.e.row (by decide)) (by have := HML.out; omega)).mono ?_
          rintro e w10 ⟨dv, rfl, hX, hD, hG⟩
          rw [eE]
          obtain ⟨Ad, cd, rfl, _⟩ := own_slice hD
          have HN : Hid (ShDn w1 w10 bE bw le te l xs (tickX l xs sE ms).st z.w.heap.size (.slice Ad (tickX l xs sE ms).done.length cd) (tickX l xs sE ms).done (worstL wr (tickX l xs sE ms).done) 0 wr) := Lib.hid ⟨HI.out.m.turn hX hG, HI.out.m.o.lt, hD, Nat.zero_le _, rfl, HDO.out, HLN2.out⟩
          clear hX hD hG eE HOK HI HDO
          generalize tickX l xs sE ms = RE at *
          generalize z.w.heap.size = db at *
          generalize worstL wr RE.done = we at *
          obtain ⟨z10, rfl⟩ := ext_of HN.out.k.bl
          have HDL := Lib.hid (sh_own_len HN.out.d)
          go_wp2
          go_loopw [22] (fun s22 wq => ∃ (m : Nat) (z : Ext w1) (wr : List Int), s22 = .int .i64 m ∧ wq = z.w ∧ ShDn w1 z.w bE bw le te l xs RE.st db (.slice Ad RE.done.length cd) RE.done we m wr) (fun s22 _ => RE.done.length - (intOf s22).toNat)
          case atStart => exact ⟨0, z10, _, rfl, rfl, HN.out⟩
          case round =>
            clear HN
            obtain ⟨m, z, wr, rfl, rfl, hN⟩ := hrel
            have HN := Lib.hid hN
            clear hN
            have hdl := HDL.out
            unfold maxLen at hdl
            by_cases hm : m < RE.done.length
            · skip
              as_aux_lemma =>
                have hdm : decide ((m : Int) < (RE.done.length : Int)) = true := decide_eq_true (by omega)
                obtain ⟨d, hd, ⟨k1, k2, k3⟩, hea⟩ := HN.out.next hm
                obtain ⟨gd, cd', e1, _, _, hgd⟩ := own_form HN.out.d (by omega)
                injection e1 with e1 _ e2
                subst e1; subst e2
                have d0 : z.w.cell? ⟨gd, m * 5, none⟩ = some (.int .i64 d.tk) := HN.out.cell rfl hd 0 (by omega)
                have d3 : z.w.cell? ⟨gd, m * 5 + 3, none⟩ = some (.int .i64 d.resp) := HN.out.cell rfl hd 3 (by omega)
                have hmn : (m : Int) < (RE.done.length : Int) := by omega
                obtain ⟨t3, _⟩ := HCELL.out d.tk k1 z.w z.bel
                have hbt := Nat.lt_of_lt_of_le HBT.out z.bel.le
                have HEA2 := Lib.hid hea
                have HDD := Lib.hid hd
                clear hea hd
                have k1' : (d.tk : Int) < (l.length : Int) := by omega
                have q1 : decide ((d.tk : Int) < 0) = false := decide_eq_false (by omega)
                have q2 : decide ((l.length : Int) ≤ (d.tk : Int)) = false := decide_eq_false (by omega)
                have q3 : decide (d.resp < 0) = false := decide_eq_false (by omega)
                have q4 : decide ((tskAt l d.tk).dl < d.resp) = false := decide_eq_false (by omega)
                have q6 : decide (l.length ≤ d.tk) = false := decide_eq_false (by omega)
                have hll := HL8.out
                generalize (tskAt l d.tk).dl = dl at *
                go_upto_region 27 with (fail)
                (refine wp_region_ext (wb := z.w) (by (repeat (first | exact Ext.bel _ | exact Bel.refl | refine Bel.alloc ?_ _ | refine Bel.drew ?_ | refine Bel.drewN ?_ _))) (by kernel_rfl) (by kernel_rfl) ?_; (repeat (any_goals (first | go_big_quiet_step (fail) | quiet_step (fail) | (refine wpQuiet_step (fun K hK => ?_); go_simp; split <;> (refine hK _ ?_; clear hK K))))); all_goals (refine wpQuiet_nil ?_; intro _ hw'; obtain ⟨y, hw''⟩ := hw'; subst hw''))
                clear q1 q2 q3 q4 q6 t3
                go_upto_region 29 with (fail)
                have hgd2 : gd < y.w.heap.size := Nat.lt_of_lt_of_le hgd y.bel.le
                have d0' := (y.bel.cells _ _ hgd).trans d0
                have d3' := (y.bel.cells _ _ hgd).trans d3
                have HNY := HN.out.k.bel y.bel
                clear d0 d3 hgd
                have a0 := HNY.o.cell (intsC_at (by rw [HN.out.wl]; exact k1))
                have a1 := HNY.o.lt
                have HBY := Lib.hid y.bel
                have HNO := Lib.hid HNY.o
                clear HNY
                generalize y.w = wy at *
                clear y
                generalize wr.getD d.tk 0 = wv at *
                have hx : max wv d.resp = if wv < d.resp then d.resp else wv := by split <;> omega
                rw [hx] at HEA2
                clear hx
                (refine wp_region_qtail 21 (wb := wy) (by (repeat (first | exact Ext.bel _ | exact Bel.refl | refine Bel.alloc ?_ _ | refine Bel.drew ?_ | refine Bel.drewN ?_ _))) (by kernel_rfl) (by kernel_rfl) ?_; simp only [List.take_succ_cons, List.take_zero, List.drop_succ_cons, List.drop_zero]; (repeat (any_goals (first | go_big_quiet_step (fail) | quiet_step (fail) | (refine wpQuiet_step (fun K hK => ?_); go_simp; split <;> (refine hK _ ?_; clear hK K))))); all_goals (refine wpQuiet_nil ?_; intro _ hw'; obtain ⟨y, hw''⟩ := hw'; subst hw''))
                have a2 := (HNO.out.bel y.bel).frozen d.tk
                have a3 := (HNO.out.bel y.bel).lt
                have HST := Lib.hid (HN.out.step hm HEA2.out (HBY.out.trans y.bel))
                go_wp2
                generalize hW : World.setCell y.w _ _ = w13 at *
                clear hW
                obtain ⟨z13, rfl⟩ := ext_of HST.out.k.bl
                go_roundw
                case rel => exact ⟨m + 1, z13, _, by go_num, rfl, HST.out⟩
                case measure => simp [intOf]; omega
            · have hdm : decide ((m : Int) < (RE.done.length : Int)) = false := decide_eq_false (by omega)
              obtain rfl : m = RE.done.length := by have := HN.out.m_; omega
              obtain rfl := HN.out.fin
              have HOO : Hid (ShOut w1 z.w bE bw le te l xs (ns.length = 0) (t + 1) k RE.st wr) := Lib.hid ⟨HN.out.k, HPE.out.2.2.1, HPE.out.1, HPE.out.2.1, fun hf => (HPE.out.2.2.2.1 hf).1, fun hf => (HPE.out.2.2.2.1 hf).2, HPE.out.2.2.2.2, HN.out.wl, by omega⟩
              clear HN HPE
              go_wp2
              go_roundw
              case rel => exact ⟨t + 1, k, z, _, _, by omega, rfl, by go_num, rfl, HOO.out⟩
              case measure => simp [intOf]; omega
end Go.Proofs.Ytbilfpoghohddaa
