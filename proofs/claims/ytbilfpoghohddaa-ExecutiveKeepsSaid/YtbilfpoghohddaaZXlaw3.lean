/- ExecutiveKeeps: the walk. -/
import Derived.Test.YtbilfpoghohddaaZXkmem
import Derived.Test.YtbilfpoghohddaaZXsh
import Derived.Test.YtbilfpoghohddaaG6
import Derived.Test.YtbilfpoghohddaaZTpick
import Derived.Test.YtbilfpoghohddaaG13
import Derived.Deep.CutRange
namespace Go.Proofs.Ytbilfpoghohddaa
open Go.RowKit
theorem intsC_rep (n : Nat) : List.replicate n (Value.int .i64 0) = intsC (List.replicate n 0) := by simp [intsC]
theorem own_blt {w : World} {base : Nat} {e : TypeId} {size n b : Nat} {v : Value} {ys : List Value} (h : w.ownsRow base e size v n ys) (hb : w.heap.size ≤ b) : ∀ k, v.ownBlock = some k → k < b := fun k hk => by have := (h.lt k hk).2; omega
theorem kp_new {ws w w' : World} {bE bF : Nat} {le te lf tf : Value} {l : List Tsk} {xs : List Int} {sE sF : ExS} {op : List Int} (he : ExAt ws w bE le te l xs sE) (hf : ExAt ws w bF lf tf l xs sF) (hne : bE ≠ bF) (hb : Bel w w') (ho : RowAt w' w.heap.size 3 (intsC op)) : KpAt ws w' bE bF w.heap.size le te lf tf l xs sE sF op :=
  ⟨he.bel hb, hf.bel hb, hne, ho, he.bl.le, let ⟨_, _, b⟩ := he.own; own_blt b (Nat.le_refl _), own_blt he.ox (Nat.le_refl _), let ⟨_, _, b⟩ := hf.own; own_blt b (Nat.le_refl _), own_blt hf.ox (Nat.le_refl _)⟩
/-- what holds at the head of a tick -/
structure OutKp (ws w : World) (bE bF bo : Nat) (le te lf tf : Value) (l : List Tsk) (xs : List Int) (t k : Nat) (sE sF : ExS) (op : List Int) : Prop where
  m : KpAt ws w bE bF bo le te lf tf l xs sE sF op
  okE : ExOk l xs sE
  okF : ExOk l xs sF
  nE : sE.now = t
  nF : sF.now = t
  pE : PreT l xs False t sE.js
  pF : PreT l xs True t sF.js
  ol : op.length = l.length
  oe : ∀ i, i < l.length → op.getD i 0 = opn (jxAt sE.js i)
  kt : k ≤ 8 * t
  t3 : t ≤ 3 * xs.length
theorem out_start {ws w : World} {bE bF bo : Nat} {le te lf tf : Value} {l : List Tsk} {xs : List Int} (hc : chkT l xs = 0) (h : KpAt ws w bE bF bo le te lf tf l xs (ex0 l) (ex0 l) (List.replicate l.length 0)) : OutKp ws w bE bF bo le te lf tf l xs 0 0 (ex0 l) (ex0 l) (List.replicate l.length 0) := by
  have hat : ∀ i, i < l.length → jxAt (ex0 l).js i = ⟨-1, 0, 0⟩ := fun i hi => by simp [ex0, jxAt, List.getD, hi]
  exact ⟨h, ex0_ok hc, ex0_ok hc, rfl, rfl, ex0_pre _ (srv_of hc), ex0_pre _ (srv_of hc), by simp, fun i hi => by rw [hat i hi]; simp [opn, List.getD, hi], Nat.zero_le _, Nat.zero_le _⟩
theorem own_len {w : World} {base : Nat} {e : TypeId} {size n : Nat} {v : Value} {ys : List Value} (h : w.ownsRow base e size v n ys) : n ≤ maxLen := by
  rcases h.2 with ⟨_, h0⟩ | ⟨g, cap, cur, _, _, _, h1, h2, _⟩
  · rw [h0]; exact Nat.zero_le _
  · exact Nat.le_trans h1 h2
theorem made_rep (n : Nat) : madeCells (Value.int .i64 0).cells (n * 1) = Array.replicate n (Value.int .i64 0) := by
  apply Array.ext
  · simp [madeCells]
  · intro i h1 h2; simp [madeCells, Value.cells, Nat.mod_one]
theorem one_src {W : World} {g : Nat} {u : Value} (h : W.cell? ⟨g, 0, none⟩ = some u) : ∀ j u', [u][j]? = some u' → W.cell? ((⟨g, 0, none⟩ : Addr).add j) = some u' := by
  intro j u' hj
  match j with
  | 0 => simp at hj; subst hj; exact h
  | j + 1 => simp at hj
theorem Try.keepInfo : (Try.prog.info? 2).map (fun i => (i.zero, i.size, i.bytes)) = some (some (.int .i64 0), 1, 8) := by kernel_rfl
set_option maxRecDepth 100000 in
set_option maxHeartbeats 16000000 in
theorem keepsX_any (v xv nv : Value) (l : List Tsk) (xs ns : List Int) (w : World) (h : TsksAt w w.heap.size v l) (hl : l.length ≤ 9223372036854775807)
    (hs : ∀ i, i < l.length → (tskAt l i).secs.length ≤ 9223372036854775807 ∧ (tskAt l i).name.size ≤ 9223372036854775807) (hwf : ∀ i, i < l.length → (tskAt l i).wf) (hx : IntsAt w w.heap.size xv xs) (hn : IntsAt w w.heap.size nv ns) (hni : ∀ c ∈ ns, i64 c) :
    Calls Try.prog 5 #[v, .agg #[xv], nv] w fun e w' => e = .returned (.bool true) ∧ Bel w w' := by
  have HS := Lib.hid hs
  have HW := Lib.hid hwf
  have HT := Lib.hid h
  have HX := Lib.hid hx
  have HNS := Lib.hid hn
  have HNI := Lib.hid hni
  obtain ⟨A, c, rfl, _⟩ := h.form
  obtain ⟨Ax, cx, rfl, _⟩ := hx.form
  obtain ⟨An, cn, rfl, _⟩ := hn.form
  clear h hs hwf hx hn hni
  go_enter Try.func5, Try.ntmps5
  go_wp2_with fail
  generalize hW : World.alloc w _ = w1 at *
  have hB : Bel w w1 := by rw [← hW]; exact Bel.refl.alloc _
  have r4 : RowAt w1 w.heap.size 25 [.slice Ax xs.length cx] := by rw [← hW]; exact RowAt.new _ _ _
  clear hW
  have HT1 := Lib.hid (HT.out.keep hB.keeps hB.le)
  have HX1 := Lib.hid (HX.out.keep hB.keeps hB.le)
  have HN1 := Lib.hid (HNS.out.keep hB.keeps hB.le)
  have HB1 := Lib.hid hB
  have HR1 := Lib.hid r4
  clear hB r4 HT HX HNS
  obtain ⟨n4, hn4⟩ : ∃ n, n = w.heap.size := ⟨_, rfl⟩
  rw [← hn4] at HR1 ⊢
  clear hn4
  refine (shown38_any _).mono ?_
  rintro e w2 ⟨rfl, hB⟩
  have HT2 := Lib.hid (HT1.out.keep hB.keeps hB.le)
  have HX2 := Lib.hid (HX1.out.keep hB.keeps hB.le)
  have HN2 := Lib.hid (HN1.out.keep hB.keeps hB.le)
  have HB2 := Lib.hid (HB1.out.trans hB)
  have HR2 := Lib.hid (HR1.out.bel hB)
  clear hB HT1 HX1 HB1 HR1 HN1
  go_wp2_with fail
  refine (beyond_any _ l w2 HT2.out HS.out hl).mono ?_
  rintro e w2' ⟨rfl, hw⟩
  obtain rfl : w2' = w2 := hw
  cases hbe : beyond l
  case true =>
    go_wp2
    go_ret
    exact ⟨rfl, HB2.out⟩
  have HZ := Lib.hid (sized_of hbe HW.out)
  clear hbe
  have x0 := HR2.out.cell (i := 0) rfl
  have x1 := HR2.out.lt
  by_cases hlen : 100 < xs.length
  · have q1 : decide (100 < xs.length) = true := by simpa using hlen
    have q2 : decide ((100 : Int) < (xs.length : Int)) = true := by simp; omega
    go_wp2
    go_ret
    exact ⟨rfl, HB2.out⟩
  have q1 : decide (100 < xs.length) = false := by simpa using hlen
  have q2 : decide ((100 : Int) < (xs.length : Int)) = false := by simp; omega
  have HLX : Hid (xs.length ≤ 100) := Lib.hid (by omega)
  clear hlen
  go_wp2_with fail
  refine (rcheckT_any _ _ l xs w2' HT2.out HX2.out (by have := HLX.out; omega) HZ.out).mono ?_
  rintro e w3 ⟨rfl, hB⟩
  clear q1 q2 x0 x1
  have HT3 := Lib.hid (HT2.out.keep hB.keeps hB.le)
  have HX3 := Lib.hid (HX2.out.keep hB.keeps hB.le)
  have HN3 := Lib.hid (HN2.out.keep hB.keeps hB.le)
  have HB3 := Lib.hid (HB2.out.trans hB)
  have HR3 := Lib.hid (HR2.out.bel hB)
  clear hB HT2 HX2 HB2 HR2 HN2
  by_cases hck : chkT l xs = 0
  case neg =>
    have q1 : (chkT l xs == 0) = false := by simpa using hck
    have q2 : (chkT l xs != 0) = true := by simpa using hck
    generalize chkT l xs = ck at *
    clear hck
    go_wp2
    go_ret
    exact ⟨rfl, HB3.out⟩
  have HCK := Lib.hid hck
  rw [hck]
  clear hck
  by_cases hln : 300 < ns.length
  · have q3 : decide (300 < ns.length) = true := by simpa using hln
    have q4 : decide ((300 : Int) < (ns.length : Int)) = true := by simp; omega
    go_wp2
    go_ret
    exact ⟨rfl, HB3.out⟩
  have q3 : decide (300 < ns.length) = false := by simpa using hln
  have q4 : decide ((300 : Int) < (ns.length : Int)) = false := by simp; omega
  have HLN : Hid (ns.length ≤ 300) := Lib.hid (by omega)
  clear hln
  have x0 := HR3.out.cell (i := 0) rfl
  have x1 := HR3.out.lt
  go_wp2_with fail
  refine (new_any _ _ l xs w3 w3 HT3.out HX3.out Bel.refl (by have := HLX.out; omega) HZ.out).mono ?_
  rintro e w4 hN
  rcases hN with ⟨hc, _⟩ | ⟨_, bE, le, te, rfl, hE, hbE, hB⟩
  · exact absurd HCK.out hc
  have HE := Lib.hid hE
  have HB4 := Lib.hid hB
  have HLE : Hid (bE < w4.heap.size) := Lib.hid hE.lt
  clear hE hB hbE q3 q4 x0 x1
  have x0 := (HR3.out.bel HB4.out).cell (i := 0) rfl
  have x1 := (HR3.out.bel HB4.out).lt
  go_wp2_with fail
  refine (new_any _ _ l xs w3 w4 HT3.out HX3.out HB4.out (by have := HLX.out; omega) HZ.out).mono ?_
  rintro e w5 hN
  rcases hN with ⟨hc, _⟩ | ⟨_, bF, lf, tf, rfl, hF, hbF, hB⟩
  · exact absurd HCK.out hc
  have HF := Lib.hid hF
  have HE5 := Lib.hid (HE.out.bel hB)
  have HNE : Hid (bE ≠ bF) := Lib.hid (by have := HLE.out; omega)
  clear hF hB hbF x0 x1 HE HLE HB4
  obtain ⟨i0, hi, hz0, hz1, hz2⟩ := info_parts Try.infoInt
  have hmk : ∀ W : World, (Instr.makeSlice 23 (.int .i64 (l.length : Int)) (.int .i64 (l.length : Int))).run Try.prog W = .ok (.slice (some ⟨W.heap.size, 0, none⟩) l.length l.length) (W.alloc (.cells (Array.replicate l.length (Value.int .i64 0)) 3)) := fun W => by
    have := make_ints Try.underlying23 hi hz0 hz1 hz2 l.length (by have := HZ.out.len; omega) W
    rw [made_rep] at this
    exact this
  go_upto_region 11 with (fail)
  clear hmk
  generalize hW : World.alloc w5 _ = w6 at *
  have HK : Hid (OutKp w3 w6 bE bF w5.heap.size le te lf tf l xs 0 0 (ex0 l) (ex0 l) (List.replicate l.length 0)) := Lib.hid (by
    have hb : Bel w5 w6 := by rw [← hW]; exact Bel.refl.alloc _
    have ho : RowAt w6 w5.heap.size 3 (List.replicate l.length (.int .i64 0)) := by rw [← hW]; exact RowAt.newRep _ _ _ _
    rw [intsC_rep] at ho
    exact out_start HCK.out (kp_new HE5.out HF.out HNE.out hb ho))
  clear hW HE5 HF HNE hz0 hz1 hz2 hi
  clear i0
  generalize w5.heap.size = bo at *
  have hl1 := (ex0_ok HCK.out).l1
  have hl8 := (ex0_ok HCK.out).l8
  have HSRV := Lib.hid (srv_of HCK.out)
  obtain ⟨bt, ot, rfl, hbt, hAT⟩ := HT3.out.at_ (by omega)
  have HCELL : Hid (∀ i, i < l.length → ∀ W, Bel w3 W → W.cell? ⟨bt, ot + i * 7 + 1, none⟩ = some (.int .i64 (tskAt l i).per) ∧ W.cell? ⟨bt, ot + i * 7 + 3, none⟩ = some (.int .i64 (tskAt l i).dl) ∧ W.cell? ⟨bt, ot + i * 7 + 4, none⟩ = some (.int .i64 (tskAt l i).cost)) := Lib.hid (fun i hi W hW => by
    obtain ⟨sv, ⟨t0, t1, t2, t3, t4, t5, t6⟩, _⟩ := hAT i hi
    exact ⟨(hW.cells _ _ hbt).trans t1, (hW.cells _ _ hbt).trans t3, (hW.cells _ _ hbt).trans t4⟩)
  have HBT := Lib.hid hbt
  have HL8 := Lib.hid hl8
  have HL1 := Lib.hid hl1
  obtain ⟨bx, ox, rfl, hbx, hAX⟩ := HX3.out.at_ (ex0_ok HCK.out).x1
  have HTAB : Hid (∀ q, q < xs.length → ∀ W, Bel w3 W → W.cell? ⟨bx, ox + q, none⟩ = some (.int .i64 (xs.getD q 0))) := Lib.hid (fun q hq W hW => (hW.cells _ _ hbx).trans (hAX q hq))
  have HBX := Lib.hid hbx
  have HX0 := Lib.hid (ex0_ok HCK.out).x1
  obtain ⟨iL, hiL, hy0, hy1, hy2⟩ := info_parts Try.keepInfo
  obtain ⟨z6, rfl⟩ := ext_of HK.out.m.bl
  clear hbt hAT hl8 hl1 hbx hAX
  go_wp2
  go_loopw [12, 13] (fun s12 s13 wr => ∃ (t k : Nat) (z : Ext w3) (sE sF : ExS) (op : List Int), s12 = .int .i64 k ∧ s13 = .int .i64 t ∧ wr = z.w ∧ OutKp w3 z.w bE bF bo le te lf tf l xs t k sE sF op) (fun _ s13 _ => 3 * xs.length - (intOf s13).toNat)
  case atStart => exact ⟨0, 0, z6, _, _, _, rfl, rfl, rfl, HK.out⟩
  case round =>
    clear HK
    obtain ⟨t, k, z, sE, sF, op, rfl, rfl, rfl, hO⟩ := hrel
    have HO := Lib.hid hO
    clear hO
    have x0 := (HR3.out.bel z.bel).cell (i := 0) rfl
    have x1 := (HR3.out.bel z.bel).lt
    have hxl := HLX.out
    have ht3 := HO.out.t3
    have hkt := HO.out.kt
    by_cases hlt : t < 3 * xs.length
    case neg =>
      as_aux_lemma =>
        have hd : decide ((t : Int) < 3 * (xs.length : Int)) = false := by simp; omega
        have hll := HL8.out
        have HZZ : Hid (∀ i, i < l.length → op.getD i 0 = 0) := Lib.hid (fun i hi => by
          have P := HO.out.pE
          rw [show t = 3 * xs.length by omega] at P
          rw [HO.out.oe i hi]
          exact keep_end HSRV.out P i hi)
        go_wp2
        go_loopw [27] (fun s27 wr => ∃ i : Nat, i ≤ l.length ∧ s27 = .int .i64 i ∧ wr = z.w) (fun s27 _ => l.length - (intOf s27).toNat)
        case atStart => exact ⟨0, by omega, rfl, rfl⟩
        case round =>
          obtain ⟨i, hi, rfl, rfl⟩ := hrel
          by_cases hil : i < l.length
          · have hdi : decide ((i : Int) < (l.length : Int)) = true := by simp; omega
            have a0 := HO.out.m.o.cell (intsC_at (by rw [HO.out.ol]; exact hil))
            rw [HZZ.out i hil] at a0
            have a1 := HO.out.m.o.lt
            go_wp2
            go_roundw
            case rel => exact ⟨i + 1, by omega, by go_num, trivial⟩
            case measure => simp [intOf]; omega
          · have hdi : decide ((i : Int) < (l.length : Int)) = false := by simp; omega
            go_wp2
            go_ret
            exact ⟨rfl, HB3.out.trans z.bel⟩
    have hd : decide ((t : Int) < 3 * (xs.length : Int)) = true := by simp; omega
    go_wp2_with fail
    refine (released_any _ HO.out.m.e HO.out.okE (by have := HO.out.nE; omega)).mono ?_
    rintro e w7 ⟨rv, rfl, ho, hB⟩
    rw [HO.out.nE] at ho
    obtain ⟨op1, hop, hol, hoe⟩ := keep_open HSRV.out HO.out.pE HO.out.ol HO.out.oe
    have HO1 := Lib.hid (And.intro hol hoe)
    have HI : Hid (InKp w3 w7 bE bF bo le te lf tf l xs t sE sF z.w.heap.size rv (relL t 0 l) op1 0 k op (.slice none 0 0) (.slice none 0 0) [] []) := Lib.hid ⟨HO.out.m.bel hB, HO.out.m.o.lt, ho, World.ownsRow_nil _ _ _ _, World.ownsRow_nil _ _ _ _, fun k e => (by cases e), Nat.zero_le _, hop, HO.out.ol, rfl, by simp [needOk], by simp, by omega⟩
    have HRL : Hid ((relL t 0 l).length ≤ 8) := Lib.hid (Nat.le_trans (relL_len _ _ _) HL8.out)
    obtain ⟨r, hr⟩ : ∃ r, r = relL t 0 l := ⟨_, rfl⟩
    have HRE := Lib.hid hr
    rw [← hr] at HI HRL
    generalize z.w.heap.size = rb at *
    obtain ⟨z7, rfl⟩ := ext_of (z.bel.trans hB)
    obtain ⟨Ar, cr, rfl, _⟩ := own_slice HI.out.rr
    clear hB ho hop hol hoe hr x0 x1 hd
    go_wp2
    go_loopw [12, 15, 16, 17] (fun s12 s15 s16 s17 wr => ∃ (j k : Nat) (z : Ext w3) (v1 v2 : Value) (ns cs op : List Int), s12 = .int .i64 k ∧ v1 = s15 ∧ v2 = s16 ∧ s17 = .int .i64 j ∧ wr = z.w ∧ InKp w3 z.w bE bF bo le te lf tf l xs t sE sF rb (.slice Ar r.length cr) r op1 j k op v1 v2 ns cs) (fun _ _ _ s17 _ => r.length - (intOf s17).toNat)
    case atStart => exact ⟨0, k, z7, _, _, _, _, _, rfl, rfl, rfl, rfl, rfl, HI.out⟩
    case round =>
      clear HI
      obtain ⟨j, k, z, v1, v2, ms, cs, op, rfl, rfl, rfl, rfl, rfl, hI⟩ := hrel
      have HI := Lib.hid hI
      clear hI
      have hrl := HRL.out
      by_cases hj : j < r.length
      · skip
        as_aux_lemma =>
          have hdj : decide ((j : Int) < (r.length : Int)) = true := by simp; omega
          obtain ⟨i, hri, hil, hpz, hoz, hopn, hitk⟩ := HI.out.next hj
          obtain ⟨gr, cr', e1, _, _, hgr⟩ := own_form HI.out.rr (by omega)
          injection e1 with e1 _ e2
          subst e1; subst e2
          have r0 : z.w.cell? ⟨gr, j, none⟩ = some (.int .i64 i) := by
            rw [HI.out.rr.cellAt j (by omega)]
            simp [natC, hri]
          obtain ⟨t1, _, t4⟩ := HCELL.out i hil z.w z.bel
          have hbt := Nat.lt_of_lt_of_le HBT.out z.bel.le
          have a0 := HI.out.m.o.cell (intsC_at (by rw [HI.out.ol]; exact hil))
          rw [hoz] at a0
          have a1 := HI.out.m.o.lt
          have a2 := HI.out.m.o.frozen i
          have q1 : decide ((i : Int) < 0) = false := by simp
          have q2 : decide ((l.length : Int) ≤ (i : Int)) = false := by simp; omega
          have hil' : (i : Int) < (l.length : Int) := by omega
          have htk := tok_at HSRV.out.h0 hil
          have hp1 := htk.p1
          have hp2 := htk.p2
          have hc1 := htk.c1
          have hd2 := htk.d2
          have hcd := htk.c2
          have htm := Int.tmod_eq_emod_of_nonneg (a := (t : Int)) (b := (tskAt l i).per) (by omega)
          rw [hpz] at htm
          have hpz0 : ((tskAt l i).per == 0) = false := by simp; omega
          have hll := HL8.out
          have hkt2 := HI.out.kt
          have HST := Lib.hid (HI.out.stored i 1)
          go_upto_region 22 with (fail)
          generalize hW : World.setCell z.w _ _ = w8 at *
          clear hW r0 t1 t4 a0 a1 a2 q1 q2 htm hpz0
          obtain ⟨z8, rfl⟩ := ext_of HST.out.1.bl
          obtain ⟨_, _, t4⟩ := HCELL.out i hil z8.w z8.bel
          have r0 : z8.w.cell? ⟨gr, j, none⟩ = some (.int .i64 i) := by
            rw [HST.out.2.1.cellAt j (by omega)]
            simp [natC, hri]
          have hgr8 := own_lt HST.out.2.1 rfl
          have hbt8 := Nat.lt_of_lt_of_le HBT.out z8.bel.le
          go_upto_region 23 with (fail)
          clear r0 t4
          go_upto_if 150 with (fail)
          have hln := HLN.out
          go_cut [12, 18] from 88 to 178 (fun s12 s18 wx => ∃ (k' : Nat) (x1 : Int), k' ≤ k + 1 ∧ 0 ≤ x1 ∧ x1 ≤ (tskAt l i).cost ∧ s12 = .int .i64 k' ∧ s18 = .int .i64 x1 ∧ Bel z8.w wx)
          case first =>
            by_cases hn0 : 0 < ns.length
            · have hdn : decide ((0 : Int) < (ns.length : Int)) = true := decide_eq_true (by omega)
              have hdn2 : decide (0 < ns.length) = true := decide_eq_true (by omega)
              obtain ⟨bn, on, rfl, hbn, hAN⟩ := (HN3.out.keep z8.bel.keeps z8.bel.le).at_ hn0
              have hq := Nat.mod_lt k hn0
              have htq : (k : Int).tmod (ns.length : Int) = ((k % ns.length : Nat) : Int) := by rw [Int.tmod_eq_emod_of_nonneg (by omega)]; exact (Int.natCast_emod _ _).symm
              have hnz : ((ns.length : Int) == 0) = false := beq_eq_false_iff_ne.mpr (by omega)
              have y0 := hAN _ hq
              have hy : i64 (ns.getD (k % ns.length) 0) := HNI.out _ (by simp [List.getD, hq])
              generalize k % ns.length = q at *
              generalize ns.getD q 0 = y at *
              have hym : -1000 < y.tmod 1000 ∧ y.tmod 1000 < 1000 := by
                have h2 := Int.natAbs_tmod y 1000
                have h3 := Nat.mod_lt y.natAbs (y := 1000) (by omega)
                have h4 : (1000 : Int).natAbs = 1000 := rfl
                rw [h4] at h2
                omega
              obtain ⟨hym1, hym2⟩ := hym
              have hqn : (q : Int) < (ns.length : Int) := by omega
              clear hAN hy
              go_wp2_with fail
              refine (pick_any (y.tmod 1000) ((tskAt l i).cost + 1) z8.w (by omega) (by omega) (by unfold i64; omega)).mono ?_
              rintro e w9 ⟨⟨x1, hx1, rfl⟩, hB⟩
              have HB9 := Lib.hid hB
              clear hB
              go_wp2
              go_meet
              case rel => exact ⟨k + 1, x1, by omega, by omega, by omega, by go_num, rfl, HB9.out⟩
            · have hdn : decide ((0 : Int) < (ns.length : Int)) = false := decide_eq_false (by omega)
              have hdn2 : decide (0 < ns.length) = false := decide_eq_false (by omega)
              go_wp2
              go_meet
              case rel => exact ⟨k, _, by omega, by omega, Int.le_refl _, rfl, rfl, Bel.refl⟩
          case rest =>
          obtain ⟨k', x1, hkk, hn0, hn1, rfl, rfl, hB⟩ := hcut
          obtain ⟨x2, hx2⟩ : ∃ x, x = (tskAt l i).cost := ⟨_, rfl⟩
          have HS0 := Lib.hid (st26_start (HST.out.1.bel hB) (ownsRow_bel HST.out.2.1 hB) (ownsRow_bel HST.out.2.2.1 hB) (ownsRow_bel HST.out.2.2.2 hB) HI.out.d1 x1 x2)
          have hbo := HI.out.out_ (.inl HBT.out)
          have hgo := HI.out.out_ (b := gr) (.inr rfl)
          obtain ⟨_, _, t4⟩ := HCELL.out i hil wc (z8.bel.trans hB)
          have r0 : wc.cell? ⟨gr, j, none⟩ = some (.int .i64 i) := by
            rw [(ownsRow_bel HST.out.2.1 hB).cellAt j (by omega)]
            simp [natC, hri]
          have hgr9 := Nat.lt_of_lt_of_le hgr8 hB.le
          have hbt9 := Nat.lt_of_lt_of_le hbt8 hB.le
          have hnl8 : ms.length ≤ 8 := by have := HI.out.nl; omega
          have hcl8 : cs.length ≤ 8 := by rw [HI.out.cc, List.length_map, List.length_take]; omega
          rw [← hx2] at t4
          have HX2 := Lib.hid hx2
          clear hx2
          obtain ⟨rs, hrs⟩ : ∃ rs, rs = obL v1 ++ obL v2 := ⟨_, rfl⟩
          obtain ⟨W0, hW0⟩ : ∃ W0, W0 = wc.drew := ⟨_, rfl⟩
          rw [← hrs, ← hW0] at HS0
          rw [← hrs] at hbo hgo
          clear hrs hgr hgr8 hbt hbt8 HST hB
          go_upto_region 26 with (fail)
          (refine wp_region_ES 15 (rs) (by kernel_rfl) ?_; refine anyE_takes [0, 1, 4, 5, 6, 7, 8, 9, 10, 11, 12] (fun _ _ _ _ _ h => h) ⟨⟨_, grs_drew _ _⟩, rfl⟩ (by kernel_rfl) (by rfl) ?_; simp only [opsOf, List.filterMap_cons, List.filterMap_nil, List.getElem?_toArray, List.getElem?_cons_succ, List.getElem?_cons_zero, List.foldl_cons, List.foldl_nil]; (repeat (any_goals (first | go_big_quiet_step (fail) | quiet_step (fail)))); refine wpQuiet_nil ?_)
          rw [← hW0]
          have S0 := HS0
          clear HS0 hW0 t4 r0 hgo hbo
          -- TREE
          refine anyE_two 2 13 _ _ (by kernel_rfl) (by rfl) (by rfl) ?_ ?_
          · intro K hK
            go_simp
            have hs1 := S0.out.make1
            refine hK _ _ (fun _ => ⟨⟨_, hs1.gs⟩, rfl⟩) ?_
            clear hK K
            have S1 := Lib.hid hs1
            clear hs1
            generalize W0.alloc (.cells #[.int .i64 x1] 2) = W1 at *
            generalize W0.heap.size = g1 at *
            refine anyE_two 3 13 _ _ (by kernel_rfl) (by rfl) (by rfl) ?_ ?_
            · intro K hK
              rw [if_pos (by rfl)]
              obtain ⟨hc2, hl2, _, _⟩ := S1.out.c1 _ rfl
              refine wp_append_lies _ _ _ 36 rfl w3.heap.size 2 iL _ 1 8 Try.underlying36 hiL hy0 hy1 hy2 rfl (by decide) _ _ _ rfl S1.out.o1 ⟨g1, 0, none⟩ 1 1 [.int .i64 x1] rfl rfl (one_src hc2) (by intro u hu; simp at hu; subst hu; rfl) (by decide) (by unfold maxLen; omega) (by omega) S1.out.k.bl.le _ rfl ?_
              intro a2 p2 W2 ho2 hg2 ha2 _
              have hs2 := S1.out.app1 ho2 hg2 ha2
              refine hK _ _ (fun _ => ⟨⟨_, hs2.gs⟩, rfl⟩) ?_
              clear hK K hc2 hl2 ho2 hg2 ha2
              have S2 := Lib.hid hs2
              clear hs2
              (refine anyE_one 13 _ (by kernel_rfl) (by rfl) (fun K hK => ?_))
              go_simp
              have hs3 := S2.out.make2
              refine hK _ _ (fun _ => ⟨⟨_, hs3.gs⟩, rfl⟩) ?_
              clear hK K
              have S3 := Lib.hid hs3
              clear hs3
              generalize W2.alloc (.cells #[.int .i64 x2] 2) = W3 at *
              generalize W2.heap.size = g2 at *
              (refine anyE_one 14 _ (by kernel_rfl) (by rfl) (fun K hK => ?_))
              rw [if_pos (by rfl)]
              obtain ⟨hc4, hl4, _, _⟩ := S3.out.c2 _ rfl
              refine wp_append_lies _ _ _ 36 rfl w3.heap.size 2 iL _ 1 8 Try.underlying36 hiL hy0 hy1 hy2 rfl (by decide) _ _ _ rfl S3.out.o2 ⟨g2, 0, none⟩ 1 1 [.int .i64 x2] rfl rfl (one_src hc4) (by intro u hu; simp at hu; subst hu; rfl) (by decide) (by unfold maxLen; omega) (by omega) S3.out.k.bl.le _ rfl ?_
              intro a4 p4 W4 ho4 hg4 ha4 _
              have hs4 := S3.out.app2 ho4 hg4 ha4
              refine hK _ _ (fun _ => ⟨⟨_, hs4.gs⟩, rfl⟩) ?_
              clear hK K hc4 hl4 ho4 hg4 ha4
              have S4 := Lib.hid hs4
              clear hs4
              (refine anyE_tail 15 (by decide) (by rfl) (by kernel_rfl) ?_; simp only [List.drop_succ_cons, List.drop_zero])
              have HIN := Lib.hid (HI.out.made hj hitk hopn (by simp) hn0 hn1 HX2.out hkk S4.out)
              go_wp2
              refine NoPanic.normal ?_
              go_wp2
              obtain ⟨z9, rfl⟩ := ext_of HIN.out.m.bl
              go_roundw
              case rel => exact ⟨j + 1, k', z9, _, _, _, _, _, rfl, rfl, rfl, by go_num, rfl, HIN.out⟩
              case measure => simp [intOf]; omega
            · intro K hK
              go_simp
              have hs5 := S1.out.make2
              refine hK _ _ (fun _ => ⟨⟨_, hs5.gs⟩, rfl⟩) ?_
              clear hK K
              have S5 := Lib.hid hs5
              clear hs5
              generalize W1.alloc (.cells #[.int .i64 x2] 2) = W5 at *
              generalize W1.heap.size = g2 at *
              (refine anyE_one 3 _ (by kernel_rfl) (by rfl) (fun K hK => ?_))
              rw [if_pos (by rfl)]
              obtain ⟨hc6, hl6, _, _⟩ := S5.out.c1 _ rfl
              refine wp_append_lies _ _ _ 36 rfl w3.heap.size 2 iL _ 1 8 Try.underlying36 hiL hy0 hy1 hy2 rfl (by decide) _ _ _ rfl S5.out.o1 ⟨g1, 0, none⟩ 1 1 [.int .i64 x1] rfl rfl (one_src hc6) (by intro u hu; simp at hu; subst hu; rfl) (by decide) (by unfold maxLen; omega) (by omega) S5.out.k.bl.le _ rfl ?_
              intro a6 p6 W6 ho6 hg6 ha6 _
              have hs6 := S5.out.app1 ho6 hg6 ha6
              refine hK _ _ (fun _ => ⟨⟨_, hs6.gs⟩, rfl⟩) ?_
              clear hK K hc6 hl6 ho6 hg6 ha6
              have S6 := Lib.hid hs6
              clear hs6
              (refine anyE_one 14 _ (by kernel_rfl) (by rfl) (fun K hK => ?_))
              rw [if_pos (by rfl)]
              obtain ⟨hc7, hl7, _, _⟩ := S6.out.c2 _ rfl
              refine wp_append_lies _ _ _ 36 rfl w3.heap.size 2 iL _ 1 8 Try.underlying36 hiL hy0 hy1 hy2 rfl (by decide) _ _ _ rfl S6.out.o2 ⟨g2, 0, none⟩ 1 1 [.int .i64 x2] rfl rfl (one_src hc7) (by intro u hu; simp at hu; subst hu; rfl) (by decide) (by unfold maxLen; omega) (by omega) S6.out.k.bl.le _ rfl ?_
              intro a7 p7 W7 ho7 hg7 ha7 _
              have hs7 := S6.out.app2 ho7 hg7 ha7
              refine hK _ _ (fun _ => ⟨⟨_, hs7.gs⟩, rfl⟩) ?_
              clear hK K hc7 hl7 ho7 hg7 ha7
              have S7 := Lib.hid hs7
              clear hs7
              (refine anyE_tail 15 (by decide) (by rfl) (by kernel_rfl) ?_; simp only [List.drop_succ_cons, List.drop_zero])
              have HIN := Lib.hid (HI.out.made hj hitk hopn (by simp) hn0 hn1 HX2.out hkk S7.out)
              go_wp2
              refine NoPanic.normal ?_
              go_wp2
              obtain ⟨z9, rfl⟩ := ext_of HIN.out.m.bl
              go_roundw
              case rel => exact ⟨j + 1, k', z9, _, _, _, _, _, rfl, rfl, rfl, by go_num, rfl, HIN.out⟩
              case measure => simp [intOf]; omega
          · intro K hK
            go_simp
            have hs8 := S0.out.make2
            refine hK _ _ (fun _ => ⟨⟨_, hs8.gs⟩, rfl⟩) ?_
            clear hK K
            have S8 := Lib.hid hs8
            clear hs8
            generalize W0.alloc (.cells #[.int .i64 x2] 2) = W8 at *
            generalize W0.heap.size = g2 at *
            (refine anyE_one 2 _ (by kernel_rfl) (by rfl) (fun K hK => ?_))
            go_simp
            have hs9 := S8.out.make1
            refine hK _ _ (fun _ => ⟨⟨_, hs9.gs⟩, rfl⟩) ?_
            clear hK K
            have S9 := Lib.hid hs9
            clear hs9
            generalize W8.alloc (.cells #[.int .i64 x1] 2) = W9 at *
            generalize W8.heap.size = g1 at *
            (refine anyE_one 3 _ (by kernel_rfl) (by rfl) (fun K hK => ?_))
            rw [if_pos (by rfl)]
            obtain ⟨hc10, hl10, _, _⟩ := S9.out.c1 _ rfl
            refine wp_append_lies _ _ _ 36 rfl w3.heap.size 2 iL _ 1 8 Try.underlying36 hiL hy0 hy1 hy2 rfl (by decide) _ _ _ rfl S9.out.o1 ⟨g1, 0, none⟩ 1 1 [.int .i64 x1] rfl rfl (one_src hc10) (by intro u hu; simp at hu; subst hu; rfl) (by decide) (by unfold maxLen; omega) (by omega) S9.out.k.bl.le _ rfl ?_
            intro a10 p10 W10 ho10 hg10 ha10 _
            have hs10 := S9.out.app1 ho10 hg10 ha10
            refine hK _ _ (fun _ => ⟨⟨_, hs10.gs⟩, rfl⟩) ?_
            clear hK K hc10 hl10 ho10 hg10 ha10
            have S10 := Lib.hid hs10
            clear hs10
            (refine anyE_one 14 _ (by kernel_rfl) (by rfl) (fun K hK => ?_))
            rw [if_pos (by rfl)]
            obtain ⟨hc11, hl11, _, _⟩ := S10.out.c2 _ rfl
            refine wp_append_lies _ _ _ 36 rfl w3.heap.size 2 iL _ 1 8 Try.underlying36 hiL hy0 hy1 hy2 rfl (by decide) _ _ _ rfl S10.out.o2 ⟨g2, 0, none⟩ 1 1 [.int .i64 x2] rfl rfl (one_src hc11) (by intro u hu; simp at hu; subst hu; rfl) (by decide) (by unfold maxLen; omega) (by omega) S10.out.k.bl.le _ rfl ?_
            intro a11 p11 W11 ho11 hg11 ha11 _
            have hs11 := S10.out.app2 ho11 hg11 ha11
            refine hK _ _ (fun _ => ⟨⟨_, hs11.gs⟩, rfl⟩) ?_
            clear hK K hc11 hl11 ho11 hg11 ha11
            have S11 := Lib.hid hs11
            clear hs11
            (refine anyE_tail 15 (by decide) (by rfl) (by kernel_rfl) ?_; simp only [List.drop_succ_cons, List.drop_zero])
            have HIN := Lib.hid (HI.out.made hj hitk hopn (by simp) hn0 hn1 HX2.out hkk S11.out)
            go_wp2
            refine NoPanic.normal ?_
            go_wp2
            obtain ⟨z9, rfl⟩ := ext_of HIN.out.m.bl
            go_roundw
            case rel => exact ⟨j + 1, k', z9, _, _, _, _, _, rfl, rfl, rfl, by go_num, rfl, HIN.out⟩
            case measure => simp [intOf]; omega
          -- EERT
      · skip
        as_aux_lemma =>
          have hdj : decide ((j : Int) < (r.length : Int)) = false := by simp; omega
          obtain rfl : j = r.length := by have := HI.out.j_; omega
          obtain ⟨rfl, hnn, hcc⟩ := HI.out.fin
          have hnl := HI.out.nl
          have hkt2 := HI.out.kt
          have KE := keep_tick HSRV.out HO.out.nE HO.out.pE (ns := ms) (by rw [← HRE.out]; exact hnn) (by rw [← HRE.out]; exact hnl) (fun h => h.elim) HO1.out.1 HO1.out.2
          obtain ⟨eE, nE, pE, _, op2, hea, hol2, hoe2⟩ := KE
          have HPE := Lib.hid (And.intro nE (And.intro pE (And.intro hol2 (And.intro hoe2 (tick_ok HO.out.okE ms)))))
          have HEA := Lib.hid hea
          obtain ⟨eF, nF, pF, hrun⟩ := keep_full HSRV.out HO.out.nF HO.out.pF (ns := cs) (by rw [← HRE.out]; exact hcc)
          have HPF := Lib.hid (And.intro nF (And.intro pF (tick_ok HO.out.okF cs)))
          have HNOW : Hid (sE.now ≤ 100000 ∧ sF.now ≤ 100000) := Lib.hid (by have h1 := HO.out.nE; have h2 := HO.out.nF; omega)
          have HOKE := Lib.hid HO.out.okE
          have HOKF := Lib.hid HO.out.okF
          have HCL : Hid (cs.length ≤ 8) := Lib.hid (by rw [hcc, List.length_map]; omega)
          have HML : Hid (ms.length ≤ 8) := Lib.hid (by omega)
          clear hnn hcc nE pE hea hol2 hoe2 nF pF HO
          go_wp2_with fail
          refine (tick_any z.w _ ms HI.out.m.e HOKE.out HNOW.out.1 (IntsNe.of_own HI.out.o1 HI.out.m.e.row (by decide)) (by have := HML.out; omega)).mono ?_
          rintro e w10 ⟨dv, rfl, hX, hD, hG⟩
          rw [eE]
          have HM := Lib.hid (HI.out.m.turnE hX hG)
          have HD := Lib.hid hD
          have HDB : Hid (bo < z.w.heap.size) := Lib.hid HI.out.m.o.lt
          have HR2 := Lib.hid (HI.out.o2.kept hG (own_box_ne HI.out.m.e.row HI.out.o2 (by decide)))
          obtain ⟨Ad, cd, rfl, _⟩ := own_slice hD
          clear hX hD hG eE HOKE HI
          generalize tickX l xs sE ms = RE at *
          generalize z.w.heap.size = db at *
          obtain ⟨z10, rfl⟩ := ext_of HM.out.bl
          go_wp2_with fail
          refine (tick_any z10.w _ cs HM.out.f HOKF.out HNOW.out.2 (IntsNe.of_own HR2.out HM.out.f.row (by decide)) (by have := HCL.out; omega)).mono ?_
          rintro e w11 ⟨dv2, rfl, hX, hD, hG⟩
          rw [eF, hrun]
          obtain ⟨Ae, ce, rfl, _⟩ := own_slice hD
          have HN : Hid (DnKp w3 w11 bE bF bo le te lf tf l xs t RE.st (tickX l xs sF cs).st db (.slice Ad RE.done.length cd) RE.done op2 0 op) := Lib.hid ⟨HM.out.turnF hX hG, HDB.out, HD.out.kept hG (own_box_ne HM.out.f.row HD.out (by decide)), Nat.zero_le _, HEA.out, HO1.out.1⟩
          clear hX hD hG eF hrun HM HD HR2 HOKF
          generalize tickX l xs sF cs = RF at *
          obtain ⟨z11, rfl⟩ := ext_of HN.out.k.bl
          have x0 := (HR3.out.bel z11.bel).cell (i := 0) rfl
          have x1 := (HR3.out.bel z11.bel).lt
          have hx0 := HX0.out
          have htq : (t : Int).tmod (xs.length : Int) = ((t % xs.length : Nat) : Int) := by rw [Int.tmod_eq_emod_of_nonneg (by omega)]; exact (Int.natCast_emod _ _).symm
          have hnz : ((xs.length : Int) == 0) = false := beq_eq_false_iff_ne.mpr (by omega)
          have hq := Nat.mod_lt t hx0
          have y0 := HTAB.out _ hq z11.w z11.bel
          have hbx := Nat.lt_of_lt_of_le HBX.out z11.bel.le
          generalize t % xs.length = q at *
          generalize xs.getD q 0 = g at *
          have hqn : (q : Int) < (xs.length : Int) := by omega
          go_upto_region 29 with (fail)
          (refine wp_region_ext (wb := z11.w) (by (repeat (first | exact Ext.bel _ | exact Bel.refl | refine Bel.alloc ?_ _ | refine Bel.drew ?_ | refine Bel.drewN ?_ _))) (by kernel_rfl) (by kernel_rfl) ?_; (repeat (any_goals (first | go_big_quiet_step (fail) | quiet_step (fail) | (refine wpQuiet_step (fun K hK => ?_); go_simp; split <;> (refine hK _ ?_; clear hK K))))); all_goals (refine wpQuiet_nil ?_; intro _ hw'; obtain ⟨y, hw''⟩ := hw'; subst hw''))
          have HN2 : Hid (DnKp w3 y.w bE bF bo le te lf tf l xs t RE.st RF.st db (.slice Ad RE.done.length cd) RE.done op2 0 op) := Lib.hid ⟨HN.out.k.bel y.bel, HN.out.db_, ownsRow_bel HN.out.d y.bel, HN.out.m_, HN.out.ea, HN.out.ol⟩
          clear x0 x1 hx0 htq hnz hq y0 hbx HN
          obtain ⟨z12, hz12⟩ := ext_of HN2.out.k.bl
          rw [hz12] at HN2 ⊢
          clear hz12 y
          have HDL := Lib.hid (own_len HN2.out.d)
          go_wp2
          go_loopw [25] (fun s25 wr => ∃ (m : Nat) (z : Ext w3) (op : List Int), s25 = .int .i64 m ∧ wr = z.w ∧ DnKp w3 z.w bE bF bo le te lf tf l xs t RE.st RF.st db (.slice Ad RE.done.length cd) RE.done op2 m op) (fun s25 _ => RE.done.length - (intOf s25).toNat)
          case atStart => exact ⟨0, z12, _, rfl, rfl, HN2.out⟩
          case round =>
            clear HN2
            obtain ⟨m, z, op, rfl, rfl, hN⟩ := hrel
            have HN := Lib.hid hN
            clear hN
            have hdl := HDL.out
            unfold maxLen at hdl
            by_cases hm : m < RE.done.length
            · skip
              as_aux_lemma =>
                have hdm : decide ((m : Int) < (RE.done.length : Int)) = true := decide_eq_true (by omega)
                obtain ⟨d, hd, hok, hea⟩ := HN.out.next hm
                obtain ⟨gd, cd', e1, _, _, hgd⟩ := own_form HN.out.d (by omega)
                injection e1 with e1 _ e2
                subst e1; subst e2
                have d0 : z.w.cell? ⟨gd, m * 5, none⟩ = some (.int .i64 d.tk) := HN.out.cell rfl hd 0 (by omega)
                have d1 : z.w.cell? ⟨gd, m * 5 + 1, none⟩ = some (.int .i64 d.job) := HN.out.cell rfl hd 1 (by omega)
                have d2 : z.w.cell? ⟨gd, m * 5 + 2, none⟩ = some (.int .i64 d.rel) := HN.out.cell rfl hd 2 (by omega)
                have d3 : z.w.cell? ⟨gd, m * 5 + 3, none⟩ = some (.int .i64 d.resp) := HN.out.cell rfl hd 3 (by omega)
                have d4 : z.w.cell? ⟨gd, m * 5 + 4, none⟩ = some (.bool d.miss) := HN.out.cell rfl hd 4 (by omega)
                rw [hok.ms] at d4
                obtain ⟨k1, k2, k3, _, k5, k6, k7⟩ := hok
                have HK5 := Lib.hid k5
                clear k5
                have hmn : (m : Int) < (RE.done.length : Int) := by omega
                go_upto_region 35 with (fail)
                generalize hW : World.alloc z.w _ = w12 at *
                have hB : Bel z.w w12 := by rw [← hW]; exact Bel.refl.alloc _
                have rb : RowAt w12 z.w.heap.size 60 [.int .i64 d.tk, .int .i64 d.job, .int .i64 d.rel, .int .i64 d.resp, .bool false] := by rw [← hW]; exact RowAt.new _ _ _
                clear hW d0 d1 d2 d3 d4 hgd
                have HRB := Lib.hid rb
                have HB := Lib.hid hB
                have e0 := rb.cell (i := 0) rfl
                have e2 := rb.cell (i := 2) rfl
                have e3 := rb.cell (i := 3) rfl
                have e4 := rb.cell (i := 4) rfl
                have ez := rb.lt
                obtain ⟨_, t3, _⟩ := HCELL.out d.tk k1 w12 (z.bel.trans hB)
                have hbt := Nat.lt_of_lt_of_le HBT.out (z.bel.trans hB).le
                have a0 := (HN.out.k.o.bel hB).cell (intsC_at (by rw [HN.out.ol]; exact k1))
                rw [HK5.out] at a0
                have a1 := (HN.out.k.o.bel hB).lt
                clear rb hB
                generalize z.w.heap.size = bb at *
                have HEA2 := Lib.hid hea
                clear hea
                have k1' : (d.tk : Int) < (l.length : Int) := by omega
                have q1 : decide ((d.tk : Int) < 0) = false := decide_eq_false (by omega)
                have q2 : decide ((l.length : Int) ≤ (d.tk : Int)) = false := decide_eq_false (by omega)
                have q3 : decide (d.resp < 0) = false := decide_eq_false (by omega)
                have q4 : decide ((tskAt l d.tk).dl < d.resp) = false := decide_eq_false (by omega)
                have q5 : decide ((t : Int) + 1 < d.rel + d.resp) = false := decide_eq_false (by omega)
                have q6 : decide (l.length ≤ d.tk) = false := decide_eq_false (by omega)
                generalize (tskAt l d.tk).dl = dl at *
                have hll := HL8.out
                (refine wp_region_ext (wb := w12) (by (repeat (first | exact Ext.bel _ | exact Bel.refl | refine Bel.alloc ?_ _ | refine Bel.drew ?_ | refine Bel.drewN ?_ _))) (by kernel_rfl) (by kernel_rfl) ?_; (repeat (any_goals (first | go_big_quiet_step (fail) | quiet_step (fail) | (refine wpQuiet_step (fun K hK => ?_); go_simp; split <;> (refine hK _ ?_; clear hK K))))); all_goals (refine wpQuiet_nil ?_; intro _ hw'; obtain ⟨y, hw''⟩ := hw'; subst hw''))
                clear e2 e3 e4 t3 q1 q2 q3 q4 q5 q6 hbt e0 a0 a1 ez
                have e0 := (HRB.out.bel y.bel).cell (i := 0) rfl
                have ez := (HRB.out.bel y.bel).lt
                have hby := HB.out.trans y.bel
                have a0 := (HN.out.k.o.bel hby).cell (intsC_at (by rw [HN.out.ol]; exact k1))
                have a1 := (HN.out.k.o.bel hby).lt
                have a2 := (HN.out.k.o.bel hby).frozen d.tk
                have HST := Lib.hid (HN.out.step hm HEA2.out hby)
                clear hby
                go_wp2
                generalize hW : World.setCell y.w _ _ = w13 at *
                clear hW
                obtain ⟨z13, rfl⟩ := ext_of HST.out.k.bl
                go_roundw
                case rel => exact ⟨m + 1, z13, _, by go_num, rfl, HST.out⟩
                case measure => simp [intOf]; omega
            · have hdm : decide ((m : Int) < (RE.done.length : Int)) = false := decide_eq_false (by omega)
              obtain rfl : m = RE.done.length := by have := HN.out.m_; omega
              obtain rfl := HN.out.fin
              have HOO : Hid (OutKp w3 z.w bE bF bo le te lf tf l xs (t + 1) k RE.st RF.st op) := Lib.hid ⟨HN.out.k, HPE.out.2.2.2.2, HPF.out.2.2, HPE.out.1, HPF.out.1, HPE.out.2.1, HPF.out.2.1, HN.out.ol, HPE.out.2.2.2.1, by omega, by omega⟩
              clear HN HPE HPF
              go_wp2
              go_roundw
              case rel => exact ⟨t + 1, k, z, _, _, _, rfl, by go_num, rfl, HOO.out⟩
              case measure => simp [intOf]; omega
end Go.Proofs.Ytbilfpoghohddaa
