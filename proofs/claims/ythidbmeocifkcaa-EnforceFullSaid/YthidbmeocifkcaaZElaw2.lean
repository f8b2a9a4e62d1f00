/- EnforcePlays: the walk. -/
import Derived.Test.YthidbmeocifkcaaG23
import Derived.Test.YthidbmeocifkcaaZEshow
import Derived.Test.YthidbmeocifkcaaZErev
namespace Go.Proofs.Ythidbmeocifkcaa
open Go.RowKit
theorem cnt8 : ∀ k, k ≤ 7 → cntB 8 k + 1 < 9223372036854775807 := by decide
theorem event_puts {stp : Pt → Int → Int → Pt} {p : PP} {s : EnS} {a : PS} (hc : rpchk p = 0) (hs : smallM p = true) (hh : s.held.length ≤ 6) : putsM stp (mostM p) a.at_ (heldW a.at_ (s.held ++ [a.ev])) s.x s.t + 1 < 9223372036854775807 := by
  obtain ⟨hM0, _, _⟩ := most_bd (pvalid_of hc)
  have hM6 := small_most hs hc
  have h1 := puts_le2 (stp := stp) (E := a.at_) (S := 8) hM0 (heldW a.at_ (s.held ++ [a.ev])) s.x s.t (fun u hu => by
    have hm : u ∈ heldW a.at_ (s.held ++ [a.ev]) := List.mem_of_mem_head? (by rw [hu]; rfl)
    rw [(heldW_mem hm).1]
    have e : mx (mx s.t a.at_) a.at_ = mx s.t a.at_ := by
      have h2 := mx_r s.t a.at_
      unfold mx at h2 ⊢
      split <;> (try split at h2) <;> (try split) <;> omega
    rw [e]; omega)
  have hl : (heldW a.at_ (s.held ++ [a.ev])).length = s.held.length + 1 := by simp [heldW]
  rw [hl] at h1
  have := cnt8 (s.held.length + 1) (by omega)
  omega
/-- both enforcers, side by side -/
structure Pl36 (wm W : World) (p : PP) (gv ev : Value) (bf bm br : Nat) (sP sR : EnS) (hv ov hv' ov' : Value) : Prop where
  f : EfAt wm W bf bm p sP hv ov
  g : ErAt wm W br p gv ev sR hv' ov'
  d : ∀ k ∈ ownL bf hv ov, k ∉ ownL br hv' ov'
  rel : EnRel p sP sR
  okP : EnOk p sP
  okR : EnOk p sR
theorem EfAt.after {wm W W' : World} {p : PP} {bf bm : Nat} {s : EnS} {hv ov : Value} (h : EfAt wm W bf bm p s hv ov) (hb : Bel W W') : EfAt wm W' bf bm p s hv ov := ⟨h.b.after hb, h.mach, h.loc, h.cl⟩
theorem ErAt.after {wm W W' : World} {p : PP} {gv ev : Value} {br : Nat} {s : EnS} {hv ov : Value} (h : ErAt wm W br p gv ev s hv ov) (hb : Bel W W') : ErAt wm W' br p gv ev s hv ov :=
  ⟨let ⟨hl, h1, h2⟩ := h.b; ⟨hl, h1.after hb, h2⟩, h.prop, h.loc, h.cl⟩
theorem Pl36.after {wm W W' : World} {p : PP} {gv ev : Value} {bf bm br : Nat} {sP sR : EnS} {hv ov hv' ov' : Value} (h : Pl36 wm W p gv ev bf bm br sP sR hv ov hv' ov') (hb : Bel W W') : Pl36 wm W' p gv ev bf bm br sP sR hv ov hv' ov' :=
  ⟨h.f.after hb, h.g.after hb, h.d, h.rel, h.okP, h.okR⟩
theorem EfAt.other {wm W W' : World} {p : PP} {bf bm : Nat} {s : EnS} {hv ov : Value} {rs : List Nat} (h : EfAt wm W bf bm p s hv ov) (hg : GrsOk W rs W') (hr : ∀ k ∈ rs, wm.heap.size ≤ k) (hd : ∀ k ∈ ownL bf hv ov, k ∉ rs) : EfAt wm W' bf bm p s hv ov :=
  ⟨h.b.other hg hr hd, h.mach, h.loc, h.cl⟩
theorem ErAt.other {wm W W' : World} {p : PP} {gv ev : Value} {br : Nat} {s : EnS} {hv ov : Value} {rs : List Nat} (h : ErAt wm W br p gv ev s hv ov) (hg : GrsOk W rs W') (hr : ∀ k ∈ rs, wm.heap.size ≤ k) (hd : ∀ k ∈ ownL br hv ov, k ∉ rs) : ErAt wm W' br p gv ev s hv ov :=
  ⟨let ⟨hl, h1, h2⟩ := h.b; ⟨hl, h1.other hg hr hd, h2⟩, h.prop, h.loc, h.cl⟩
theorem ErAt.big {wm W : World} {p : PP} {gv ev : Value} {br : Nat} {s : EnS} {hv ov : Value} (h : ErAt wm W br p gv ev s hv ov) : ∀ k ∈ ownL br hv ov, wm.heap.size ≤ k ∧ k < W.heap.size := let ⟨_, h1, _⟩ := h.b; h1.big
theorem event_len (p : PP) (s : EnS) (a : PS) : (eventP p s a).2.1.length ≤ s.held.length + 1 := by
  unfold eventP eventM
  cases evBad p s a with
  | true => simp
  | false =>
    cases evFull s with
    | true => simp
    | false =>
      simp only [Bool.false_eq_true, if_false]
      split
      · simp
      · simp [madeM, heldW]; omega
theorem rpchk_evs {p : PP} (h : rpchk p = 0) : p.evs ≤ 8 := by
  unfold rpchk at h
  cases hh : headBad p with
  | true => rw [hh] at h; simp at h
  | false => have := headBad_false.mp hh; omega
set_option maxRecDepth 100000 in
set_option maxHeartbeats 4000000 in
theorem eplays_any (p : PP) (gv ev sv : Value) (l : List PS) (W : World) (h : PropAt W W.heap.size gv ev p) (hw : p.wf) (hl : StampsAt W W.heap.size sv l) (hlw : ∀ c ∈ l, c.wf) :
    Calls Try.prog 4 #[.agg #[.int .i64 p.evs, .int .i64 p.clks, .int .i64 p.ini, gv, ev], sv] W fun e w' => e = .returned (.bool true) ∧ Bel W w' := by
  have HP := Lib.hid h
  have HL := Lib.hid hl
  have HWF := Lib.hid hw
  have HLW := Lib.hid hlw
  have HBY := Lib.hid (fun (V : World) (hV : Bel W V) => beyond_any p gv ev V (h.bel hV))
  obtain ⟨A1, k1, rfl, _⟩ := h.g.form
  obtain ⟨A2, k2, rfl, _⟩ := h.e.form
  obtain ⟨A, c, rfl, _⟩ := hl.form
  clear h hl hw hlw
  go_enter Try.func4, Try.ntmps4
  go_upto_region 1 with (fail)
  generalize hW1 : World.alloc W _ = W1 at *
  have rb : RowAt W1 W.heap.size 25 [.int .i64 p.evs, .int .i64 p.clks, .int .i64 p.ini, .slice A1 p.good.length k1, .slice A2 p.edges.length k2] := by rw [← hW1]; exact RowAt.new _ _ _
  have hB1 : Bel W W1 := by rw [← hW1]; exact Bel.refl.alloc _
  clear hW1
  obtain ⟨bp, hbp⟩ : ∃ b, b = W.heap.size := ⟨_, rfl⟩
  rw [← hbp] at rb ⊢
  clear hbp
  have HRB := Lib.hid rb
  have HB1 := Lib.hid hB1
  clear rb hB1
  go_wp2_with fail
  refine (shown36_any W1).mono ?_
  rintro e W2 ⟨rfl, hB⟩
  have HB2 := Lib.hid (HB1.out.trans hB)
  have HR2 := Lib.hid (HRB.out.bel hB)
  clear HB1 HRB hB
  have q0 := HR2.out.cell (i := 0) rfl
  have q1 := HR2.out.cell (i := 1) rfl
  have q2 := HR2.out.cell (i := 2) rfl
  have q3 := HR2.out.cell (i := 3) rfl
  have q4 := HR2.out.cell (i := 4) rfl
  have qz := HR2.out.lt
  go_wp2_with fail
  refine (HBY.out W2 HB2.out).mono ?_
  rintro e W3 ⟨rfl, hB⟩
  have HB3 := Lib.hid (HB2.out.trans hB)
  have HR3 := Lib.hid (HR2.out.bel hB)
  clear HB2 HR2 hB q0 q1 q2 q3 q4 qz HBY
  cases hby : beyondM p
  case true =>
    go_wp2
    go_ret
    exact ⟨rfl, HB3.out⟩
  have HS := Lib.hid (beyond_sized hby HWF.out)
  clear hby
  have q0 := HR3.out.cell (i := 0) rfl
  have q1 := HR3.out.cell (i := 1) rfl
  have q2 := HR3.out.cell (i := 2) rfl
  have q3 := HR3.out.cell (i := 3) rfl
  have q4 := HR3.out.cell (i := 4) rfl
  have qz := HR3.out.lt
  go_wp2_with fail
  refine (small_any p _ _ W3 (HP.out.bel HB3.out) HS.out).mono ?_
  rintro e W4 ⟨rfl, hB⟩
  have HB4 := Lib.hid (HB3.out.trans hB)
  have HR4 := Lib.hid (HR3.out.bel hB)
  clear HB3 HR3 hB q0 q1 q2 q3 q4 qz
  cases hsm : smallM p
  case false =>
    go_wp2
    go_ret
    exact ⟨rfl, HB4.out⟩
  have HSM := Lib.hid hsm
  clear hsm
  by_cases hlen : 12 < l.length
  · have t1 : decide (12 < l.length) = true := decide_eq_true hlen
    have t2 : decide ((12 : Int) < (l.length : Int)) = true := decide_eq_true (by omega)
    clear hlen
    go_wp2
    go_ret
    exact ⟨rfl, HB4.out⟩
  have t1 : decide (12 < l.length) = false := decide_eq_false hlen
  have t2 : decide ((12 : Int) < (l.length : Int)) = false := decide_eq_false (by omega)
  have HLEN : Hid (l.length ≤ 12) := Lib.hid (by omega)
  clear hlen
  have q0 := HR4.out.cell (i := 0) rfl
  have q1 := HR4.out.cell (i := 1) rfl
  have q2 := HR4.out.cell (i := 2) rfl
  have q3 := HR4.out.cell (i := 3) rfl
  have q4 := HR4.out.cell (i := 4) rfl
  have qz := HR4.out.lt
  go_wp2_with fail
  refine (new_any p _ _ W4 (HP.out.bel HB4.out) HS.out).mono ?_
  rintro e W5 hN
  clear t1 t2 q0 q1 q2 q3 q4 qz
  rcases hN with ⟨hc, rfl, hB⟩ | ⟨hc, bf, bm, wm, rfl, hbm, hE⟩
  · have HB5 := Lib.hid (HB4.out.trans hB)
    have HR5 := Lib.hid (HR4.out.bel hB)
    have HC := Lib.hid hc
    clear hB hc HB4 HR4
    have q0 := HR5.out.cell (i := 0) rfl
    have q1 := HR5.out.cell (i := 1) rfl
    have q2 := HR5.out.cell (i := 2) rfl
    have q3 := HR5.out.cell (i := 3) rfl
    have q4 := HR5.out.cell (i := 4) rfl
    have qz := HR5.out.lt
    go_wp2_with fail
    refine (rnew36_any p _ _ W W5 HP.out HB5.out HS.out).mono ?_
    rintro e W6 hN
    rcases hN with ⟨_, rfl, hB⟩ | ⟨hc, _⟩
    · have HB6 := Lib.hid (HB5.out.trans hB)
      have g0 : (rpchk p == rpchk p) = true := beq_self_eq_true _
      have g1 : (rpchk p == 0) = false := by simpa using HC.out
      have g2 : (rpchk p != 0) = true := by simpa using HC.out
      have g3 : (rpchk p != rpchk p) = false := by simp
      generalize rpchk p = er at *
      clear hB q0 q1 q2 q3 q4 qz
      go_wp2
      go_ret
      exact ⟨rfl, HB6.out⟩
    · exact absurd hc HC.out
  have HC := Lib.hid hc
  have hB5 : Bel W4 W5 := hbm.trans hE.b.bel
  have HBM := Lib.hid (HB4.out.trans hbm)
  have HR5 := Lib.hid (HR4.out.bel hB5)
  have HE5 := Lib.hid hE
  clear hbm hB5 hE hc HB4 HR4
  have q0 := HR5.out.cell (i := 0) rfl
  have q1 := HR5.out.cell (i := 1) rfl
  have q2 := HR5.out.cell (i := 2) rfl
  have q3 := HR5.out.cell (i := 3) rfl
  have q4 := HR5.out.cell (i := 4) rfl
  have qz := HR5.out.lt
  go_wp2_with fail
  refine (rnew36_any p _ _ wm W5 (HP.out.bel HBM.out) HE5.out.b.bel HS.out).mono ?_
  rintro e W6 hN
  rcases hN with ⟨hc, _⟩ | ⟨_, br, rfl, hB, hbr, hR⟩
  · exact absurd HC.out hc
  have HV : Hid (PValid p p.clks.toNat) := Lib.hid (pvalid_of HC.out)
  have HPL : Hid (Pl36 wm W6 p (.slice A1 p.good.length k1) (.slice A2 p.edges.length k2) bf bm br (en0 p) (en0 p) (.slice none 0 0) (.slice none 0 0) (.slice none 0 0) (.slice none 0 0)) := Lib.hid
    ⟨HE5.out.after hB, hR, fun k hk hk2 => by
      have h1 := (HE5.out.b.big k hk).2
      rcases mem_ownL.mp hk2 with rfl | e | e
      · omega
      · simp [Value.ownBlock] at e
      · simp [Value.ownBlock] at e, en0_rel HV.out, en0_ok, en0_ok⟩
  clear hB hbr hR q0 q1 q2 q3 q4 qz HE5 HR5
  go_wp2
  go_loopw [9] (fun s9 wq => ∃ (i : Nat) (sP sR : EnS) (hv ov hv' ov' : Value), i ≤ l.length ∧ s9 = .int .i64 i ∧ Pl36 wm wq p (.slice A1 p.good.length k1) (.slice A2 p.edges.length k2) bf bm br sP sR hv ov hv' ov') (fun s9 _ => l.length - (intOf s9).toNat)
  case atStart => exact ⟨0, _, _, _, _, _, _, Nat.zero_le _, rfl, HPL.out⟩
  case round =>
    clear HPL
    obtain ⟨i, sP, sR, hv, ov, hv', ov', hi, rfl, hpl⟩ := hrel
    have HPL := Lib.hid hpl
    clear hpl
    by_cases hlt : i < l.length
    case neg =>
      obtain rfl : i = l.length := by omega
      have hdl : decide ((l.length : Int) < (l.length : Int)) = false := by simp
      go_wp2
      go_ret
      exact ⟨rfl, HBM.out.trans HPL.out.f.b.bel⟩
    have hdl : decide ((i : Int) < (l.length : Int)) = true := by simp; omega
    have hil : (i : Int) < (l.length : Int) := by omega
    obtain ⟨hlR, hbR, heR⟩ := HPL.out.g.b
    have hllR : hlR.length = sR.held.length := by rw [← heR]; simp
    obtain ⟨Ah', ch', hvE, _⟩ := own_slice hbR.held
    rw [hllR] at hvE
    subst hvE
    have f6 := hbR.row.cell (i := 6) rfl
    have fz := hbR.row.lt
    clear hbR heR hllR
    by_cases h7 : 7 ≤ sR.held.length
    · have t1 : decide ((7 : Int) ≤ (sR.held.length : Int)) = true := decide_eq_true (by omega)
      have t2 : decide (7 ≤ sR.held.length) = true := decide_eq_true h7
      clear h7
      go_wp2
      go_ret
      exact ⟨rfl, HBM.out.trans HPL.out.f.b.bel⟩
    have t1 : decide ((7 : Int) ≤ (sR.held.length : Int)) = false := decide_eq_false (by omega)
    have t2 : decide (7 ≤ sR.held.length) = false := decide_eq_false h7
    have HH6 : Hid (sR.held.length ≤ 6) := Lib.hid (by omega)
    clear h7
    obtain ⟨bl, ol, rfl, hbl, hA⟩ := HL.out.at_ (by omega)
    obtain ⟨a0, a1⟩ := hA i hlt
    have HA0 := Lib.hid a0
    have HA1 := Lib.hid a1
    have HWI := Lib.hid (HLW.out _ (ps_mem hlt))
    have HBW := Lib.hid (HBM.out.trans HPL.out.f.b.bel)
    replace a0 := (HBW.out.cells _ _ hbl).trans a0
    replace a1 := (HBW.out.cells _ _ hbl).trans a1
    have az := Nat.lt_of_lt_of_le hbl HBW.out.le
    clear hA
    generalize psAt l i = a at *
    go_wp2_with fail
    refine (event_any a HPL.out.f HPL.out.okP HV.out HS.out (rpchk_evs HC.out) ⟨HWI.out.1, HWI.out.2⟩ (fun _ _ => event_puts HC.out HSM.out (by rw [HPL.out.rel.held]; exact HH6.out))).mono ?_
    rintro e w7 ⟨v7, hv7, ov7, rfl, hE7, hG7, hN7, ho7, _⟩
    obtain ⟨A7, c7, rfl, _⟩ := own_slice ho7
    obtain ⟨hr2, hrel⟩ := event_rel HV.out HPL.out.rel a
    have hbig := HPL.out.g.big
    have hfbig := HPL.out.f.b.big
    have hd0 := HPL.out.d
    have hg7 := HPL.out.g.other hG7 (fun k hk => (hfbig k hk).1) (fun k hk hm => hd0 k hm hk)
    have hd7 : ∀ k ∈ ownL bf hv7 ov7, k ∉ ownL br (.slice Ah' sR.held.length ch') ov' := fun k hk hm => by
      rcases hN7 k hk with h | h
      · exact hd0 k h hm
      · have := (hbig k hm).2; omega
    have HE7 := Lib.hid hE7
    have HG7 := Lib.hid hg7
    have HD7 := Lib.hid hd7
    have HO7 := Lib.hid ho7
    have HBIG := Lib.hid hbig
    have HOKP := Lib.hid (event_okP HV.out HPL.out.okP a)
    have HPH := Lib.hid HPL.out.okP.h40
    have HOKR := Lib.hid (event_okR HV.out HPL.out.okR a)
    have HR2 := Lib.hid hr2
    have HREL := Lib.hid hrel
    have HEVP : Hid (putsM (stepR p) (mostM p) a.at_ (heldW a.at_ (sR.held ++ [a.ev])) sR.x sR.t + 1 < 9223372036854775807) := Lib.hid (event_puts HC.out HSM.out HH6.out)
    have HOKR0 := Lib.hid HPL.out.okR
    have HWRS : Hid (∀ k ∈ ownL br (.slice Ah' sR.held.length ch') ov', k < wr.heap.size) := Lib.hid (fun k hk => (HBIG.out k hk).2)
    clear hE7 hg7 hd7 ho7 hbig hfbig hd0 hr2 hrel hG7 hN7 a0 a1 az f6 fz t1 t2 HPL HBW HBIG
    have HUL : Hid ((eventP p sP a).2.1.length ≤ 1000000) := Lib.hid (by have := event_len p sP a; have := HPH.out; omega)
    generalize eventP p sP a = rP at *
    obtain ⟨sP2, u, er⟩ := rP
    dsimp only at HE7 HO7 HOKP HR2 HREL HUL ⊢
    have a0 := ((HBM.out.trans HE7.out.b.bel).cells _ _ hbl).trans HA0.out
    have a1 := ((HBM.out.trans HE7.out.b.bel).cells _ _ hbl).trans HA1.out
    have az := Nat.lt_of_lt_of_le hbl (HBM.out.trans HE7.out.b.bel).le
    go_wp2_with fail
    refine (revent_any a HG7.out HOKR0.out HV.out HS.out (rpchk_evs HC.out) ⟨HWI.out.1, HWI.out.2⟩ (fun _ _ => HEVP.out)).mono ?_
    rintro e w8 ⟨v8, hv8, ov8, rfl, hR8, hG8, hN8, ho8⟩
    obtain ⟨A8, c8, rfl, _⟩ := own_slice ho8
    have hf8 := HE7.out.other hG8 (fun k hk => (HG7.out.big k hk).1) (fun k hk hm => HD7.out k hk hm)
    have hd8 : ∀ k ∈ ownL bf hv7 ov7, k ∉ ownL br hv8 ov8 := fun k hk hm => by
      rcases hN8 k hm with h | h
      · exact HD7.out k hk h
      · have := (HE7.out.b.big k hk).2; omega
    have ho78 := ownsRow_far HO7.out hG8 (fun k e hm => by have h1 := (HO7.out.lt k e).1; have h2 := HWRS.out k hm; omega)
    generalize eventR p sR a = rR at *
    obtain ⟨sR2, u', er'⟩ := rR
    dsimp only at hR8 ho8 HOKR HR2 HREL ⊢
    have hu := HR2.out
    simp only [Prod.mk.injEq] at hu
    obtain ⟨rfl, rfl⟩ := hu
    have HPL8 : Hid (Pl36 wm w8 p (.slice A1 p.good.length k1) (.slice A2 p.edges.length k2) bf bm br sP2 sR2 hv7 ov7 hv8 ov8) := Lib.hid ⟨hf8, hR8, hd8, HREL.out, HOKP.out, HOKR.out⟩
    have HS7 := Lib.hid (stamps_own rfl ho78)
    have HS8 := Lib.hid (stamps_own rfl ho8)
    clear hf8 hR8 hd8 ho78 ho8 hG8 hN8 a0 a1 az HE7 HG7 HD7 HO7 HOKP HOKR HR2 HREL HEVP HOKR0 HWRS
    obtain ⟨hlR, hbR, heR⟩ := HPL8.out.g.b
    have hllR : hlR.length = sR2.held.length := by rw [← heR]; simp
    obtain ⟨Ah2, ch2, rfl, _⟩ := own_slice hbR.held
    obtain ⟨Ao2, co2, rfl, _⟩ := own_slice hbR.out
    rw [hllR, ← HPL8.out.rel.held] at hbR HPL8
    rw [← HPL8.out.rel.out] at hbR HPL8
    have f5 := hbR.row.cell (i := 5) rfl
    have f6 := hbR.row.cell (i := 6) rfl
    have fz := hbR.row.lt
    have HOO := Lib.hid (stamps_own rfl hbR.out)
    have g1 : (er != er) = false := by simp
    have g2 : ((sP2.held.length : Int) != (sP2.held.length : Int)) = false := by simp
    clear hbR heR hllR
    go_upto_region 15 with (fail)
    (refine wp_region_E 28 none (by kernel_rfl) ?_; refine anyE_takes [0, 1] (fun _ _ _ _ _ h => h) ⟨⟨_, gro_drew (gro_refl _)⟩, rfl⟩ (by kernel_rfl) (by rfl) ?_; simp only [opsOf, List.filterMap_cons, List.filterMap_nil, List.getElem?_toArray, List.getElem?_cons_succ, List.getElem?_cons_zero, List.foldl_cons, List.foldl_nil]; (repeat (any_goals (first | go_big_quiet_step (fail) | quiet_step (fail)))); refine wpQuiet_nil ?_)
    have G0 : Hid (Bel w8 w8.drew) := Lib.hid (gro_bel (gro_drew (gro_refl _)))
    generalize w8.drew = wf at *
    (refine anyE_one 2 _ (by kernel_rfl) (by rfl) (fun K hK => ?_))
    rw [if_pos (by rfl)]
    go_simp
    refine (sameWord_any _ _ u wf (HS7.out.bel G0.out) (HS8.out.bel G0.out) HUL.out).mono ?_
    rintro _ w9 ⟨rfl, hB⟩
    have G1 : Hid (Bel w8 w9) := Lib.hid (G0.out.trans hB)
    refine hK _ _ (fun _ => ⟨⟨_, gro_of_bel G1.out⟩, rfl⟩) ?_
    clear hK K hB G0 HS7 HS8
    (refine anyE_takes [3, 4, 5, 6, 7, 8, 9, 10, 12, 13, 14, 15, 16] (fun _ _ _ _ _ h => h) ⟨⟨_, gro_of_bel G1.out⟩, rfl⟩ (by kernel_rfl) (by rfl) ?_; simp only [opsOf, List.filterMap_cons, List.filterMap_nil, List.getElem?_toArray, List.getElem?_cons_succ, List.getElem?_cons_zero, List.foldl_cons, List.foldl_nil]; (repeat (any_goals (first | go_big_quiet_step (fail) | quiet_step (fail)))); refine wpQuiet_nil ?_)
    (refine anyE_one 11 _ (by kernel_rfl) (by rfl) (fun K hK => ?_))
    rw [if_pos (by rfl)]
    go_simp
    refine (eheld_any (HPL8.out.f.after G1.out)).mono ?_
    rintro _ w10 ⟨rfl, rfl⟩
    refine hK _ _ (fun _ => ⟨⟨_, gro_of_bel G1.out⟩, rfl⟩) ?_
    clear hK K
    (refine anyE_takes [17, 18, 19, 20, 22, 23, 24, 25] (fun _ _ _ _ _ h => h) ⟨⟨_, gro_of_bel G1.out⟩, rfl⟩ (by kernel_rfl) (by rfl) ?_; simp only [opsOf, List.filterMap_cons, List.filterMap_nil, List.getElem?_toArray, List.getElem?_cons_succ, List.getElem?_cons_zero, List.foldl_cons, List.foldl_nil]; (repeat (any_goals (first | go_big_quiet_step (fail) | quiet_step (fail)))); refine wpQuiet_nil ?_)
    (refine anyE_one 21 _ (by kernel_rfl) (by rfl) (fun K hK => ?_))
    rw [if_pos (by rfl)]
    go_simp
    have HOL : Hid (sP2.out.length ≤ 200) := Lib.hid (by
      have hol := HPL8.out.okP
      have hol2 := hol.came
      have hol3 := hol.c200
      omega)
    refine (eout_any (HPL8.out.f.after G1.out) (by have := HOL.out; omega)).mono ?_
    rintro _ w11 ⟨vo, rfl, hoo, hB⟩
    have G2 : Hid (Bel w8 w11) := Lib.hid (G1.out.trans hB)
    have HVO := Lib.hid (stamps_own rfl hoo)
    refine hK _ _ (fun _ => ⟨⟨_, gro_of_bel G2.out⟩, rfl⟩) ?_
    clear hK K hB hoo G1
    (refine anyE_one 26 _ (by kernel_rfl) (by rfl) (fun K hK => ?_))
    rw [if_pos (by rfl)]
    go_simp
    refine (sameWord_any _ _ sP2.out w11 HVO.out (HOO.out.bel G2.out) (by have := HOL.out; omega)).mono ?_
    rintro _ w12 ⟨rfl, hB⟩
    have G3 : Hid (Bel w8 w12) := Lib.hid (G2.out.trans hB)
    refine hK _ _ (fun _ => ⟨⟨_, gro_of_bel G3.out⟩, rfl⟩) ?_
    clear hK K hB HVO G2 HOO
    (refine anyE_takes [27] (fun _ _ _ _ _ h => h) ⟨⟨_, gro_of_bel G3.out⟩, rfl⟩ (by kernel_rfl) (by rfl) ?_; simp only [opsOf, List.filterMap_cons, List.filterMap_nil, List.getElem?_toArray, List.getElem?_cons_succ, List.getElem?_cons_zero, List.foldl_cons, List.foldl_nil]; (repeat (any_goals (first | go_big_quiet_step (fail) | quiet_step (fail)))); refine wpQuiet_nil ?_)
    (refine anyE_tail 28 (by decide) (by rfl) (by kernel_rfl) ?_; simp only [List.drop_succ_cons, List.drop_zero])
    go_wp2
    refine NoPanic.normal ?_
    have HPL9 := Lib.hid (HPL8.out.after G3.out)
    clear f5 f6 fz g1 g2 HPL8 G3
    have hln := HLEN.out
    go_wp2
    go_roundw
    case rel => exact ⟨i + 1, sP2, sR2, _, _, _, _, by omega, by go_num, HPL9.out⟩
    case measure => simp [intOf]; omega
end Go.Proofs.Ythidbmeocifkcaa
