/- enforce: the reference's times: the walk. -/
import Derived.Test.YthidbmeocifkcaaG24
namespace Go.Proofs.Ythidbmeocifkcaa
open Go.RowKit
set_option maxRecDepth 100000 in
set_option maxHeartbeats 16000000 in
theorem rtimes_any {ws : World} {p : PP} {gv ev : Value} {bs bq : Nat} {A : Option Addr} {c : Nat} {E : Int} {w : List PS} (H : RtEnv ws p gv ev A c E w) :
    ∀ (ss : List PS) (j : Nat) (loc c0 c1 c2 last : Int) (W : World) (m : Lit → Bool) (N : Nat), w.drop j = ss → j ≤ w.length → SrAt ws W p bs bq gv ev A c E w m N →
      LocOk p ⟨loc, [c0, c1, c2]⟩ → ClOk [c0, c1, c2] → 0 ≤ last → last + 100 * ss.length ≤ 100000000 → N + putsM (stepR p) (mostM p) E ss ⟨loc, [c0, c1, c2]⟩ last + 1 < 9223372036854775807 →
      Calls Try.prog 31 #[.pointer (some ⟨bs, 0, none⟩), .agg #[.int .i64 j, .int .i64 loc, .int .i64 c0, .int .i64 c1, .int .i64 c2, .int .i64 last]] W
        (RtPost ws W p bs bq gv ev A c E w N ss ⟨loc, [c0, c1, c2]⟩ last) := by
  intro ss
  induction ss with
  | nil =>
    intro j loc c0 c1 c2 last W m N hd hj hT hl hc h0 hbd hN
    have hjl : j = w.length := by
      have := congrArg List.length hd
      simp at this
      omega
    have hjw := H.wl
    have HT := Lib.hid hT
    have HC := Lib.hid hc
    have HL := Lib.hid hl
    have HG := Lib.hid (fun W' (hW : Bel W W') => rgood_any p gv ev ⟨loc, [c0, c1, c2]⟩ W' (H.prop.bel (hT.bel.trans hW)) hl rfl H.hs.g)
    have HPO : Hid (∀ w5, Bel W w5 → RtPost ws W p bs bq gv ev A c E w N [] ⟨loc, [c0, c1, c2]⟩ last (.returned (.tuple #[.slice none 0 0, .bool (goodM p ⟨loc, [c0, c1, c2]⟩)])) w5) := Lib.hid (by
      intro w5 hB5
      have hR : srR p E [] ⟨loc, [c0, c1, c2]⟩ last = if goodM p ⟨loc, [c0, c1, c2]⟩ then some [] else none := by
        unfold srR; simp only [searchM]
      refine ⟨_, m, N, by rw [hR]; cases goodM p ⟨loc, [c0, c1, c2]⟩ <;> rfl, hT.bel' hB5, grs_bel hB5, by omega, ?_⟩
      rw [hR]
      have : (if goodM p ⟨loc, [c0, c1, c2]⟩ = true then some ([] : List Int) else none).getD [] = [] := by split <;> rfl
      rw [this]
      exact World.ownsRow_nil _ _ _ _)
    have hje : ((j : Int) == (w.length : Int)) = true := by rw [hjl]; exact beq_self_eq_true _
    clear hT hl hc hd hjl
    obtain ⟨A1, k1, rfl, _⟩ := H.prop.g.form
    obtain ⟨A2, k2, rfl, _⟩ := H.prop.e.form
    have HGG : Hid (∀ W', Bel W W' → Calls Try.prog 39 #[.agg #[.int .i64 p.evs, .int .i64 p.clks, .int .i64 p.ini, .slice A1 p.good.length k1, .slice A2 p.edges.length k2], .agg #[.int .i64 loc, .int .i64 c0, .int .i64 c1, .int .i64 c2]] W' fun e w' => e = .returned (.bool (goodM p ⟨loc, [c0, c1, c2]⟩)) ∧ Bel W' w') := Lib.hid HG.out
    clear HG
    go_enter Try.func31, Try.ntmps31
    go_upto_region 1 with (fail)
    generalize hW : World.alloc W _ = W1 at *
    have rb : RowAt W1 W.heap.size 81 [.int .i64 j, .int .i64 loc, .int .i64 c0, .int .i64 c1, .int .i64 c2, .int .i64 last] := by rw [← hW]; exact RowAt.new _ _ _
    have hB1 : Bel W W1 := by rw [← hW]; exact Bel.refl.alloc _
    clear hW
    have s0 := rb.cell (i := 0) rfl
    have s1 := rb.cell (i := 1) rfl
    have s2 := rb.cell (i := 2) rfl
    have s3 := rb.cell (i := 3) rfl
    have s4 := rb.cell (i := 4) rfl
    have s5 := rb.cell (i := 5) rfl
    have sz := rb.lt
    have hR1 := HT.out.row.bel hB1
    have r0 := hR1.cell (i := 0) rfl
    have r1 := hR1.cell (i := 1) rfl
    have r2 := hR1.cell (i := 2) rfl
    have r3 := hR1.cell (i := 3) rfl
    have r4 := hR1.cell (i := 4) rfl
    have r5 := hR1.cell (i := 5) rfl
    have rz := hR1.lt
    have HB1 := Lib.hid hB1
    clear rb hR1 hB1
    generalize W.heap.size = bh at *
    generalize goodM p ⟨loc, [c0, c1, c2]⟩ = gd at *
    (refine wp_region_ext (wb := W1) (by (repeat (first | exact Ext.bel _ | exact Bel.refl | refine Bel.alloc ?_ _ | refine Bel.drew ?_ | refine Bel.drewN ?_ _))) (by kernel_rfl) (by kernel_rfl) ?_; (repeat (any_goals (first | go_big_quiet_step (fail) | quiet_step (fail) | (refine wpQuiet_step (fun K hK => ?_); go_simp; split <;> (refine hK _ ?_; clear hK K))))); all_goals (refine wpQuiet_nil ?_; intro _ hw'; obtain ⟨y, hw''⟩ := hw'; subst hw''))
    go_upto_region 2 with (fail)
    (refine wp_region_ext (wb := W1) (by (repeat (first | exact Ext.bel _ | exact Bel.refl | refine Bel.alloc ?_ _ | refine Bel.drew ?_ | refine Bel.drewN ?_ _))) (by kernel_rfl) (by kernel_rfl) ?_; (repeat (any_goals (first | go_big_quiet_step ((go_at_call 39; with_reducible exact ext_call (HGG.out _ (HB1.out.trans (Ext.bel _))))) | quiet_step ((go_at_call 39; with_reducible exact ext_call (HGG.out _ (HB1.out.trans (Ext.bel _))))) | (refine wpQuiet_step (fun K hK => ?_); go_simp; split <;> (refine hK _ ?_; clear hK K))))); all_goals (refine wpQuiet_nil ?_; intro _ hw'; obtain ⟨y, hw''⟩ := hw'; subst hw''))
    go_wp2
    go_ret2
    exact HPO.out _ (HB1.out.trans y.bel)
  | cons s ss ih =>
    intro j loc c0 c1 c2 last W m N hd hj hT hl hc h0 hbd hN
    have hsl : ss.length + 1 + j = w.length := by
      have := congrArg List.length hd
      simp at this
      omega
    have hbL : last + 100 * ((ss.length : Int) + 1) ≤ 100000000 := by simp at hbd; omega
    clear hbd
    have HIH := Lib.hid ih
    clear ih
    have hjl : j < w.length := by
      rcases Nat.lt_or_ge j w.length with h | h
      · exact h
      · rw [List.drop_eq_nil_of_le h] at hd; cases hd
    have hM := most_bd H.hv
    have hjw := H.wl
    have hgl := H.hs.g
    have hE : E = (psAt w (w.length - 1)).at_ := H.eE (by omega)
    have hE1 := H.wok _ (ps_mem (l := w) (k := w.length - 1) (by omega))
    rw [← hE] at hE1
    have HEE := Lib.hid hE
    clear hE
    have hkv : ∀ v ∈ keyR ⟨loc, [c0, c1, c2]⟩ last j, i64 v := by
      intro v hv
      have hc0 := hc.2 c0 (by simp)
      have hc1 := hc.2 c1 (by simp)
      have hc2 := hc.2 c2 (by simp)
      have hl1 : -1 ≤ loc := hl.1
      have hl2 : loc < p.good.length := hl.2
      simp [keyR] at hv
      unfold i64
      rcases hv with rfl | rfl | rfl | rfl | rfl | rfl <;> omega
    have hkl : keyOf Try.prog 81 (.agg #[.int .i64 j, .int .i64 loc, .int .i64 c0, .int .i64 c1, .int .i64 c2, .int .i64 last]) = some (klit 81 (keyR ⟨loc, [c0, c1, c2]⟩ last j)) := ikey_rs.of (ns := keyR ⟨loc, [c0, c1, c2]⟩ last j) rfl hkv
    have hki := ikey_rs.isKey (ns := keyR ⟨loc, [c0, c1, c2]⟩ last j) rfl hkv
    have HLK : Hid (∀ W', Bel W W' → (Instr.lookup 75 (.map (some bq)) (.agg #[.int .i64 j, .int .i64 loc, .int .i64 c0, .int .i64 c1, .int .i64 c2, .int .i64 last]) false).run Try.prog W' = .ok (.bool (m (klit 81 (keyR ⟨loc, [c0, c1, c2]⟩ last j)))) W') :=
      Lib.hid (fun W' hB => (hT.mp.bel hB).look ikey_rs.key Try.underlying75 Try.underlying4 (rfl : (zeroValue 4).run Try.prog W' = .ok (.bool false) W') hkl hki)
    have HKL := Lib.hid hkl
    have HKI := Lib.hid hki
    have HKV := Lib.hid hkv
    generalize hkk : klit 81 (keyR ⟨loc, [c0, c1, c2]⟩ last j) = kk at *
    have HKK := Lib.hid hkk
    have HT := Lib.hid hT
    have HC := Lib.hid hc
    have HL := Lib.hid hl
    have HM := Lib.hid hM
    have HD := Lib.hid hd
    have HE1 := Lib.hid hE1
    clear hkk hkl hki hkv hT hc hl hM hd hE1
    obtain ⟨A1, k1, rfl, _⟩ := H.prop.g.form
    obtain ⟨A2, k2, rfl, _⟩ := H.prop.e.form
    have hje : ((j : Int) == (w.length : Int)) = false := by simp; omega
    go_enter Try.func31, Try.ntmps31
    go_upto_region 1 with (fail)
    generalize hW : World.alloc W _ = W1 at *
    have rb : RowAt W1 W.heap.size 81 [.int .i64 j, .int .i64 loc, .int .i64 c0, .int .i64 c1, .int .i64 c2, .int .i64 last] := by rw [← hW]; exact RowAt.new _ _ _
    obtain ⟨x1, rfl⟩ : ∃ y : Ext W, W1 = y.w := ext_of (by rw [← hW]; exact Bel.refl.alloc _)
    clear hW
    have HRB := Lib.hid rb
    have s0 := rb.cell (i := 0) rfl
    have s1 := rb.cell (i := 1) rfl
    have s2 := rb.cell (i := 2) rfl
    have s3 := rb.cell (i := 3) rfl
    have s4 := rb.cell (i := 4) rfl
    have s5 := rb.cell (i := 5) rfl
    have sz := rb.lt
    have hR1 := HT.out.row.bel x1.bel
    have r5 := hR1.cell (i := 5) rfl
    have rz := hR1.lt
    have r6 := hR1.cell (i := 6) rfl
    have hbs : W.heap.size ≤ W.heap.size := Nat.le_refl _
    generalize hbse : W.heap.size = bh at *
    clear rb hR1
    (refine wp_region_ext (wb := x1.w) (by (repeat (first | exact Ext.bel _ | exact Bel.refl | refine Bel.alloc ?_ _ | refine Bel.drew ?_ | refine Bel.drewN ?_ _))) (by kernel_rfl) (by kernel_rfl) ?_; (repeat (any_goals (first | go_big_quiet_step (fail) | quiet_step (fail) | (refine wpQuiet_step (fun K hK => ?_); go_simp; split <;> (refine hK _ ?_; clear hK K))))); all_goals (refine wpQuiet_nil ?_; intro _ hw'; obtain ⟨y, hw''⟩ := hw'; subst hw''))
    have HB2 := Lib.hid (x1.bel.trans y.bel)
    have HRB2 := Lib.hid (HRB.out.bel y.bel)
    clear HRB s0 s1 s2 s3 s4 s5 sz r5 r6 rz hje
    generalize y.w = W2 at *
    clear y x1
    have HT2 := Lib.hid (HT.out.bel' HB2.out)
    have s0 := HRB2.out.cell (i := 0) rfl
    have s1 := HRB2.out.cell (i := 1) rfl
    have s2 := HRB2.out.cell (i := 2) rfl
    have s3 := HRB2.out.cell (i := 3) rfl
    have s4 := HRB2.out.cell (i := 4) rfl
    have s5 := HRB2.out.cell (i := 5) rfl
    have sz := HRB2.out.lt
    have r5 := HT2.out.row.cell (i := 5) rfl
    have rz := HT2.out.row.lt
    have r6 := HT2.out.row.cell (i := 6) rfl
    by_cases hloc : loc < 0
    · have hld : decide (loc < 0) = true := decide_eq_true hloc
      have HPO : Hid (∀ W', Bel W2 W' → RtPost ws W p bs bq (.slice A1 p.good.length k1) (.slice A2 p.edges.length k2) A c E w N (s :: ss) ⟨loc, [c0, c1, c2]⟩ last (.returned (.tuple #[.slice none 0 0, .bool false])) W') := Lib.hid (fun W' hB => by
        refine ⟨.slice none 0 0, m, N, by rw [sr_negR hloc]; rfl, HT2.out.bel' hB, grs_bel (HB2.out.trans hB), by omega, ?_⟩
        rw [sr_negR hloc]; exact World.ownsRow_nil _ _ _ _)
      clear HLK
      go_upto_region 3 with (fail)
      (refine wp_region_ext (wb := W2) (by (repeat (first | exact Ext.bel _ | exact Bel.refl | refine Bel.alloc ?_ _ | refine Bel.drew ?_ | refine Bel.drewN ?_ _))) (by kernel_rfl) (by kernel_rfl) ?_; (repeat (any_goals (first | go_big_quiet_step (fail) | quiet_step (fail) | (refine wpQuiet_step (fun K hK => ?_); go_simp; split <;> (refine hK _ ?_; clear hK K))))); all_goals (refine wpQuiet_nil ?_; intro _ hw'; obtain ⟨y, hw''⟩ := hw'; subst hw''))
      go_wp2
      go_ret2
      exact HPO.out _ y.bel
    have hld : decide (loc < 0) = false := decide_eq_false hloc
    have hlk : ∀ z : Ext W2, _ := fun z => HLK.out z.w (HB2.out.trans z.bel)
    clear HLK
    cases hmk : m kk
    case true =>
      rw [hmk] at hlk
      have HPO : Hid (∀ W', Bel W2 W' → RtPost ws W p bs bq (.slice A1 p.good.length k1) (.slice A2 p.edges.length k2) A c E w N (s :: ss) ⟨loc, [c0, c1, c2]⟩ last (.returned (.tuple #[.slice none 0 0, .bool false])) W') := Lib.hid (fun W' hB => by
        have hn : srR p E (s :: ss) ⟨loc, [c0, c1, c2]⟩ last = none := by
          have := HT2.out.ok ⟨loc, [c0, c1, c2]⟩ last j rfl HKV.out (by rw [HKK.out]; exact hmk)
          rw [HD.out] at this
          exact this
        refine ⟨.slice none 0 0, m, N, by rw [hn]; rfl, HT2.out.bel' hB, grs_bel (HB2.out.trans hB), by omega, ?_⟩
        rw [hn]; exact World.ownsRow_nil _ _ _ _)
      clear hmk
      go_upto_region 3 with (fail)
      (refine wp_region_ext (wb := W2) (by (repeat (first | exact Ext.bel _ | exact Bel.refl | refine Bel.alloc ?_ _ | refine Bel.drew ?_ | refine Bel.drewN ?_ _))) (by kernel_rfl) (by kernel_rfl) ?_; (repeat (any_goals (first | go_big_quiet_step (fail) | quiet_step (fail) | (refine wpQuiet_step (fun K hK => ?_); go_simp; split <;> (refine hK _ ?_; clear hK K))))); all_goals (refine wpQuiet_nil ?_; intro _ hw'; obtain ⟨y, hw''⟩ := hw'; subst hw''))
      go_wp2
      go_ret2
      exact HPO.out _ y.bel
    rw [hmk] at hlk
    go_upto_region 3 with (fail)
    (refine wp_region_ext (wb := W2) (by (repeat (first | exact Ext.bel _ | exact Bel.refl | refine Bel.alloc ?_ _ | refine Bel.drew ?_ | refine Bel.drewN ?_ _))) (by kernel_rfl) (by kernel_rfl) ?_; (repeat (any_goals (first | go_big_quiet_step (fail) | quiet_step (fail) | (refine wpQuiet_step (fun K hK => ?_); go_simp; split <;> (refine hK _ ?_; clear hK K))))); all_goals (refine wpQuiet_nil ?_; intro _ hw'; obtain ⟨y, hw''⟩ := hw'; subst hw''))
    have HB3 := Lib.hid (HB2.out.trans y.bel)
    have HRB3 := Lib.hid (HRB2.out.bel y.bel)
    have HT3 := Lib.hid (HT2.out.bel' y.bel)
    clear HRB2 HB2 HT2 s0 s1 s2 s3 s4 s5 sz r5 r6 rz hlk hld
    generalize y.w = W3 at *
    clear y W2
    have hsj : psAt w j = s ∧ w.drop (j + 1) = ss := by
      have := HD.out
      rw [ps_drop hjl] at this
      injection this with h1 h2
      exact ⟨h1, h2⟩
    have hso := H.wok (psAt w j) (ps_mem hjl)
    obtain ⟨b, off, rfl, hb, hA⟩ := H.wst.at_ (by omega)
    obtain ⟨a0, a1⟩ := hA j hjl
    obtain ⟨e0, _⟩ := hA (w.length - 1) (by omega)
    rw [hsj.1] at a0 a1 hso
    rw [← HEE.out] at e0
    have HA1 := Lib.hid a1
    have HE0 := Lib.hid e0
    have HSS := Lib.hid hsj.2
    have hjL : (j : Int) < (w.length : Int) := by omega
    have HBW3 : Hid (Bel ws W3) := Lib.hid HT3.out.bel
    have a0 := (HBW3.out.cells _ _ hb).trans a0
    have az := Nat.lt_of_lt_of_le hb HBW3.out.le
    have s0 := HRB3.out.cell (i := 0) rfl
    have s5 := HRB3.out.cell (i := 5) rfl
    have sz := HRB3.out.lt
    have r5 := HT3.out.row.cell (i := 5) rfl
    have rz := HT3.out.row.lt
    clear hsj hA a1 e0
    go_upto_region 5 with (fail)
    (refine wp_region_ext (wb := W3) (by (repeat (first | exact Ext.bel _ | exact Bel.refl | refine Bel.alloc ?_ _ | refine Bel.drew ?_ | refine Bel.drewN ?_ _))) (by kernel_rfl) (by kernel_rfl) ?_; (repeat (any_goals (first | go_big_quiet_step (fail) | quiet_step (fail) | (refine wpQuiet_step (fun K hK => ?_); go_simp; split <;> (refine hK _ ?_; clear hK K))))); all_goals (refine wpQuiet_nil ?_; intro _ hw'; obtain ⟨y, hw''⟩ := hw'; subst hw''))
    rw [show (if last < s.at_ then s.at_ else last) = mx last s.at_ from rfl]
    have hlst1 := mx_l last s.at_
    have hlst2 : mx last s.at_ ≤ last ∨ mx last s.at_ = s.at_ := (mx_or last s.at_).imp (fun h => by omega) id
    generalize hlst : mx last s.at_ = lst at *
    have HLST := Lib.hid hlst
    have HB4 := Lib.hid (HB3.out.trans y.bel)
    have HRB4 := Lib.hid (HRB3.out.bel y.bel)
    have HT4 := Lib.hid (HT3.out.bel' y.bel)
    clear HRB3 HB3 HT3 s0 s5 sz r5 rz a0 az HBW3
    generalize y.w = W4 at *
    clear y W3
    have hmx : (if lst < E then E else lst) = mx lst E := rfl
    have hmx1 := mx_l lst E
    have hmx2 := mx_or lst E
    have hw0 : IntKind.i64.wrap ((w.length : Int) - 1) = ((w.length - 1 : Nat) : Int) := by
      rw [show (w.length : Int) - 1 = ((w.length - 1 : Nat) : Int) by omega]
      exact IntWalk.i64_in _ (by omega)
    have hlu : lst ≤ 100000000 - 100 * ((ss.length : Int) + 1) ∨ lst ≤ 1000000 := by rcases hlst2 with h | h <;> omega
    have hM0 := HM.out.1
    have hM1 := HM.out.2.1
    have hE1 := HE1.out
    have hw1 : IntKind.i64.wrap ((if lst < E then E else lst) + mostM p) = (if lst < E then E else lst) + mostM p := IntWalk.i64_in _ (by rw [hmx]; rcases hmx2 with h | h <;> omega)
    have hw2 : IntKind.i64.wrap ((if lst < E then E else lst) + mostM p + 1) = (if lst < E then E else lst) + mostM p + 1 := IntWalk.i64_in _ (by rw [hmx]; rcases hmx2 with h | h <;> omega)
    have HWL1 : Hid (((w.length - 1 : Nat) : Int) < (w.length : Int)) := Lib.hid (by omega)
    have hwl1 := HWL1.out
    have HGR := Lib.hid (fun W' (hW : Bel W4 W') => rgreatest_any p _ _ W' (H.prop.bel (HT4.out.bel.trans hW)) H.hs)
    have a0 := (HT4.out.bel.cells _ _ hb).trans HE0.out
    have az := Nat.lt_of_lt_of_le hb HT4.out.bel.le
    have r0 := HT4.out.row.cell (i := 0) rfl
    have r1 := HT4.out.row.cell (i := 1) rfl
    have r2 := HT4.out.row.cell (i := 2) rfl
    have r3 := HT4.out.row.cell (i := 3) rfl
    have r4 := HT4.out.row.cell (i := 4) rfl
    have r5 := HT4.out.row.cell (i := 5) rfl
    have rz := HT4.out.row.lt
    generalize hq : w.length - 1 = q at *
    have HQ := Lib.hid hq
    clear hq
    go_upto_region 6 with (fail)
    (refine wp_region_ext (wb := W4) (by (repeat (first | exact Ext.bel _ | exact Bel.refl | refine Bel.alloc ?_ _ | refine Bel.drew ?_ | refine Bel.drewN ?_ _))) (by kernel_rfl) (by kernel_rfl) ?_; (repeat (any_goals (first | go_big_quiet_step ((go_at_call 46; with_reducible exact ext_call (HGR.out _ (Ext.bel _)))) | quiet_step ((go_at_call 46; with_reducible exact ext_call (HGR.out _ (Ext.bel _)))) | (refine wpQuiet_step (fun K hK => ?_); go_simp; split <;> (refine hK _ ?_; clear hK K))))); all_goals (refine wpQuiet_nil ?_; intro _ hw'; obtain ⟨y, hw''⟩ := hw'; subst hw''))
    have HB5 := Lib.hid (HB4.out.trans y.bel)
    have HRB5 := Lib.hid (HRB4.out.bel y.bel)
    have HT5 := Lib.hid (HT4.out.bel' y.bel)
    clear HRB4 HB4 HT4 r0 r1 r2 r3 r4 r5 rz a0 az HGR hwl1 hw0 hw1 hw2 hmx
    generalize y.w = W5 at *
    clear y W4
    obtain ⟨k, hk⟩ : ∃ k, k = spanT (mostM p) E lst := ⟨_, rfl⟩
    have HK := Lib.hid hk
    have HKK2 : Hid (lst + (k : Int) = mx lst E + mostM p + 1 + 1) := Lib.hid (by rw [hk]; unfold spanT; omega)
    obtain ⟨f, hf⟩ : ∃ f : Int → Option (List Int), f = fun t => (srR p E ss (stepR p ⟨loc, [c0, c1, c2]⟩ (t - last) s.ev) t).map (t :: ·) := ⟨_, rfl⟩
    obtain ⟨pf, hpf⟩ : ∃ pf : Int → Nat, pf = fun t => putsM (stepR p) (mostM p) E ss (stepR p ⟨loc, [c0, c1, c2]⟩ (t - last) s.ev) t := ⟨_, rfl⟩
    have HF := Lib.hid hf
    have HPF := Lib.hid hpf
    have HR1 : Hid (srR p E (s :: ss) ⟨loc, [c0, c1, c2]⟩ last = firstT f lst k) := Lib.hid (by
      unfold srR; simp only [searchM]; rw [if_neg (by assumption), hf, hk, hlst]; rfl)
    have HR2 : Hid (putsM (stepR p) (mostM p) E (s :: ss) ⟨loc, [c0, c1, c2]⟩ last = 1 + putsT pf lst k) := Lib.hid (by
      simp only [putsM]; rw [if_neg (by assumption), hpf, hk, hlst])
    rw [HR2.out] at hN
    have HNN := Lib.hid hN
    have HLS : Hid (last ≤ lst ∧ (lst ≤ last ∨ lst = s.at_)) := Lib.hid ⟨hlst1, hlst2⟩
    have HMX : Hid (mx lst E ≤ lst ∨ mx lst E = E) := Lib.hid (hmx2.imp (fun h => by omega) id)
    have HLU := Lib.hid hlu
    have HBL := Lib.hid hbL
    have HSO := Lib.hid hso
    have hnq : bh ≠ bq := by have := HT.out.mp.lt; omega
    have hrs : bh ∉ [bq] := by simpa using hnq
    have hrow : ∃ en, en = mx lst E + mostM p + 1 := ⟨_, rfl⟩
    obtain ⟨en, hen⟩ := hrow
    rw [← hen]
    rw [← hen] at HKK2
    have HEN := Lib.hid hen
    clear hlst hk hf hpf hN hlst1 hlst2 hmx1 hmx2 hlu hbL hso hen hmk hbs hbse hM0 hM1 hE1
    go_wp2
    go_loopw [8] (fun st wr => ∃ (i : Nat) (m' : Lit → Bool) (N' : Nat), i ≤ k ∧ st = .int .i64 (lst + i) ∧ SrAt ws wr p bs bq (.slice A1 p.good.length k1) (.slice A2 p.edges.length k2) (some ⟨b, off, none⟩) c E w m' N' ∧ GrsOk W5 [bq] wr ∧ firstT f (lst + i) (k - i) = firstT f lst k ∧ N' + putsT pf (lst + i) (k - i) ≤ N + putsT pf lst k) (fun st _ => k - ((intOf st) - lst).toNat)
    case atStart => exact ⟨0, m, N, by omega, by simp, HT5.out, grs_refl _ _, by simp, by simp⟩
    case round =>
      obtain ⟨i, m', N', hi, rfl, T1, G1, hf1, hp1⟩ := hrel
      have HF1 := Lib.hid hf1
      have HP1 := Lib.hid hp1
      have HG1 := Lib.hid G1
      have HT1 := Lib.hid T1
      have HRX := Lib.hid (row_grs HRB5.out G1 hrs)
      clear hf1 hp1 G1 T1
      have hken := HKK2.out
      have hken2 := HEN.out
      have hlu := HLU.out
      have hls := HLS.out
      have hbl := HBL.out
      have hso := HSO.out
      have hmx := HMX.out
      have hE1 := HE1.out
      have hM0 := HM.out.1
      have hM1 := HM.out.2.1
      by_cases hik : i < k
      · have hco : decide (lst + (i : Int) ≤ en) = true := decide_eq_true (by omega)
        have HTB : Hid (0 ≤ lst + (i : Int) ∧ lst + (i : Int) + 100 * (ss.length : Int) ≤ 100000000) := Lib.hid (by omega)
        have HA3 : Hid (0 ≤ lst + (i : Int) - last ∧ lst + (i : Int) - last ≤ 1000000000) := Lib.hid (by omega)
        have hw3 : IntKind.i64.wrap (lst + (i : Int) - last) = lst + (i : Int) - last := IntWalk.i64_in _ (by omega)
        have hw4 : IntKind.i64.wrap ((j : Int) + 1) = (j : Int) + 1 := IntWalk.i64_in _ (by omega)
        have HW5 : Hid (IntKind.i64.wrap (lst + (i : Int) + 1) = lst + (i : Int) + 1) := Lib.hid (IntWalk.i64_in _ (by omega))
        clear hken2 hken hlu hls hbl hso hmx hE1 hM0 hM1
        have s0 := HRX.out.cell (i := 0) rfl
        have s1 := HRX.out.cell (i := 1) rfl
        have s2 := HRX.out.cell (i := 2) rfl
        have s3 := HRX.out.cell (i := 3) rfl
        have s4 := HRX.out.cell (i := 4) rfl
        have s5 := HRX.out.cell (i := 5) rfl
        have sz := HRX.out.lt
        have r0 := HT1.out.row.cell (i := 0) rfl
        have r1 := HT1.out.row.cell (i := 1) rfl
        have r2 := HT1.out.row.cell (i := 2) rfl
        have r3 := HT1.out.row.cell (i := 3) rfl
        have r4 := HT1.out.row.cell (i := 4) rfl
        have r5 := HT1.out.row.cell (i := 5) rfl
        have rz := HT1.out.row.lt
        have a1 := (HT1.out.bel.cells _ _ hb).trans HA1.out
        have az := Nat.lt_of_lt_of_le hb HT1.out.bel.le
        have hnk := stepR_cl (p := p) H.hv (x := ⟨loc, [c0, c1, c2]⟩) (ev := s.ev) HC.out HA3.out.1
        have hnl := step_loc H.hv (x := ⟨loc, [c0, c1, c2]⟩) HL.out (lst + (i : Int) - last) s.ev
        have HST := Lib.hid (fun W' (hW : Bel wr W') => rstep_any p p.clks.toNat _ _ ⟨loc, [c0, c1, c2]⟩ (lst + (i : Int) - last) s.ev W' H.hv.cn H.hv.n3 (H.prop.bel (HT1.out.bel.trans hW)) H.hs H.hv.ed HC.out HA3.out.1 HA3.out.2)
        have hfv : f (lst + (i : Int)) = (srR p E ss (step p.clks.toNat p.edges ⟨loc, [c0, c1, c2]⟩ (lst + (i : Int) - last) s.ev) (lst + (i : Int))).map ((lst + (i : Int)) :: ·) := by rw [HF.out]; rfl
        have hpv : pf (lst + (i : Int)) = putsM (stepR p) (mostM p) E ss (step p.clks.toNat p.edges ⟨loc, [c0, c1, c2]⟩ (lst + (i : Int) - last) s.ev) (lst + (i : Int)) := by rw [HPF.out]; rfl
        generalize step p.clks.toNat p.edges ⟨loc, [c0, c1, c2]⟩ (lst + (i : Int) - last) s.ev = nx at *
        obtain ⟨nl, ncl⟩ := nx
        obtain ⟨d0, d1, d2, rfl⟩ : ∃ d0 d1 d2, ncl = [d0, d1, d2] := by
          match ncl, hnk.1 with
          | [x, y, z], _ => exact ⟨x, y, z, rfl⟩
        have HSTP : Hid (∀ W', Bel wr W' → Calls Try.prog 37 #[.agg #[.int .i64 p.evs, .int .i64 p.clks, .int .i64 p.ini, .slice A1 p.good.length k1, .slice A2 p.edges.length k2], .agg #[.int .i64 loc, .int .i64 c0, .int .i64 c1, .int .i64 c2], .int .i64 (lst + (i : Int) - last), .int .i64 s.ev] W' fun en w' => en = .returned (.agg #[.int .i64 nl, .int .i64 d0, .int .i64 d1, .int .i64 d2]) ∧ Bel W' w') := Lib.hid HST.out
        have HFV := Lib.hid hfv
        have HPV := Lib.hid hpv
        have HNK := Lib.hid hnk
        have HNL := Lib.hid hnl
        clear hfv hpv hnk hnl HST
        generalize hti : lst + (i : Int) = ti at *
        have HTI := Lib.hid hti
        clear hti
        go_upto_region 10 with (fail)
        go_cut [9] from 79 to 103 (fun s9 wx => ∃ (q : Nat) (z : Ext wr), s9 = .pointer (some ⟨q, 0, none⟩) ∧ wx = z.w ∧ RowAt z.w q 81 [.int .i64 ((j : Int) + 1), .int .i64 nl, .int .i64 d0, .int .i64 d1, .int .i64 d2, .int .i64 ti])
        case first =>
          (refine wp_region_E 26 none (by kernel_rfl) ?_; refine anyE_takes [0, 1, 2, 3, 4, 5, 6, 7, 8, 9, 10, 11, 12, 13, 14, 15, 16, 17, 18, 19, 20, 21, 23] (fun _ _ _ _ _ h => h) ⟨⟨_, gro_drew (gro_refl _)⟩, rfl⟩ (by kernel_rfl) (by rfl) ?_; simp only [opsOf, List.filterMap_cons, List.filterMap_nil, List.getElem?_toArray, List.getElem?_cons_succ, List.getElem?_cons_zero, List.foldl_cons, List.foldl_nil]; (repeat (any_goals (first | go_big_quiet_step (fail) | quiet_step (fail)))); refine wpQuiet_nil ?_)
          have G0 : Hid (wr.grownBy wr.drew none) := Lib.hid (gro_drew (gro_refl _))
          clear s0 s1 s2 s3 s4 s5 sz r0 r1 r2 r3 r4 r5 rz a1 az hco
          generalize wr.drew = wc at *
          refine anyE_two 22 25 _ _ (by kernel_rfl) (by rfl) (by rfl) ?_ ?_
          · intro K hK
            rw [if_pos (by rfl)]
            go_simp
            refine (HSTP.out wc (gro_bel G0.out)).mono ?_
            rintro _ w4 ⟨rfl, hB⟩
            have G1 : Hid (wr.grownBy w4 none) := Lib.hid (gro_then G0.out hB)
            refine hK _ _ (fun _ => ⟨⟨_, G1.out⟩, rfl⟩) ?_
            clear hK K hB
            (refine anyE_takes [24] (fun _ _ _ _ _ h => h) ⟨⟨_, G1.out⟩, rfl⟩ (by kernel_rfl) (by rfl) ?_; simp only [opsOf, List.filterMap_cons, List.filterMap_nil, List.getElem?_toArray, List.getElem?_cons_succ, List.getElem?_cons_zero, List.foldl_cons, List.foldl_nil]; (repeat (any_goals (first | go_big_quiet_step (fail) | quiet_step (fail)))); refine wpQuiet_nil ?_)
            (refine anyE_one 25 _ (by kernel_rfl) (by rfl) (fun K hK => ?_))
            go_simp
            refine hK _ _ (fun _ => ⟨⟨_, gro_alloc G1.out _⟩, rfl⟩) ?_
            clear hK K
            have HR := Lib.hid (RowAt.new w4 81 [.int .i64 0, .int .i64 0, .int .i64 0, .int .i64 0, .int .i64 0, .int .i64 0])
            have HX := Lib.hid (gro_bel (gro_alloc G1.out (.cells #[.int .i64 0, .int .i64 0, .int .i64 0, .int .i64 0, .int .i64 0, .int .i64 0] 81)))
            have G2 := Lib.hid (gro_alloc G1.out (.cells #[.int .i64 0, .int .i64 0, .int .i64 0, .int .i64 0, .int .i64 0, .int .i64 0] 81))
            have hq0 : wr.heap.size ≤ w4.heap.size := G1.out.size
            generalize World.alloc w4 _ = w5 at *
            generalize w4.heap.size = q at *
            have c0 := HR.out.cell (i := 0) rfl
            have c1 := HR.out.cell (i := 1) rfl
            have c2 := HR.out.cell (i := 2) rfl
            have c3 := HR.out.cell (i := 3) rfl
            have c4 := HR.out.cell (i := 4) rfl
            have c5 := HR.out.cell (i := 5) rfl
            have f0 := HR.out.frozen 0
            have f1 := HR.out.frozen 1
            have f2 := HR.out.frozen 2
            have f3 := HR.out.frozen 3
            have f4 := HR.out.frozen 4
            have f5 := HR.out.frozen 5
            have kz := HR.out.lt
            (refine anyE_tail 26 (by decide) (by rfl) (by kernel_rfl) ?_; simp only [List.drop_succ_cons, List.drop_zero])
            go_wp2
            refine NoPanic.normal ?_
            go_wp2
            go_meet
            case rel => exact ⟨q, ⟨_, (((((HX.out.set (p := ⟨q, 0, none⟩) hq0 _).set (p := ⟨q, 1, none⟩) hq0 _).set (p := ⟨q, 2, none⟩) hq0 _).set (p := ⟨q, 3, none⟩) hq0 _).set (p := ⟨q, 4, none⟩) hq0 _).set (p := ⟨q, 5, none⟩) hq0 _⟩, rfl, rfl, (((((HR.out.set 0 _).set 1 _).set 2 _).set 3 _).set 4 _).set 5 _⟩
          · intro K hK
            go_simp
            refine hK _ _ (fun _ => ⟨⟨_, gro_alloc G0.out _⟩, rfl⟩) ?_
            clear hK K
            have HR := Lib.hid (RowAt.new wc 81 [.int .i64 0, .int .i64 0, .int .i64 0, .int .i64 0, .int .i64 0, .int .i64 0])
            have HX := Lib.hid (gro_bel (gro_alloc G0.out (.cells #[.int .i64 0, .int .i64 0, .int .i64 0, .int .i64 0, .int .i64 0, .int .i64 0] 81)))
            have G2 := Lib.hid (gro_alloc G0.out (.cells #[.int .i64 0, .int .i64 0, .int .i64 0, .int .i64 0, .int .i64 0, .int .i64 0] 81))
            have hq0 : wr.heap.size ≤ wc.heap.size := G0.out.size
            generalize World.alloc wc _ = w5 at *
            generalize wc.heap.size = q at *
            (refine anyE_one 22 _ (by kernel_rfl) (by rfl) (fun K hK => ?_))
            rw [if_pos (by rfl)]
            go_simp
            refine (HSTP.out w5 HX.out).mono ?_
            rintro _ w6 ⟨rfl, hB⟩
            have HR2 := Lib.hid (HR.out.bel hB)
            have HX2 := Lib.hid (HX.out.trans hB)
            have G3 := Lib.hid (gro_then G2.out hB)
            refine hK _ _ (fun _ => ⟨⟨_, G3.out⟩, rfl⟩) ?_
            clear hK K hB HR HX G2 G0
            (refine anyE_takes [24] (fun _ _ _ _ _ h => h) ⟨⟨_, G3.out⟩, rfl⟩ (by kernel_rfl) (by rfl) ?_; simp only [opsOf, List.filterMap_cons, List.filterMap_nil, List.getElem?_toArray, List.getElem?_cons_succ, List.getElem?_cons_zero, List.foldl_cons, List.foldl_nil]; (repeat (any_goals (first | go_big_quiet_step (fail) | quiet_step (fail)))); refine wpQuiet_nil ?_)
            have c0 := HR2.out.cell (i := 0) rfl
            have c1 := HR2.out.cell (i := 1) rfl
            have c2 := HR2.out.cell (i := 2) rfl
            have c3 := HR2.out.cell (i := 3) rfl
            have c4 := HR2.out.cell (i := 4) rfl
            have c5 := HR2.out.cell (i := 5) rfl
            have f0 := HR2.out.frozen 0
            have f1 := HR2.out.frozen 1
            have f2 := HR2.out.frozen 2
            have f3 := HR2.out.frozen 3
            have f4 := HR2.out.frozen 4
            have f5 := HR2.out.frozen 5
            have kz := HR2.out.lt
            (refine anyE_tail 26 (by decide) (by rfl) (by kernel_rfl) ?_; simp only [List.drop_succ_cons, List.drop_zero])
            go_wp2
            refine NoPanic.normal ?_
            go_wp2
            go_meet
            case rel => exact ⟨q, ⟨_, (((((HX2.out.set (p := ⟨q, 0, none⟩) hq0 _).set (p := ⟨q, 1, none⟩) hq0 _).set (p := ⟨q, 2, none⟩) hq0 _).set (p := ⟨q, 3, none⟩) hq0 _).set (p := ⟨q, 4, none⟩) hq0 _).set (p := ⟨q, 5, none⟩) hq0 _⟩, rfl, rfl, (((((HR2.out.set 0 _).set 1 _).set 2 _).set 3 _).set 4 _).set 5 _⟩
        case rest =>
          obtain ⟨q, z, rfl, hwx, hrq⟩ := hcut
          subst hwx
          clear s0 s1 s2 s3 s4 s5 sz r0 r1 r2 r3 r4 r5 rz a1 az hco hw3 hw4
          have z0 := hrq.cell (i := 0) rfl
          have z1 := hrq.cell (i := 1) rfl
          have z2 := hrq.cell (i := 2) rfl
          have z3 := hrq.cell (i := 3) rfl
          have z4 := hrq.cell (i := 4) rfl
          have z5 := hrq.cell (i := 5) rfl
          have zz := hrq.lt
          have hpc := putsT_cons (f := pf) (t := ti) (k := k - i) (by omega)
          rw [HPV.out] at hpc
          have hnu : N' + putsM (stepR p) (mostM p) E ss ⟨nl, [d0, d1, d2]⟩ ti + 1 < 9223372036854775807 := by
            have := HNN.out
            have := HP1.out
            omega
          have HPC := Lib.hid hpc
          have HI := Lib.hid (HIH.out (j + 1) nl d0 d1 d2 ti z.w m' N' HSS.out (by omega) (HT1.out.bel' z.bel) HNL.out HNK.out HTB.out.1 HTB.out.2 hnu)
          have HG3 := Lib.hid (grs_trans HG1.out (grs_bel z.bel))
          clear hpc hnu HSTP hrq
          go_wp2_with fail
          refine HI.out.mono ?_
          rintro _ w3 ⟨v3, m3, N3, rfl, T3, G3, hN3, ho3⟩
          have HT3 := Lib.hid T3
          have HG4 := Lib.hid (grs_trans HG3.out G3)
          have HN3 := Lib.hid hN3
          clear T3 G3 hN3 HI HG3 z0 z1 z2 z3 z4 z5 zz
          have hw5 := HW5.out
          cases hsr : srR p E ss ⟨nl, [d0, d1, d2]⟩ ti with
          | none =>
            have HFN : Hid (f ti = none) := Lib.hid (by rw [HFV.out, hsr]; rfl)
            simp only [Option.isSome_none]
            clear hsr ho3
            go_wp2
            go_roundw
            case rel =>
              refine ⟨i + 1, m3, N3, by omega, by rw [← HTI.out]; go_num, HT3.out, HG4.out, ?_, ?_⟩
              · rw [← HF1.out, firstT_miss (by omega) HFN.out, show k - (i + 1) = k - i - 1 by omega, show lst + ((i + 1 : Nat) : Int) = ti + 1 by have := HTI.out; omega]
              · have h1 := HPC.out
                have h2 := HP1.out
                have h3 := HN3.out
                rw [show k - (i + 1) = k - i - 1 by omega, show lst + ((i + 1 : Nat) : Int) = ti + 1 by have := HTI.out; omega]
                omega
            case measure => have := HTI.out; simp [intOf]; omega
          | some l' =>
            rw [hsr] at ho3
            have HLN : Hid (l'.length = ss.length) := Lib.hid (search_len ss _ _ l' hsr)
            obtain ⟨A3, c3, rfl, _⟩ := own_slice ho3
            obtain ⟨v4, w4, hap, ho4, hB4⟩ := cons_row ti ho3 (by have := HLN.out; simp; omega)
            have HPO : Hid (RtPost ws W p bs bq (.slice A1 p.good.length k1) (.slice A2 p.edges.length k2) (some ⟨b, off, none⟩) c E w N (s :: ss) ⟨loc, [c0, c1, c2]⟩ last (.returned (.tuple #[v4, .bool true])) w4) := Lib.hid (by
              have hR : srR p E (s :: ss) ⟨loc, [c0, c1, c2]⟩ last = some (ti :: l') := by
                rw [HR1.out, ← HF1.out]
                exact firstT_hit (by omega) (by rw [HFV.out, hsr]; rfl)
              have hG : GrsOk W [bq] w4 := grs_trans (grs_trans (grs_bel HB5.out) HG4.out) (grs_bel hB4)
              refine ⟨v4, m3, N3, by rw [hR]; rfl, HT3.out.bel' hB4, hG, ?_, ?_⟩
              · have h1 := HPC.out
                have h2 := HP1.out
                have h3 := HN3.out
                have h4 := HR2.out
                omega
              · rw [hR]
                have := own_mono ho4 (B' := W.heap.size) ((grs_trans (grs_bel HB5.out) HG4.out).size)
                simpa [Nat.add_comm] using this)
            have HAP := Lib.hid hap
            simp only [Option.isSome_some]
            clear hsr ho3 hap ho4 hB4
            go_wp2_with (at_builtin; go_must (refine wpList_append_run rfl _ _ _ rfl _ _ _ rfl rfl HAP.out ?_))
            go_ret2
            exact HPO.out
      · obtain rfl : i = k := by omega
        have hco : decide (lst + (i : Int) ≤ en) = false := decide_eq_false (by omega)
        have HPO : Hid (∀ w5 w4 m4, Bel wr w5 → w5.grownBy w4 (some bq) → BSet w4 Try.prog 81 4 bq (N' + 1) m4 → (∀ x, x ≠ kk → m4 x = m' x) → RtPost ws W p bs bq (.slice A1 p.good.length k1) (.slice A2 p.edges.length k2) (some ⟨b, off, none⟩) c E w N (s :: ss) ⟨loc, [c0, c1, c2]⟩ last (.returned (.tuple #[.slice none 0 0, .bool false])) w4) := Lib.hid (by
          intro w5 w4 m4 hB5 hg4 hm4 hmo
          have hR : srR p E (s :: ss) ⟨loc, [c0, c1, c2]⟩ last = none := by
            rw [HR1.out, ← HF1.out, Nat.sub_self]; rfl
          refine ⟨.slice none 0 0, m4, N' + 1, by rw [hR]; rfl, (HT1.out.bel' hB5).put hg4 hm4 (HT1.out.ok.put rfl HKV.out (by rw [HD.out]; exact hR) (fun q hq => hmo q (by rw [← HKK.out]; exact hq))), grs_trans (grs_bel HB5.out) (grs_trans HG1.out (grs_trans (grs_bel hB5) ⟨hg4.os, hg4.tape, hg4.output, hg4.size, fun q hq hr => hg4.block q hq (fun e => hr (by injection e with e; simp [e]))⟩)), ?_, ?_⟩
          · have h4 := HR2.out
            have hp1 := HP1.out
            rw [Nat.sub_self] at hp1
            have : putsT pf (lst + (i : Int)) 0 = 0 := rfl
            omega
          · rw [hR]; exact World.ownsRow_nil _ _ _ _)
        have r6 := HT1.out.row.cell (i := 6) rfl
        have rz := HT1.out.row.lt
        have s0 := HRX.out.cell (i := 0) rfl
        have s1 := HRX.out.cell (i := 1) rfl
        have s2 := HRX.out.cell (i := 2) rfl
        have s3 := HRX.out.cell (i := 3) rfl
        have s4 := HRX.out.cell (i := 4) rfl
        have s5 := HRX.out.cell (i := 5) rfl
        have sz := HRX.out.lt
        have HNB : Hid (N' < Go.maxLen) := Lib.hid (by
          have hp1 := HP1.out
          have hN := HNN.out
          rw [Nat.sub_self] at hp1
          have : putsT pf (lst + (i : Int)) 0 = 0 := rfl
          unfold Go.maxLen
          omega)
        clear hken2 hken hlu hls hbl hso hmx hE1 hM0 hM1
        go_upto_region 14 with (fail)
        (refine wp_region_qtail 5 (wb := wr) (by (repeat (first | exact Ext.bel _ | exact Bel.refl | refine Bel.alloc ?_ _ | refine Bel.drew ?_ | refine Bel.drewN ?_ _))) (by kernel_rfl) (by kernel_rfl) ?_; simp only [List.take_succ_cons, List.take_zero, List.drop_succ_cons, List.drop_zero]; (repeat (any_goals (first | go_big_quiet_step (fail) | quiet_step (fail) | (refine wpQuiet_step (fun K hK => ?_); go_simp; split <;> (refine hK _ ?_; clear hK K))))); all_goals (refine wpQuiet_nil ?_; intro _ hw'; obtain ⟨y, hw''⟩ := hw'; subst hw''))
        obtain ⟨w4, m4, hup, hm4, hg4, _, hmo4⟩ := (HT1.out.bel' y.bel).mp.put ikey_rs.key Try.underlying75 Try.underlying4 HNB.out HKL.out HKI.out
        have HPO2 := Lib.hid (HPO.out y.w w4 m4 y.bel hg4 hm4 hmo4)
        clear hm4 hg4 hmo4 HPO
        go_wp2
        go_ret2
        exact HPO2.out
end Go.Proofs.Ythidbmeocifkcaa
