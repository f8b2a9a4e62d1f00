/- enforce: (*machine).step. -/
import Derived.Test.YthidbmeocifkcaaG20
import Derived.Test.YthidbmeocifkcaaZPstepr
import Derived.Test.YthidbmeocifkcaaG1
import Derived.Deep.CutRange
import Derived.WalkMore
namespace Go.Proofs.Ythidbmeocifkcaa
open Go.RowKit
theorem find3_f {M : Int} {cl : List Int} {x : PE} {xs : List PE} (h : open3 (spans3 M x.grd) cl 3 = false) : find3 M cl (x :: xs) = find3 M cl xs := by simp only [find3, h]; rfl
theorem find3_t {M : Int} {cl : List Int} {x : PE} {xs : List PE} (h : open3 (spans3 M x.grd) cl 3 = true) : find3 M cl (x :: xs) = some x := by simp only [find3, h]; rfl
theorem open3_le {sp : List (Int × Int)} {cl : List Int} {k : Nat} (hk : k < 3) (h : open3 sp cl (k + 1) = false) : open3 sp cl 3 = false := by
  rw [← Bool.not_eq_true] at h ⊢
  rw [open3_iff] at h ⊢
  exact fun h3 => h (fun i hi => h3 i (by omega))
set_option maxRecDepth 100000 in
set_option maxHeartbeats 16000000 in
theorem mstep_any (p : PP) (bm : Nat) (x : Pt) (a e : Int) (w : World) (hm : MachAt w bm p) (hM : 0 ≤ mostM p ∧ mostM p ≤ 30) (hv : ∀ y ∈ p.edges, ∀ c ∈ y.rst, 1 ≤ c ∧ c ≤ 3) (hlen : p.edges.length ≤ 1000000) (hrl : ∀ y ∈ p.edges, y.rst.length ≤ 1000000)
    (hx : Cl3 (mostM p) x.cl) (hl : i64 x.loc) (he : i64 e) (ha : 0 ≤ a) (ha2 : a ≤ 1000000000) :
    Calls Try.prog 36 #[.pointer (some ⟨bm, 0, none⟩), x.V, .int .i64 a, .int .i64 e] w fun en w' => en = .returned (step3 (mostM p) p.edges x a e).V ∧ Bel w w' := by
  obtain ⟨loc, cl⟩ := x
  obtain ⟨hM0, hM1⟩ := hM
  have HT1 := Lib.hid (tick3_ok (j := 3) hM0 hx ha)
  have hcl3 := hx.1
  have HX := Lib.hid hx
  dsimp only at HT1 hcl3 HX hl
  have hst : step3 (mostM p) p.edges ⟨loc, cl⟩ a e = match find3 (mostM p) (tick3 (mostM p) a cl 3) (movesOf p.edges loc e) with
    | some y => ⟨y.to, resetF (tick3 (mostM p) a cl 3) y.rst⟩
    | none => ⟨-1, [0, 0, 0]⟩ := rfl
  have HST := Lib.hid hst
  generalize step3 (mostM p) p.edges ⟨loc, cl⟩ a e = res at *
  obtain ⟨gv, bq, nq, m, hr, _, hq, hmv⟩ := hm.ex
  have hmv := hmv loc e hl he
  have hkl := ikey_mv.of (ns := [loc, e]) rfl (by intro q hq; simp at hq; rcases hq with rfl | rfl <;> assumption)
  have hki := ikey_mv.isKey (ns := [loc, e]) rfl (by intro q hq; simp at hq; rcases hq with rfl | rfl <;> assumption)
  have HLK : Hid (∀ y : Ext w, (Instr.lookup 90 (.map (some bq)) (.agg #[.int .i64 loc, .int .i64 e]) false).run Try.prog y.w = .ok (m (klit 100 [loc, e])) y.w) := Lib.hid (fun y =>
    (hq.bel y.bel).look ikey_mv.key Try.underlying90 (zero_moves _) hkl hki)
  obtain ⟨A1, k1, hmf, hk1⟩ := hmv.form
  have hmn : (movesOf p.edges loc e).length ≤ 1000000 := Nat.le_trans (List.length_filter_le _ _) hlen
  have hmem : ∀ y ∈ movesOf p.edges loc e, y ∈ p.edges := fun y hy => (List.mem_filter.mp hy).1
  have HMR : Hid (∀ y ∈ movesOf p.edges loc e, (∀ c ∈ y.rst, 1 ≤ c ∧ c ≤ 3) ∧ y.rst.length ≤ 1000000) := Lib.hid (fun y hy => ⟨hv y (hmem y hy), hrl y (hmem y hy)⟩)
  rw [hmf] at hmv HLK
  have HMV := Lib.hid hmv
  have HR := Lib.hid hr
  generalize movesOf p.edges loc e = ms at *
  generalize m (klit 100 [loc, e]) = mval at *
  generalize mostM p = M at *
  clear hmf hm hmv hkl hki hq hr hv hrl hmem hst hl he hlen
  obtain ⟨u0, u1, u2, rfl⟩ : ∃ u0 u1 u2, cl = [u0, u1, u2] := by
    match cl, hcl3 with
    | [x, y, z], _ => exact ⟨x, y, z, rfl⟩
  have HRES : Hid ((⟨loc, [u0, u1, u2]⟩ : Pt).V = .agg #[.int .i64 loc, .int .i64 u0, .int .i64 u1, .int .i64 u2]) := Lib.hid rfl
  rw [HRES.out]
  clear hx HRES
  go_enter Try.func36, Try.ntmps36
  go_upto_region 1 with (fail)
  have AR : RowAt ((w.alloc (.cells #[.int .i64 loc, .int .i64 u0, .int .i64 u1, .int .i64 u2] 59)).alloc (.cells #[.int .i64 0, .int .i64 0, .int .i64 0, .int .i64 0] 59)) w.heap.size 59 (ptL loc (tick3 M a [u0, u1, u2] 0)) :=
    (RowAt.new w 59 [.int .i64 loc, .int .i64 u0, .int .i64 u1, .int .i64 u2]).alloc _
  have BR : RowAt ((w.alloc (.cells #[.int .i64 loc, .int .i64 u0, .int .i64 u1, .int .i64 u2] 59)).alloc (.cells #[.int .i64 0, .int .i64 0, .int .i64 0, .int .i64 0] 59)) (w.heap.size + 1) 59 zero4 := by
    have := RowAt.new (w.alloc (.cells #[.int .i64 loc, .int .i64 u0, .int .i64 u1, .int .i64 u2] 59)) 59 zero4
    simpa [go_sem, zero4] using this
  generalize hW : World.alloc _ _ = W1 at *
  obtain ⟨x1, rfl⟩ : ∃ y : Ext w, W1 = y.w := ext_of (by rw [← hW]; exact (Bel.refl.alloc _).alloc _)
  clear hW
  obtain ⟨b0, hb0⟩ : ∃ b, b = w.heap.size := ⟨_, rfl⟩
  obtain ⟨b1, hb1⟩ : ∃ b, b = w.heap.size + 1 := ⟨_, rfl⟩
  have ob0 : Own w b0 := by unfold Own; omega
  have ob1 : Own w b1 := by unfold Own; omega
  have hb01 : b0 ≠ b1 := by omega
  rw [← hb0] at AR
  rw [← hb1] at BR
  rw [← hb1, ← hb0]
  clear hb0 hb1
  generalize hc0 : [u0, u1, u2] = cl at *
  clear hc0
  go_wp2
  go_step3
  go_wp2
  go_loopw [16] (fun si wr => ∃ (j : Nat) (z : Ext w), j ≤ 3 ∧ si = .int .i64 j ∧ wr = z.w ∧ RowAt z.w b0 59 (ptL loc (tick3 M a cl j)) ∧ RowAt z.w b1 59 zero4) (fun si _ => 3 - (intOf si).toNat)
  case atStart => exact ⟨0, x1, by omega, rfl, rfl, AR, BR⟩
  case round =>
    clear AR BR x1
    obtain ⟨j, x, hj, rfl, rfl, AR, BR⟩ := hrel
    by_cases hlt : j < 3
    · have hb := cl3_at HX.out hlt
      have c1 := AR.cell (ptL_s (loc := loc) (cl := tick3 M a cl j) (i := j) (by rw [tick3_len]; exact hlt))
      rw [tick3_at hlt, if_neg (by omega)] at c1
      have cz := AR.lt
      have m2 := (HR.out.bel x.bel).cell (i := 2) rfl
      have mz := (HR.out.bel x.bel).lt
      rw [Nat.add_comm] at c1
      have hjd : decide ((j : Int) < 3) = true := by simp; omega
      have hj3 : (j : Int) < 3 := by omega
      have HMN : Hid (mn (cl.getD j 0 + a) (M + 1) = if M + 1 < cl.getD j 0 + a then M + 1 else cl.getD j 0 + a) := Lib.hid rfl
      have hw1 : IntKind.i64.wrap (cl.getD j 0 + a) = cl.getD j 0 + a := IntWalk.i64_in _ (by omega)
      have hw2 : IntKind.i64.wrap (M + 1) = M + 1 := IntWalk.i64_in _ (by omega)
      have HTS := Lib.hid (tick3_succ (M := M) (a := a) (cl := cl) hlt)
      have HAR := Lib.hid AR
      have HBR := Lib.hid BR
      have HXB := Lib.hid x.bel
      generalize cl.getD j 0 = q at *
      generalize x.w = wx at *
      clear AR BR x
      go_upto_region 4 with (fail)
      (refine wp_region_qtail 15 (wb := wx) (by (repeat (first | exact Ext.bel _ | exact Bel.refl | refine Bel.alloc ?_ _ | refine Bel.drew ?_ | refine Bel.drewN ?_ _))) (by kernel_rfl) (by kernel_rfl) ?_; simp only [List.take_succ_cons, List.take_zero, List.drop_succ_cons, List.drop_zero]; (repeat (any_goals (first | go_big_quiet_step (fail) | quiet_step (fail) | (refine wpQuiet_step (fun K hK => ?_); go_simp; split <;> (refine hK _ ?_; clear hK K))))); all_goals (refine wpQuiet_nil ?_; intro _ hw'; obtain ⟨y, hw''⟩ := hw'; subst hw''))
      have HAR2 := Lib.hid (row_congr ((HAR.out.bel y.bel).set (1 + j) (.int .i64 (if M + 1 < q + a then M + 1 else q + a))) (by rw [Nat.add_comm, ptL_set, ← HMN.out, HTS.out]))
      have HBR2 := Lib.hid ((HBR.out.bel y.bel).far (a := ⟨b0, 1 + j, none⟩) (Ne.symm hb01) (.int .i64 (if M + 1 < q + a then M + 1 else q + a)))
      have HXB2 := Lib.hid ((HXB.out.trans y.bel).set (p := ⟨b0, 1 + j, none⟩) ob0 (.int .i64 (if M + 1 < q + a then M + 1 else q + a)))
      have f1 := (HAR.out.bel y.bel).frozen (1 + j)
      have fz := (HAR.out.bel y.bel).lt
      clear hw1 hw2 m2 mz
      go_wp2
      go_roundw
      case rel => exact ⟨j + 1, ⟨_, HXB2.out⟩, by omega, by go_num, rfl, HAR2.out, HBR2.out⟩
      case measure => simp [intOf]; omega
    · obtain rfl : j = 3 := by omega
      generalize tick3 M a cl 3 = tl at *
      obtain ⟨t0, t1, t2, rfl⟩ : ∃ t0 t1 t2, tl = [t0, t1, t2] := by
        match tl, HT1.out.1 with
        | [x, y, z], _ => exact ⟨x, y, z, rfl⟩
      have m1 := (HR.out.bel x.bel).cell (i := 1) rfl
      have mz := (HR.out.bel x.bel).lt
      have p0 := AR.cell (i := 0) rfl
      have pz := AR.lt
      have HAR := Lib.hid AR
      have HBR := Lib.hid BR
      have HLX := HLK.out
      clear AR BR
      go_wp2
      go_step3
      have hlk : ∀ y : Ext x.w, (Instr.lookup 90 (.map (some bq)) (.agg #[.int .i64 loc, .int .i64 e]) false).run Try.prog y.w = .ok (.slice A1 ms.length k1) y.w := fun y => HLX ⟨y.w, x.bel.trans y.bel⟩
      clear HLX
      go_upto_region 6 with (fail)
      (refine wp_region_ext (wb := x.w) (by (repeat (first | exact Ext.bel _ | exact Bel.refl | refine Bel.alloc ?_ _ | refine Bel.drew ?_ | refine Bel.drewN ?_ _))) (by kernel_rfl) (by kernel_rfl) ?_; (repeat (any_goals (first | go_big_quiet_step (fail) | quiet_step (fail) | (refine wpQuiet_step (fun K hK => ?_); go_simp; split <;> (refine hK _ ?_; clear hK K))))); all_goals (refine wpQuiet_nil ?_; intro _ hw'; obtain ⟨y, hw''⟩ := hw'; subst hw''))
      clear hlk m1 mz p0 pz
      obtain ⟨x2, hx2⟩ := ext_of (x.bel.trans y.bel)
      have HA2 := Lib.hid (HAR.out.bel y.bel)
      have HB2 := Lib.hid (HBR.out.bel y.bel)
      rw [hx2] at HA2 HB2 ⊢
      clear hx2 y HAR HBR x
      go_wp2
      go_loopw [45] (fun si wr => ∃ (i : Nat) (z : Ext w), i ≤ ms.length ∧ si = .int .i64 i ∧ wr = z.w ∧ RowAt z.w b0 59 (ptL loc [t0, t1, t2]) ∧ RowAt z.w b1 59 zero4 ∧ find3 M [t0, t1, t2] (ms.drop i) = find3 M [t0, t1, t2] ms) (fun si _ => ms.length - (intOf si).toNat)
      case atStart => exact ⟨0, x2, by omega, rfl, rfl, HA2.out, HB2.out, rfl⟩
      case round =>
        clear HA2 HB2 x2
        obtain ⟨i, x, hi, rfl, rfl, AR, BR, hd⟩ := hrel
        by_cases hli : i < ms.length
        · rw [pe_drop hli] at hd
          have hild : decide ((i : Int) < (ms.length : Int)) = true := by simp; omega
          have hiL : (i : Int) < (ms.length : Int) := by omega
          obtain ⟨b, off, rfl, hb, hA⟩ := HMV.out.at_ (by omega)
          obtain ⟨rv, ⟨c0, c1, c2, c3, c4, c5, c6, c7⟩, hrv⟩ := hA i hli
          obtain ⟨B2, m2, rfl, _⟩ := hrv.form
          have HRV := Lib.hid hrv
          have HMI := Lib.hid (HMR.out _ (pe_mem hli))
          have d0 := (x.bel.cells _ _ hb).trans c0
          have d1 := (x.bel.cells _ _ hb).trans c1
          have d2 := (x.bel.cells _ _ hb).trans c2
          have d3 := (x.bel.cells _ _ hb).trans c3
          have d4 := (x.bel.cells _ _ hb).trans c4
          have d5 := (x.bel.cells _ _ hb).trans c5
          have d6 := (x.bel.cells _ _ hb).trans c6
          have d7 := (x.bel.cells _ _ hb).trans c7
          have hbz := ext_lt x hb
          have HD := Lib.hid hd
          clear hA hrv hd c0 c1 c2 c3 c4 c5 c6 c7
          have hsl : (spans3 M (peAt ms i).grd).length = 3 := by unfold spans3; rw [spansF_len]; simp
          generalize hsp : spans3 M (peAt ms i).grd = sp at *
          have HSP := Lib.hid hsp
          clear hsp
          obtain ⟨⟨l0, h0⟩, ⟨l1, h1⟩, ⟨l2, h2⟩, rfl⟩ : ∃ s0 s1 s2, sp = [s0, s1, s2] := by
            match sp, hsl with
            | [x, y, z], _ => exact ⟨x, y, z, rfl⟩
          have d0 : x.w.cell? ⟨b, off + i * 8, none⟩ = some (.int .i64 l0) := d0
          have d1 : x.w.cell? ⟨b, off + i * 8 + 1, none⟩ = some (.int .i64 h0) := d1
          have d2 : x.w.cell? ⟨b, off + i * 8 + 2, none⟩ = some (.int .i64 l1) := d2
          have d3 : x.w.cell? ⟨b, off + i * 8 + 3, none⟩ = some (.int .i64 h1) := d3
          have d4 : x.w.cell? ⟨b, off + i * 8 + 4, none⟩ = some (.int .i64 l2) := d4
          have d5 : x.w.cell? ⟨b, off + i * 8 + 5, none⟩ = some (.int .i64 h2) := d5
          clear hsl
          go_upto_region 9 with (fail)
          generalize hW : World.alloc x.w _ = wd at *
          have hB : Bel x.w wd := by rw [← hW]; exact Bel.refl.alloc _
          have rb : RowAt wd x.w.heap.size 98 [.int .i64 l0, .int .i64 h0, .int .i64 l1, .int .i64 h1, .int .i64 l2, .int .i64 h2, .slice B2 (peAt ms i).rst.length m2, .int .i64 (PE.to (peAt ms i))] := by rw [← hW]; exact RowAt.new _ _ _
          clear hW d0 d1 d2 d3 d4 d5 d6 d7
          have HBD := Lib.hid (x.bel.trans hB)
          have HRB := Lib.hid rb
          have HA3 := Lib.hid (AR.bel hB)
          have HB3 := Lib.hid (BR.bel hB)
          have hne0 : x.w.heap.size ≠ b0 := by have := AR.lt; omega
          have hne1 : x.w.heap.size ≠ b1 := by have := BR.lt; omega
          clear AR BR rb hB
          generalize x.w.heap.size = be at *
          have r0 := HRB.out.cell (i := 0) rfl
          have r1 := HRB.out.cell (i := 1) rfl
          have r2 := HRB.out.cell (i := 2) rfl
          have r3 := HRB.out.cell (i := 3) rfl
          have r4 := HRB.out.cell (i := 4) rfl
          have r5 := HRB.out.cell (i := 5) rfl
          have rz := HRB.out.lt
          go_wp2
          clear r0 r1 r2 r3 r4 r5 rz
          go_loopw [51] (fun sk wr => ∃ (k : Nat) (z : Ext wd), k ≤ 3 ∧ sk = .int .i64 k ∧ wr = z.w ∧ open3 [(l0, h0), (l1, h1), (l2, h2)] [t0, t1, t2] k = true) (fun sk _ => 3 - (intOf sk).toNat)
          case atStart => exact ⟨0, ⟨wd, Bel.refl⟩, by omega, rfl, rfl, rfl⟩
          case round =>
            obtain ⟨k, z, hk, rfl, rfl, hop⟩ := hrel
            by_cases hlk : k < 3
            · have hk3 : k = 0 ∨ k = 1 ∨ k = 2 := by omega
              rcases hk3 with rfl | rfl | rfl
              -- CLK
              · have hjd : decide ((0 : Int) < 3) = true := by decide
                have ck := (HA3.out.bel z.bel).cell (i := 1) rfl
                have ckz := (HA3.out.bel z.bel).lt
                have HSTEP : Hid (open3 [(l0, h0), (l1, h1), (l2, h2)] [t0, t1, t2] 1 = (open3 [(l0, h0), (l1, h1), (l2, h2)] [t0, t1, t2] 0 && (decide (l0 ≤ t0) && decide (t0 ≤ h0)))) := Lib.hid rfl
                rw [hop] at HSTEP
                clear hop
                have hix : ∀ w : World, (Instr.index 96 (.agg #[.int .i64 l0, .int .i64 h0, .int .i64 l1, .int .i64 h1, .int .i64 l2, .int .i64 h2]) (.int .i64 0)).run Try.prog w = .ok (.agg #[.int .i64 l0, .int .i64 h0]) w := fun _ => by kernel_rfl
                go_upto_region 12 with (fail)
                clear hix
                generalize hW : World.alloc z.w _ = we at *
                have hB : Bel z.w we := by rw [← hW]; exact Bel.refl.alloc _
                have rs : RowAt we z.w.heap.size 95 [.int .i64 l0, .int .i64 h0] := by rw [← hW]; exact RowAt.new _ _ _
                have ck2 := (hB.cells _ _ ckz).trans ck
                have ckz2 := Nat.lt_of_lt_of_le ckz hB.le
                have e0 := rs.cell (i := 0) rfl
                have e1 := rs.cell (i := 1) rfl
                have ez := rs.lt
                have HBE := Lib.hid (z.bel.trans hB)
                clear hW hB rs ck ckz
                generalize z.w.heap.size = bs at *
                clear z
                by_cases ha1 : t0 < l0
                · have g1 : decide (t0 < l0) = true := by simpa using ha1
                  have HNO := Lib.hid (open3_le (sp := [(l0, h0), (l1, h1), (l2, h2)]) (cl := [t0, t1, t2]) (k := 0) (by omega) (by rw [HSTEP.out, decide_eq_false (by omega : ¬ l0 ≤ t0)]; rfl))
                  clear ha1
                  (refine wp_region_ext (wb := we) (by (repeat (first | exact Ext.bel _ | exact Bel.refl | refine Bel.alloc ?_ _ | refine Bel.drew ?_ | refine Bel.drewN ?_ _))) (by kernel_rfl) (by kernel_rfl) ?_; (repeat (any_goals (first | go_big_quiet_step (fail) | quiet_step (fail) | (refine wpQuiet_step (fun K hK => ?_); go_simp; split <;> (refine hK _ ?_; clear hK K))))); all_goals (refine wpQuiet_nil ?_; intro _ hw'; obtain ⟨y, hw''⟩ := hw'; subst hw''))
                  have HN2 : Hid (find3 M [t0, t1, t2] (ms.drop (i + 1)) = find3 M [t0, t1, t2] ms) := Lib.hid (by rw [← HD.out, find3_f (by rw [HSP.out]; exact HNO.out)])
                  have HBY := HBE.out.trans y.bel
                  have HA9 := Lib.hid (HA3.out.bel HBY)
                  have HB9 := Lib.hid (HB3.out.bel HBY)
                  obtain ⟨x9, hx9⟩ := ext_of (HBD.out.trans HBY)
                  rw [hx9] at HA9 HB9 ⊢
                  clear hx9 HBY g1 ck2 ckz2 e0 e1 ez y
                  go_wp2
                  go_roundw
                  case rel => exact ⟨i + 1, x9, by omega, by go_num, rfl, HA9.out, HB9.out, HN2.out⟩
                  case measure => simp [intOf]; omega
                · have g1 : decide (t0 < l0) = false := by simpa using ha1
                  by_cases ha2 : h0 < t0
                  · have g2 : decide (h0 < t0) = true := by simpa using ha2
                    have HNO := Lib.hid (open3_le (sp := [(l0, h0), (l1, h1), (l2, h2)]) (cl := [t0, t1, t2]) (k := 0) (by omega) (by rw [HSTEP.out, decide_eq_false (by omega : ¬ t0 ≤ h0)]; simp))
                    clear ha1 ha2
                    (refine wp_region_ext (wb := we) (by (repeat (first | exact Ext.bel _ | exact Bel.refl | refine Bel.alloc ?_ _ | refine Bel.drew ?_ | refine Bel.drewN ?_ _))) (by kernel_rfl) (by kernel_rfl) ?_; (repeat (any_goals (first | go_big_quiet_step (fail) | quiet_step (fail) | (refine wpQuiet_step (fun K hK => ?_); go_simp; split <;> (refine hK _ ?_; clear hK K))))); all_goals (refine wpQuiet_nil ?_; intro _ hw'; obtain ⟨y, hw''⟩ := hw'; subst hw''))
                    have HN2 : Hid (find3 M [t0, t1, t2] (ms.drop (i + 1)) = find3 M [t0, t1, t2] ms) := Lib.hid (by rw [← HD.out, find3_f (by rw [HSP.out]; exact HNO.out)])
                    have HBY := HBE.out.trans y.bel
                    have HA9 := Lib.hid (HA3.out.bel HBY)
                    have HB9 := Lib.hid (HB3.out.bel HBY)
                    obtain ⟨x9, hx9⟩ := ext_of (HBD.out.trans HBY)
                    rw [hx9] at HA9 HB9 ⊢
                    clear hx9 HBY g1 g2 ck2 ckz2 e0 e1 ez y
                    go_wp2
                    go_roundw
                    case rel => exact ⟨i + 1, x9, by omega, by go_num, rfl, HA9.out, HB9.out, HN2.out⟩
                    case measure => simp [intOf]; omega
                  · have g2 : decide (h0 < t0) = false := by simpa using ha2
                    have HYES : Hid (open3 [(l0, h0), (l1, h1), (l2, h2)] [t0, t1, t2] 1 = true) := Lib.hid (by rw [HSTEP.out, decide_eq_true (by omega : l0 ≤ t0), decide_eq_true (by omega : t0 ≤ h0)]; rfl)
                    clear ha1 ha2
                    (refine wp_region_ext (wb := we) (by (repeat (first | exact Ext.bel _ | exact Bel.refl | refine Bel.alloc ?_ _ | refine Bel.drew ?_ | refine Bel.drewN ?_ _))) (by kernel_rfl) (by kernel_rfl) ?_; (repeat (any_goals (first | go_big_quiet_step (fail) | quiet_step (fail) | (refine wpQuiet_step (fun K hK => ?_); go_simp; split <;> (refine hK _ ?_; clear hK K))))); all_goals (refine wpQuiet_nil ?_; intro _ hw'; obtain ⟨y, hw''⟩ := hw'; subst hw''))
                    obtain ⟨z9, hz9⟩ := ext_of (HBE.out.trans y.bel)
                    rw [hz9]
                    clear hz9 g1 g2 ck2 ckz2 e0 e1 ez y
                    go_wp2
                    go_roundw
                    case rel => exact ⟨1, z9, by omega, by go_num, rfl, HYES.out⟩
                    case measure => simp [intOf]
              · have hjd : decide ((1 : Int) < 3) = true := by decide
                have ck := (HA3.out.bel z.bel).cell (i := 2) rfl
                have ckz := (HA3.out.bel z.bel).lt
                have HSTEP : Hid (open3 [(l0, h0), (l1, h1), (l2, h2)] [t0, t1, t2] 2 = (open3 [(l0, h0), (l1, h1), (l2, h2)] [t0, t1, t2] 1 && (decide (l1 ≤ t1) && decide (t1 ≤ h1)))) := Lib.hid rfl
                rw [hop] at HSTEP
                clear hop
                have hix : ∀ w : World, (Instr.index 96 (.agg #[.int .i64 l0, .int .i64 h0, .int .i64 l1, .int .i64 h1, .int .i64 l2, .int .i64 h2]) (.int .i64 1)).run Try.prog w = .ok (.agg #[.int .i64 l1, .int .i64 h1]) w := fun _ => by kernel_rfl
                go_upto_region 12 with (fail)
                clear hix
                generalize hW : World.alloc z.w _ = we at *
                have hB : Bel z.w we := by rw [← hW]; exact Bel.refl.alloc _
                have rs : RowAt we z.w.heap.size 95 [.int .i64 l1, .int .i64 h1] := by rw [← hW]; exact RowAt.new _ _ _
                have ck2 := (hB.cells _ _ ckz).trans ck
                have ckz2 := Nat.lt_of_lt_of_le ckz hB.le
                have e0 := rs.cell (i := 0) rfl
                have e1 := rs.cell (i := 1) rfl
                have ez := rs.lt
                have HBE := Lib.hid (z.bel.trans hB)
                clear hW hB rs ck ckz
                generalize z.w.heap.size = bs at *
                clear z
                by_cases ha1 : t1 < l1
                · have g1 : decide (t1 < l1) = true := by simpa using ha1
                  have HNO := Lib.hid (open3_le (sp := [(l0, h0), (l1, h1), (l2, h2)]) (cl := [t0, t1, t2]) (k := 1) (by omega) (by rw [HSTEP.out, decide_eq_false (by omega : ¬ l1 ≤ t1)]; rfl))
                  clear ha1
                  (refine wp_region_ext (wb := we) (by (repeat (first | exact Ext.bel _ | exact Bel.refl | refine Bel.alloc ?_ _ | refine Bel.drew ?_ | refine Bel.drewN ?_ _))) (by kernel_rfl) (by kernel_rfl) ?_; (repeat (any_goals (first | go_big_quiet_step (fail) | quiet_step (fail) | (refine wpQuiet_step (fun K hK => ?_); go_simp; split <;> (refine hK _ ?_; clear hK K))))); all_goals (refine wpQuiet_nil ?_; intro _ hw'; obtain ⟨y, hw''⟩ := hw'; subst hw''))
                  have HN2 : Hid (find3 M [t0, t1, t2] (ms.drop (i + 1)) = find3 M [t0, t1, t2] ms) := Lib.hid (by rw [← HD.out, find3_f (by rw [HSP.out]; exact HNO.out)])
                  have HBY := HBE.out.trans y.bel
                  have HA9 := Lib.hid (HA3.out.bel HBY)
                  have HB9 := Lib.hid (HB3.out.bel HBY)
                  obtain ⟨x9, hx9⟩ := ext_of (HBD.out.trans HBY)
                  rw [hx9] at HA9 HB9 ⊢
                  clear hx9 HBY g1 ck2 ckz2 e0 e1 ez y
                  go_wp2
                  go_roundw
                  case rel => exact ⟨i + 1, x9, by omega, by go_num, rfl, HA9.out, HB9.out, HN2.out⟩
                  case measure => simp [intOf]; omega
                · have g1 : decide (t1 < l1) = false := by simpa using ha1
                  by_cases ha2 : h1 < t1
                  · have g2 : decide (h1 < t1) = true := by simpa using ha2
                    have HNO := Lib.hid (open3_le (sp := [(l0, h0), (l1, h1), (l2, h2)]) (cl := [t0, t1, t2]) (k := 1) (by omega) (by rw [HSTEP.out, decide_eq_false (by omega : ¬ t1 ≤ h1)]; simp))
                    clear ha1 ha2
                    (refine wp_region_ext (wb := we) (by (repeat (first | exact Ext.bel _ | exact Bel.refl | refine Bel.alloc ?_ _ | refine Bel.drew ?_ | refine Bel.drewN ?_ _))) (by kernel_rfl) (by kernel_rfl) ?_; (repeat (any_goals (first | go_big_quiet_step (fail) | quiet_step (fail) | (refine wpQuiet_step (fun K hK => ?_); go_simp; split <;> (refine hK _ ?_; clear hK K))))); all_goals (refine wpQuiet_nil ?_; intro _ hw'; obtain ⟨y, hw''⟩ := hw'; subst hw''))
                    have HN2 : Hid (find3 M [t0, t1, t2] (ms.drop (i + 1)) = find3 M [t0, t1, t2] ms) := Lib.hid (by rw [← HD.out, find3_f (by rw [HSP.out]; exact HNO.out)])
                    have HBY := HBE.out.trans y.bel
                    have HA9 := Lib.hid (HA3.out.bel HBY)
                    have HB9 := Lib.hid (HB3.out.bel HBY)
                    obtain ⟨x9, hx9⟩ := ext_of (HBD.out.trans HBY)
                    rw [hx9] at HA9 HB9 ⊢
                    clear hx9 HBY g1 g2 ck2 ckz2 e0 e1 ez y
                    go_wp2
                    go_roundw
                    case rel => exact ⟨i + 1, x9, by omega, by go_num, rfl, HA9.out, HB9.out, HN2.out⟩
                    case measure => simp [intOf]; omega
                  · have g2 : decide (h1 < t1) = false := by simpa using ha2
                    have HYES : Hid (open3 [(l0, h0), (l1, h1), (l2, h2)] [t0, t1, t2] 2 = true) := Lib.hid (by rw [HSTEP.out, decide_eq_true (by omega : l1 ≤ t1), decide_eq_true (by omega : t1 ≤ h1)]; rfl)
                    clear ha1 ha2
                    (refine wp_region_ext (wb := we) (by (repeat (first | exact Ext.bel _ | exact Bel.refl | refine Bel.alloc ?_ _ | refine Bel.drew ?_ | refine Bel.drewN ?_ _))) (by kernel_rfl) (by kernel_rfl) ?_; (repeat (any_goals (first | go_big_quiet_step (fail) | quiet_step (fail) | (refine wpQuiet_step (fun K hK => ?_); go_simp; split <;> (refine hK _ ?_; clear hK K))))); all_goals (refine wpQuiet_nil ?_; intro _ hw'; obtain ⟨y, hw''⟩ := hw'; subst hw''))
                    obtain ⟨z9, hz9⟩ := ext_of (HBE.out.trans y.bel)
                    rw [hz9]
                    clear hz9 g1 g2 ck2 ckz2 e0 e1 ez y
                    go_wp2
                    go_roundw
                    case rel => exact ⟨2, z9, by omega, by go_num, rfl, HYES.out⟩
                    case measure => simp [intOf]
              · have hjd : decide ((2 : Int) < 3) = true := by decide
                have ck := (HA3.out.bel z.bel).cell (i := 3) rfl
                have ckz := (HA3.out.bel z.bel).lt
                have HSTEP : Hid (open3 [(l0, h0), (l1, h1), (l2, h2)] [t0, t1, t2] 3 = (open3 [(l0, h0), (l1, h1), (l2, h2)] [t0, t1, t2] 2 && (decide (l2 ≤ t2) && decide (t2 ≤ h2)))) := Lib.hid rfl
                rw [hop] at HSTEP
                clear hop
                have hix : ∀ w : World, (Instr.index 96 (.agg #[.int .i64 l0, .int .i64 h0, .int .i64 l1, .int .i64 h1, .int .i64 l2, .int .i64 h2]) (.int .i64 2)).run Try.prog w = .ok (.agg #[.int .i64 l2, .int .i64 h2]) w := fun _ => by kernel_rfl
                go_upto_region 12 with (fail)
                clear hix
                generalize hW : World.alloc z.w _ = we at *
                have hB : Bel z.w we := by rw [← hW]; exact Bel.refl.alloc _
                have rs : RowAt we z.w.heap.size 95 [.int .i64 l2, .int .i64 h2] := by rw [← hW]; exact RowAt.new _ _ _
                have ck2 := (hB.cells _ _ ckz).trans ck
                have ckz2 := Nat.lt_of_lt_of_le ckz hB.le
                have e0 := rs.cell (i := 0) rfl
                have e1 := rs.cell (i := 1) rfl
                have ez := rs.lt
                have HBE := Lib.hid (z.bel.trans hB)
                clear hW hB rs ck ckz
                generalize z.w.heap.size = bs at *
                clear z
                by_cases ha1 : t2 < l2
                · have g1 : decide (t2 < l2) = true := by simpa using ha1
                  have HNO := Lib.hid (open3_le (sp := [(l0, h0), (l1, h1), (l2, h2)]) (cl := [t0, t1, t2]) (k := 2) (by omega) (by rw [HSTEP.out, decide_eq_false (by omega : ¬ l2 ≤ t2)]; rfl))
                  clear ha1
                  (refine wp_region_ext (wb := we) (by (repeat (first | exact Ext.bel _ | exact Bel.refl | refine Bel.alloc ?_ _ | refine Bel.drew ?_ | refine Bel.drewN ?_ _))) (by kernel_rfl) (by kernel_rfl) ?_; (repeat (any_goals (first | go_big_quiet_step (fail) | quiet_step (fail) | (refine wpQuiet_step (fun K hK => ?_); go_simp; split <;> (refine hK _ ?_; clear hK K))))); all_goals (refine wpQuiet_nil ?_; intro _ hw'; obtain ⟨y, hw''⟩ := hw'; subst hw''))
                  have HN2 : Hid (find3 M [t0, t1, t2] (ms.drop (i + 1)) = find3 M [t0, t1, t2] ms) := Lib.hid (by rw [← HD.out, find3_f (by rw [HSP.out]; exact HNO.out)])
                  have HBY := HBE.out.trans y.bel
                  have HA9 := Lib.hid (HA3.out.bel HBY)
                  have HB9 := Lib.hid (HB3.out.bel HBY)
                  obtain ⟨x9, hx9⟩ := ext_of (HBD.out.trans HBY)
                  rw [hx9] at HA9 HB9 ⊢
                  clear hx9 HBY g1 ck2 ckz2 e0 e1 ez y
                  go_wp2
                  go_roundw
                  case rel => exact ⟨i + 1, x9, by omega, by go_num, rfl, HA9.out, HB9.out, HN2.out⟩
                  case measure => simp [intOf]; omega
                · have g1 : decide (t2 < l2) = false := by simpa using ha1
                  by_cases ha2 : h2 < t2
                  · have g2 : decide (h2 < t2) = true := by simpa using ha2
                    have HNO := Lib.hid (open3_le (sp := [(l0, h0), (l1, h1), (l2, h2)]) (cl := [t0, t1, t2]) (k := 2) (by omega) (by rw [HSTEP.out, decide_eq_false (by omega : ¬ t2 ≤ h2)]; simp))
                    clear ha1 ha2
                    (refine wp_region_ext (wb := we) (by (repeat (first | exact Ext.bel _ | exact Bel.refl | refine Bel.alloc ?_ _ | refine Bel.drew ?_ | refine Bel.drewN ?_ _))) (by kernel_rfl) (by kernel_rfl) ?_; (repeat (any_goals (first | go_big_quiet_step (fail) | quiet_step (fail) | (refine wpQuiet_step (fun K hK => ?_); go_simp; split <;> (refine hK _ ?_; clear hK K))))); all_goals (refine wpQuiet_nil ?_; intro _ hw'; obtain ⟨y, hw''⟩ := hw'; subst hw''))
                    have HN2 : Hid (find3 M [t0, t1, t2] (ms.drop (i + 1)) = find3 M [t0, t1, t2] ms) := Lib.hid (by rw [← HD.out, find3_f (by rw [HSP.out]; exact HNO.out)])
                    have HBY := HBE.out.trans y.bel
                    have HA9 := Lib.hid (HA3.out.bel HBY)
                    have HB9 := Lib.hid (HB3.out.bel HBY)
                    obtain ⟨x9, hx9⟩ := ext_of (HBD.out.trans HBY)
                    rw [hx9] at HA9 HB9 ⊢
                    clear hx9 HBY g1 g2 ck2 ckz2 e0 e1 ez y
                    go_wp2
                    go_roundw
                    case rel => exact ⟨i + 1, x9, by omega, by go_num, rfl, HA9.out, HB9.out, HN2.out⟩
                    case measure => simp [intOf]; omega
                  · have g2 : decide (h2 < t2) = false := by simpa using ha2
                    have HYES : Hid (open3 [(l0, h0), (l1, h1), (l2, h2)] [t0, t1, t2] 3 = true) := Lib.hid (by rw [HSTEP.out, decide_eq_true (by omega : l2 ≤ t2), decide_eq_true (by omega : t2 ≤ h2)]; rfl)
                    clear ha1 ha2
                    (refine wp_region_ext (wb := we) (by (repeat (first | exact Ext.bel _ | exact Bel.refl | refine Bel.alloc ?_ _ | refine Bel.drew ?_ | refine Bel.drewN ?_ _))) (by kernel_rfl) (by kernel_rfl) ?_; (repeat (any_goals (first | go_big_quiet_step (fail) | quiet_step (fail) | (refine wpQuiet_step (fun K hK => ?_); go_simp; split <;> (refine hK _ ?_; clear hK K))))); all_goals (refine wpQuiet_nil ?_; intro _ hw'; obtain ⟨y, hw''⟩ := hw'; subst hw''))
                    obtain ⟨z9, hz9⟩ := ext_of (HBE.out.trans y.bel)
                    rw [hz9]
                    clear hz9 g1 g2 ck2 ckz2 e0 e1 ez y
                    go_wp2
                    go_roundw
                    case rel => exact ⟨3, z9, by omega, by go_num, rfl, HYES.out⟩
                    case measure => simp [intOf]
              -- KLC
            · obtain rfl : k = 3 := by omega
              have HR2 : Hid (res = ⟨PE.to (peAt ms i), resetF [t0, t1, t2] (peAt ms i).rst⟩) := Lib.hid (by rw [HST.out, ← HD.out, find3_t (by rw [HSP.out]; exact hop)])
              have ha2 := HA3.out.bel z.bel
              have hb2 := HB3.out.bel z.bel
              have hr2 := HRB.out.bel z.bel
              have q6 := hr2.cell (i := 6) rfl
              have q6z := hr2.lt
              have HX2 := Lib.hid (HBD.out.trans z.bel)
              have HRS := Lib.hid HMI.out.1
              have hrll := HMI.out.2
              clear hop HD HSP HST HRB HA3 HB3 HMI
              obtain ⟨x2, hx2⟩ := ext_of HX2.out
              rw [hx2] at ha2 hb2 hr2 q6 q6z ⊢
              clear hx2 HX2
              go_wp2
              go_loopw [75] (fun sm wr => ∃ (m : Nat) (z : Ext w), m ≤ (peAt ms i).rst.length ∧ sm = .int .i64 m ∧ wr = z.w ∧ RowAt z.w b0 59 (ptL loc (resetF [t0, t1, t2] ((peAt ms i).rst.take m))) ∧ RowAt z.w b1 59 zero4 ∧ RowAt z.w be 98 [.int .i64 l0, .int .i64 h0, .int .i64 l1, .int .i64 h1, .int .i64 l2, .int .i64 h2, .slice B2 (peAt ms i).rst.length m2, .int .i64 (PE.to (peAt ms i))]) (fun sm _ => (peAt ms i).rst.length - (intOf sm).toNat)
              case atStart => exact ⟨0, x2, by omega, rfl, rfl, ha2, hb2, hr2⟩
              case round =>
                clear ha2 hb2 hr2 q6 q6z
                obtain ⟨m, z, hm, rfl, rfl, AR, BR, CR⟩ := hrel
                by_cases hlm : m < (peAt ms i).rst.length
                · have hmd : decide ((m : Int) < ((peAt ms i).rst.length : Int)) = true := by simp; omega
                  have hmL : (m : Int) < ((peAt ms i).rst.length : Int) := by omega
                  obtain ⟨b3, off3, rfl, hb3, hRr⟩ := HRV.out.at_ (by omega)
                  have hrc := (z.bel.cells _ _ hb3).trans (hRr m hlm)
                  have hrz := ext_lt z hb3
                  have hrb := HRS.out _ (int_mem hlm)
                  have htk : resetF [t0, t1, t2] ((peAt ms i).rst.take (m + 1)) = (resetF [t0, t1, t2] ((peAt ms i).rst.take m)).set ((peAt ms i).rst.getD m 0 - 1).toNat 0 := by
                    rw [List.take_succ_eq_append_getElem hlm]; unfold resetF; rw [List.foldl_append]; simp [List.getD, hlm]
                  have hrl : (resetF [t0, t1, t2] ((peAt ms i).rst.take m)).length = 3 := (reset3_ok hM0 _ _ HT1.out).1
                  generalize (peAt ms i).rst.getD m 0 = q at *
                  obtain ⟨v, rfl⟩ : ∃ v : Nat, q = (v : Int) + 1 := ⟨(q - 1).toNat, by omega⟩
                  have hv3 : v < 3 := by omega
                  have hv3' : (v : Int) < 3 := by omega
                  have hvs : (v : Int) + 1 - 1 = v := by omega
                  rw [show ((v : Int) + 1 - 1).toNat = v by omega] at htk
                  have c1 := AR.cell (ptL_s (loc := loc) (cl := resetF [t0, t1, t2] ((peAt ms i).rst.take m)) (i := v) (by rw [hrl]; exact hv3))
                  have f1 := AR.frozen (v + 1)
                  have fz := AR.lt
                  rw [Nat.add_comm] at c1 f1
                  have HARm := Lib.hid (row_congr (AR.set (1 + v) (.int .i64 0)) (by rw [Nat.add_comm, ptL_set, ← htk]))
                  have HBRm := Lib.hid (BR.far (a := ⟨b0, 1 + v, none⟩) (Ne.symm hb01) (.int .i64 0))
                  have HCRm := Lib.hid (CR.far (a := ⟨b0, 1 + v, none⟩) hne0 (.int .i64 0))
                  have HZB := Lib.hid (z.bel.set (p := ⟨b0, 1 + v, none⟩) ob0 (.int .i64 0))
                  clear AR BR CR hRr hrb htk hrl
                  go_wp2
                  go_roundw
                  case rel => exact ⟨m + 1, ⟨_, HZB.out⟩, by omega, by go_num, rfl, HARm.out, HBRm.out, HCRm.out⟩
                  case measure => simp [intOf]; omega
                · obtain rfl : m = (peAt ms i).rst.length := by omega
                  have hmd : decide (((peAt ms i).rst.length : Int) < ((peAt ms i).rst.length : Int)) = false := by simp
                  rw [List.take_length] at AR
                  have hr3 := (reset3_ok hM0 (peAt ms i).rst _ HT1.out).1
                  generalize resetF [t0, t1, t2] (peAt ms i).rst = rl at *
                  obtain ⟨v0, v1, v2, rfl⟩ : ∃ v0 v1 v2, rl = [v0, v1, v2] := by
                    match rl, hr3 with
                    | [x, y, z], _ => exact ⟨x, y, z, rfl⟩
                  have hzb := Lib.hid z.bel
                  have p0 := AR.cell (i := 0) rfl
                  have p1 := AR.cell (i := 1) rfl
                  have p2 := AR.cell (i := 2) rfl
                  have p3 := AR.cell (i := 3) rfl
                  have pz := AR.lt
                  have k0 := AR.frozen 0
                  have q0 := BR.cell (i := 0) rfl
                  have q1 := BR.cell (i := 1) rfl
                  have q2 := BR.cell (i := 2) rfl
                  have q3 := BR.cell (i := 3) rfl
                  have qz := BR.lt
                  have g0 := BR.frozen 0
                  have g1 := BR.frozen 1
                  have g2 := BR.frozen 2
                  have g3 := BR.frozen 3
                  have u7 := CR.cell (i := 7) rfl
                  have uz := CR.lt
                  generalize PE.to (peAt ms i) = tz at *
                  clear AR BR CR
                  go_wp2
                  try rw [Exit.noGoto_ret]
                  refine bodyPost_ret (v := .agg #[.int .i64 tz, .int .i64 v0, .int .i64 v1, .int .i64 v2]) (by simp [results, Try.results36, go_sem, q0, q1, q2, q3]) rfl ⟨by rw [HR2.out]; rfl, ?_⟩
                  exact ((((hzb.out.set (p := ⟨b0, 0, none⟩) ob0 _).set (p := ⟨b1, 0, none⟩) ob1 _).set (p := ⟨b1, 1, none⟩) ob1 _).set (p := ⟨b1, 2, none⟩) ob1 _).set (p := ⟨b1, 3, none⟩) ob1 _
        · obtain rfl : i = ms.length := by omega
          have hild : decide ((ms.length : Int) < (ms.length : Int)) = false := by simp
          have HR2 : Hid (res = ⟨-1, [0, 0, 0]⟩) := Lib.hid (by rw [HST.out, ← hd]; simp [find3])
          have hxb := Lib.hid x.bel
          have q0 := BR.cell (i := 0) rfl
          have q1 := BR.cell (i := 1) rfl
          have q2 := BR.cell (i := 2) rfl
          have q3 := BR.cell (i := 3) rfl
          have qz := BR.lt
          have g0 := BR.frozen 0
          have g1 := BR.frozen 1
          have g2 := BR.frozen 2
          have g3 := BR.frozen 3
          clear AR BR HST hd
          go_wp2
          try rw [Exit.noGoto_ret]
          refine bodyPost_ret (v := .agg #[.int .i64 (-1), .int .i64 0, .int .i64 0, .int .i64 0]) (by simp [results, Try.results36, go_sem, q0, q1, q2, q3]) rfl ⟨by rw [HR2.out]; rfl, ?_⟩
          exact (((hxb.out.set (p := ⟨b1, 0, none⟩) ob1 _).set (p := ⟨b1, 1, none⟩) ob1 _).set (p := ⟨b1, 2, none⟩) ob1 _).set (p := ⟨b1, 3, none⟩) ob1 _
end Go.Proofs.Ythidbmeocifkcaa
