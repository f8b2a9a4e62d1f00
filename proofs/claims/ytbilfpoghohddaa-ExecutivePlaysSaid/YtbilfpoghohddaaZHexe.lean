import Derived.Test.YtbilfpoghohddaaG9
import Derived.Deep.CutRange
namespace Go.Proofs.Ytbilfpoghohddaa
open Go.RowKit
theorem best_lt (l : List Tsk) (pol : Int) : ∀ (js : List Job) (b : Nat) (c : Job) (i n : Nat), b < n → i + js.length = n → bestF l pol b c i js < n
  | [], b, c, i, n, h, _ => h
  | j :: js, b, c, i, n, h, hn => by
    simp only [bestF]
    simp only [List.length_cons] at hn
    split
    · exact best_lt l pol js i j (i + 1) n (by omega) (by omega)
    · exact best_lt l pol js b c (i + 1) n h (by omega)
theorem key5 (l : List Tsk) (pol : Int) (j : Job) : ∃ a b c d e, keyM l pol j = [a, b, c, d, e] := by
  unfold keyM
  split <;> exact ⟨_, _, _, _, _, rfl⟩
def ExePost (wb : World) (b : Nat) (vl vc : Value) (pol : Int) (vj : Value) (s : St) (e : Ending) (w' : World) : Prop :=
  e = .returned (.tuple #[]) ∧ ∃ (y : Ext wb) (vr' vs' : Value), w' = y.w ∧ SimAt y.w wb.heap.size b vl vc pol vr' vs' vj s
theorem exe_post {wb w' : World} {b : Nat} {vl vc : Value} {pol : Int} {vr vs vj : Value} {s : St} (hb : Bel wb w') (h : SimAt w' wb.heap.size b vl vc pol vr vs vj s) : ExePost wb b vl vc pol vj s (.returned (.tuple #[])) w' :=
  ⟨rfl, ⟨w', hb⟩, vr, vs, rfl, h⟩
def keyL (l : List Tsk) (pol : Int) (j : Job) : List Value := (keyM l pol j).map (Value.int .i64)
theorem key_cell {w : World} {b : Nat} {l : List Tsk} {pol : Int} {j : Job} {e : TypeId} (h : RowAt w b e (keyL l pol j)) (i : Nat) (hi : i < 5) : w.cell? ⟨b, i, none⟩ = some (.int .i64 ((keyM l pol j).getD i 0)) := by
  refine h.cell ?_
  have := keyM_len l pol j
  simp [keyL, List.getD, show i < (keyM l pol j).length by omega]
theorem key_row (l : List Tsk) (pol : Int) (j : Job) : (keyM l pol j).length = 5 := keyM_len l pol j
set_option maxRecDepth 100000 in
set_option maxHeartbeats 16000000 in
theorem execute_any (wb : World) (b : Nat) (vl vc : Value) (pol : Int) (l : List Tsk) (t : Int) (hb : wb.heap.size ≤ b) (hT : TsksAt wb wb.heap.size vl l) (hC : IntsAt wb wb.heap.size vc (ceils l)) (hs : Sized l) (h0 : rchk l = 0) (ht0 : 0 ≤ t) (ht1 : t ≤ 20000)
    (x : Ext wb) (s : St) (vr vs vj : Value) (h : SimAt x.w wb.heap.size b vl vc pol vr vs vj s) (hj : s.jobs.length ≤ 1000000) (hr : s.ready.length ≤ 1000000) (hst : s.stints.length ≤ 1000000)
    (hI : ∀ j ∈ s.ready, JOk l j ∧ j.pos < s.jobs.length) :
    Calls Try.prog 66 #[.pointer (some ⟨b, 0, none⟩), .int .i64 t] x.w (ExePost wb b vl vc pol vj (exeM l pol t s)) := by
  have HU := Lib.hid (fun (j : Job) (hj : JOk l j) (y : Ext wb) (vr vs vj : Value) (hbox : RowAt y.w b 113 [vl, vc, .int .i64 pol, vr, vs, vj]) => urgency_any wb b vl vc pol l j hT hC hs h0 hj y vr vs vj hbox)
  have HS := Lib.hid h
  have HI := Lib.hid (fun k (hk : k < s.ready.length) => hI _ (show jbAt s.ready k ∈ s.ready by simp [jbAt, List.getD, hk]))
  have H0 := Lib.hid h0
  have HT := Lib.hid hT
  have k3 : x.w.cell? ⟨b, 3, none⟩ = some vr := h.box.cell rfl
  have hbz := h.box.lt
  clear hC hs h0 hI
  by_cases hn : s.ready.length = 0
  · obtain ⟨Ar, cr, rfl, _⟩ := own_slice h.rd
    have HE : Hid (exeM l pol t s = s) := Lib.hid (by unfold exeM; rw [if_pos hn])
    rw [hn] at k3
    clear h hT
    have HN := Lib.hid hn
    clear hn
    go_enter Try.func66, Try.ntmps66
    go_wp2
    refine bodyPost_ret (results_none rfl _ _ _) rfl ?_
    exact exe_post x.bel (by rw [HE.out]; exact HS.out)
  · have HE : Hid (exeM l pol t s = runOne l t (bestM l pol s.ready) s) := Lib.hid (by unfold exeM; rw [if_neg hn])
    obtain ⟨g, cr, rfl, hcr, hbg, hgz⟩ := own_form h.rd (by omega)
    have hn0 : ((s.ready.length : Int) == 0) = false := by rw [beq_eq_false_iff_ne]; omega
    have c0 := job_cell h.rd rfl (show 0 < s.ready.length by omega) 0 (by omega)
    have c1 := job_cell h.rd rfl (show 0 < s.ready.length by omega) 1 (by omega)
    have c2 := job_cell h.rd rfl (show 0 < s.ready.length by omega) 2 (by omega)
    have c3 := job_cell h.rd rfl (show 0 < s.ready.length by omega) 3 (by omega)
    have c4 := job_cell h.rd rfl (show 0 < s.ready.length by omega) 4 (by omega)
    simp only [Nat.zero_mul, Nat.zero_add] at c0 c1 c2 c3 c4
    replace c0 : x.w.cell? ⟨g, 0, none⟩ = some (.int .i64 (jbAt s.ready 0).tk) := c0
    replace c1 : x.w.cell? ⟨g, 1, none⟩ = some (.int .i64 (jbAt s.ready 0).num) := c1
    replace c2 : x.w.cell? ⟨g, 2, none⟩ = some (.int .i64 (jbAt s.ready 0).rel) := c2
    replace c3 : x.w.cell? ⟨g, 3, none⟩ = some (.int .i64 (jbAt s.ready 0).dn) := c3
    replace c4 : x.w.cell? ⟨g, 4, none⟩ = some (.int .i64 (jbAt s.ready 0).pos) := c4
    have hpos : 0 < s.ready.length := by omega
    have hU0 := HU.out _ (HI.out 0 hpos).1 x _ _ _ HS.out.box
    have HU0 := Lib.hid hU0
    have HN := Lib.hid hn
    have hn1 : 0 < (s.ready.length : Int) := by omega
    have hn2 : (s.ready.length : Int) ≤ 1000000 := by omega
    clear h hT hU0 hn
    go_enter Try.func66, Try.ntmps66
    go_upto_region 1 with (fail)
    go_wp2_with fail
    refine HU0.out.mono ?_
    rintro e w2 ⟨rfl, hB⟩
    obtain ⟨x2, rfl⟩ := ext_of (x.bel.trans hB)
    have HS2 := Lib.hid (HS.out.bel hB)
    obtain ⟨a0, a1, a2, a3, a4, hk⟩ := key5 l pol (jbAt s.ready 0)
    have hkv : keyV l pol (jbAt s.ready 0) = .agg #[.int .i64 a0, .int .i64 a1, .int .i64 a2, .int .i64 a3, .int .i64 a4] := by unfold keyV; rw [hk]; rfl
    have HK0 : Hid (keyL l pol (jbAt s.ready 0) = [.int .i64 a0, .int .i64 a1, .int .i64 a2, .int .i64 a3, .int .i64 a4]) := Lib.hid (by unfold keyL; rw [hk]; rfl)
    rw [hkv]
    clear hkv hk hB c0 c1 c2 c3 c4 HU0 HS k3 hbz
    have k3 : x2.w.cell? ⟨b, 3, none⟩ = some (.slice (some ⟨g, 0, none⟩) s.ready.length cr) := HS2.out.box.cell rfl
    have hbz := HS2.out.box.lt
    go_upto_region 2 with (fail)
    generalize hW : World.alloc x2.w _ = W at *
    have r5 : RowAt W x2.w.heap.size 133 (keyL l pol (jbAt s.ready 0)) := by rw [← hW, HK0.out]; exact RowAt.new _ _ _
    have HS3 := Lib.hid (HS2.out.bel (w' := W) (by rw [← hW]; exact Bel.refl.alloc _))
    have hn5 := x2.bel.le
    obtain ⟨x3, hx3⟩ := ext_of (show Bel wb W by rw [← hW]; exact x2.bel.alloc _)
    clear hW
    subst hx3
    have HR5 := Lib.hid r5
    generalize x2.w.heap.size = n5 at *
    clear r5 k3 hbz HS2 HK0
    have HN5 := Lib.hid hn5
    clear hn5
    have k3 : x3.w.cell? ⟨b, 3, none⟩ = some (.slice (some ⟨g, 0, none⟩) s.ready.length cr) := HS3.out.box.cell rfl
    have hbz := HS3.out.box.lt
    go_cut [29, 30, 31] from 25 (fun s29 s30 s31 wx => ∃ og c29 n29, s29 = .slice (some ⟨g, og, none⟩) n29 c29 ∧ s30 = .int .i64 (n29 : Int) ∧ s31 = .int .i64 0 ∧ wx = x3.w ∧ n29 + 1 = s.ready.length ∧ n29 ≤ c29 ∧ (1 < s.ready.length → og = 5))
    case first =>
      by_cases hc1 : cr = 1
      · subst hc1
        have hle1 : 1 ≤ s.ready.length := by omega
        go_wp2
        go_meet
        case rel => exact ⟨0, 0, 0, rfl, rfl, rfl, rfl, by omega, by omega, fun h => absurd h (by omega)⟩
      · have hc2 : 1 < cr := by omega
        go_wp2
        go_meet
        case rel => exact ⟨5, cr - 1, s.ready.length - 1, rfl, by go_num, rfl, rfl, by omega, by omega, fun _ => rfl⟩
    case rest =>
      obtain ⟨og, c29, n29, rfl, rfl, rfl, rfl, hn29, hc29, hog⟩ := hcut
      clear k3 hbz
      have HOG := Lib.hid hog
      have HN29 := Lib.hid hn29
      have hn29b : n29 < s.ready.length := by omega
      have HB0 : Hid (bestF l pol 0 (jbAt s.ready 0) (0 + 1) (s.ready.drop (0 + 1)) = bestM l pol s.ready) := Lib.hid rfl
      clear hog hn29
      go_wp2
      go_loopg [4, 31] n29 (fun gk s4 s31 wr => ∃ (k bb : Nat) (z : Ext wb), k + gk = n29 ∧ s4 = .int .i64 bb ∧ s31 = .int .i64 k ∧ wr = z.w ∧ bb < s.ready.length ∧ bestF l pol bb (jbAt s.ready bb) (k + 1) (s.ready.drop (k + 1)) = bestM l pol s.ready ∧ SimAt z.w wb.heap.size b vl vc pol (.slice (some ⟨g, 0, none⟩) s.ready.length cr) vs vj s ∧ RowAt z.w n5 133 (keyL l pol (jbAt s.ready bb)))
      case atStart => exact ⟨0, 0, x3, by omega, rfl, rfl, rfl, hpos, HB0.out, HS3.out, HR5.out⟩
      case round =>
        clear HB0 HR5 HS3
        obtain ⟨k, bb, z, hk, rfl, rfl, rfl, hbb, hd, hsz, hrz⟩ := hrel
        have HS := Lib.hid hsz
        have HR := Lib.hid hrz
        have HD := Lib.hid hd
        clear hsz hrz hd
        by_cases hlt : k < n29
        · have hdl : decide ((k : Int) < (n29 : Int)) = true := by simp; omega
          obtain rfl : og = 5 := HOG.out (by omega)
          have hk1 : k + 1 < s.ready.length := by omega
          have HD2 := HD.out
          rw [jobs_drop hk1] at HD2
          simp only [bestF] at HD2
          replace HD := Lib.hid HD2
          clear HD2
          have c0 := job_cell HS.out.rd rfl hk1 0 (by omega)
          have c1 := job_cell HS.out.rd rfl hk1 1 (by omega)
          have c2 := job_cell HS.out.rd rfl hk1 2 (by omega)
          have c3 := job_cell HS.out.rd rfl hk1 3 (by omega)
          have c4 := job_cell HS.out.rd rfl hk1 4 (by omega)
          simp only [show (k + 1) * 5 = 5 + k * 5 by omega] at c0 c1 c2 c3 c4
          replace c0 : z.w.cell? ⟨g, 5 + k * 5, none⟩ = some (.int .i64 (jbAt s.ready (k + 1)).tk) := c0
          replace c1 : z.w.cell? ⟨g, 5 + k * 5 + 1, none⟩ = some (.int .i64 (jbAt s.ready (k + 1)).num) := c1
          replace c2 : z.w.cell? ⟨g, 5 + k * 5 + 2, none⟩ = some (.int .i64 (jbAt s.ready (k + 1)).rel) := c2
          replace c3 : z.w.cell? ⟨g, 5 + k * 5 + 3, none⟩ = some (.int .i64 (jbAt s.ready (k + 1)).dn) := c3
          replace c4 : z.w.cell? ⟨g, 5 + k * 5 + 4, none⟩ = some (.int .i64 (jbAt s.ready (k + 1)).pos) := c4
          have hgz := (HS.out.rd.lt g rfl).2
          obtain ⟨hjo, _⟩ := HI.out (k + 1) hk1
          have HJO := Lib.hid hjo
          clear hjo
          generalize hjb : jbAt s.ready (k + 1) = j at *
          have HJB := Lib.hid hjb
          clear hjb
          go_upto_region 5 with (fail)
          generalize hW : World.alloc z.w _ = W7 at *
          have r7 : RowAt W7 z.w.heap.size 132 (jobC j) := by rw [← hW]; exact RowAt.new _ _ _
          have hb7 : Bel z.w W7 := by rw [← hW]; exact Bel.refl.alloc _
          clear hW c0 c1 c2 c3 c4
          have HS7 := Lib.hid (HS.out.bel hb7)
          have HR7 := Lib.hid (HR.out.bel hb7)
          have HZ7 := Lib.hid (z.bel.trans hb7)
          obtain ⟨z7, rfl⟩ := ext_of HZ7.out
          clear hb7 HZ7 HS HR
          generalize z.w.heap.size = n7 at *
          have c0 := r7.cell (i := 0) rfl
          have c1 := r7.cell (i := 1) rfl
          have c2 := r7.cell (i := 2) rfl
          have c3 := r7.cell (i := 3) rfl
          have c4 := r7.cell (i := 4) rfl
          have cz := r7.lt
          have HUJ := Lib.hid (HU.out j HJO.out z7 _ _ _ HS7.out.box)
          clear r7
          go_wp2_with fail
          refine HUJ.out.mono ?_
          rintro e w8 ⟨rfl, hB⟩
          have HS8 := Lib.hid (HS7.out.bel hB)
          have HR8 := Lib.hid (HR7.out.bel hB)
          obtain ⟨z8, rfl⟩ := ext_of (z7.bel.trans hB)
          obtain ⟨b0, b1, b2, b3, b4, hk⟩ := key5 l pol j
          have hkv : keyV l pol j = .agg #[.int .i64 b0, .int .i64 b1, .int .i64 b2, .int .i64 b3, .int .i64 b4] := by unfold keyV; rw [hk]; rfl
          have HKJ : Hid (keyL l pol j = [.int .i64 b0, .int .i64 b1, .int .i64 b2, .int .i64 b3, .int .i64 b4]) := Lib.hid (by unfold keyL; rw [hk]; rfl)
          rw [hkv]
          clear hkv hk hB c0 c1 c2 c3 c4 cz HUJ HS7 HR7
          go_upto_region 6 with (fail)
          generalize hW : World.alloc z8.w _ = W9 at *
          have r9 : RowAt W9 z8.w.heap.size 133 (keyL l pol j) := by rw [← hW, HKJ.out]; exact RowAt.new _ _ _
          have hb9 : Bel z8.w W9 := by rw [← hW]; exact Bel.refl.alloc _
          clear hW
          have HS9 := Lib.hid (HS8.out.bel hb9)
          have HR5 := Lib.hid (HR8.out.bel hb9)
          obtain ⟨z9, rfl⟩ := ext_of (z8.bel.trans hb9)
          generalize z8.w.heap.size = n8 at *
          have HR9 := Lib.hid r9
          have hcmp := cmp_before l pol j (jbAt s.ready bb)
          have HCP := Lib.hid (fun (y : Ext z9.w) => (compare_any (keyM l pol j) (keyM l pol (jbAt s.ready bb)) n8 n5 5 y.w (keyM_len _ _ _) (keyM_len _ _ _) (by omega) (by omega) (HR9.out.bel y.bel).lt (HR5.out.bel y.bel).lt (fun i hi => key_cell (HR9.out.bel y.bel) i hi) (fun i hi => key_cell (HR5.out.bel y.bel) i hi)).mono (fun e w' ⟨h1, h2⟩ => (⟨h1, h2 ▸ Bel.refl⟩ : e = _ ∧ Bel y.w w')))
          clear r9 hb9 HS8 HR8
          generalize cmpL (keyM l pol j) (keyM l pol (jbAt s.ready bb)) = cq at *
          (refine wp_region_ext (wb := z9.w) (by (repeat (first | exact Ext.bel _ | exact Bel.refl | refine Bel.alloc ?_ _ | refine Bel.drew ?_ | refine Bel.drewN ?_ _))) (by kernel_rfl) (by kernel_rfl) ?_; (repeat (any_goals (first | go_big_quiet_step ((go_at_call 82; with_reducible exact ext_call (HCP.out _))) | quiet_step ((go_at_call 82; with_reducible exact ext_call (HCP.out _))) | (refine wpQuiet_step (fun K hK => ?_); go_simp; split <;> (refine hK _ ?_; clear hK K))))); all_goals (refine wpQuiet_nil ?_; intro _ hw'; obtain ⟨y, hw''⟩ := hw'; subst hw''))
          have HSY := Lib.hid (HS9.out.bel y.bel)
          have HR5Y := Lib.hid (HR5.out.bel y.bel)
          have HR9Y := Lib.hid (HR9.out.bel y.bel)
          obtain ⟨zy, hzy⟩ := ext_of (z9.bel.trans y.bel)
          clear HCP
          generalize y.w = wy at *
          subst hzy
          cases hbf : beforeM l pol j (jbAt s.ready bb)
          · rw [hbf] at hcmp HD
            have HD3 : Hid (bestF l pol bb (jbAt s.ready bb) (k + 1 + 1) (s.ready.drop (k + 1 + 1)) = bestM l pol s.ready) := Lib.hid (by have := HD.out; simpa using this)
            clear hbf HD
            go_wp2
            go_roundg (gk - 1)
            case measure => omega
            case rel => exact ⟨k + 1, bb, zy, by omega, rfl, by go_num, rfl, by omega, HD3.out, HSY.out, HR5Y.out⟩
          · rw [hbf] at hcmp HD
            have HD3 : Hid (bestF l pol (k + 1) (jbAt s.ready (k + 1)) (k + 1 + 1) (s.ready.drop (k + 1 + 1)) = bestM l pol s.ready) := Lib.hid (by have := HD.out; rw [HJB.out]; simpa using this)
            obtain ⟨a0, a1, a2, a3, a4, hka⟩ := key5 l pol (jbAt s.ready bb)
            have HKA : Hid (keyL l pol (jbAt s.ready bb) = [.int .i64 a0, .int .i64 a1, .int .i64 a2, .int .i64 a3, .int .i64 a4]) := Lib.hid (by unfold keyL; rw [hka]; rfl)
            have r5 := HR5Y.out
            have r9 := HR9Y.out
            rw [HKA.out] at r5
            rw [HKJ.out] at r9
            have e0 := r5.cell (i := 0) rfl
            have e1 := r5.cell (i := 1) rfl
            have e2 := r5.cell (i := 2) rfl
            have e3 := r5.cell (i := 3) rfl
            have e4 := r5.cell (i := 4) rfl
            have g0 := r5.frozen 0
            have g1 := r5.frozen 1
            have g2 := r5.frozen 2
            have g3 := r5.frozen 3
            have g4 := r5.frozen 4
            have ez := r5.lt
            have f0 := r9.cell (i := 0) rfl
            have f1 := r9.cell (i := 1) rfl
            have f2 := r9.cell (i := 2) rfl
            have f3 := r9.cell (i := 3) rfl
            have f4 := r9.cell (i := 4) rfl
            have fz := r9.lt
            have HR5L := Lib.hid r5
            clear hbf HD hka HKA r5 r9
            go_upto_region 7 with (fail)
            (refine wp_region_qtail 4 (wb := zy.w) (by (repeat (first | exact Ext.bel _ | exact Bel.refl | refine Bel.alloc ?_ _ | refine Bel.drew ?_ | refine Bel.drewN ?_ _))) (by kernel_rfl) (by kernel_rfl) ?_; simp only [List.take_succ_cons, List.take_zero, List.drop_succ_cons, List.drop_zero]; (repeat (any_goals (first | go_big_quiet_step (fail) | quiet_step (fail) | (refine wpQuiet_step (fun K hK => ?_); go_simp; split <;> (refine hK _ ?_; clear hK K))))); all_goals (refine wpQuiet_nil ?_; intro _ hw'; obtain ⟨y, hw''⟩ := hw'; subst hw''))
            have q0 := HR5L.out.bel y.bel
            have s0 := HSY.out.bel y.bel
            have q1 := q0.set 0 (.int .i64 b0)
            have s1 := s0.other q0 0 (.int .i64 b0)
            have q2 := q1.set 1 (.int .i64 b1)
            have s2 := s1.other q1 1 (.int .i64 b1)
            have q3 := q2.set 2 (.int .i64 b2)
            have s3 := s2.other q2 2 (.int .i64 b2)
            have q4 := q3.set 3 (.int .i64 b3)
            have s4 := s3.other q3 3 (.int .i64 b3)
            have q5 := Lib.hid (q4.set 4 (.int .i64 b4))
            have s5 := Lib.hid (s4.other q4 4 (.int .i64 b4))
            have hbel := Lib.hid (((((zy.bel.trans y.bel).set (p := ⟨n5, 0, none⟩) HN5.out (.int .i64 b0)).set (p := ⟨n5, 1, none⟩) HN5.out (.int .i64 b1)).set (p := ⟨n5, 2, none⟩) HN5.out (.int .i64 b2)).set (p := ⟨n5, 3, none⟩) HN5.out (.int .i64 b3) |>.set (p := ⟨n5, 4, none⟩) HN5.out (.int .i64 b4))
            clear q0 q1 q2 q3 q4 s0 s1 s2 s3 s4
            go_wp2
            generalize World.setCell _ ⟨n5, 4, none⟩ _ = W5 at *
            have q6 : RowAt W5 n5 133 (keyL l pol (jbAt s.ready (k + 1))) := by rw [HJB.out, HKJ.out]; exact q5.out
            have HQ6 := Lib.hid q6
            clear e0 e1 e2 e3 e4 ez g0 g1 g2 g3 g4 f0 f1 f2 f3 f4 fz q6
            obtain ⟨z5, rfl⟩ := ext_of hbel.out
            go_roundg (gk - 1)
            case measure => omega
            case rel => exact ⟨k + 1, k + 1, z5, by omega, by go_num, by go_num, rfl, by omega, HD3.out, s5.out, HQ6.out⟩
        · obtain rfl : k = n29 := by omega
          have hdl : decide ((k : Int) < (k : Int)) = false := by simp
          have HBB : Hid (bb = bestM l pol s.ready) := Lib.hid (by rw [← HD.out, List.drop_eq_nil_of_le (by have := HN29.out; omega)]; rfl)
          clear HD HR
          obtain ⟨hjo, hjp⟩ := HI.out bb hbb
          have HJO := Lib.hid hjo
          have c0 := job_cell HS.out.rd rfl hbb 0 (by omega)
          have c1 := job_cell HS.out.rd rfl hbb 1 (by omega)
          have c2 := job_cell HS.out.rd rfl hbb 2 (by omega)
          have c3 := job_cell HS.out.rd rfl hbb 3 (by omega)
          have c4 := job_cell HS.out.rd rfl hbb 4 (by omega)
          simp only [Nat.add_zero] at c0
          replace c0 : z.w.cell? ⟨g, bb * 5, none⟩ = some (.int .i64 (jbAt s.ready bb).tk) := c0
          replace c1 : z.w.cell? ⟨g, bb * 5 + 1, none⟩ = some (.int .i64 (jbAt s.ready bb).num) := c1
          replace c2 : z.w.cell? ⟨g, bb * 5 + 2, none⟩ = some (.int .i64 (jbAt s.ready bb).rel) := c2
          replace c3 : z.w.cell? ⟨g, bb * 5 + 3, none⟩ = some (.int .i64 (jbAt s.ready bb).dn) := c3
          replace c4 : z.w.cell? ⟨g, bb * 5 + 4, none⟩ = some (.int .i64 (jbAt s.ready bb).pos) := c4
          have hgz := (HS.out.rd.lt g rfl).2
          have k3 : z.w.cell? ⟨b, 3, none⟩ = some (.slice (some ⟨g, 0, none⟩) s.ready.length cr) := HS.out.box.cell rfl
          have k4 : z.w.cell? ⟨b, 4, none⟩ = some vs := HS.out.box.cell rfl
          have hbz := HS.out.box.lt
          have hd0 := hjo.d0
          have hd1 := hjo.d1
          have htk := hjo.tk
          have hn0 := hjo.n0
          have hn1 := hjo.n1
          have hr0 := hjo.r0
          have hr1 := hjo.r1
          clear hjo
          generalize hjb : jbAt s.ready bb = j at *
          have HJB := Lib.hid hjb
          clear hjb
          obtain ⟨As, cs, rfl, _⟩ := own_slice HS.out.st
          go_upto_region 11 with (fail)
          go_cut [92] from 59 (fun sl wx => sl = .bool (decide (0 < s.stints.length ∧ (stAt s.stints (s.stints.length - 1)).tk = j.tk ∧ (stAt s.stints (s.stints.length - 1)).job = j.num ∧ (Stn.to (stAt s.stints (s.stints.length - 1))) = t)) ∧ Bel z.w wx)
          case first =>
            by_cases hs0 : s.stints.length = 0
            · have hsd : decide (0 < s.stints.length) = false := decide_eq_false (by omega)
              have HTB : Hid (decide (0 < s.stints.length ∧ (stAt s.stints (s.stints.length - 1)).tk = j.tk ∧ (stAt s.stints (s.stints.length - 1)).job = j.num ∧ (Stn.to (stAt s.stints (s.stints.length - 1))) = t) = false) := Lib.hid (by simp [hs0])
              clear hs0
              (refine wp_region_ext (wb := z.w) (by (repeat (first | exact Ext.bel _ | exact Bel.refl | refine Bel.alloc ?_ _ | refine Bel.drew ?_ | refine Bel.drewN ?_ _))) (by kernel_rfl) (by kernel_rfl) ?_; (repeat (any_goals (first | go_big_quiet_step (fail) | quiet_step (fail) | (refine wpQuiet_step (fun K hK => ?_); go_simp; split <;> (refine hK _ ?_; clear hK K))))); all_goals (refine wpQuiet_nil ?_; intro _ hw'; obtain ⟨y, hw''⟩ := hw'; subst hw''))
              go_wp2
              go_meet
              case rel => exact ⟨by rw [HTB.out], y.bel⟩
            · obtain ⟨gs, cs2, hvs, hcs2, _, hgsz⟩ := own_form HS.out.st (by omega)
              injection hvs with hvs _ hcc
              subst hvs hcc
              have hsd : decide (0 < s.stints.length) = true := decide_eq_true (by omega)
              have hs1 : s.stints.length - 1 < s.stints.length := by omega
              have e0 := stn_cell HS.out.st rfl hs1 0 (by omega)
              have e1 := stn_cell HS.out.st rfl hs1 1 (by omega)
              have e2 := stn_cell HS.out.st rfl hs1 2 (by omega)
              have e3 := stn_cell HS.out.st rfl hs1 3 (by omega)
              simp only [Nat.add_zero] at e0
              replace e0 : z.w.cell? ⟨gs, (s.stints.length - 1) * 4, none⟩ = some (.int .i64 (stAt s.stints (s.stints.length - 1)).tk) := e0
              replace e1 : z.w.cell? ⟨gs, (s.stints.length - 1) * 4 + 1, none⟩ = some (.int .i64 (stAt s.stints (s.stints.length - 1)).job) := e1
              replace e2 : z.w.cell? ⟨gs, (s.stints.length - 1) * 4 + 2, none⟩ = some (.int .i64 (stAt s.stints (s.stints.length - 1)).frm) := e2
              replace e3 : z.w.cell? ⟨gs, (s.stints.length - 1) * 4 + 3, none⟩ = some (.int .i64 (Stn.to (stAt s.stints (s.stints.length - 1)))) := e3
              generalize stAt s.stints (s.stints.length - 1) = sl at *
              have hwl : IntKind.i64.wrap ((s.stints.length : Int) - 1) = ((s.stints.length - 1 : Nat) : Int) := by rw [IntWalk.i64_in _ (by omega)]; omega
              have hse := fun (w : World) => stint_eql sl.tk sl.job sl.frm sl.to j.tk j.num sl.frm t w
              have hsg := stint_guard
              (refine wp_region_ext (wb := z.w) (by (repeat (first | exact Ext.bel _ | exact Bel.refl | refine Bel.alloc ?_ _ | refine Bel.drew ?_ | refine Bel.drewN ?_ _))) (by kernel_rfl) (by kernel_rfl) ?_; (repeat (any_goals (first | go_big_quiet_step (fail) | quiet_step (fail) | (refine wpQuiet_step (fun K hK => ?_); go_simp; split <;> (refine hK _ ?_; clear hK K))))); all_goals (refine wpQuiet_nil ?_; intro _ hw'; obtain ⟨y, hw''⟩ := hw'; subst hw''))
              clear hse hsg
              go_wp2
              go_meet
              case rel => exact ⟨by rw [Value.bool.injEq, Bool.eq_iff_iff]; simp; omega, y.bel⟩
          case rest =>
            obtain ⟨rfl, hbw⟩ := hcut
            have HSC := Lib.hid (HS.out.bel hbw)
            have m0 := (hbw.cells _ _ hgz).trans c0
            have m1 := (hbw.cells _ _ hgz).trans c1
            have m2 := (hbw.cells _ _ hgz).trans c2
            have m3 := (hbw.cells _ _ hgz).trans c3
            have m4 := (hbw.cells _ _ hgz).trans c4
            obtain ⟨zc, rfl⟩ := ext_of (z.bel.trans hbw)
            clear hbw HS c0 c1 c2 c3 c4 k3 k4 hbz hgz
            have hgz := (HSC.out.rd.lt g rfl).2
            generalize hdc : decide (0 < s.stints.length ∧ (stAt s.stints (s.stints.length - 1)).tk = j.tk ∧ (stAt s.stints (s.stints.length - 1)).job = j.num ∧ (Stn.to (stAt s.stints (s.stints.length - 1))) = t) = dc
            have HDC := Lib.hid hdc
            clear hdc
            go_upto_if 92 with (fail)
            go_cut [] from 93 (fun wx => ∃ (y : Ext wb) (vs' : Value), wx = y.w ∧ SimAt y.w wb.heap.size b vl vc pol (.slice (some ⟨g, 0, none⟩) s.ready.length cr) vs' vj { s with stints := stintsM t j s.stints })
            case first =>
              have k4 : zc.w.cell? ⟨b, 4, none⟩ = some (.slice As s.stints.length cs) := HSC.out.box.cell rfl
              have hbz := HSC.out.box.lt
              by_cases hcond : (0 < s.stints.length ∧ (stAt s.stints (s.stints.length - 1)).tk = j.tk ∧ (stAt s.stints (s.stints.length - 1)).job = j.num ∧ (Stn.to (stAt s.stints (s.stints.length - 1))) = t)
              · obtain rfl : dc = true := by rw [← HDC.out]; exact decide_eq_true hcond
                have HM : Hid (stintsM t j s.stints = s.stints.set (s.stints.length - 1) (stTo (stAt s.stints (s.stints.length - 1)) (t + 1))) := Lib.hid (by unfold stintsM; rw [if_pos hcond])
                obtain ⟨hc0, hc1, hc2, hc3⟩ := hcond
                obtain ⟨gs, cs2, hvs, hcs2, _, hgsz⟩ := own_form HSC.out.st hc0
                injection hvs with hvs _ hcc
                subst hvs hcc
                have hs1 : s.stints.length - 1 < s.stints.length := by omega
                have e3 := stn_cell HSC.out.st rfl hs1 3 (by omega)
                replace e3 : zc.w.cell? ⟨gs, (s.stints.length - 1) * 4 + 3, none⟩ = some (.int .i64 (Stn.to (stAt s.stints (s.stints.length - 1)))) := e3
                rw [hc3] at e3
                have hfz := HSC.out.st.frozenAt ((s.stints.length - 1) * 4 + 3)
                have hwl : (s.stints.length : Int) - 1 = ((s.stints.length - 1 : Nat) : Int) := by omega
                obtain ⟨o1, o2⟩ := stn_store HSC.out.st rfl hs1 (t + 1)
                have HSN := Lib.hid (HSC.out.new_s o2 o1)
                have hbel := Lib.hid (zc.bel.set (p := ⟨gs, (s.stints.length - 1) * 4 + 3, none⟩) (HSC.out.st.lt gs rfl).1 (.int .i64 (t + 1)))
                clear hc1 hc2 hc3 o1 o2
                go_wp2
                go_meet
                case rel =>
                  obtain ⟨y, hy⟩ := ext_of hbel.out
                  exact ⟨y, _, hy, by rw [← hy, HM.out]; exact HSN.out⟩
              · obtain rfl : dc = false := by rw [← HDC.out]; exact decide_eq_false hcond
                have HM : Hid (stintsM t j s.stints = s.stints ++ [⟨j.tk, j.num, t, t + 1⟩]) := Lib.hid (by unfold stintsM; rw [if_neg hcond])
                clear hcond
                go_upto_region 13 with (fail)
                obtain ⟨row, hrow⟩ : ∃ r, r = (Value.slice As s.stints.length cs).ownBlock := ⟨_, rfl⟩
                have hne : some b ≠ row := by rw [hrow]; exact box_row_ne HSC.out.box HSC.out.st (by decide)
                have hng : some g ≠ row := by
                  rw [hrow]
                  rcases own_types_ne HSC.out.rd HSC.out.st (by decide) with h | h
                  · cases h
                  · exact h
                have HROW := Lib.hid hrow
                clear hrow
                have hwt : IntKind.i64.wrap (t + 1) = t + 1 := IntWalk.i64_in _ (by omega)
                (refine wp_region_E 20 row (by kernel_rfl) ?_; refine anyE_takes [0, 1, 2, 3, 4, 5, 6, 7, 8, 9, 10, 11, 12, 13, 14, 15, 16, 17] (fun _ _ _ _ _ h => h) ⟨⟨_, gro_drew (gro_refl _)⟩, rfl⟩ (by kernel_rfl) (by rfl) ?_; simp only [opsOf, List.filterMap_cons, List.filterMap_nil, List.getElem?_toArray, List.getElem?_cons_succ, List.getElem?_cons_zero, List.foldl_cons, List.foldl_nil]; (repeat (any_goals (first | go_big_quiet_step (fail) | quiet_step (fail)))); refine wpQuiet_nil ?_)
                have HY : Hid (SimAt zc.w.drew wb.heap.size b vl vc pol (.slice (some ⟨g, 0, none⟩) s.ready.length cr) (.slice As s.stints.length cs) vj s) := Lib.hid ⟨HSC.out.box, HSC.out.rd, HSC.out.st, HSC.out.jb⟩
                have hle : wb.heap.size ≤ zc.w.drew.heap.size := zc.bel.le
                have HZD : Hid (Bel wb zc.w.drew) := Lib.hid zc.bel.drew
                have hgd : Hid (zc.w.grownBy zc.w.drew row) := Lib.hid (gro_drew (gro_refl _))
                generalize zc.w.drew = y at *
                (refine anyE_one 18 _ (by kernel_rfl) (by rfl) (fun K hK => ?_))
                go_simp
                refine hK _ _ (fun _ => ⟨⟨_, gro_alloc hgd.out _⟩, rfl⟩) ?_
                clear hK K
                clear k4 hbz
                obtain ⟨j0, hj0, hy0, hy1, hy2⟩ := info_parts Try.infoStn
                (refine anyE_one 19 _ (by kernel_rfl) (by rfl) (fun K hK => ?_))
                rw [if_pos (by rfl)]
                refine wp_append_own _ _ _ 72 rfl wb.heap.size 90 j0 _ 4 32 Try.underlying72 hj0 hy0 hy1 hy2 rfl (by decide) _ _ _ rfl (HY.out.st.alloc _) ⟨y.heap.size, 0, none⟩ 1 1 (stnC ⟨j.tk, j.num, t, t + 1⟩) rfl rfl ?d1 ?d2 ?d3 ?d4 ?d5 ?_
                case d1 => exact cells_new _ (stnC ⟨j.tk, j.num, t, t + 1⟩) _
                case d2 => intro u hu; simp [stnC] at hu; rcases hu with h | h | h | h <;> subst h <;> rfl
                case d3 => unfold maxLen; omega
                case d4 => omega
                case d5 => simp; omega
                intro v' w3 hown3 hg3 _
                obtain ⟨A', c', rfl, _⟩ := own_slice hown3
                replace hg3 := (World.grownBy_alloc y _ _).trans hg3
                refine hK _ _ (fun _ => ⟨⟨_, hgd.out.trans (by rw [HROW.out]; exact hg3)⟩, rfl⟩) ?_
                clear hK K
                have bx3 := HY.out.box_s hg3
                have b4 := bx3.cell (i := 4) rfl
                have f4 := bx3.frozen 4
                have l4 := bx3.lt
                have HS4 := Lib.hid (HY.out.put_s (l' := s.stints ++ [⟨j.tk, j.num, t, t + 1⟩]) hg3 (by rw [List.flatMap_append, List.length_append]; simpa using hown3))
                have HB4 : Hid (Bel wb (w3.setCell ⟨b, 4, none⟩ (.slice A' (s.stints.length + 1) c'))) := Lib.hid ((bel_gro HZD.out hg3 (fun k hk => (HY.out.st.lt k hk).1)).set hb _)
                clear hown3 hg3 bx3
                (refine anyE_tail 20 (by decide) (by rfl) (by kernel_rfl) ?_; simp only [List.drop_succ_cons, List.drop_zero])
                go_wp2
                refine NoPanic.normal ?_
                clear b4 f4 l4
                generalize hW : World.setCell w3 _ _ = W4 at *
                clear hW
                go_wp2
                go_meet
                case rel =>
                  obtain ⟨y4, rfl⟩ := ext_of HB4.out
                  exact ⟨y4, _, rfl, by rw [HM.out]; exact HS4.out⟩
            case rest =>
              obtain ⟨yc, vs', rfl, hsc2⟩ := hcut
              have HQ := Lib.hid hsc2
              clear hsc2 HSC m0 m1 m2 m3 m4 hgz HDC
              have hgz := (HQ.out.rd.lt g rfl).2
              have c0 := job_cell HQ.out.rd rfl hbb 0 (by omega)
              have c2 := job_cell HQ.out.rd rfl hbb 2 (by omega)
              have c3 := job_cell HQ.out.rd rfl hbb 3 (by omega)
              have c4 := job_cell HQ.out.rd rfl hbb 4 (by omega)
              simp only [Nat.add_zero, HJB.out] at c0 c2 c3 c4
              replace c0 : yc.w.cell? ⟨g, bb * 5, none⟩ = some (.int .i64 j.tk) := c0
              replace c2 : yc.w.cell? ⟨g, bb * 5 + 2, none⟩ = some (.int .i64 j.rel) := c2
              replace c3 : yc.w.cell? ⟨g, bb * 5 + 3, none⟩ = some (.int .i64 j.dn) := c3
              replace c4 : yc.w.cell? ⟨g, bb * 5 + 4, none⟩ = some (.int .i64 j.pos) := c4
              have hfz := HQ.out.rd.frozenAt (bb * 5 + 3)
              have hcb := (tok_at H0.out htk).c2
              have hcb2 : (tskAt l j.tk).cost ≤ 1000 := by have := (tok_at H0.out htk).d2; have := (tok_at H0.out htk).p2; omega
              obtain ⟨o1, o2⟩ := job_store HQ.out.rd rfl hbb (j.dn + 1)
              rw [HJB.out] at o1
              have HQ2 : Hid (SimAt (yc.w.setCell ⟨g, bb * 5 + 3, none⟩ (.int .i64 (j.dn + 1))) wb.heap.size b vl vc pol (.slice (some ⟨g, 0, none⟩) s.ready.length cr) vs' vj ⟨s.ready.set bb ⟨j.tk, j.num, j.rel, j.dn + 1, j.pos⟩, stintsM t j s.stints, s.jobs⟩) := Lib.hid (HQ.out.new_r o2 o1)
              have hbel := Lib.hid (yc.bel.set (p := ⟨g, bb * 5 + 3, none⟩) (HQ.out.rd.lt g rfl).1 (.int .i64 (j.dn + 1)))
              have p0 : (yc.w.setCell ⟨g, bb * 5 + 3, none⟩ (.int .i64 (j.dn + 1))).cell? ⟨g, bb * 5, none⟩ = some (.int .i64 j.tk) := by rw [World.cell?_setCell_other _ _ _ _ (by intro e; injection e with _ e _; omega)]; exact c0
              have p2 : (yc.w.setCell ⟨g, bb * 5 + 3, none⟩ (.int .i64 (j.dn + 1))).cell? ⟨g, bb * 5 + 2, none⟩ = some (.int .i64 j.rel) := by rw [World.cell?_setCell_other _ _ _ _ (by intro e; injection e with _ e _; omega)]; exact c2
              have p4 : (yc.w.setCell ⟨g, bb * 5 + 3, none⟩ (.int .i64 (j.dn + 1))).cell? ⟨g, bb * 5 + 4, none⟩ = some (.int .i64 j.pos) := by rw [World.cell?_setCell_other _ _ _ _ (by intro e; injection e with _ e _; omega)]; exact c4
              clear o1 o2 c0 c2 c4
              go_upto_region 15 with (fail)
              clear c3 hfz hgz
              generalize hW : World.setCell yc.w _ _ = W at *
              clear hW HQ
              obtain ⟨zd, rfl⟩ := ext_of hbel.out
              have hgz := (HQ2.out.rd.lt g rfl).2
              have hrd : zd.w.ownsRow wb.heap.size 132 5 (.slice (some ⟨g, 0, none⟩) s.ready.length cr) s.ready.length ((s.ready.set bb ⟨j.tk, j.num, j.rel, j.dn + 1, j.pos⟩).flatMap jobC) := by have := HQ2.out.rd; dsimp only at this; rwa [List.length_set] at this
              have HRD := Lib.hid hrd
              have p3 := job_cell hrd (by simp) (show bb < (s.ready.set bb ⟨j.tk, j.num, j.rel, j.dn + 1, j.pos⟩).length by simpa using hbb) 3 (by omega)
              clear hrd
              replace p3 : zd.w.cell? ⟨g, bb * 5 + 3, none⟩ = some (.int .i64 (j.dn + 1)) := by rw [p3]; simp [jobC, jbAt, List.getD, hbb]
              have k0 : zd.w.cell? ⟨b, 0, none⟩ = some vl := HQ2.out.box.cell rfl
              have hbz := HQ2.out.box.lt
              obtain ⟨A, c, rfl, hc⟩ := HT.out.form
              obtain ⟨ba, off, rfl, hba, hA⟩ := HT.out.at_ (by omega)
              obtain ⟨sv, ⟨t0, t1, t2, t3, t4, t5, t6⟩, _⟩ := hA j.tk htk
              clear t0 t1 t2 t3 t5 t6 hA
              generalize hco : (tskAt l j.tk).cost = co at *
              have HCO := Lib.hid hco
              clear hco
              have hwd : IntKind.i64.wrap (j.dn + 1) = j.dn + 1 := IntWalk.i64_in _ (by omega)
              (refine wp_region_ext (wb := zd.w) (by (repeat (first | exact Ext.bel _ | exact Bel.refl | refine Bel.alloc ?_ _ | refine Bel.drew ?_ | refine Bel.drewN ?_ _))) (by kernel_rfl) (by kernel_rfl) ?_; (repeat (any_goals (first | go_big_quiet_step (fail) | quiet_step (fail) | (refine wpQuiet_step (fun K hK => ?_); go_simp; split <;> (refine hK _ ?_; clear hK K))))); all_goals (refine wpQuiet_nil ?_; intro _ hw'; obtain ⟨y, hw''⟩ := hw'; subst hw''))
              have HY := Lib.hid (HQ2.out.bel y.bel)
              have HRY := Lib.hid (ownsRow_bel HRD.out y.bel)
              obtain ⟨ze, hze⟩ := ext_of (zd.bel.trans y.bel)
              have q2 := (y.bel.cells _ _ hgz).trans p2
              have q4 := (y.bel.cells _ _ hgz).trans p4
              generalize y.w = wy at *
              subst hze
              clear p0 p2 p3 p4 k0 hbz hgz t4 HQ2 HRD hbel
              have HME : Hid (exeM l pol t s = runOne l t bb s) := Lib.hid (by rw [HE.out, HBB.out])
              by_cases hdn : j.dn + 1 = co
              · have HM2 : Hid (exeM l pol t s = ⟨s.ready.eraseIdx bb, stintsM t j s.stints, s.jobs.set j.pos { dnAt s.jobs j.pos with resp := t + 1 - j.rel }⟩) := Lib.hid (by
                  rw [HME.out]; unfold runOne; dsimp only; rw [HJB.out, if_pos (by rw [HCO.out]; exact hdn)])
                subst hdn
                obtain ⟨gj, cj, rfl, hcj, _, hgjz⟩ := own_form HY.out.jb (show 0 < s.jobs.length by omega)
                have k5 : ze.w.cell? ⟨b, 5, none⟩ = some (.slice (some ⟨gj, 0, none⟩) s.jobs.length cj) := HY.out.box.cell rfl
                have hbz := HY.out.box.lt
                have hgz := (HRY.out.lt g rfl).2
                have r3 := don_cell HY.out.jb rfl hjp 3 (by omega)
                replace r3 : ze.w.cell? ⟨gj, j.pos * 5 + 3, none⟩ = some (.int .i64 (dnAt s.jobs j.pos).resp) := r3
                have hfr := HY.out.jb.frozenAt (j.pos * 5 + 3)
                have hwt : IntKind.i64.wrap (t + 1) = t + 1 := IntWalk.i64_in _ (by omega)
                have hws : IntKind.i64.wrap (t + 1 - j.rel) = t + 1 - j.rel := IntWalk.i64_in _ (by omega)
                go_upto_region 16 with (fail)
                (refine wp_region_qtail 18 (wb := ze.w) (by (repeat (first | exact Ext.bel _ | exact Bel.refl | refine Bel.alloc ?_ _ | refine Bel.drew ?_ | refine Bel.drewN ?_ _))) (by kernel_rfl) (by kernel_rfl) ?_; simp only [List.take_succ_cons, List.take_zero, List.drop_succ_cons, List.drop_zero]; (repeat (any_goals (first | go_big_quiet_step (fail) | quiet_step (fail) | (refine wpQuiet_step (fun K hK => ?_); go_simp; split <;> (refine hK _ ?_; clear hK K))))); all_goals (refine wpQuiet_nil ?_; intro _ hw'; obtain ⟨y, hw''⟩ := hw'; subst hw''))
                have HY2 := Lib.hid (HY.out.bel y.bel)
                have HRY2 := Lib.hid (ownsRow_bel HRY.out y.bel)
                obtain ⟨zf, hzf⟩ := ext_of (ze.bel.trans y.bel)
                generalize y.w = wy at *
                subst hzf
                obtain ⟨o1, o2⟩ := don_resp HY2.out.jb rfl hjp (t + 1 - j.rel)
                have HS3 := Lib.hid (HY2.out.new_j o2 o1)
                have HR3 := Lib.hid (HRY2.out.kept o2 (own_types_ne HRY2.out HY2.out.jb (by decide)))
                have hbel := Lib.hid (zf.bel.set (p := ⟨gj, j.pos * 5 + 3, none⟩) (HY2.out.jb.lt gj rfl).1 (.int .i64 (t + 1 - j.rel)))
                have r3 := don_cell HY2.out.jb rfl hjp 3 (by omega)
                replace r3 : zf.w.cell? ⟨gj, j.pos * 5 + 3, none⟩ = some (.int .i64 (dnAt s.jobs j.pos).resp) := r3
                have hfr := HY2.out.jb.frozenAt (j.pos * 5 + 3)
                clear o1 o2 q2 q4 hgz k5 hbz
                go_upto_region 17 with (fail)
                clear r3 hfr hwt hws hgjz
                generalize hW : World.setCell zf.w _ _ = W3 at *
                clear hW HY HRY HY2 HRY2
                obtain ⟨zg, rfl⟩ := ext_of hbel.out
                have k3 : zg.w.cell? ⟨b, 3, none⟩ = some (.slice (some ⟨g, 0, none⟩) s.ready.length cr) := HS3.out.box.cell rfl
                have hbz := HS3.out.box.lt
                have hwb : IntKind.i64.wrap ((bb : Int) + 1) = (bb : Int) + 1 := IntWalk.i64_in _ (by omega)
                have hwb1 : 0 ≤ (bb : Int) + 1 := by omega
                have hwb2 : (bb : Int) + 1 ≤ (s.ready.length : Int) := by omega
                have hwb3 : ((bb : Int) + 1).toNat = bb + 1 := by omega
                go_cut [] from 93 (fun wx => ∃ y : Ext wb, wx = y.w ∧ SimAt y.w wb.heap.size b (.slice (some ⟨ba, off, none⟩) l.length c) vc pol (.slice (some ⟨g, 0, none⟩) s.ready.length cr) vs' (.slice (some ⟨gj, 0, none⟩) s.jobs.length cj) ⟨(s.ready.set bb ⟨j.tk, j.num, j.rel, j.dn + 1, j.pos⟩).take bb ++ (s.ready.set bb ⟨j.tk, j.num, j.rel, j.dn + 1, j.pos⟩).drop (bb + 1) ++ (s.ready.set bb ⟨j.tk, j.num, j.rel, j.dn + 1, j.pos⟩).drop (s.ready.length - 1), stintsM t j s.stints, s.jobs.set j.pos { dnAt s.jobs j.pos with resp := t + 1 - j.rel }⟩)
                case first =>
                  have hbc : ¬ bb = cr := by omega
                  have hbb2 : bb ≤ s.ready.length := by omega
                  have hbc2 : ¬ cr = bb := fun e => hbc e.symm
                  (refine wp_region_qtail 13 (wb := zg.w) (by (repeat (first | exact Ext.bel _ | exact Bel.refl | refine Bel.alloc ?_ _ | refine Bel.drew ?_ | refine Bel.drewN ?_ _))) (by kernel_rfl) (by kernel_rfl) ?_; simp only [List.take_succ_cons, List.take_zero, List.drop_succ_cons, List.drop_zero]; (repeat (any_goals (first | go_big_quiet_step (fail) | quiet_step (fail) | (refine wpQuiet_step (fun K hK => ?_); go_simp; split <;> (refine hK _ ?_; clear hK K))))); all_goals (refine wpQuiet_nil ?_; intro _ hw'; obtain ⟨y, hw''⟩ := hw'; subst hw''))
                  generalize hio : (if cr = bb + 1 then (some ⟨g, 0, none⟩ : Option Addr) else some ⟨g, (bb + 1) * 5, none⟩) = io
                  obtain ⟨ad, rfl, had⟩ : ∃ ad, io = some ad ∧ (bb + 1 < s.ready.length → ad = ⟨g, (bb + 1) * 5, none⟩) := by
                    rw [← hio]
                    by_cases hcc : cr = bb + 1
                    · rw [if_pos hcc]; exact ⟨_, rfl, fun h => absurd h (by omega)⟩
                    · rw [if_neg hcc]; exact ⟨_, rfl, fun _ => rfl⟩
                  clear hio
                  obtain ⟨w', hr, hs', hb'⟩ := (HS3.out.bel y.bel).copied (zg.bel.trans y.bel) (by rw [List.length_set]) hbb (cr - bb) (cr - (bb + 1)) ad had
                  have HS6 := Lib.hid hs'
                  have HB6 := Lib.hid hb'
                  clear hs' hb' had
                  refine wpList_copy_run rfl (.tmp 175) (.tmp 182) 111 111 rfl _ _ _ rfl rfl (hr _) ?_
                  clear hr
                  go_wp2
                  go_meet
                  case rel =>
                    obtain ⟨y6, rfl⟩ := ext_of HB6.out
                    exact ⟨y6, rfl, HS6.out⟩
                case rest =>
                  obtain ⟨yy, rfl, hsy⟩ := hcut
                  have HSY := Lib.hid hsy
                  clear hsy k3 hbz HS3 hwb hwb1 hwb2 hwb3
                  have k3 : yy.w.cell? ⟨b, 3, none⟩ = some (.slice (some ⟨g, 0, none⟩) s.ready.length cr) := HSY.out.box.cell rfl
                  have f3 := HSY.out.box.frozen 3
                  have hbz := HSY.out.box.lt
                  have hwl : IntKind.i64.wrap ((s.ready.length : Int) - 1) = ((s.ready.length - 1 : Nat) : Int) := by rw [IntWalk.i64_in _ (by omega)]; omega
                  have hlc : s.ready.length - 1 ≤ cr := by omega
                  go_upto_region 18 with (fail)
                  (refine wp_region_qtail 14 (wb := yy.w) (by (repeat (first | exact Ext.bel _ | exact Bel.refl | refine Bel.alloc ?_ _ | refine Bel.drew ?_ | refine Bel.drewN ?_ _))) (by kernel_rfl) (by kernel_rfl) ?_; simp only [List.take_succ_cons, List.take_zero, List.drop_succ_cons, List.drop_zero]; (repeat (any_goals (first | go_big_quiet_step (fail) | quiet_step (fail) | (refine wpQuiet_step (fun K hK => ?_); go_simp; split <;> (refine hK _ ?_; clear hK K))))); all_goals (refine wpQuiet_nil ?_; intro _ hw'; obtain ⟨y, hw''⟩ := hw'; subst hw''))
                  have HS7 := (HSY.out.bel y.bel).cut (by rw [List.length_set]) hbb
                  rw [erase_set, ← HM2.out] at HS7
                  replace HS7 := Lib.hid HS7
                  have HB7 := Lib.hid ((yy.bel.trans y.bel).set (p := ⟨b, 3, none⟩) hb (.slice (some ⟨g, 0, none⟩) (s.ready.length - 1) cr))
                  go_wp2
                  go_end0
                  exact exe_post HB7.out HS7.out
              · have HM2 : Hid (exeM l pol t s = ⟨s.ready.set bb ⟨j.tk, j.num, j.rel, j.dn + 1, j.pos⟩, stintsM t j s.stints, s.jobs⟩) := Lib.hid (by
                  rw [HME.out]; unfold runOne; dsimp only; rw [HJB.out, if_neg (by rw [HCO.out]; exact hdn)])
                have hne : (j.dn + 1 == co) = false := by simpa using hdn
                go_wp2
                go_end0
                exact exe_post ze.bel (by rw [HM2.out]; exact HY.out)
end Go.Proofs.Ytbilfpoghohddaa
