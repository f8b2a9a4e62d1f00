import Derived.Test.YthcdemmamggboaaHsim
import Derived.Test.YthcdemmamggboaaTrceils
namespace Go.Proofs.Ythcdemmamggboaa
open Go.RowKit
theorem ceils_at (l : List Tsk) (n : Nat) (h : n < 8) : (ceils l).getD n 0 = ceilT n l 0 := by simp [ceils, List.getD, h]
theorem ceils_len (l : List Tsk) : (ceils l).length = 8 := by simp [ceils]
theorem ceilS_bd (r p M : Int) (hp : 0 ≤ p) (hM : p ≤ M) : ∀ (ss : List Sec) (m : Int), 0 ≤ m → m ≤ M → 0 ≤ ceilS r p ss m ∧ ceilS r p ss m ≤ M
  | [], m, h1, h2 => ⟨h1, h2⟩
  | s :: ss, m, h1, h2 => by
    simp only [ceilS]
    refine ceilS_bd r p M hp hM ss _ ?_ ?_ <;> (split <;> (try split) <;> omega)
theorem ceilT_bd (r M : Int) : ∀ (l : List Tsk) (m : Int), (∀ t ∈ l, 0 ≤ t.prio ∧ t.prio ≤ M) → 0 ≤ m → m ≤ M → 0 ≤ ceilT r l m ∧ ceilT r l m ≤ M
  | [], m, _, h1, h2 => ⟨h1, h2⟩
  | t :: l, m, h, h1, h2 => by
    obtain ⟨a, b⟩ := ceilS_bd r t.prio M (h t (by simp)).1 (h t (by simp)).2 t.secs m h1 h2
    simp only [ceilT]
    exact ceilT_bd r M l _ (fun x hx => h x (by simp [hx])) a b
theorem prio_bd {l : List Tsk} (hs : Sized l) (h0 : rchk l = 0) : ∀ t ∈ l, 1 ≤ t.prio ∧ t.prio ≤ 9223372036854775807 := fun t ht => by
  obtain ⟨k, hk, rfl⟩ := List.mem_iff_getElem.mp ht
  have h1 := (hs.wf k hk).prio.2
  have h2 := (tskBad_false.1 ((rchk_ok h0).2 k hk).1).2.2.1
  have e : tskAt l k = l[k] := by simp [tskAt, List.getD, hk]
  rw [e] at h1 h2
  exact ⟨h2, h1⟩
theorem rank_bd {l : List Tsk} (hs : Sized l) (h0 : rchk l = 0) (d : Int) : ∀ (ss : List Sec) (p : Int × Bool), 1 ≤ p.1 → p.1 ≤ 9223372036854775807 → 1 ≤ (rankS l d p ss).1 ∧ (rankS l d p ss).1 ≤ 9223372036854775807
  | [], p, h1, h2 => ⟨h1, h2⟩
  | s :: ss, p, h1, h2 => by
    obtain ⟨a, b⟩ := ceilT_bd s.res 9223372036854775807 l 0 (fun t ht => by have := prio_bd hs h0 t ht; omega) (by omega) (by omega)
    simp only [rankS]
    refine rank_bd hs h0 d ss _ ?_ ?_ <;> (unfold mx; split <;> (try dsimp only) <;> (try split) <;> omega)
theorem rankM_bd {l : List Tsk} (hs : Sized l) (h0 : rchk l = 0) {j : Job} (hj : j.tk < l.length) : 1 ≤ (rankM l j).1 ∧ (rankM l j).1 ≤ 9223372036854775807 := by
  have := prio_bd hs h0 _ (tskm hj)
  exact rank_bd hs h0 _ _ _ this.1 this.2
def keyV (l : List Tsk) (pol : Int) (j : Job) : Value := .agg ((keyM l pol j).map (Value.int .i64)).toArray
def outI (q : Bool) : Int := if q then 0 else 1
theorem bool_sec (s : Sec) (d : Int) : insideB s d = (decide (s.frm < d) && decide (d < s.frm + s.len)) := rfl
set_option maxRecDepth 100000 in
set_option maxHeartbeats 8000000 in
theorem urgency_any (wb : World) (b : Nat) (vl vc : Value) (pol : Int) (l : List Tsk) (j : Job) (hT : TsksAt wb wb.heap.size vl l) (hC : IntsAt wb wb.heap.size vc (ceils l)) (hs : Sized l) (h0 : rchk l = 0) (hj : JOk l j)
    (x : Ext wb) (vr vs vj : Value) (hbox : RowAt x.w b 61 [vl, vc, .int .i64 pol, vr, vs, vj]) :
    Calls Try.prog 37 #[.pointer (some ⟨b, 0, none⟩), .agg #[.int .i64 j.tk, .int .i64 j.num, .int .i64 j.rel, .int .i64 j.dn, .int .i64 j.pos]] x.w fun e w' => e = .returned (keyV l pol j) ∧ Bel x.w w' := by
  obtain ⟨jtk, jn0, jn1, jr0, jr1, jd0, jd1⟩ := hj
  have HS := Lib.hid hs
  have H0 := Lib.hid h0
  have hl8 := (rchk_ok h0).1
  obtain ⟨A, c, rfl, hc⟩ := hT.form
  obtain ⟨ba, off, rfl, hba, hA⟩ := hT.at_ (by omega)
  obtain ⟨sv, ⟨t0, t1, t2, t3, t4, t5, t6⟩, hSA⟩ := hA j.tk jtk
  obtain ⟨A2, c2, rfl, hc2⟩ := hSA.form
  have HSA := Lib.hid hSA
  have hok := tok_at h0 jtk
  have hd1 := hok.d1
  have hd2 : (tskAt l j.tk).dl ≤ 1000 := by have := hok.d2; have := hok.p2; omega
  have hdn : j.dn ≤ 1000 := by have := hok.c2; omega
  have hsl := (hs.parts j.tk jtk).1
  have HSO := Lib.hid (fun i (hi : i < (tskAt l j.tk).secs.length) => sec_ok h0 jtk hi)
  obtain ⟨Ac, cc, rfl, hcc⟩ := hC.form
  have HC := Lib.hid hC
  rw [ceils_len] at *
  have HB := Lib.hid hbox
  clear hs h0 hok hA hSA hC hbox hT
  go_enter Try.func37, Try.ntmps37
  go_upto_region 1 with (fail)
  generalize hW : World.alloc (World.alloc x.w _) _ = wc at *
  have r0 : RowAt wc x.w.heap.size 78 (jobC j) := by rw [← hW]; exact (RowAt.new _ _ _).alloc _
  have r1 : RowAt wc (x.w.heap.size + 1) 79 [.int .i64 0, .int .i64 0, .int .i64 0, .int .i64 0, .int .i64 0] := by rw [← hW]; have := RowAt.new (x.w.alloc (.cells (jobC j).toArray 78)) 79 [.int .i64 0, .int .i64 0, .int .i64 0, .int .i64 0, .int .i64 0]; rw [show (x.w.alloc (.cells (jobC j).toArray 78)).heap.size = x.w.heap.size + 1 by simp] at this; exact this
  have HBC : Hid (Bel x.w wc) := Lib.hid (by rw [← hW]; exact (Bel.refl.alloc _).alloc _)
  clear hW
  obtain ⟨z, rfl⟩ := ext_of (x.bel.trans HBC.out)
  have rb := HB.out.bel HBC.out
  have k0 := rb.cell (i := 0) rfl
  have hbz := rb.lt
  have m0 := r0.cell (i := 0) rfl
  have m0z := r0.lt
  have HR0 := Lib.hid r0
  have HR1 := Lib.hid r1
  have HRB := Lib.hid rb
  clear r0 r1 rb HB
  generalize hn0 : x.w.heap.size = n0 at *
  have HN0 := Lib.hid hn0
  clear hn0
  (refine wp_region_E 9 none (by kernel_rfl) ?_; refine anyE_takes [0, 1, 2, 3, 4, 5, 6, 7] (fun _ _ _ _ _ h => h) ⟨⟨_, gro_drew (gro_refl _)⟩, rfl⟩ (by kernel_rfl) (by rfl) ?_; simp only [opsOf, List.filterMap_cons, List.filterMap_nil, List.getElem?_toArray, List.getElem?_cons_succ, List.getElem?_cons_zero, List.foldl_cons, List.foldl_nil]; (repeat (any_goals (first | go_big_quiet_step (fail) | quiet_step (fail)))); refine wpQuiet_nil ?_)
  (refine anyE_one 8 _ (by kernel_rfl) (by rfl) (fun K hK => ?_))
  go_simp
  refine hK _ _ (fun _ => ⟨⟨_, gro_alloc (gro_drew (gro_refl _)) _⟩, rfl⟩) ?_
  clear hK K
  (refine anyE_tail 9 (by decide) (by rfl) (by kernel_rfl) ?_; simp only [List.drop_succ_cons, List.drop_zero])
  go_wp2
  refine NoPanic.normal ?_
  generalize hW : World.drew (World.alloc z.w _) = W at *
  have r2 : RowAt W z.w.heap.size 45 (tskCells (tskAt l j.tk) (.slice A2 (tskAt l j.tk).secs.length c2)) := by rw [← hW]; exact (RowAt.new z.w _ _).drew
  have HBW : Hid (Bel z.w W) := Lib.hid (by rw [← hW]; exact (Bel.refl.alloc _).drew)
  clear hW k0 hbz m0 m0z t0 t1 t2 t3 t4 t5 t6
  have HR0' := Lib.hid (HR0.out.bel HBW.out)
  have HR1' := Lib.hid (HR1.out.bel HBW.out)
  have HRB' := Lib.hid (HRB.out.bel HBW.out)
  have HBX := Lib.hid (HBC.out.trans HBW.out)
  obtain ⟨y, rfl⟩ := ext_of (z.bel.trans HBW.out)
  have HR2 := Lib.hid r2
  clear r2 HR0 HR1 HRB HBW HBC
  generalize z.w.heap.size = n2 at *
  have k2 := HRB'.out.cell (i := 2) rfl
  have hbz := HRB'.out.lt
  by_cases hp : pol = 2
  · subst hp
    have HK : Hid (keyM l 2 j = [j.rel + (tskAt l j.tk).dl, j.tk, j.num, 0, 0]) := Lib.hid (by unfold keyM dlJ; rw [if_pos rfl])
    have a0 := HR0'.out.cell (i := 0) rfl
    have a1 := HR0'.out.cell (i := 1) rfl
    have a2 := HR0'.out.cell (i := 2) rfl
    have az := HR0'.out.lt
    have d3 := HR2.out.cell (i := 3) rfl
    have dz := HR2.out.lt
    have e0 := HR1'.out.cell (i := 0) rfl
    have e1 := HR1'.out.cell (i := 1) rfl
    have e2 := HR1'.out.cell (i := 2) rfl
    have e3 := HR1'.out.cell (i := 3) rfl
    have e4 := HR1'.out.cell (i := 4) rfl
    have g0 := HR1'.out.frozen 0
    have g1 := HR1'.out.frozen 1
    have g2 := HR1'.out.frozen 2
    have g3 := HR1'.out.frozen 3
    have g4 := HR1'.out.frozen 4
    have ez := HR1'.out.lt
    have hown : x.w.heap.size ≤ n0 + 1 := by rw [HN0.out]; omega
    go_wp2
    have R5 := Lib.hid (((((HR1'.out.set 0 (.int .i64 (j.rel + (tskAt l j.tk).dl))).set 1 (.int .i64 (j.tk))).set 2 (.int .i64 (j.num))).set 3 (.int .i64 (0))).set 4 (.int .i64 0))
    have B5 := Lib.hid (((((HBX.out.set (p := ⟨n0 + 1, 0, none⟩) hown (.int .i64 (j.rel + (tskAt l j.tk).dl))).set (p := ⟨n0 + 1, 1, none⟩) hown (.int .i64 (j.tk))).set (p := ⟨n0 + 1, 2, none⟩) hown (.int .i64 (j.num))).set (p := ⟨n0 + 1, 3, none⟩) hown (.int .i64 (0))).set (p := ⟨n0 + 1, 4, none⟩) hown (.int .i64 0))
    clear e0 e1 e2 e3 e4 g0 g1 g2 g3 g4 ez
    generalize World.setCell _ ⟨n0 + 1, 4, none⟩ _ = W5 at *
    have w0 := R5.out.cell (i := 0) rfl
    have w1 := R5.out.cell (i := 1) rfl
    have w2 := R5.out.cell (i := 2) rfl
    have w3 := R5.out.cell (i := 3) rfl
    have w4 := R5.out.cell (i := 4) rfl
    exact bodyPost_ret (v := keyV l 2 j) (by rw [keyV, HK.out]; simp [results, Try.results37, go_sem, w0, w1, w2, w3, w4]) rfl ⟨rfl, B5.out⟩
  · have hp2 : (pol == 2) = false := by simpa using hp
    have HK : Hid (keyM l pol j = [-(rankM l j).1, outI (rankM l j).2, j.rel, j.tk, 0]) := Lib.hid (by unfold keyM; rw [if_neg hp]; rfl)
    have HRK : Hid (rankS l j.dn ((tskAt l j.tk).prio, false) ((tskAt l j.tk).secs.drop 0) = rankM l j) := Lib.hid rfl
    have hrb := rankM_bd HS.out H0.out jtk
    have a0 := HR0'.out.cell (i := 0) rfl
    have a2 := HR0'.out.cell (i := 2) rfl
    have a3 := HR0'.out.cell (i := 3) rfl
    have az := HR0'.out.lt
    have d5 := HR2.out.cell (i := 5) rfl
    have d6 := HR2.out.cell (i := 6) rfl
    have dz := HR2.out.lt
    go_wp2
    clear d5 d6 dz
    go_loopg [6, 7, 38] (tskAt l j.tk).secs.length (fun gk s6 s7 s38 wr => ∃ (i : Nat) (m : Int) (q : Bool) (u : Ext y.w), i + gk = (tskAt l j.tk).secs.length ∧ s6 = .int .i64 m ∧ s7 = .int .i64 (outI q) ∧ s38 = .int .i64 i ∧ wr = u.w ∧ rankS l j.dn (m, q) ((tskAt l j.tk).secs.drop i) = rankM l j)
    case atStart => exact ⟨0, _, false, ⟨y.w, Bel.refl⟩, by omega, rfl, rfl, rfl, rfl, HRK.out⟩
    case round =>
      clear HRK
      obtain ⟨i, m, q, u, hi, rfl, rfl, rfl, rfl, hd⟩ := hrel
      by_cases hlt : i < (tskAt l j.tk).secs.length
      · have hdl : decide ((i : Int) < ((tskAt l j.tk).secs.length : Int)) = true := by simp; omega
        obtain ⟨b2, off2, rfl, hb2, hA2⟩ := HSA.out.at_ (by omega)
        obtain ⟨s0, s1, s2⟩ := hA2 i hlt
        obtain ⟨so1, so2, so3, so4, so5, so6⟩ := HSO.out i hlt
        rw [secs_drop hlt] at hd
        simp only [rankS] at hd
        have hb2y : b2 < y.w.heap.size := Nat.lt_of_lt_of_le hb2 y.bel.le
        have hins := bool_sec (secAt (tskAt l j.tk).secs i) j.dn
        have HINS := Lib.hid hins
        have HD := Lib.hid hd
        clear hA2 hd hins
        have hcc := HC.out
        obtain ⟨bc, oc, rfl, hbc, hAC⟩ := hcc.at_ (by rw [ceils_len]; omega)
        generalize (secAt (tskAt l j.tk).secs i).res = rs at *
        obtain ⟨rn, rfl⟩ : ∃ rn : Nat, rs = rn := ⟨rs.toNat, by omega⟩
        have c9 := hAC rn (by rw [ceils_len]; omega)
        rw [ceils_at l rn (by omega)] at c9
        clear hcc hAC
        generalize (secAt (tskAt l j.tk).secs i).frm = frm at *
        generalize (secAt (tskAt l j.tk).secs i).len = len at *
        go_upto_region 8 with (fail)
        generalize hW : World.alloc u.w _ = W8 at *
        have r8 : RowAt W8 u.w.heap.size 70 [.int .i64 rn, .int .i64 frm, .int .i64 len] := by rw [← hW]; exact RowAt.new u.w _ _
        have hb8 : Bel u.w W8 := by rw [← hW]; exact Bel.refl.alloc _
        clear hW s0 s1 s2
        have hbx := (HRB'.out.bel u.bel).bel hb8
        have k1 := hbx.cell (i := 1) rfl
        have hbz8 := hbx.lt
        have HBO := Lib.hid (y.bel.trans (u.bel.trans hb8))
        clear hbx
        have hc8 : W8.cell? ⟨bc, oc + rn, none⟩ = some (.int .i64 (ceilT rn l 0)) := (HBO.out.cells _ _ hbc).trans c9
        have hbc8 : bc < W8.heap.size := Nat.lt_of_lt_of_le hbc HBO.out.le
        obtain ⟨z8, rfl⟩ := ext_of (u.bel.trans hb8)
        have s0 := r8.cell (i := 0) rfl
        have s1 := r8.cell (i := 1) rfl
        have s2 := r8.cell (i := 2) rfl
        have sz := r8.lt
        have HR8 := Lib.hid r8
        clear r8 hb8
        generalize u.w.heap.size = n8 at *
        have hdn0 : z8.w.cell? ⟨n0, 3, none⟩ = some (.int .i64 j.dn) := by rw [ext_cells _ _ _ az]; exact a3
        clear c9
        generalize hcv : ceilT rn l 0 = cv at *
        clear hcv
        by_cases h1 : frm < j.dn
        · have d1 : decide (frm < j.dn) = true := by simpa using h1
          by_cases h2 : j.dn < frm + len
          · have d2 : decide (j.dn < frm + len) = true := by simpa using h2
            have HD2 := HD.out
            rw [HINS.out, d1, d2] at HD2
            simp only [Bool.and_true, if_true] at HD2
            rcases Int.lt_trichotomy m cv with hm | hm | hm
            · have hdm : decide (m < cv) = true := by simpa using hm
              have hdm2 : decide (cv < m) = false := by simp; omega
              have HX : Hid (mx m cv = cv) := Lib.hid (by unfold mx; rw [if_pos hm])
              rw [HX.out] at HD2
              have HD3 := Lib.hid HD2
              clear HD2
              go_upto_region 9 with (fail)
              (refine wp_region_ext (wb := z8.w) (by (repeat (first | exact Ext.bel _ | exact Bel.refl | refine Bel.alloc ?_ _ | refine Bel.drew ?_ | refine Bel.drewN ?_ _))) (by kernel_rfl) (by kernel_rfl) ?_; (repeat (any_goals (first | go_big_quiet_step (fail) | quiet_step (fail) | (refine wpQuiet_step (fun K hK => ?_); go_simp; split <;> (refine hK _ ?_; clear hK K))))); all_goals (refine wpQuiet_nil ?_; intro _ hw'; obtain ⟨y, hw''⟩ := hw'; subst hw''))
              go_wp2
              all_goals
                go_roundg (gk - 1)
                case measure => omega
                case rel => exact ⟨i + 1, _, true, ⟨_, z8.bel.trans y.bel⟩, by omega, rfl, rfl, by go_num, rfl, HD3.out⟩
            · subst hm
              have HX : Hid (mx m m = m) := Lib.hid (by unfold mx; simp)
              rw [HX.out] at HD2
              have HD3 := Lib.hid HD2
              clear HD2
              go_upto_region 9 with (fail)
              (refine wp_region_ext (wb := z8.w) (by (repeat (first | exact Ext.bel _ | exact Bel.refl | refine Bel.alloc ?_ _ | refine Bel.drew ?_ | refine Bel.drewN ?_ _))) (by kernel_rfl) (by kernel_rfl) ?_; (repeat (any_goals (first | go_big_quiet_step (fail) | quiet_step (fail) | (refine wpQuiet_step (fun K hK => ?_); go_simp; split <;> (refine hK _ ?_; clear hK K))))); all_goals (refine wpQuiet_nil ?_; intro _ hw'; obtain ⟨y, hw''⟩ := hw'; subst hw''))
              go_wp2
              all_goals
                go_roundg (gk - 1)
                case measure => omega
                case rel => exact ⟨i + 1, _, true, ⟨_, z8.bel.trans y.bel⟩, by omega, rfl, rfl, by go_num, rfl, HD3.out⟩
            · have hdm : decide (m < cv) = false := by simp; omega
              have hdm2 : decide (cv < m) = true := by simpa using hm
              have HX : Hid (mx m cv = m) := Lib.hid (by unfold mx; rw [if_neg (by omega)])
              rw [HX.out] at HD2
              have HD3 := Lib.hid HD2
              clear HD2
              go_upto_region 9 with (fail)
              (refine wp_region_ext (wb := z8.w) (by (repeat (first | exact Ext.bel _ | exact Bel.refl | refine Bel.alloc ?_ _ | refine Bel.drew ?_ | refine Bel.drewN ?_ _))) (by kernel_rfl) (by kernel_rfl) ?_; (repeat (any_goals (first | go_big_quiet_step (fail) | quiet_step (fail) | (refine wpQuiet_step (fun K hK => ?_); go_simp; split <;> (refine hK _ ?_; clear hK K))))); all_goals (refine wpQuiet_nil ?_; intro _ hw'; obtain ⟨y, hw''⟩ := hw'; subst hw''))
              go_wp2
              all_goals
                go_roundg (gk - 1)
                case measure => omega
                case rel => exact ⟨i + 1, _, true, ⟨_, z8.bel.trans y.bel⟩, by omega, rfl, rfl, by go_num, rfl, HD3.out⟩
          · have d2 : decide (j.dn < frm + len) = false := by simpa using h2
            have HD2 := HD.out
            rw [HINS.out, d1, d2] at HD2
            simp only [Bool.and_false, Bool.false_eq_true, if_false] at HD2
            have HD3 := Lib.hid HD2
            clear HD2
            go_wp2
            go_roundg (gk - 1)
            case measure => omega
            case rel => exact ⟨i + 1, m, q, z8, by omega, rfl, rfl, by go_num, rfl, HD3.out⟩
        · have d1 : decide (frm < j.dn) = false := by simpa using h1
          have HD2 := HD.out
          rw [HINS.out, d1] at HD2
          simp only [Bool.false_and, Bool.false_eq_true, if_false] at HD2
          have HD3 := Lib.hid HD2
          clear HD2
          go_wp2
          go_roundg (gk - 1)
          case measure => omega
          case rel => exact ⟨i + 1, m, q, z8, by omega, rfl, rfl, by go_num, rfl, HD3.out⟩
      · obtain rfl : i = (tskAt l j.tk).secs.length := by omega
        have hdl : decide (((tskAt l j.tk).secs.length : Int) < ((tskAt l j.tk).secs.length : Int)) = false := by simp
        have hrk : rankM l j = (m, q) := by rw [← hd]; simp [rankS]
        rw [hrk] at HK hrb
        dsimp only at HK hrb
        clear hrk hd
        have hown : x.w.heap.size ≤ n0 + 1 := by rw [HN0.out]; omega
        have e0 := HR1'.out.cell (i := 0) rfl
        have g0 := HR1'.out.frozen 0
        have e1 := HR1'.out.cell (i := 1) rfl
        have g1 := HR1'.out.frozen 1
        have e2 := HR1'.out.cell (i := 2) rfl
        have g2 := HR1'.out.frozen 2
        have e3 := HR1'.out.cell (i := 3) rfl
        have g3 := HR1'.out.frozen 3
        have e4 := HR1'.out.cell (i := 4) rfl
        have g4 := HR1'.out.frozen 4
        have ez := HR1'.out.lt
        go_wp2
        have R5 := Lib.hid ((((((HR1'.out.bel u.bel).set 0 (.int .i64 (-m))).set 1 (.int .i64 (outI q))).set 2 (.int .i64 (j.rel))).set 3 (.int .i64 (j.tk))).set 4 (.int .i64 0))
        have B5 := Lib.hid ((((((HBX.out.trans u.bel).set (p := ⟨n0 + 1, 0, none⟩) hown (.int .i64 (-m))).set (p := ⟨n0 + 1, 1, none⟩) hown (.int .i64 (outI q))).set (p := ⟨n0 + 1, 2, none⟩) hown (.int .i64 (j.rel))).set (p := ⟨n0 + 1, 3, none⟩) hown (.int .i64 (j.tk))).set (p := ⟨n0 + 1, 4, none⟩) hown (.int .i64 0))
        clear e0 e1 e2 e3 e4 g0 g1 g2 g3 g4 ez
        generalize World.setCell _ ⟨n0 + 1, 4, none⟩ _ = W5 at *
        have w0 := R5.out.cell (i := 0) rfl
        have w1 := R5.out.cell (i := 1) rfl
        have w2 := R5.out.cell (i := 2) rfl
        have w3 := R5.out.cell (i := 3) rfl
        have w4 := R5.out.cell (i := 4) rfl
        exact bodyPost_ret (v := keyV l pol j) (by rw [keyV, HK.out]; simp [results, Try.results37, go_sem, w0, w1, w2, w3, w4]) rfl ⟨rfl, B5.out⟩
end Go.Proofs.Ythcdemmamggboaa
