import Derived.Test.YthcdemmamggboaaG5
import Derived.Test.YthcdemmamggboaaG6
import Derived.Test.YthcdemmamggboaaG1
import Derived.Laws.StructEq
namespace Go.Proofs.Ythcdemmamggboaa
open Go.RowKit
theorem ceils_at (l : List Tsk) (n : Nat) (h : n < 8) : (ceils l).getD n 0 = ceilT n l 0 := by simp [ceils, List.getD, h]
theorem ceils_len (l : List Tsk) : (ceils l).length = 8 := by simp [ceils]
theorem ceilS_bd (r p M : Int) (hp : 0 ≤ p) (hM : p ≤ M) : ∀ (ss : List Sec) (m : Int), 0 ≤ m → m ≤ M → 0 ≤ ceilS r p ss m ∧ ceilS r p ss m ≤ M
  | [], m, h1, h2 => ⟨h1, h2⟩
  | s :: ss, m, h1, h2 => by
    simp only [ceilS]
    refine ceilS_bd r p M hp hM ss _ ?_ ?_ <;> (split <;> (try split) <;> omega)
theorem ceilT_bd (r M : Int) : ∀ (l : List Tsk) (m : Int), (∀ t ∈ l, 0 ≤ t.prio ∧ t.prio ≤ M) → 0 ≤ m → m ≤ M → 0 ≤ ceilT r l m ∧ ceilT r l m ≤ M
  | [], m, _, h1, h2 => ⟨h1, h2⟩
  | t :: l, m, h, h1, h2 => by
    obtain ⟨a, b⟩ := ceilS_bd r t.prio M (h t (by simp)).1 (h t (by simp)).2 t.secs m h1 h2
    simp only [ceilT]
    exact ceilT_bd r M l _ (fun x hx => h x (by simp [hx])) a b
theorem prio_bd {l : List Tsk} (hs : Sized l) (h0 : rchk l = 0) : ∀ t ∈ l, 1 ≤ t.prio ∧ t.prio ≤ 9223372036854775807 := fun t ht => by
  obtain ⟨k, hk, rfl⟩ := List.mem_iff_getElem.mp ht
  have h1 := (hs.wf k hk).prio.2
  have h2 := (tskBad_false.1 ((rchk_ok h0).2 k hk).1).2.2.1
  have e : tskAt l k = l[k] := by simp [tskAt, List.getD, hk]
  rw [e] at h1 h2
  exact ⟨h2, h1⟩
theorem rank_bd {l : List Tsk} (hs : Sized l) (h0 : rchk l = 0) (d : Int) : ∀ (ss : List Sec) (p : Int × Bool), 1 ≤ p.1 → p.1 ≤ 9223372036854775807 → 1 ≤ (rankS l d p ss).1 ∧ (rankS l d p ss).1 ≤ 9223372036854775807
  | [], p, h1, h2 => ⟨h1, h2⟩
  | s :: ss, p, h1, h2 => by
    obtain ⟨a, b⟩ := ceilT_bd s.res 9223372036854775807 l 0 (fun t ht => by have := prio_bd hs h0 t ht; omega) (by omega) (by omega)
    simp only [rankS]
    refine rank_bd hs h0 d ss _ ?_ ?_ <;> (unfold mx; split <;> (try dsimp only) <;> (try split) <;> omega)
theorem rankM_bd {l : List Tsk} (hs : Sized l) (h0 : rchk l = 0) {j : Job} (hj : j.tk < l.length) : 1 ≤ (rankM l j).1 ∧ (rankM l j).1 ≤ 9223372036854775807 := by
  have := prio_bd hs h0 _ (tskm hj)
  exact rank_bd hs h0 _ _ _ this.1 this.2
def keyV (l : List Tsk) (pol : Int) (j : Job) : Value := .agg ((keyM l pol j).map (Value.int .i64)).toArray
def outI (q : Bool) : Int := if q then 0 else 1
theorem bool_sec (s : Sec) (d : Int) : insideB s d = (decide (s.frm < d) && decide (d < s.frm + s.len)) := rfl
set_option maxRecDepth 100000 in
set_option maxHeartbeats 8000000 in
theorem urgency_any (wb : World) (b : Nat) (vl vc : Value) (pol : Int) (l : List Tsk) (j : Job) (hT : TsksAt wb wb.heap.size vl l) (hC : IntsAt wb wb.heap.size vc (ceils l)) (hs : Sized l) (h0 : rchk l = 0) (hj : JOk l j)
    (x : Ext wb) (vr vs vj : Value) (hbox : RowAt x.w b 61 [vl, vc, .int .i64 pol, vr, vs, vj]) :
    Calls Try.prog 37 #[.pointer (some ⟨b, 0, none⟩), .agg #[.int .i64 j.tk, .int .i64 j.num, .int .i64 j.rel, .int .i64 j.dn, .int .i64 j.pos]] x.w fun e w' => e = .returned (keyV l pol j) ∧ Bel x.w w' := by
  obtain ⟨jtk, jn0, jn1, jr0, jr1, jd0, jd1⟩ := hj
  have HS := Lib.hid hs
  have H0 := Lib.hid h0
  have hl8 := (rchk_ok h0).1
  obtain ⟨A, c, rfl, hc⟩ := hT.form
  obtain ⟨ba, off, rfl, hba, hA⟩ := hT.at_ (by omega)
  obtain ⟨sv, ⟨t0, t1, t2, t3, t4, t5, t6⟩, hSA⟩ := hA j.tk jtk
  obtain ⟨A2, c2, rfl, hc2⟩ := hSA.form
  have HSA := Lib.hid hSA
  have hok := tok_at h0 jtk
  have hd1 := hok.d1
  have hd2 : (tskAt l j.tk).dl ≤ 1000 := by have := hok.d2; have := hok.p2; omega
  have hdn : j.dn ≤ 1000 := by have := hok.c2; omega
  have hsl := (hs.parts j.tk jtk).1
  have HSO := Lib.hid (fun i (hi : i < (tskAt l j.tk).secs.length) => sec_ok h0 jtk hi)
  obtain ⟨Ac, cc, rfl, hcc⟩ := hC.form
  have HC := Lib.hid hC
  rw [ceils_len] at *
  have HB := Lib.hid hbox
  clear hs h0 hok hA hSA hC hbox hT
  go_enter Try.func37, Try.ntmps37
  go_upto_region 1 with (fail)
  generalize hW : World.alloc (World.alloc x.w _) _ = wc at *
  have r0 : RowAt wc x.w.heap.size 78 (jobC j) := by rw [← hW]; exact (RowAt.new _ _ _).alloc _
  have r1 : RowAt wc (x.w.heap.size + 1) 79 [.int .i64 0, .int .i64 0, .int .i64 0, .int .i64 0, .int .i64 0] := by rw [← hW]; have := RowAt.new (x.w.alloc (.cells (jobC j).toArray 78)) 79 [.int .i64 0, .int .i64 0, .int .i64 0, .int .i64 0, .int .i64 0]; rw [show (x.w.alloc (.cells (jobC j).toArray 78)).heap.size = x.w.heap.size + 1 by simp] at this; exact this
  have HBC : Hid (Bel x.w wc) := Lib.hid (by rw [← hW]; exact (Bel.refl.alloc _).alloc _)
  clear hW
  obtain ⟨z, rfl⟩ := ext_of (x.bel.trans HBC.out)
  have rb := HB.out.bel HBC.out
  have k0 := rb.cell (i := 0) rfl
  have hbz := rb.lt
  have m0 := r0.cell (i := 0) rfl
  have m0z := r0.lt
  have HR0 := Lib.hid r0
  have HR1 := Lib.hid r1
  have HRB := Lib.hid rb
  clear r0 r1 rb HB
  generalize hn0 : x.w.heap.size = n0 at *
  have HN0 := Lib.hid hn0
  clear hn0
  (refine wp_region_E 9 none (by kernel_rfl) ?_; refine anyE_takes [0, 1, 2, 3, 4, 5, 6, 7] (fun _ _ _ _ _ h => h) ⟨⟨_, gro_drew (gro_refl _)⟩, rfl⟩ (by kernel_rfl) (by rfl) ?_; simp only [opsOf, List.filterMap_cons, List.filterMap_nil, List.getElem?_toArray, List.getElem?_cons_succ, List.getElem?_cons_zero, List.foldl_cons, List.foldl_nil]; (repeat (any_goals (first | go_big_quiet_step (fail) | quiet_step (fail)))); refine wpQuiet_nil ?_)
  (refine anyE_one 8 _ (by kernel_rfl) (by rfl) (fun K hK => ?_))
  go_simp
  refine hK _ _ (fun _ => ⟨⟨_, gro_alloc (gro_drew (gro_refl _)) _⟩, rfl⟩) ?_
  clear hK K
  (refine anyE_tail 9 (by decide) (by rfl) (by kernel_rfl) ?_; simp only [List.drop_succ_cons, List.drop_zero])
  go_wp2
  refine NoPanic.normal ?_
  generalize hW : World.drew (World.alloc z.w _) = W at *
  have r2 : RowAt W z.w.heap.size 45 (tskCells (tskAt l j.tk) (.slice A2 (tskAt l j.tk).secs.length c2)) := by rw [← hW]; exact (RowAt.new z.w _ _).drew
  have HBW : Hid (Bel z.w W) := Lib.hid (by rw [← hW]; exact (Bel.refl.alloc _).drew)
  clear hW k0 hbz m0 m0z t0 t1 t2 t3 t4 t5 t6
  have HR0' := Lib.hid (HR0.out.bel HBW.out)
  have HR1' := Lib.hid (HR1.out.bel HBW.out)
  have HRB' := Lib.hid (HRB.out.bel HBW.out)
  have HBX := Lib.hid (HBC.out.trans HBW.out)
  obtain ⟨y, rfl⟩ := ext_of (z.bel.trans HBW.out)
  have HR2 := Lib.hid r2
  clear r2 HR0 HR1 HRB HBW HBC
  generalize z.w.heap.size = n2 at *
  have k2 := HRB'.out.cell (i := 2) rfl
  have hbz := HRB'.out.lt
  by_cases hp : pol = 2
  · subst hp
    have HK : Hid (keyM l 2 j = [j.rel + (tskAt l j.tk).dl, j.tk, j.num, 0, 0]) := Lib.hid (by unfold keyM dlJ; rw [if_pos rfl])
    have a0 := HR0'.out.cell (i := 0) rfl
    have a1 := HR0'.out.cell (i := 1) rfl
    have a2 := HR0'.out.cell (i := 2) rfl
    have az := HR0'.out.lt
    have d3 := HR2.out.cell (i := 3) rfl
    have dz := HR2.out.lt
    have e0 := HR1'.out.cell (i := 0) rfl
    have e1 := HR1'.out.cell (i := 1) rfl
    have e2 := HR1'.out.cell (i := 2) rfl
    have e3 := HR1'.out.cell (i := 3) rfl
    have e4 := HR1'.out.cell (i := 4) rfl
    have g0 := HR1'.out.frozen 0
    have g1 := HR1'.out.frozen 1
    have g2 := HR1'.out.frozen 2
    have g3 := HR1'.out.frozen 3
    have g4 := HR1'.out.frozen 4
    have ez := HR1'.out.lt
    have hown : x.w.heap.size ≤ n0 + 1 := by rw [HN0.out]; omega
    go_wp2
    have R5 := Lib.hid (((((HR1'.out.set 0 (.int .i64 (j.rel + (tskAt l j.tk).dl))).set 1 (.int .i64 (j.tk))).set 2 (.int .i64 (j.num))).set 3 (.int .i64 (0))).set 4 (.int .i64 0))
    have B5 := Lib.hid (((((HBX.out.set (p := ⟨n0 + 1, 0, none⟩) hown (.int .i64 (j.rel + (tskAt l j.tk).dl))).set (p := ⟨n0 + 1, 1, none⟩) hown (.int .i64 (j.tk))).set (p := ⟨n0 + 1, 2, none⟩) hown (.int .i64 (j.num))).set (p := ⟨n0 + 1, 3, none⟩) hown (.int .i64 (0))).set (p := ⟨n0 + 1, 4, none⟩) hown (.int .i64 0))
    clear e0 e1 e2 e3 e4 g0 g1 g2 g3 g4 ez
    generalize World.setCell _ ⟨n0 + 1, 4, none⟩ _ = W5 at *
    have w0 := R5.out.cell (i := 0) rfl
    have w1 := R5.out.cell (i := 1) rfl
    have w2 := R5.out.cell (i := 2) rfl
    have w3 := R5.out.cell (i := 3) rfl
    have w4 := R5.out.cell (i := 4) rfl
    exact bodyPost_ret (v := keyV l 2 j) (by rw [keyV, HK.out]; simp [results, Try.results37, go_sem, w0, w1, w2, w3, w4]) rfl ⟨rfl, B5.out⟩
  · have hp2 : (pol == 2) = false := by simpa using hp
    have HK : Hid (keyM l pol j = [-(rankM l j).1, outI (rankM l j).2, j.rel, j.tk, 0]) := Lib.hid (by unfold keyM; rw [if_neg hp]; rfl)
    have HRK : Hid (rankS l j.dn ((tskAt l j.tk).prio, false) ((tskAt l j.tk).secs.drop 0) = rankM l j) := Lib.hid rfl
    have hrb := rankM_bd HS.out H0.out jtk
    have a0 := HR0'.out.cell (i := 0) rfl
    have a2 := HR0'.out.cell (i := 2) rfl
    have a3 := HR0'.out.cell (i := 3) rfl
    have az := HR0'.out.lt
    have d5 := HR2.out.cell (i := 5) rfl
    have d6 := HR2.out.cell (i := 6) rfl
    have dz := HR2.out.lt
    go_wp2
    clear d5 d6 dz
    go_loopg [6, 7, 38] (tskAt l j.tk).secs.length (fun gk s6 s7 s38 wr => ∃ (i : Nat) (m : Int) (q : Bool) (u : Ext y.w), i + gk = (tskAt l j.tk).secs.length ∧ s6 = .int .i64 m ∧ s7 = .int .i64 (outI q) ∧ s38 = .int .i64 i ∧ wr = u.w ∧ rankS l j.dn (m, q) ((tskAt l j.tk).secs.drop i) = rankM l j)
    case atStart => exact ⟨0, _, false, ⟨y.w, Bel.refl⟩, by omega, rfl, rfl, rfl, rfl, HRK.out⟩
    case round =>
      clear HRK
      obtain ⟨i, m, q, u, hi, rfl, rfl, rfl, rfl, hd⟩ := hrel
      by_cases hlt : i < (tskAt l j.tk).secs.length
      · have hdl : decide ((i : Int) < ((tskAt l j.tk).secs.length : Int)) = true := by simp; omega
        obtain ⟨b2, off2, rfl, hb2, hA2⟩ := HSA.out.at_ (by omega)
        obtain ⟨s0, s1, s2⟩ := hA2 i hlt
        obtain ⟨so1, so2, so3, so4, so5, so6⟩ := HSO.out i hlt
        rw [secs_drop hlt] at hd
        simp only [rankS] at hd
        have hb2y : b2 < y.w.heap.size := Nat.lt_of_lt_of_le hb2 y.bel.le
        have hins := bool_sec (secAt (tskAt l j.tk).secs i) j.dn
        have HINS := Lib.hid hins
        have HD := Lib.hid hd
        clear hA2 hd hins
        have hcc := HC.out
        obtain ⟨bc, oc, rfl, hbc, hAC⟩ := hcc.at_ (by rw [ceils_len]; omega)
        generalize (secAt (tskAt l j.tk).secs i).res = rs at *
        obtain ⟨rn, rfl⟩ : ∃ rn : Nat, rs = rn := ⟨rs.toNat, by omega⟩
        have c9 := hAC rn (by rw [ceils_len]; omega)
        rw [ceils_at l rn (by omega)] at c9
        clear hcc hAC
        generalize (secAt (tskAt l j.tk).secs i).frm = frm at *
        generalize (secAt (tskAt l j.tk).secs i).len = len at *
        go_upto_region 8 with (fail)
        generalize hW : World.alloc u.w _ = W8 at *
        have r8 : RowAt W8 u.w.heap.size 70 [.int .i64 rn, .int .i64 frm, .int .i64 len] := by rw [← hW]; exact RowAt.new u.w _ _
        have hb8 : Bel u.w W8 := by rw [← hW]; exact Bel.refl.alloc _
        clear hW s0 s1 s2
        have hbx := (HRB'.out.bel u.bel).bel hb8
        have k1 := hbx.cell (i := 1) rfl
        have hbz8 := hbx.lt
        have HBO := Lib.hid (y.bel.trans (u.bel.trans hb8))
        clear hbx
        have hc8 : W8.cell? ⟨bc, oc + rn, none⟩ = some (.int .i64 (ceilT rn l 0)) := (HBO.out.cells _ _ hbc).trans c9
        have hbc8 : bc < W8.heap.size := Nat.lt_of_lt_of_le hbc HBO.out.le
        obtain ⟨z8, rfl⟩ := ext_of (u.bel.trans hb8)
        have s0 := r8.cell (i := 0) rfl
        have s1 := r8.cell (i := 1) rfl
        have s2 := r8.cell (i := 2) rfl
        have sz := r8.lt
        have HR8 := Lib.hid r8
        clear r8 hb8
        generalize u.w.heap.size = n8 at *
        have hdn0 : z8.w.cell? ⟨n0, 3, none⟩ = some (.int .i64 j.dn) := by rw [ext_cells _ _ _ az]; exact a3
        clear c9
        generalize hcv : ceilT rn l 0 = cv at *
        clear hcv
        by_cases h1 : frm < j.dn
        · have d1 : decide (frm < j.dn) = true := by simpa using h1
          by_cases h2 : j.dn < frm + len
          · have d2 : decide (j.dn < frm + len) = true := by simpa using h2
            have HD2 := HD.out
            rw [HINS.out, d1, d2] at HD2
            simp only [Bool.and_true, if_true] at HD2
            rcases Int.lt_trichotomy m cv with hm | hm | hm
            · have hdm : decide (m < cv) = true := by simpa using hm
              have hdm2 : decide (cv < m) = false := by simp; omega
              have HX : Hid (mx m cv = cv) := Lib.hid (by unfold mx; rw [if_pos hm])
              rw [HX.out] at HD2
              have HD3 := Lib.hid HD2
              clear HD2
              go_upto_region 9 with (fail)
              (refine wp_region_ext (wb := z8.w) (by (repeat (first | exact Ext.bel _ | exact Bel.refl | refine Bel.alloc ?_ _ | refine Bel.drew ?_ | refine Bel.drewN ?_ _))) (by kernel_rfl) (by kernel_rfl) ?_; (repeat (any_goals (first | go_big_quiet_step (fail) | quiet_step (fail) | (refine wpQuiet_step (fun K hK => ?_); go_simp; split <;> (refine hK _ ?_; clear hK K))))); all_goals (refine wpQuiet_nil ?_; intro _ hw'; obtain ⟨y, hw''⟩ := hw'; subst hw''))
              go_wp2
              all_goals
                go_roundg (gk - 1)
                case measure => omega
                case rel => exact ⟨i + 1, _, true, ⟨_, z8.bel.trans y.bel⟩, by omega, rfl, rfl, by go_num, rfl, HD3.out⟩
            · subst hm
              have HX : Hid (mx m m = m) := Lib.hid (by unfold mx; simp)
              rw [HX.out] at HD2
              have HD3 := Lib.hid HD2
              clear HD2
              go_upto_region 9 with (fail)
              (refine wp_region_ext (wb := z8.w) (by (repeat (first | exact Ext.bel _ | exact Bel.refl | refine Bel.alloc ?_ _ | refine Bel.drew ?_ | refine Bel.drewN ?_ _))) (by kernel_rfl) (by kernel_rfl) ?_; (repeat (any_goals (first | go_big_quiet_step (fail) | quiet_step (fail) | (refine wpQuiet_step (fun K hK => ?_); go_simp; split <;> (refine hK _ ?_; clear hK K))))); all_goals (refine wpQuiet_nil ?_; intro _ hw'; obtain ⟨y, hw''⟩ := hw'; subst hw''))
              go_wp2
              all_goals
                go_roundg (gk - 1)
                case measure => omega
                case rel => exact ⟨i + 1, _, true, ⟨_, z8.bel.trans y.bel⟩, by omega, rfl, rfl, by go_num, rfl, HD3.out⟩
            · have hdm : decide (m < cv) = false := by simp; omega
              have hdm2 : decide (cv < m) = true := by simpa using hm
              have HX : Hid (mx m cv = m) := Lib.hid (by unfold mx; rw [if_neg (by omega)])
              rw [HX.out] at HD2
              have HD3 := Lib.hid HD2
              clear HD2
              go_upto_region 9 with (fail)
              (refine wp_region_ext (wb := z8.w) (by (repeat (first | exact Ext.bel _ | exact Bel.refl | refine Bel.alloc ?_ _ | refine Bel.drew ?_ | refine Bel.drewN ?_ _))) (by kernel_rfl) (by kernel_rfl) ?_; (repeat (any_goals (first | go_big_quiet_step (fail) | quiet_step (fail) | (refine wpQuiet_step (fun K hK => ?_); go_simp; split <;> (refine hK _ ?_; clear hK K))))); all_goals (refine wpQuiet_nil ?_; intro _ hw'; obtain ⟨y, hw''⟩ := hw'; subst hw''))
              go_wp2
              all_goals
                go_roundg (gk - 1)
                case measure => omega
                case rel => exact ⟨i + 1, _, true, ⟨_, z8.bel.trans y.bel⟩, by omega, rfl, rfl, by go_num, rfl, HD3.out⟩
          · have d2 : decide (j.dn < frm + len) = false := by simpa using h2
            have HD2 := HD.out
            rw [HINS.out, d1, d2] at HD2
            simp only [Bool.and_false, Bool.false_eq_true, if_false] at HD2
            have HD3 := Lib.hid HD2
            clear HD2
            go_wp2
            go_roundg (gk - 1)
            case measure => omega
            case rel => exact ⟨i + 1, m, q, z8, by omega, rfl, rfl, by go_num, rfl, HD3.out⟩
        · have d1 : decide (frm < j.dn) = false := by simpa using h1
          have HD2 := HD.out
          rw [HINS.out, d1] at HD2
          simp only [Bool.false_and, Bool.false_eq_true, if_false] at HD2
          have HD3 := Lib.hid HD2
          clear HD2
          go_wp2
          go_roundg (gk - 1)
          case measure => omega
          case rel => exact ⟨i + 1, m, q, z8, by omega, rfl, rfl, by go_num, rfl, HD3.out⟩
      · obtain rfl : i = (tskAt l j.tk).secs.length := by omega
        have hdl : decide (((tskAt l j.tk).secs.length : Int) < ((tskAt l j.tk).secs.length : Int)) = false := by simp
        have hrk : rankM l j = (m, q) := by rw [← hd]; simp [rankS]
        rw [hrk] at HK hrb
        dsimp only at HK hrb
        clear hrk hd
        have hown : x.w.heap.size ≤ n0 + 1 := by rw [HN0.out]; omega
        have e0 := HR1'.out.cell (i := 0) rfl
        have g0 := HR1'.out.frozen 0
        have e1 := HR1'.out.cell (i := 1) rfl
        have g1 := HR1'.out.frozen 1
        have e2 := HR1'.out.cell (i := 2) rfl
        have g2 := HR1'.out.frozen 2
        have e3 := HR1'.out.cell (i := 3) rfl
        have g3 := HR1'.out.frozen 3
        have e4 := HR1'.out.cell (i := 4) rfl
        have g4 := HR1'.out.frozen 4
        have ez := HR1'.out.lt
        go_wp2
        have R5 := Lib.hid ((((((HR1'.out.bel u.bel).set 0 (.int .i64 (-m))).set 1 (.int .i64 (outI q))).set 2 (.int .i64 (j.rel))).set 3 (.int .i64 (j.tk))).set 4 (.int .i64 0))
        have B5 := Lib.hid ((((((HBX.out.trans u.bel).set (p := ⟨n0 + 1, 0, none⟩) hown (.int .i64 (-m))).set (p := ⟨n0 + 1, 1, none⟩) hown (.int .i64 (outI q))).set (p := ⟨n0 + 1, 2, none⟩) hown (.int .i64 (j.rel))).set (p := ⟨n0 + 1, 3, none⟩) hown (.int .i64 (j.tk))).set (p := ⟨n0 + 1, 4, none⟩) hown (.int .i64 0))
        clear e0 e1 e2 e3 e4 g0 g1 g2 g3 g4 ez
        generalize World.setCell _ ⟨n0 + 1, 4, none⟩ _ = W5 at *
        have w0 := R5.out.cell (i := 0) rfl
        have w1 := R5.out.cell (i := 1) rfl
        have w2 := R5.out.cell (i := 2) rfl
        have w3 := R5.out.cell (i := 3) rfl
        have w4 := R5.out.cell (i := 4) rfl
        exact bodyPost_ret (v := keyV l pol j) (by rw [keyV, HK.out]; simp [results, Try.results37, go_sem, w0, w1, w2, w3, w4]) rfl ⟨rfl, B5.out⟩
end Go.Proofs.Ythcdemmamggboaa
namespace Go.Proofs.Ythcdemmamggboaa
open Go.RowKit
theorem jbAt_eq {l : List Job} {k : Nat} (h : k < l.length) : jbAt l k = l[k] := by simp [jbAt, List.getD, h]
theorem stAt_eq {l : List Stn} {k : Nat} (h : k < l.length) : stAt l k = l[k] := by simp [stAt, List.getD, h]
theorem dnAt_eq {l : List Don} {k : Nat} (h : k < l.length) : dnAt l k = l[k] := by simp [dnAt, List.getD, h]
theorem jobs_drop {l : List Job} {i : Nat} (h : i < l.length) : l.drop i = jbAt l i :: l.drop (i + 1) := by
  rw [List.drop_eq_getElem_cons h]; simp [jbAt, List.getD, h]
theorem getE_set {α : Type} [Inhabited α] (l : List α) (k : Nat) (a : α) : (l.set k a).length = l.length := List.length_set
section
variable {w w' : World} {base b g n cap : Nat} {vl vc : Value} {pol : Int} {vr vs vj v' : Value} {s : St}
theorem SimAt.new_r (h : SimAt w base b vl vc pol vr vs vj s) {l' : List Job} (hg : w.grownBy w' vr.ownBlock) (ho : w'.ownsRow base 78 5 vr l'.length (l'.flatMap jobC)) :
    SimAt w' base b vl vc pol vr vs vj { s with ready := l' } :=
  ⟨h.box_r hg, ho, h.st.kept hg (own_types_ne h.st h.rd (by decide)), h.jb.kept hg (own_types_ne h.jb h.rd (by decide))⟩
theorem SimAt.new_s (h : SimAt w base b vl vc pol vr vs vj s) {l' : List Stn} (hg : w.grownBy w' vs.ownBlock) (ho : w'.ownsRow base 39 4 vs l'.length (l'.flatMap stnC)) :
    SimAt w' base b vl vc pol vr vs vj { s with stints := l' } :=
  ⟨h.box_s hg, h.rd.kept hg (own_types_ne h.rd h.st (by decide)), ho, h.jb.kept hg (own_types_ne h.jb h.st (by decide))⟩
theorem SimAt.new_j (h : SimAt w base b vl vc pol vr vs vj s) {l' : List Don} (hg : w.grownBy w' vj.ownBlock) (ho : w'.ownsRow base 42 5 vj l'.length (l'.flatMap donC)) :
    SimAt w' base b vl vc pol vr vs vj { s with jobs := l' } :=
  ⟨h.box_j hg, h.rd.kept hg (own_types_ne h.rd h.jb (by decide)), h.st.kept hg (own_types_ne h.st h.jb (by decide)), ho⟩
/-- a job's cells -/
theorem job_cell {l : List Job} (h : w.ownsRow base 78 5 (.slice (some ⟨g, 0, none⟩) n cap) n (l.flatMap jobC)) (hn : n = l.length) {k : Nat} (hk : k < l.length) (r : Nat) (hr : r < 5) :
    w.cell? ⟨g, k * 5 + r, none⟩ = (jobC (jbAt l k))[r]? := by
  subst hn
  rw [h.cellAt (k * 5 + r) (by omega), flat_at jobC_len l k r hk hr, jbAt_eq hk]
theorem stn_cell {l : List Stn} (h : w.ownsRow base 39 4 (.slice (some ⟨g, 0, none⟩) n cap) n (l.flatMap stnC)) (hn : n = l.length) {k : Nat} (hk : k < l.length) (r : Nat) (hr : r < 4) :
    w.cell? ⟨g, k * 4 + r, none⟩ = (stnC (stAt l k))[r]? := by
  subst hn
  rw [h.cellAt (k * 4 + r) (by omega), flat_at stnC_len l k r hk hr, stAt_eq hk]
theorem don_cell {l : List Don} (h : w.ownsRow base 42 5 (.slice (some ⟨g, 0, none⟩) n cap) n (l.flatMap donC)) (hn : n = l.length) {k : Nat} (hk : k < l.length) (r : Nat) (hr : r < 5) :
    w.cell? ⟨g, k * 5 + r, none⟩ = (donC (dnAt l k))[r]? := by
  subst hn
  rw [h.cellAt (k * 5 + r) (by omega), flat_at donC_len l k r hk hr, dnAt_eq hk]
theorem job_store {l : List Job} (h : w.ownsRow base 78 5 (.slice (some ⟨g, 0, none⟩) n cap) n (l.flatMap jobC)) (hn : n = l.length) {k : Nat} (hk : k < l.length) (d : Int) :
    (w.setCell ⟨g, k * 5 + 3, none⟩ (.int .i64 d)).ownsRow base 78 5 (.slice (some ⟨g, 0, none⟩) n cap) (l.set k { jbAt l k with dn := d }).length ((l.set k { jbAt l k with dn := d }).flatMap jobC) ∧ w.grownBy (w.setCell ⟨g, k * 5 + 3, none⟩ (.int .i64 d)) (some g) := by
  subst hn
  obtain ⟨h1, h2⟩ := h.stored (k * 5 + 3) (.int .i64 d)
  rw [List.length_set, ← flat_set jobC_len l k 3 { jbAt l k with dn := d } (.int .i64 d) hk (by omega) (by rw [jbAt_eq hk]; rfl)]
  exact ⟨h1, h2⟩
theorem stn_store {l : List Stn} (h : w.ownsRow base 39 4 (.slice (some ⟨g, 0, none⟩) n cap) n (l.flatMap stnC)) (hn : n = l.length) {k : Nat} (hk : k < l.length) (d : Int) :
    (w.setCell ⟨g, k * 4 + 3, none⟩ (.int .i64 d)).ownsRow base 39 4 (.slice (some ⟨g, 0, none⟩) n cap) (l.set k { stAt l k with to := d }).length ((l.set k { stAt l k with to := d }).flatMap stnC) ∧ w.grownBy (w.setCell ⟨g, k * 4 + 3, none⟩ (.int .i64 d)) (some g) := by
  subst hn
  obtain ⟨h1, h2⟩ := h.stored (k * 4 + 3) (.int .i64 d)
  rw [List.length_set, ← flat_set stnC_len l k 3 { stAt l k with to := d } (.int .i64 d) hk (by omega) (by rw [stAt_eq hk]; rfl)]
  exact ⟨h1, h2⟩
theorem don_resp {l : List Don} (h : w.ownsRow base 42 5 (.slice (some ⟨g, 0, none⟩) n cap) n (l.flatMap donC)) (hn : n = l.length) {k : Nat} (hk : k < l.length) (d : Int) :
    (w.setCell ⟨g, k * 5 + 3, none⟩ (.int .i64 d)).ownsRow base 42 5 (.slice (some ⟨g, 0, none⟩) n cap) (l.set k { dnAt l k with resp := d }).length ((l.set k { dnAt l k with resp := d }).flatMap donC) ∧ w.grownBy (w.setCell ⟨g, k * 5 + 3, none⟩ (.int .i64 d)) (some g) := by
  subst hn
  obtain ⟨h1, h2⟩ := h.stored (k * 5 + 3) (.int .i64 d)
  rw [List.length_set, ← flat_set donC_len l k 3 { dnAt l k with resp := d } (.int .i64 d) hk (by omega) (by rw [dnAt_eq hk]; rfl)]
  exact ⟨h1, h2⟩
theorem don_miss {l : List Don} (h : w.ownsRow base 42 5 (.slice (some ⟨g, 0, none⟩) n cap) n (l.flatMap donC)) (hn : n = l.length) {k : Nat} (hk : k < l.length) (d : Bool) :
    (w.setCell ⟨g, k * 5 + 4, none⟩ (.bool d)).ownsRow base 42 5 (.slice (some ⟨g, 0, none⟩) n cap) (l.set k { dnAt l k with miss := d }).length ((l.set k { dnAt l k with miss := d }).flatMap donC) ∧ w.grownBy (w.setCell ⟨g, k * 5 + 4, none⟩ (.bool d)) (some g) := by
  subst hn
  obtain ⟨h1, h2⟩ := h.stored (k * 5 + 4) (.bool d)
  rw [List.length_set, ← flat_set donC_len l k 4 { dnAt l k with miss := d } (.bool d) hk (by omega) (by rw [dnAt_eq hk]; rfl)]
  exact ⟨h1, h2⟩
theorem row_ne {w : World} {p q : Nat} {e1 e2 : TypeId} {xs ys : List Value} (h1 : RowAt w p e1 xs) (h2 : RowAt w q e2 ys) (hne : e1 ≠ e2) : p ≠ q := by
  intro e
  subst e
  unfold RowAt at h1 h2
  rw [h1] at h2
  simp at h2
  exact hne h2.2
theorem SimAt.other {n5 : Nat} {xs : List Value} (h : SimAt w base b vl vc pol vr vs vj s) (hr : RowAt w n5 79 xs) (i : Nat) (v : Value) : SimAt (w.setCell ⟨n5, i, none⟩ v) base b vl vc pol vr vs vj s := by
  have g := gro_set (gro_refl w (row := some n5)) i v
  exact ⟨h.box.far (row_ne h.box hr (by decide)) v, h.rd.kept g (own_box_ne hr h.rd (by decide)), h.st.kept g (own_box_ne hr h.st (by decide)), h.jb.kept g (own_box_ne hr h.jb (by decide))⟩
theorem erase_set {α : Type} (l : List α) (k : Nat) (a : α) : (l.set k a).eraseIdx k = l.eraseIdx k := by
  rw [List.eraseIdx_eq_take_drop_succ, List.eraseIdx_eq_take_drop_succ, List.take_set_of_le (Nat.le_refl _), List.drop_set_of_lt (Nat.lt_succ_self _)]
theorem jobC_one (j : Job) : ∀ u ∈ jobC j, u.oneCell' = true := by
  intro u hu; simp [jobC] at hu; rcases hu with h | h | h | h | h <;> subst h <;> rfl
theorem Try.infoJobSz : (Try.prog.info? 78).map (·.size) = some 5 := by kernel_rfl
theorem copy_jobs {l : List Job} {k : Nat} (h : w.ownsRow base 78 5 (.slice (some ⟨g, 0, none⟩) n cap) n (l.flatMap jobC)) (hn : n = l.length) (hk : k < n) (dCap sCap : Nat) (ad : Addr) (had : k + 1 < n → ad = ⟨g, (k + 1) * 5, none⟩) :
    ∃ w', (∀ ty : TypeId, (Builtin.copy_ #[59, 59] ty #[.slice (some ⟨g, k * 5, none⟩) (n - k) dCap, .slice (some ad) (n - (k + 1)) sCap]).run Try.prog w = .ok (.int .i64 (n - (k + 1) : Nat)) w') ∧
      w'.ownsRow base 78 5 (.slice (some ⟨g, 0, none⟩) n cap) n ((l.take k ++ l.drop (k + 1) ++ l.drop (n - 1)).flatMap jobC) ∧ w.grownBy w' (some g) := by
  subst hn
  have hcl : ((l.drop (k + 1)).flatMap jobC).length = (l.length - (k + 1)) * 5 := by rw [flat_len jobC_len, List.length_drop]
  obtain ⟨w', h1, h2, h3⟩ := run_copy_rows h Try.underlying59 Try.infoJobSz (k * 5) (l.length - (k + 1)) (l.length - k) dCap (l.length - (k + 1)) sCap ad ((l.drop (k + 1)).flatMap jobC)
    (by show _ = min _ _; omega) hcl (fun j v hj => by
      have hjl : j < (l.length - (k + 1)) * 5 := by rw [← hcl]; exact (List.getElem?_eq_some_iff.1 hj).1
      have hk1 : k + 1 < l.length := by omega
      rw [had hk1]
      rw [← flat_drop jobC_len, List.getElem?_drop] at hj
      have := h.cellAt ((k + 1) * 5 + j) (by omega)
      rw [hj] at this
      rw [show (⟨g, (k + 1) * 5, none⟩ : Addr).add j = ⟨g, (k + 1) * 5 + j, none⟩ by unfold Addr.add; split <;> simp_all]
      exact this) (by rw [hcl]; omega) (fun u hu => by
        obtain ⟨j, _, hj⟩ := List.mem_flatMap.mp hu
        exact jobC_one j u hj)
  refine ⟨w', h1, ?_, h3⟩
  rw [List.flatMap_append, List.flatMap_append, ← flat_take jobC_len, ← flat_drop jobC_len l (l.length - 1), show (l.length - 1) * 5 = k * 5 + ((l.drop (k + 1)).flatMap jobC).length by rw [hcl]; omega]
  exact h2
theorem cut_erase {l : List Job} {k : Nat} (hk : k < l.length) : (l.take k ++ l.drop (k + 1) ++ l.drop (l.length - 1)).take (l.length - 1) = l.eraseIdx k := by
  rw [List.take_append_of_le_length (by simp; omega), List.take_of_length_le (by simp; omega), List.eraseIdx_eq_take_drop_succ]
theorem SimAt.copied {wb : World} {r : List Job} {ss : List Stn} {js : List Don} {k : Nat} (h : SimAt w wb.heap.size b vl vc pol (.slice (some ⟨g, 0, none⟩) n cap) vs vj ⟨r, ss, js⟩) (hb : Bel wb w) (hn : n = r.length) (hk : k < n) (dCap sCap : Nat) (ad : Addr) (had : k + 1 < n → ad = ⟨g, (k + 1) * 5, none⟩) :
    ∃ w', (∀ ty : TypeId, (Builtin.copy_ #[59, 59] ty #[.slice (some ⟨g, k * 5, none⟩) (n - k) dCap, .slice (some ad) (n - (k + 1)) sCap]).run Try.prog w = .ok (.int .i64 (n - (k + 1) : Nat)) w') ∧
      SimAt w' wb.heap.size b vl vc pol (.slice (some ⟨g, 0, none⟩) n cap) vs vj ⟨r.take k ++ r.drop (k + 1) ++ r.drop (n - 1), ss, js⟩ ∧ Bel wb w' := by
  subst hn
  obtain ⟨w', h1, h2, h3⟩ := copy_jobs h.rd rfl hk dCap sCap ad had
  refine ⟨w', h1, h.new_r h3 ?_, bel_gro hb h3 (fun q hq => (h.rd.lt q hq).1)⟩
  have e : (r.take k ++ r.drop (k + 1) ++ r.drop (r.length - 1)).length = r.length := by simp; omega
  rw [e]
  exact h2
theorem SimAt.cut {r : List Job} {ss : List Stn} {js : List Don} {k : Nat} (h : SimAt w base b vl vc pol (.slice (some ⟨g, 0, none⟩) n cap) vs vj ⟨r.take k ++ r.drop (k + 1) ++ r.drop (n - 1), ss, js⟩) (hn : n = r.length) (hk : k < n) :
    SimAt (w.setCell ⟨b, 3, none⟩ (.slice (some ⟨g, 0, none⟩) (n - 1) cap)) base b vl vc pol (.slice (some ⟨g, 0, none⟩) (n - 1) cap) vs vj ⟨r.eraseIdx k, ss, js⟩ := by
  subst hn
  have e : (r.take k ++ r.drop (k + 1) ++ r.drop (r.length - 1)).length = r.length := by simp; omega
  have h2 := h.rd
  dsimp only at h2
  rw [e] at h2
  have h3 := own_cut (r.length - 1) h2 (by omega)
  rw [flat_take jobC_len, cut_erase hk] at h3
  refine h.put_r (l' := r.eraseIdx k) (gro_refl w) ?_
  rw [List.length_eraseIdx, if_pos hk]
  exact h3
/-- what copy leaves: the jobs behind k lie one place further ahead -/
theorem erase_rows {l : List Job} {k : Nat} (hk : k < l.length) :
    ((l.flatMap jobC).take (k * 5) ++ (l.drop (k + 1)).flatMap jobC ++ (l.flatMap jobC).drop (k * 5 + ((l.drop (k + 1)).flatMap jobC).length)).take ((l.length - 1) * 5) = (l.eraseIdx k).flatMap jobC := by
  have e1 : ((l.drop (k + 1)).flatMap jobC).length = (l.length - (k + 1)) * 5 := by rw [flat_len jobC_len, List.length_drop]
  have e2 := flat_take jobC_len l k
  rw [e2, List.take_append_of_le_length (by rw [List.length_append, e1, flat_len jobC_len, List.length_take]; omega), List.take_of_length_le (by rw [List.length_append, e1, flat_len jobC_len, List.length_take]; omega), List.eraseIdx_eq_take_drop_succ, List.flatMap_append]
end
end Go.Proofs.Ythcdemmamggboaa
namespace Go.Proofs.Ythcdemmamggboaa
open Go.RowKit
theorem stint_eql (a0 a1 a2 a3 b0 b1 b2 b3 : Int) (w : World) : (binOp .eql 39 (.agg #[.int .i64 a0, .int .i64 a1, .int .i64 a2, .int .i64 a3]) (.agg #[.int .i64 b0, .int .i64 b1, .int .i64 b2, .int .i64 b3])).run Try.prog w = .ok (.bool (a0 == b0 && a1 == b1 && a2 == b2 && a3 == b3)) w := by
  have hS : Try.prog.underlying 39 = some (.struct (Try.prog.fieldsOf 39)) := by kernel_rfl
  have hp : Try.prog.stoodInHeld 39 = false := by kernel_rfl
  have u2 := Try.underlying2
  have u3 := Try.underlying3
  rw [run_eql_struct, show (10000 : Nat) = 9999 + 1 from rfl, run_equalIn_agg w 9999 39 _ _ hS hp]
  simp only [Program.fieldsOf, Try.underlying39]
  go_simp
  by_cases h0 : a0 = b0 <;> by_cases h1 : a1 = b1 <;> by_cases h2 : a2 = b2 <;> by_cases h3 : a3 = b3 <;> simp [h0, h1, h2, h3]
theorem stint_guard : Try.prog.eqGuardType Try.prog.depth 39 = false := by kernel_rfl
end Go.Proofs.Ythcdemmamggboaa
namespace Go.Proofs.Ythcdemmamggboaa
open Go.RowKit
theorem stint_neq (a0 a1 a2 a3 : Int) (w : World) : (binOp .neq 39 (.agg #[.int .i64 a0, .int .i64 a1, .int .i64 a2, .int .i64 a3]) (.agg #[.int .i64 a0, .int .i64 a1, .int .i64 a2, .int .i64 a3])).run Try.prog w = .ok (.bool false) w := by
  have hS : Try.prog.underlying 39 = some (.struct (Try.prog.fieldsOf 39)) := by kernel_rfl
  have hp : Try.prog.stoodInHeld 39 = false := by kernel_rfl
  have u2 := Try.underlying2
  have u3 := Try.underlying3
  rw [run_neq_struct, show (10000 : Nat) = 9999 + 1 from rfl, run_equalIn_agg w 9999 39 _ _ hS hp]
  simp only [Program.fieldsOf, Try.underlying39]
  go_simp
theorem stint_guard2 : Try.prog.eqGuardType Try.prog.depth 39 = false := by kernel_rfl
theorem done_neq (a0 a1 a2 a3 : Int) (a4 : Bool) (w : World) : (binOp .neq 42 (.agg #[.int .i64 a0, .int .i64 a1, .int .i64 a2, .int .i64 a3, .bool a4]) (.agg #[.int .i64 a0, .int .i64 a1, .int .i64 a2, .int .i64 a3, .bool a4])).run Try.prog w = .ok (.bool false) w := by
  have hS : Try.prog.underlying 42 = some (.struct (Try.prog.fieldsOf 42)) := by kernel_rfl
  have hp : Try.prog.stoodInHeld 42 = false := by kernel_rfl
  have u2 := Try.underlying2
  have u3 := Try.underlying3
  have u4 := Try.underlying4
  rw [run_neq_struct, show (10000 : Nat) = 9999 + 1 from rfl, run_equalIn_agg w 9999 42 _ _ hS hp]
  simp only [Program.fieldsOf, Try.underlying42]
  go_simp
theorem done_guard : Try.prog.eqGuardType Try.prog.depth 42 = false := by kernel_rfl
/-- the cells of an element that is read -/
theorem rd_stn {w : World} {b off : Nat} {l : List Stn} {i : Nat} (hi : i < l.length) (h : ∀ i (h : i < l.length) r, r < 4 → w.cell? ⟨b, off + i * 4 + r, none⟩ = (stnC l[i])[r]?) :
    w.cell? ⟨b, off + i * 4, none⟩ = some (.int .i64 (stAt l i).tk) ∧ w.cell? ⟨b, off + i * 4 + 1, none⟩ = some (.int .i64 (stAt l i).job) ∧ w.cell? ⟨b, off + i * 4 + 2, none⟩ = some (.int .i64 (stAt l i).frm) ∧ w.cell? ⟨b, off + i * 4 + 3, none⟩ = some (.int .i64 (stAt l i).to) := by
  have e : stAt l i = l[i] := by simp [stAt, List.getD, hi]
  rw [e]
  exact ⟨h i hi 0 (by omega), h i hi 1 (by omega), h i hi 2 (by omega), h i hi 3 (by omega)⟩
theorem rd_don {w : World} {b off : Nat} {l : List Don} {i : Nat} (hi : i < l.length) (h : ∀ i (h : i < l.length) r, r < 5 → w.cell? ⟨b, off + i * 5 + r, none⟩ = (donC l[i])[r]?) :
    w.cell? ⟨b, off + i * 5, none⟩ = some (.int .i64 (dnAt l i).tk) ∧ w.cell? ⟨b, off + i * 5 + 1, none⟩ = some (.int .i64 (dnAt l i).job) ∧ w.cell? ⟨b, off + i * 5 + 2, none⟩ = some (.int .i64 (dnAt l i).rel) ∧ w.cell? ⟨b, off + i * 5 + 3, none⟩ = some (.int .i64 (dnAt l i).resp) ∧ w.cell? ⟨b, off + i * 5 + 4, none⟩ = some (.bool (dnAt l i).miss) := by
  have e : dnAt l i = l[i] := by simp [dnAt, List.getD, hi]
  rw [e]
  exact ⟨h i hi 0 (by omega), h i hi 1 (by omega), h i hi 2 (by omega), h i hi 3 (by omega), h i hi 4 (by omega)⟩
set_option maxRecDepth 100000 in
set_option maxHeartbeats 8000000 in
theorem sameTimeline_any (vs vj us uj : Value) (ss : List Stn) (js : List Don) (w : World) (h1 : RdAt w w.heap.size vs 4 stnC ss) (h2 : RdAt w w.heap.size vj 5 donC js) (h3 : RdAt w w.heap.size us 4 stnC ss) (h4 : RdAt w w.heap.size uj 5 donC js)
    (hs : ss.length ≤ 1000000) (hj : js.length ≤ 1000000) :
    Calls Try.prog 12 #[.agg #[vs, vj], .agg #[us, uj]] w fun e w' => e = .returned (.bool true) ∧ Bel w w' := by
  have H1 := Lib.hid h1
  have H2 := Lib.hid h2
  have H3 := Lib.hid h3
  have H4 := Lib.hid h4
  obtain ⟨A1, c1, rfl, _⟩ := h1.form
  obtain ⟨A2, c2, rfl, _⟩ := h2.form
  obtain ⟨A3, c3, rfl, _⟩ := h3.form
  obtain ⟨A4, c4, rfl, _⟩ := h4.form
  clear h1 h2 h3 h4
  go_enter Try.func12, Try.ntmps12
  go_upto_region 1 with (fail)
  (generalize hW : World.alloc _ _ = wb; have q0_0 := (congrArg (fun W : World => W.cell? ⟨w.heap.size, 0, none⟩) hW).symm; simp [go_sem] at q0_0; have q0_1 := (congrArg (fun W : World => W.cell? ⟨w.heap.size, 1, none⟩) hW).symm; simp [go_sem] at q0_1; have qz0 : w.heap.size < wb.heap.size := (by rw [← hW]; simp [go_sem]; try omega); have q1_0 := (congrArg (fun W : World => W.cell? ⟨w.heap.size + 1, 0, none⟩) hW).symm; simp [go_sem] at q1_0; have q1_1 := (congrArg (fun W : World => W.cell? ⟨w.heap.size + 1, 1, none⟩) hW).symm; simp [go_sem] at q1_1; have qz1 : w.heap.size + 1 < wb.heap.size := (by rw [← hW]; simp [go_sem]; try omega); have HBW : Hid (Bel w wb) := Lib.hid (by rw [← hW]; (repeat (first | exact Ext.bel _ | exact Bel.refl | refine Bel.alloc ?_ _ | refine Bel.drew ?_ | refine Bel.drewN ?_ _))); clear hW; have hkw := HBW.out.cells)
  go_wp2
  go_loopg [5] ss.length (fun gk s5 wr => ∃ (i : Nat) (y : Ext wb), i + gk = ss.length ∧ s5 = .int .i64 i ∧ wr = y.w)
  case atStart => exact ⟨0, ⟨wb, Bel.refl⟩, by omega, rfl, rfl⟩
  case round =>
    obtain ⟨i, y1, hi, rfl, rfl⟩ := hrel
    by_cases hlt : i < ss.length
    · have hdl : decide ((i : Int) < (ss.length : Int)) = true := by simp; omega
      have hil : (i : Int) < (ss.length : Int) := by omega
      obtain ⟨b1, o1, rfl, hb1, k1⟩ := H1.out.at_ (by omega)
      obtain ⟨b3, o3, rfl, hb3, k3⟩ := H3.out.at_ (by omega)
      obtain ⟨x0, x1, x2, x3⟩ := rd_stn hlt k1
      obtain ⟨z0, z1, z2, z3⟩ := rd_stn hlt k3
      generalize stAt ss i = s at *
      have hse := fun (W : World) => stint_neq s.tk s.job s.frm s.to W
      have hsg := stint_guard2
      have l1 := Nat.lt_of_lt_of_le hb1 HBW.out.le
      have l3 := Nat.lt_of_lt_of_le hb3 HBW.out.le
      clear k1 k3
      go_upto_region 6 with (fail)
      (refine wp_region_ext (wb := y1.w) (by (repeat (first | exact Ext.bel _ | exact Bel.refl | refine Bel.alloc ?_ _ | refine Bel.drew ?_ | refine Bel.drewN ?_ _))) (by kernel_rfl) (by kernel_rfl) ?_; (repeat (any_goals (first | go_big_quiet_step (fail) | quiet_step (fail) | (refine wpQuiet_step (fun K hK => ?_); go_simp; split <;> (refine hK _ ?_; clear hK K))))); all_goals (refine wpQuiet_nil ?_; intro _ hw'; obtain ⟨y, hw''⟩ := hw'; subst hw''))
      clear hse hsg
      go_wp2
      go_roundg (gk - 1)
      case measure => omega
      case rel => exact ⟨i + 1, ⟨_, y1.bel.trans y.bel⟩, by omega, by go_num, rfl⟩
    · obtain rfl : i = ss.length := by omega
      have hdl : decide ((ss.length : Int) < (ss.length : Int)) = false := by simp
      go_wp2
      go_loopg [6] js.length (fun gk s6 wr => ∃ (i : Nat) (y : Ext wb), i + gk = js.length ∧ s6 = .int .i64 i ∧ wr = y.w)
      case atStart => exact ⟨0, y1, by omega, rfl, rfl⟩
      case round =>
        obtain ⟨i, y2, hi2, rfl, rfl⟩ := hrel
        by_cases hlt2 : i < js.length
        · have hdl2 : decide ((i : Int) < (js.length : Int)) = true := by simp; omega
          have hil : (i : Int) < (js.length : Int) := by omega
          obtain ⟨b1, o1, rfl, hb1, k1⟩ := H2.out.at_ (by omega)
          obtain ⟨b3, o3, rfl, hb3, k3⟩ := H4.out.at_ (by omega)
          obtain ⟨x0, x1, x2, x3, x4⟩ := rd_don hlt2 k1
          obtain ⟨z0, z1, z2, z3, z4⟩ := rd_don hlt2 k3
          generalize dnAt js i = s at *
          have hse := fun (W : World) => done_neq s.tk s.job s.rel s.resp s.miss W
          have hsg := done_guard
          have l1 := Nat.lt_of_lt_of_le hb1 HBW.out.le
          have l3 := Nat.lt_of_lt_of_le hb3 HBW.out.le
          clear k1 k3
          go_upto_region 11 with (fail)
          (refine wp_region_ext (wb := y2.w) (by (repeat (first | exact Ext.bel _ | exact Bel.refl | refine Bel.alloc ?_ _ | refine Bel.drew ?_ | refine Bel.drewN ?_ _))) (by kernel_rfl) (by kernel_rfl) ?_; (repeat (any_goals (first | go_big_quiet_step (fail) | quiet_step (fail) | (refine wpQuiet_step (fun K hK => ?_); go_simp; split <;> (refine hK _ ?_; clear hK K))))); all_goals (refine wpQuiet_nil ?_; intro _ hw'; obtain ⟨y, hw''⟩ := hw'; subst hw''))
          clear hse hsg
          go_wp2
          go_roundg (gk - 1)
          case measure => omega
          case rel => exact ⟨i + 1, ⟨_, y2.bel.trans y.bel⟩, by omega, by go_num, rfl⟩
        · obtain rfl : i = js.length := by omega
          have hdl2 : decide ((js.length : Int) < (js.length : Int)) = false := by simp
          go_wp2
          go_ret
          exact ⟨rfl, HBW.out.trans y2.bel⟩
end Go.Proofs.Ythcdemmamggboaa
namespace Go.Proofs.Ythcdemmamggboaa
open Go.RowKit
theorem befM_dl {l : List Tsk} {a b : Job} : beforeM l 2 a b = if dlJ l a = dlJ l b then decide (a.tk < b.tk) || (decide (a.tk = b.tk) && decide (a.num < b.num)) else decide (dlJ l a < dlJ l b) := by unfold beforeM; rw [if_pos rfl]
theorem befM_fx {l : List Tsk} {pol : Int} {a b : Job} (h : pol ≠ 2) : beforeM l pol a b = if (rankM l a).1 = (rankM l b).1 then (if (rankM l a).2 = (rankM l b).2 then (if a.rel = b.rel then decide (a.tk < b.tk) else decide (a.rel < b.rel)) else (rankM l a).2) else decide ((rankM l b).1 < (rankM l a).1) := by unfold beforeM; rw [if_neg h]
set_option maxRecDepth 100000 in
set_option maxHeartbeats 8000000 in
theorem before_any (v : Value) (l : List Tsk) (pol : Int) (a b : Job) (w : World) (h : TsksAt w w.heap.size v l) (hs : Sized l) (h0 : rchk l = 0) (ha : JOk l a) (hb : JOk l b) :
    Calls Try.prog 28 #[v, .int .i64 pol, .agg #[.int .i64 a.tk, .int .i64 a.num, .int .i64 a.rel, .int .i64 a.dn, .int .i64 a.pos], .agg #[.int .i64 b.tk, .int .i64 b.num, .int .i64 b.rel, .int .i64 b.dn, .int .i64 b.pos]] w fun e w' => e = .returned (.bool (beforeM l pol a b)) ∧ Bel w w' := by
  have HRA := Lib.hid (fun (W : World) (hW : Bel w W) => rank_any v l a W (h.keep hW.keeps hW.le) hs h0 ha)
  have HRB := Lib.hid (fun (W : World) (hW : Bel w W) => rank_any v l b W (h.keep hW.keeps hW.le) hs h0 hb)
  obtain ⟨atk, an0, an1, ar0, ar1, ad0, ad1⟩ := ha
  obtain ⟨btk, bn0, bn1, br0, br1, bd0, bd1⟩ := hb
  have hl8 := (rchk_ok h0).1
  have HH := Lib.hid h
  obtain ⟨A, c, rfl, hlc⟩ := h.form
  have hoka := tok_at h0 atk
  have hokb := tok_at h0 btk
  have da1 := hoka.d1
  have da2 : (tskAt l a.tk).dl ≤ 1000 := by have := hoka.d2; have := hoka.p2; omega
  have db1 := hokb.d1
  have db2 : (tskAt l b.tk).dl ≤ 1000 := by have := hokb.d2; have := hokb.p2; omega
  clear h hs hoka hokb
  by_cases hp : pol = 2
  · subst hp
    have HM : Hid (beforeM l 2 a b = if dlJ l a = dlJ l b then decide (a.tk < b.tk) || (decide (a.tk = b.tk) && decide (a.num < b.num)) else decide (dlJ l a < dlJ l b)) := Lib.hid befM_dl
    have hja : dlJ l a = a.rel + (tskAt l a.tk).dl := rfl
    have hjb : dlJ l b = b.rel + (tskAt l b.tk).dl := rfl
    rw [hja, hjb] at HM
    obtain ⟨bt, ot, rfl, hbt, hA⟩ := HH.out.at_ (by omega)
    obtain ⟨sva, ⟨_, _, _, t3, _, _, _⟩, _⟩ := hA a.tk atk
    obtain ⟨svb, ⟨_, _, _, u3, _, _, _⟩, _⟩ := hA b.tk btk
    clear hja hjb hA HRA HRB
    generalize (tskAt l a.tk).dl = dla at *
    generalize (tskAt l b.tk).dl = dlb at *
    have ha1 : (a.tk : Int) < (l.length : Int) := by omega
    have hb1 : (b.tk : Int) < (l.length : Int) := by omega
    go_enter Try.func28, Try.ntmps28
    go_upto_region 2 with (fail)
    generalize hW : World.alloc (World.alloc w _) _ = wc at *
    have r0 : RowAt wc w.heap.size 67 (jobC a) := by rw [← hW]; exact (RowAt.new _ _ _).alloc _
    have r1 : RowAt wc (w.heap.size + 1) 67 (jobC b) := by rw [← hW]; have := RowAt.new (w.alloc (.cells (jobC a).toArray 67)) 67 (jobC b); rw [show (w.alloc (.cells (jobC a).toArray 67)).heap.size = w.heap.size + 1 by simp] at this; exact this
    have hbc : Bel w wc := by rw [← hW]; exact (Bel.refl.alloc _).alloc _
    clear hW
    have t3' := (hbc.cells _ _ hbt).trans t3
    have u3' := (hbc.cells _ _ hbt).trans u3
    have htz := Nat.lt_of_lt_of_le hbt hbc.le
    have HBC := Lib.hid hbc
    clear hbc t3 u3
    generalize w.heap.size = n0 at *
    have a0 := r0.cell (i := 0) rfl
    have a1 := r0.cell (i := 1) rfl
    have a2 := r0.cell (i := 2) rfl
    have az := r0.lt
    have b0 := r1.cell (i := 0) rfl
    have b1 := r1.cell (i := 1) rfl
    have b2 := r1.cell (i := 2) rfl
    have bz := r1.lt
    have hwa : IntKind.i64.wrap (a.rel + dla) = a.rel + dla := IntWalk.i64_in _ (by omega)
    have hwb : IntKind.i64.wrap (b.rel + dlb) = b.rel + dlb := IntWalk.i64_in _ (by omega)
    clear r0 r1
    (refine wp_region_ext (wb := wc) (by (repeat (first | exact Ext.bel _ | exact Bel.refl | refine Bel.alloc ?_ _ | refine Bel.drew ?_ | refine Bel.drewN ?_ _))) (by kernel_rfl) (by kernel_rfl) ?_; (repeat (any_goals (first | go_big_quiet_step (fail) | quiet_step (fail) | (refine wpQuiet_step (fun K hK => ?_); go_simp; split <;> (refine hK _ ?_; clear hK K))))); all_goals (refine wpQuiet_nil ?_; intro _ hw'; obtain ⟨y, hw''⟩ := hw'; subst hw''))
    clear hwa hwb
    by_cases he : a.rel + dla = b.rel + dlb
    · have HM2 : Hid (beforeM l 2 a b = (decide (a.tk < b.tk) || (decide (a.tk = b.tk) && decide (a.num < b.num)))) := Lib.hid (by rw [HM.out, if_pos he])
      have heq : (a.rel + dla == b.rel + dlb) = true := by simpa using he
      clear he
      by_cases h1 : a.tk < b.tk
      · have q1 : decide (a.tk < b.tk) = true := by simpa using h1
        go_wp2
        go_ret
        exact ⟨ret_bool (by rw [HM2.out, q1]; rfl), HBC.out.trans y.bel⟩
      · have q1 : decide (a.tk < b.tk) = false := by simpa using h1
        by_cases h2 : a.tk = b.tk
        · have q2 : ((a.tk : Int) == (b.tk : Int)) = true := by simp [h2]
          go_wp2
          go_ret
          exact ⟨ret_bool (by rw [HM2.out, q1, h2]; simp), HBC.out.trans y.bel⟩
        · have q2 : ((a.tk : Int) == (b.tk : Int)) = false := by simp; omega
          go_wp2
          go_ret
          exact ⟨ret_bool (by rw [HM2.out, q1]; simp [h2]), HBC.out.trans y.bel⟩
    · have HM2 : Hid (beforeM l 2 a b = decide (a.rel + dla < b.rel + dlb)) := Lib.hid (by rw [HM.out, if_neg he])
      have heq : (a.rel + dla == b.rel + dlb) = false := by simpa using he
      clear he
      go_wp2
      go_ret
      exact ⟨ret_bool (by rw [HM2.out]), HBC.out.trans y.bel⟩
  · have q0 : (pol == 2) = false := by simpa using hp
    have hMM := befM_fx (l := l) (a := a) (b := b) hp
    have HM := Lib.hid hMM
    clear hMM hp
    go_enter Try.func28, Try.ntmps28
    go_upto_region 1 with (fail)
    generalize hW : World.alloc (World.alloc w _) _ = wc at *
    have r0 : RowAt wc w.heap.size 67 (jobC a) := by rw [← hW]; exact (RowAt.new _ _ _).alloc _
    have r1 : RowAt wc (w.heap.size + 1) 67 (jobC b) := by rw [← hW]; have := RowAt.new (w.alloc (.cells (jobC a).toArray 67)) 67 (jobC b); rw [show (w.alloc (.cells (jobC a).toArray 67)).heap.size = w.heap.size + 1 by simp] at this; exact this
    have hbc : Bel w wc := by rw [← hW]; exact (Bel.refl.alloc _).alloc _
    clear hW
    have HBC := Lib.hid hbc
    clear hbc
    generalize w.heap.size = n0 at *
    have a0 := r0.cell (i := 0) rfl
    have a1 := r0.cell (i := 1) rfl
    have a2 := r0.cell (i := 2) rfl
    have a3 := r0.cell (i := 3) rfl
    have a4 := r0.cell (i := 4) rfl
    have az := r0.lt
    have b0 := r1.cell (i := 0) rfl
    have b1 := r1.cell (i := 1) rfl
    have b2 := r1.cell (i := 2) rfl
    have b3 := r1.cell (i := 3) rfl
    have b4 := r1.cell (i := 4) rfl
    have bz := r1.lt
    clear r0 r1
    go_wp2_with fail
    refine (HRA.out _ HBC.out).mono ?_
    rintro e w2 ⟨rfl, hb2⟩
    obtain ⟨x2, rfl⟩ := ext_of hb2
    clear hb2
    go_wp2_with fail
    refine (HRB.out _ (HBC.out.trans x2.bel)).mono ?_
    rintro e w3 ⟨rfl, hb3⟩
    obtain ⟨x3, rfl⟩ := ext_of (x2.bel.trans hb3)
    clear hb3 HRA HRB
    generalize (rankM l a).1 = ra at *
    generalize (rankM l a).2 = ia at *
    generalize (rankM l b).1 = rb at *
    generalize (rankM l b).2 = ib at *
    by_cases h1 : ra = rb
    · subst h1
      cases ia <;> cases ib
      case false.true =>
        go_wp2
        go_ret
        exact ⟨ret_bool (by rw [HM.out]; simp), HBC.out.trans x3.bel⟩
      case true.false =>
        go_wp2
        go_ret
        exact ⟨ret_bool (by rw [HM.out]; simp), HBC.out.trans x3.bel⟩
      case false.false =>
        by_cases h2 : a.rel = b.rel
        · have q2 : (a.rel == b.rel) = true := by simpa using h2
          by_cases h3 : a.tk < b.tk
          · have q3 : decide (a.tk < b.tk) = true := by simpa using h3
            go_wp2
            go_ret
            exact ⟨ret_bool (by rw [HM.out, q3]; simp [h2]), HBC.out.trans x3.bel⟩
          · have q3 : decide (a.tk < b.tk) = false := by simpa using h3
            go_wp2
            go_ret
            exact ⟨ret_bool (by rw [HM.out, q3]; simp [h2]), HBC.out.trans x3.bel⟩
        · have q2 : (a.rel == b.rel) = false := by simpa using h2
          go_wp2
          go_ret
          exact ⟨ret_bool (by rw [HM.out]; simp [h2]), HBC.out.trans x3.bel⟩
      case true.true =>
        by_cases h2 : a.rel = b.rel
        · have q2 : (a.rel == b.rel) = true := by simpa using h2
          by_cases h3 : a.tk < b.tk
          · have q3 : decide (a.tk < b.tk) = true := by simpa using h3
            go_wp2
            go_ret
            exact ⟨ret_bool (by rw [HM.out, q3]; simp [h2]), HBC.out.trans x3.bel⟩
          · have q3 : decide (a.tk < b.tk) = false := by simpa using h3
            go_wp2
            go_ret
            exact ⟨ret_bool (by rw [HM.out, q3]; simp [h2]), HBC.out.trans x3.bel⟩
        · have q2 : (a.rel == b.rel) = false := by simpa using h2
          go_wp2
          go_ret
          exact ⟨ret_bool (by rw [HM.out]; simp [h2]), HBC.out.trans x3.bel⟩
    · have q1 : (ra == rb) = false := by simpa using h1
      go_wp2
      go_ret
      exact ⟨ret_bool (by rw [HM.out, if_neg h1]), HBC.out.trans x3.bel⟩
end Go.Proofs.Ythcdemmamggboaa
namespace Go.Proofs.Ythcdemmamggboaa
open Go.RowKit
theorem Try.infoRJob : (Try.prog.info? 67).map (fun i => (i.zero, i.size, i.bytes)) = some (some (.agg #[.int .i64 0, .int .i64 0, .int .i64 0, .int .i64 0, .int .i64 0]), 5, 40) := by kernel_rfl
/-- the reference's memory -/
structure RefAt (w : World) (base b : Nat) (vr vs vj : Value) (s : St) : Prop where
  box : RowAt w b 29 [vs, vj]
  rd : w.ownsRow base 67 5 vr s.ready.length (s.ready.flatMap jobC)
  st : w.ownsRow base 39 4 vs s.stints.length (s.stints.flatMap stnC)
  jb : w.ownsRow base 42 5 vj s.jobs.length (s.jobs.flatMap donC)
section
variable {w w' : World} {base b g n cap : Nat} {vr vs vj v' : Value} {s : St}
theorem RefAt.bel (h : RefAt w base b vr vs vj s) (hb : Bel w w') : RefAt w' base b vr vs vj s :=
  ⟨h.box.bel hb, ownsRow_bel h.rd hb, ownsRow_bel h.st hb, ownsRow_bel h.jb hb⟩
theorem RefAt.box_r (h : RefAt w base b vr vs vj s) (hg : w.grownBy w' vr.ownBlock) : RowAt w' b 29 [vs, vj] := h.box.gro hg (box_row_ne h.box h.rd (by decide))
theorem RefAt.box_s (h : RefAt w base b vr vs vj s) (hg : w.grownBy w' vs.ownBlock) : RowAt w' b 29 [vs, vj] := h.box.gro hg (box_row_ne h.box h.st (by decide))
theorem RefAt.box_j (h : RefAt w base b vr vs vj s) (hg : w.grownBy w' vj.ownBlock) : RowAt w' b 29 [vs, vj] := h.box.gro hg (box_row_ne h.box h.jb (by decide))
theorem RefAt.new_r (h : RefAt w base b vr vs vj s) {l' : List Job} (hg : w.grownBy w' vr.ownBlock) (ho : w'.ownsRow base 67 5 v' l'.length (l'.flatMap jobC)) :
    RefAt w' base b v' vs vj { s with ready := l' } :=
  ⟨h.box_r hg, ho, h.st.kept hg (own_types_ne h.st h.rd (by decide)), h.jb.kept hg (own_types_ne h.jb h.rd (by decide))⟩
theorem RefAt.new_s (h : RefAt w base b vr vs vj s) {l' : List Stn} (hg : w.grownBy w' vs.ownBlock) (ho : w'.ownsRow base 39 4 vs l'.length (l'.flatMap stnC)) :
    RefAt w' base b vr vs vj { s with stints := l' } :=
  ⟨h.box_s hg, h.rd.kept hg (own_types_ne h.rd h.st (by decide)), ho, h.jb.kept hg (own_types_ne h.jb h.st (by decide))⟩
theorem RefAt.new_j (h : RefAt w base b vr vs vj s) {l' : List Don} (hg : w.grownBy w' vj.ownBlock) (ho : w'.ownsRow base 42 5 vj l'.length (l'.flatMap donC)) :
    RefAt w' base b vr vs vj { s with jobs := l' } :=
  ⟨h.box_j hg, h.rd.kept hg (own_types_ne h.rd h.jb (by decide)), h.st.kept hg (own_types_ne h.st h.jb (by decide)), ho⟩
theorem RefAt.put_s (h : RefAt w base b vr vs vj s) {l' : List Stn} (hg : w.grownBy w' vs.ownBlock) (ho : w'.ownsRow base 39 4 v' l'.length (l'.flatMap stnC)) :
    RefAt (w'.setCell ⟨b, 0, none⟩ v') base b vr v' vj { s with stints := l' } := by
  have hb := h.box_s hg
  have g := gro_set (gro_refl w' (row := some b)) 0 v'
  have s3 := h.rd.kept hg (own_types_ne h.rd h.st (by decide))
  have j3 := h.jb.kept hg (own_types_ne h.jb h.st (by decide))
  exact ⟨hb.set 0 v', s3.kept g (own_box_ne hb s3 (by decide)), ho.kept g (own_box_ne hb ho (by decide)), j3.kept g (own_box_ne hb j3 (by decide))⟩
theorem RefAt.put_j (h : RefAt w base b vr vs vj s) {l' : List Don} (hg : w.grownBy w' vj.ownBlock) (ho : w'.ownsRow base 42 5 v' l'.length (l'.flatMap donC)) :
    RefAt (w'.setCell ⟨b, 1, none⟩ v') base b vr vs v' { s with jobs := l' } := by
  have hb := h.box_j hg
  have g := gro_set (gro_refl w' (row := some b)) 1 v'
  have s3 := h.rd.kept hg (own_types_ne h.rd h.jb (by decide))
  have j3 := h.st.kept hg (own_types_ne h.st h.jb (by decide))
  exact ⟨hb.set 1 v', s3.kept g (own_box_ne hb s3 (by decide)), j3.kept g (own_box_ne hb j3 (by decide)), ho.kept g (own_box_ne hb ho (by decide))⟩
theorem rjob_cell {l : List Job} (h : w.ownsRow base 67 5 (.slice (some ⟨g, 0, none⟩) n cap) n (l.flatMap jobC)) (hn : n = l.length) {k : Nat} (hk : k < l.length) (r : Nat) (hr : r < 5) :
    w.cell? ⟨g, k * 5 + r, none⟩ = (jobC (jbAt l k))[r]? := by
  subst hn
  rw [h.cellAt (k * 5 + r) (by omega), flat_at jobC_len l k r hk hr, jbAt_eq hk]
theorem rjob_store {l : List Job} (h : w.ownsRow base 67 5 (.slice (some ⟨g, 0, none⟩) n cap) n (l.flatMap jobC)) (hn : n = l.length) {k : Nat} (hk : k < l.length) (d : Int) :
    (w.setCell ⟨g, k * 5 + 3, none⟩ (.int .i64 d)).ownsRow base 67 5 (.slice (some ⟨g, 0, none⟩) n cap) (l.set k { jbAt l k with dn := d }).length ((l.set k { jbAt l k with dn := d }).flatMap jobC) ∧ w.grownBy (w.setCell ⟨g, k * 5 + 3, none⟩ (.int .i64 d)) (some g) := by
  subst hn
  obtain ⟨h1, h2⟩ := h.stored (k * 5 + 3) (.int .i64 d)
  rw [List.length_set, ← flat_set jobC_len l k 3 { jbAt l k with dn := d } (.int .i64 d) hk (by omega) (by rw [jbAt_eq hk]; rfl)]
  exact ⟨h1, h2⟩
/-- one job more -/
theorem jobs_snoc (l : List Job) (j : Job) : l.flatMap jobC ++ jobC j = (l ++ [j]).flatMap jobC := by rw [List.flatMap_append]; simp
theorem dons_snoc (l : List Don) (j : Don) : l.flatMap donC ++ donC j = (l ++ [j]).flatMap donC := by rw [List.flatMap_append]; simp
theorem stns_snoc (l : List Stn) (j : Stn) : l.flatMap stnC ++ stnC j = (l ++ [j]).flatMap stnC := by rw [List.flatMap_append]; simp
end
set_option maxHeartbeats 1000000 in
theorem allowed_any (v : Value) (l : List Tsk) (pol : Int) (w : World) (h : TsksAt w w.heap.size v l) (hl : l.length ≤ 1000000) :
    Calls Try.prog 27 #[v, .int .i64 pol] w fun e w' => e = .returned (.bool (decide (pol = 1) || (decide (pol = 2) && !secsB l))) ∧ Bel w w' := by
  have HS := Lib.hid (rsecs_any v l w h hl)
  clear h
  go_enter Try.func27, Try.ntmps27
  by_cases p1 : pol = 1
  · subst p1
    go_wp2
    go_ret
    exact ⟨rfl, Bel.refl⟩
  · have q1 : (pol == 1) = false := by simpa using p1
    by_cases p2 : pol = 2
    · subst p2
      generalize secsB l = sb at *
      go_wp2_with (first | (go_at_call 17; (with_reducible refine (HS.out).mono ?_); rintro e w2 ⟨rfl, hb2⟩; obtain ⟨x, rfl⟩ : ∃ x : Ext w, w2 = x.w := ext_of (hb2.after (by (repeat (first | exact Ext.bel _ | exact Bel.refl | refine Bel.alloc ?_ _ | refine Bel.drew ?_ | refine Bel.drewN ?_ _)))); clear hb2))
      all_goals
        go_ret
        exact ⟨ret_bool (by cases sb <;> simp), x.bel⟩
    · have q2 : (pol == 2) = false := by simpa using p2
      go_wp2
      go_ret
      exact ⟨ret_bool (by simp [p1, p2]), Bel.refl⟩
end Go.Proofs.Ythcdemmamggboaa
