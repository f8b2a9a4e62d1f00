/- poly, the reference: the sum of a line's coefficients times the coordinates of a point. -/
import Derived.Test.YtalphoebmefgoaaG44
namespace Go.Proofs.Ytalphoebmefgoaa
open Go.RowKit
theorem ratio_ne_line : 41 ≠ 25 := by decide
set_option maxRecDepth 100000 in
theorem rtot_res {W : World} {tmps : Array Value} {p4 : Nat} {n d e : Int} (h : RowAt W p4 41 [.int .i64 n, .int .i64 d]) (t : tmps[4]? = some (.pointer (some ⟨p4, 0, none⟩))) (t5 : tmps[5]? = some (.int .i64 e)) :
    (results Try.f66 tmps).run Try.prog W = .ok (.tuple #[.agg #[.int .i64 n, .int .i64 d], .int .i64 e]) W := by
  have q0 := h.cell (i := 0) rfl
  have q1 := h.cell (i := 1) rfl
  simp [results, Try.f66, go_sem, q0, q1, t, t5]
set_option maxRecDepth 100000 in
set_option maxHeartbeats 8000000 in
theorem rtotal_any (x : AL) (xv v : Value) (p : List Rt) (w : World) (hx : x.inr) (hxv : IntsAt w w.heap.size xv x.a) (hpl : p.length ≤ x.a.length) (hxl : x.a.length ≤ 1000000) (h : RatsAt w w.heap.size v p) (hw : ∀ r, r ∈ p → r.wf) :
    Calls Try.prog 66 #[.agg #[xv, .int .i64 x.b, .bool x.s], v] w fun e w' => e = .returned (rresV (totL x.a p)) ∧ Bel w w' := by
  have HX := Lib.hid hx
  have HXV := Lib.hid hxv
  have H := Lib.hid h
  have HW := Lib.hid hw
  obtain ⟨A, c, rfl, hc⟩ := h.form
  obtain ⟨Ax, cx, rfl, hcx⟩ := hxv.form
  clear h hw hx hxv
  go_enter Try.func66, Try.ntmps66
  go_upto_region 2 with (fail)
  generalize hW : World.alloc (World.alloc (World.alloc w _) _) _ = w1 at *
  have hb : Bel w w1 := by rw [← hW]; exact ((Bel.refl.alloc _).alloc _).alloc _
  have r2 : RowAt w1 w.heap.size 25 [.slice Ax x.a.length cx, .int .i64 x.b, .bool x.s] := by rw [← hW]; exact ((RowAt.new _ _ _).alloc _).alloc _
  have r4 : RowAt w1 (w.heap.size + 1) 41 (Rt.cells ⟨0, 0⟩) := by
    rw [← hW, ← size_alV w (.cells #[.slice Ax x.a.length cx, .int .i64 x.b, .bool x.s] 25)]; exact (RowAt.new _ 41 (Rt.cells ⟨0, 0⟩)).alloc _
  have r6 : RowAt w1 (w.heap.size + 1 + 1) 41 (Rt.cells ⟨0, 1⟩) := by
    have e : w.heap.size + 1 + 1 = ((w.alloc (.cells #[.slice Ax x.a.length cx, .int .i64 x.b, .bool x.s] 25)).alloc (.cells #[.int .i64 0, .int .i64 0] 41)).heap.size := by simp
    rw [← hW, e]; exact RowAt.new _ 41 (Rt.cells ⟨0, 1⟩)
  clear hW
  obtain ⟨p6, hp6⟩ : ∃ b, b = w.heap.size + 1 + 1 := ⟨_, rfl⟩
  rw [← hp6] at r6 ⊢
  obtain ⟨p4, hp4⟩ : ∃ b, b = w.heap.size + 1 := ⟨_, rfl⟩
  rw [← hp4] at r4 ⊢
  obtain ⟨p2, hp2⟩ : ∃ b, b = w.heap.size := ⟨_, rfl⟩
  rw [← hp2] at r2 ⊢
  have HN : Hid (w.heap.size ≤ p2 ∧ w.heap.size ≤ p4 ∧ w.heap.size ≤ p6 ∧ p2 ≠ p4 ∧ p2 ≠ p6 ∧ p4 ≠ p6) := Lib.hid (by omega)
  clear hp2 hp4 hp6
  have HR2 := Lib.hid r2
  have HR4 := Lib.hid r4
  have HR6 := Lib.hid r6
  have HB := Lib.hid hb
  have HPL := Lib.hid hpl
  clear r2 r4 r6 hb hpl
  go_wp2
  go_loopw [7] (fun s7 wq => ∃ (k : Nat) (y : Ext w) (t : Rt), k ≤ p.length ∧ s7 = .int .i64 k ∧ wq = y.w ∧ RowAt y.w p2 25 [.slice Ax x.a.length cx, .int .i64 x.b, .bool x.s] ∧ RowAt y.w p4 41 (Rt.cells ⟨0, 0⟩) ∧ RowAt y.w p6 41 t.cells ∧ t.wf ∧ totF ((x.a.zip p).drop k) t = totL x.a p) (fun s7 _ => p.length - (intOf s7).toNat)
  case atStart => exact ⟨0, ⟨_, HB.out⟩, ⟨0, 1⟩, Nat.zero_le _, rfl, rfl, HR2.out, HR4.out, HR6.out, ⟨i64_lit' (n := 0) (by decide) (by decide), i64_lit' (n := 1) (by decide) (by decide)⟩, rfl⟩
  case round =>
    clear HR2 HR4 HR6 HB
    obtain ⟨k, y, t, hk, rfl, rfl, hr2, hr4, hr6, htw, hto⟩ := hrel
    have HR2 := Lib.hid hr2
    have HR4 := Lib.hid hr4
    have HR6 := Lib.hid hr6
    have HTW := Lib.hid htw
    have HTO := Lib.hid hto
    have HB := Lib.hid y.bel
    clear htw hto hr4 hr6
    by_cases hlt : k < p.length
    · have hd : decide ((k : Int) < (p.length : Int)) = true := by simp; omega
      have hL : (k : Int) < (p.length : Int) := by omega
      have wk : IntKind.i64.wrap ((k : Int) + 1) = ((k + 1 : Nat) : Int) := IntWalk.i64_in _ (by have := HPL.out; omega)
      obtain ⟨g, off, rfl, hg, hcl⟩ := (H.out.keep y.bel.keeps y.bel.le).at_ (by omega)
      obtain ⟨x0, x1⟩ := rd_rat hcl hlt
      have hkx : k < x.a.length := by have := HPL.out; omega
      have hkx2 : (k : Int) < (x.a.length : Int) := by omega
      obtain ⟨gx, ox, rfl, hgx, hcx2⟩ := (HXV.out.keep y.bel.keeps y.bel.le).at_ (by omega)
      have z0 := hcx2 k hkx
      have q0 := hr2.cell (i := 0) rfl
      have l2 := hr2.lt
      clear hcl hcx2
      have HRW := Lib.hid (HW.out _ (rtAt_mem hlt))
      have HZ : Hid (totF ((x.a.getD k 0, rtAt p k) :: (x.a.zip p).drop (k + 1)) t = totL x.a p) := Lib.hid (by rw [← zip_drop hlt HPL.out]; exact HTO.out)
      have HCW : Hid ((⟨x.a.getD k 0, 1⟩ : Rt).wf) := Lib.hid (one_wf (HX.out.at_ k))
      clear HTO hr2 hkx
      generalize rtAt p k = R at *
      generalize x.a.getD k 0 = C at *
      have hunf : totF ((C, R) :: (x.a.zip p).drop (k + 1)) t = if (rmul ⟨C, 1⟩ R).2 ≠ 0 then (⟨0, 0⟩, (rmul ⟨C, 1⟩ R).2) else if (radd t (rmul ⟨C, 1⟩ R).1).2 ≠ 0 then (⟨0, 0⟩, (radd t (rmul ⟨C, 1⟩ R).1).2) else totF ((x.a.zip p).drop (k + 1)) (radd t (rmul ⟨C, 1⟩ R).1).1 := rfl
      rw [hunf] at HZ
      clear hunf
      have HMU := Lib.hid (fun W => rrmul_any ⟨C, 1⟩ R W HCW.out HRW.out)
      have HYW := Lib.hid (rmul_wf ⟨C, 1⟩ R)
      generalize rmul ⟨C, 1⟩ R = M at *
      obtain ⟨⟨yn, yd⟩, e1⟩ := M
      unfold rresV Rt.V at HMU
      simp only at HMU
      generalize y.w = w2 at *
      go_upto_region 5 with (fail)
      go_cut [8, 9] from 11 to 44 (fun s8 s9 wx => ∃ (q : Nat) (z : Ext w2), s8 = .pointer (some ⟨q, 0, none⟩) ∧ s9 = .int .i64 e1 ∧ wx = z.w ∧ RowAt z.w q 41 [.int .i64 yn, .int .i64 yd] ∧ w2.heap.size ≤ q)
      case first =>
        (refine wp_region_E 16 none (by kernel_rfl) ?_; refine anyE_takes [0, 1, 2, 3, 4, 5, 6, 7, 8, 9] (fun _ _ _ _ _ h => h) ⟨⟨_, gro_drew (gro_refl _)⟩, rfl⟩ (by kernel_rfl) (by rfl) ?_; simp only [opsOf, List.filterMap_cons, List.filterMap_nil, List.getElem?_toArray, List.getElem?_cons_succ, List.getElem?_cons_zero, List.foldl_cons, List.foldl_nil]; (repeat (any_goals (first | go_big_quiet_step (fail) | quiet_step (fail)))); refine wpQuiet_nil ?_)
        have G0 : Hid (w2.grownBy w2.drew none) := Lib.hid (gro_drew (gro_refl _))
        clear q0 l2 x0 x1 z0 hg hgx
        generalize w2.drew = wc at *
        refine anyE_two 10 14 _ _ (by kernel_rfl) (by rfl) (by rfl) ?_ ?_
        · intro K hK
          rw [if_pos (by rfl)]
          go_simp
          refine (HMU.out wc).mono ?_
          rintro _ w4 ⟨rfl, hB⟩
          have G1 : Hid (w2.grownBy w4 none) := Lib.hid (gro_then G0.out hB)
          refine hK _ _ (fun _ => ⟨⟨_, G1.out⟩, rfl⟩) ?_
          clear hK K hB
          (refine anyE_takes [11, 12, 13] (fun _ _ _ _ _ h => h) ⟨⟨_, G1.out⟩, rfl⟩ (by kernel_rfl) (by rfl) ?_; simp only [opsOf, List.filterMap_cons, List.filterMap_nil, List.getElem?_toArray, List.getElem?_cons_succ, List.getElem?_cons_zero, List.foldl_cons, List.foldl_nil]; (repeat (any_goals (first | go_big_quiet_step (fail) | quiet_step (fail)))); refine wpQuiet_nil ?_)
          (refine anyE_one 14 _ (by kernel_rfl) (by rfl) (fun K hK => ?_))
          go_simp
          refine hK _ _ (fun _ => ⟨⟨_, gro_alloc G1.out _⟩, rfl⟩) ?_
          clear hK K
          have HR := Lib.hid (RowAt.new w4 41 [.int .i64 0, .int .i64 0])
          have HXB := Lib.hid (gro_bel (gro_alloc G1.out (.cells #[.int .i64 0, .int .i64 0] 41)))
          have hq0 : w2.heap.size ≤ w4.heap.size := G1.out.size
          generalize World.alloc w4 _ = w5 at *
          generalize w4.heap.size = q at *
          have c0 := HR.out.cell (i := 0) rfl
          have c1 := HR.out.cell (i := 1) rfl
          have f0 := HR.out.frozen 0
          have f1 := HR.out.frozen 1
          have kz := HR.out.lt
          (refine anyE_one 15 _ (by kernel_rfl) (by rfl) (fun K hK => ?_))
          rw [if_pos (by rfl)]
          go_simp
          refine hK _ _ (fun _ => ⟨⟨_, gro_of_bel2 ((HXB.out.set (p := ⟨q, 0, none⟩) hq0 _).set (p := ⟨q, 1, none⟩) hq0 _)⟩, rfl⟩) ?_
          clear hK K c0 c1 f0 f1 kz
          (refine anyE_tail 16 (by decide) (by rfl) (by kernel_rfl) ?_; simp only [List.drop_succ_cons, List.drop_zero])
          go_wp2
          refine NoPanic.normal ?_
          go_wp2
          go_meet
          case rel => exact ⟨q, ⟨_, (HXB.out.set (p := ⟨q, 0, none⟩) hq0 _).set (p := ⟨q, 1, none⟩) hq0 _⟩, rfl, rfl, rfl, (HR.out.set 0 _).set 1 _, hq0⟩
        · intro K hK
          go_simp
          refine hK _ _ (fun _ => ⟨⟨_, gro_alloc G0.out _⟩, rfl⟩) ?_
          clear hK K
          have HR := Lib.hid (RowAt.new wc 41 [.int .i64 0, .int .i64 0])
          have HXB := Lib.hid (gro_bel (gro_alloc G0.out (.cells #[.int .i64 0, .int .i64 0] 41)))
          have G2 := Lib.hid (gro_alloc G0.out (.cells #[.int .i64 0, .int .i64 0] 41))
          have hq0 : w2.heap.size ≤ wc.heap.size := G0.out.size
          generalize World.alloc wc _ = w5 at *
          generalize wc.heap.size = q at *
          (refine anyE_one 10 _ (by kernel_rfl) (by rfl) (fun K hK => ?_))
          rw [if_pos (by rfl)]
          go_simp
          refine (HMU.out w5).mono ?_
          rintro _ w6 ⟨rfl, hB⟩
          have G3 : Hid (w2.grownBy w6 none) := Lib.hid (gro_then G2.out hB)
          have HR6' := Lib.hid (HR.out.bel hB)
          have HX6 := Lib.hid (HXB.out.trans hB)
          refine hK _ _ (fun _ => ⟨⟨_, G3.out⟩, rfl⟩) ?_
          clear hK K hB
          (refine anyE_takes [11, 12, 13] (fun _ _ _ _ _ h => h) ⟨⟨_, G3.out⟩, rfl⟩ (by kernel_rfl) (by rfl) ?_; simp only [opsOf, List.filterMap_cons, List.filterMap_nil, List.getElem?_toArray, List.getElem?_cons_succ, List.getElem?_cons_zero, List.foldl_cons, List.foldl_nil]; (repeat (any_goals (first | go_big_quiet_step (fail) | quiet_step (fail)))); refine wpQuiet_nil ?_)
          have c0 := HR6'.out.cell (i := 0) rfl
          have c1 := HR6'.out.cell (i := 1) rfl
          have f0 := HR6'.out.frozen 0
          have f1 := HR6'.out.frozen 1
          have kz := HR6'.out.lt
          (refine anyE_one 15 _ (by kernel_rfl) (by rfl) (fun K hK => ?_))
          rw [if_pos (by rfl)]
          go_simp
          refine hK _ _ (fun _ => ⟨⟨_, gro_of_bel2 ((HX6.out.set (p := ⟨q, 0, none⟩) hq0 _).set (p := ⟨q, 1, none⟩) hq0 _)⟩, rfl⟩) ?_
          clear hK K c0 c1 f0 f1 kz
          (refine anyE_tail 16 (by decide) (by rfl) (by kernel_rfl) ?_; simp only [List.drop_succ_cons, List.drop_zero])
          go_wp2
          refine NoPanic.normal ?_
          go_wp2
          go_meet
          case rel => exact ⟨q, ⟨_, (HX6.out.set (p := ⟨q, 0, none⟩) hq0 _).set (p := ⟨q, 1, none⟩) hq0 _⟩, rfl, rfl, rfl, (HR6'.out.set 0 _).set 1 _, hq0⟩
      case rest =>
        obtain ⟨q, z, rfl, rfl, rfl, hq, hqw⟩ := hcut
        have HS2 := Lib.hid (HR2.out.bel z.bel)
        have HS4 := Lib.hid (HR4.out.bel z.bel)
        have HS6 := Lib.hid (HR6.out.bel z.bel)
        have HB3 := Lib.hid (HB.out.trans z.bel)
        have HQ := Lib.hid hq
        have d0 := HS6.out.cell (i := 0) rfl
        have d1 := HS6.out.cell (i := 1) rfl
        have k6 := HS6.out.lt
        have e0 := HS4.out.cell (i := 0) rfl
        have e1' := HS4.out.cell (i := 1) rfl
        have f4 := fun j => HS4.out.frozen j
        have k4 := HS4.out.lt
        have c0 := hq.cell (i := 0) rfl
        have c1 := hq.cell (i := 1) rfl
        have kq := hq.lt
        clear q0 l2 x0 x1 z0 hqw hq hg hgx HR2 HR4 HR6 HB
        generalize z.w = wz at *
        by_cases he : e1 = 0
        · subst he
          have h0 : ((0 : Int) != 0) = false := rfl
          simp only [ne_eq, not_true, if_false] at HZ HYW
          have HAD := Lib.hid (rradd_any t ⟨yn, yd⟩ wz HTW.out HYW.out)
          have HAW := Lib.hid (radd_wf t ⟨yn, yd⟩)
          generalize radd t ⟨yn, yd⟩ = M2 at *
          obtain ⟨⟨sn, sd⟩, e2⟩ := M2
          unfold rresV Rt.V at HAD
          simp only at HAD HZ HAW
          go_wp2_with fail
          refine HAD.out.mono ?_
          rintro e w6 ⟨rfl, hB⟩
          have HT6 := Lib.hid (HS6.out.bel hB)
          have HT4 := Lib.hid (HS4.out.bel hB)
          have HT2 := Lib.hid (HS2.out.bel hB)
          have HB6 := Lib.hid (HB3.out.trans hB)
          clear d0 d1 k6 e0 e1' f4 k4 c0 c1 kq HAD
          have d0 := HT6.out.cell (i := 0) rfl
          have d1 := HT6.out.cell (i := 1) rfl
          have f6 := fun j => HT6.out.frozen j
          have k6 := HT6.out.lt
          clear hB
          have HN6 : Hid (RowAt ((w6.setCell ⟨p6, 0, none⟩ (.int .i64 sn)).setCell ⟨p6, 1, none⟩ (.int .i64 sd)) p6 41 (Rt.cells ⟨sn, sd⟩)) := Lib.hid ((HT6.out.set 0 _).set 1 _)
          have HN2 := Lib.hid ((HT2.out.far (a := ⟨p6, 0, none⟩) HN.out.2.2.2.2.1 (.int .i64 sn)).far (a := ⟨p6, 1, none⟩) HN.out.2.2.2.2.1 (.int .i64 sd))
          have HN4 := Lib.hid ((HT4.out.far (a := ⟨p6, 0, none⟩) HN.out.2.2.2.2.2 (.int .i64 sn)).far (a := ⟨p6, 1, none⟩) HN.out.2.2.2.2.2 (.int .i64 sd))
          have HBN := Lib.hid ((HB6.out.set (p := ⟨p6, 0, none⟩) HN.out.2.2.1 (.int .i64 sn)).set (p := ⟨p6, 1, none⟩) HN.out.2.2.1 (.int .i64 sd))
          go_upto_region 9 with (fail)
          generalize World.setCell (World.setCell w6 _ _) _ _ = W9 at *
          clear d0 d1 f6 k6
          by_cases he2 : e2 = 0
          · subst he2
            simp only [not_true, if_false] at HZ
            go_wp2
            go_roundw
            case rel => exact ⟨k + 1, ⟨_, HBN.out⟩, ⟨sn, sd⟩, hlt, by go_num, rfl, HN2.out, HN4.out, HN6.out, HAW.out, HZ.out⟩
            case measure => simp [intOf]; omega
          · have h2 : (e2 != 0) = true := by simp [he2]
            have HM : Hid (totL x.a p = (⟨0, 0⟩, e2)) := Lib.hid (by rw [← HZ.out, if_pos he2])
            clear HZ he2
            have d0 := HN4.out.cell (i := 0) rfl
            have d1 := HN4.out.cell (i := 1) rfl
            have f4 := fun j => HN4.out.frozen j
            have k4 := HN4.out.lt
            have HF4 := Lib.hid ((HN4.out.set 0 (.int .i64 0)).set 1 (.int .i64 0))
            have HFB := Lib.hid ((HBN.out.set (p := ⟨p4, 0, none⟩) HN.out.2.1 (.int .i64 0)).set (p := ⟨p4, 1, none⟩) HN.out.2.1 (.int .i64 0))
            go_wp2
            generalize World.setCell (World.setCell W9 _ _) _ _ = W10 at *
            exact bodyPost_ret (rtot_res HF4.out rfl rfl) rfl ⟨by rw [HM.out]; rfl, HFB.out⟩
        · have h0 : (e1 != 0) = true := by simp [he]
          have HM : Hid (totL x.a p = (⟨0, 0⟩, e1)) := Lib.hid (by rw [← HZ.out, if_pos he])
          have HF4 := Lib.hid ((HS4.out.set 0 (.int .i64 0)).set 1 (.int .i64 0))
          have HFB := Lib.hid ((HB3.out.set (p := ⟨p4, 0, none⟩) HN.out.2.1 (.int .i64 0)).set (p := ⟨p4, 1, none⟩) HN.out.2.1 (.int .i64 0))
          clear HZ he
          go_wp2
          generalize World.setCell (World.setCell wz _ _) _ _ = W10 at *
          exact bodyPost_ret (rtot_res HF4.out rfl rfl) rfl ⟨by rw [HM.out]; rfl, HFB.out⟩
    · obtain rfl : k = p.length := by omega
      have hd : decide ((p.length : Int) < (p.length : Int)) = false := by simp
      have HM : Hid (totL x.a p = (t, 0)) := Lib.hid (by rw [← HTO.out, zip_all HPL.out]; rfl)
      have d0 := HR6.out.cell (i := 0) rfl
      have d1 := HR6.out.cell (i := 1) rfl
      have k6 := HR6.out.lt
      have e0 := HR4.out.cell (i := 0) rfl
      have e1 := HR4.out.cell (i := 1) rfl
      have f4 := fun j => HR4.out.frozen j
      have k4 := HR4.out.lt
      have HF4 := Lib.hid ((HR4.out.set 0 (.int .i64 t.num)).set 1 (.int .i64 t.den))
      have HFB := Lib.hid ((HB.out.set (p := ⟨p4, 0, none⟩) HN.out.2.1 (.int .i64 t.num)).set (p := ⟨p4, 1, none⟩) HN.out.2.1 (.int .i64 t.den))
      clear hr2
      go_wp2
      generalize World.setCell (World.setCell y.w _ _) _ _ = W10 at *
      exact bodyPost_ret (rtot_res HF4.out rfl rfl) rfl ⟨by rw [HM.out]; rfl, HFB.out⟩
end Go.Proofs.Ytalphoebmefgoaa
