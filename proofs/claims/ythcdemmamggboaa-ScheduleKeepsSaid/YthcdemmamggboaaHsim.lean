import Derived.Test.YthcdemmamggboaaHrank
import Derived.Test.YthcdemmamggboaaFlat
import Derived.Deep.LoopGhost
namespace Go.Proofs.Ythcdemmamggboaa
open Go.RowKit
def jobC (j : Job) : List Value := [.int .i64 j.tk, .int .i64 j.num, .int .i64 j.rel, .int .i64 j.dn, .int .i64 j.pos]
def stnC (s : Stn) : List Value := [.int .i64 s.tk, .int .i64 s.job, .int .i64 s.frm, .int .i64 s.to]
def donC (d : Don) : List Value := [.int .i64 d.tk, .int .i64 d.job, .int .i64 d.rel, .int .i64 d.resp, .bool d.miss]
theorem jobC_len (j : Job) : (jobC j).length = 5 := rfl
theorem stnC_len (j : Stn) : (stnC j).length = 4 := rfl
theorem donC_len (j : Don) : (donC j).length = 5 := rfl
theorem Try.infoJob : (Try.prog.info? 78).map (fun i => (i.zero, i.size, i.bytes)) = some (some (.agg #[.int .i64 0, .int .i64 0, .int .i64 0, .int .i64 0, .int .i64 0]), 5, 40) := by kernel_rfl
theorem Try.infoStn : (Try.prog.info? 39).map (fun i => (i.zero, i.size, i.bytes)) = some (some (.agg #[.int .i64 0, .int .i64 0, .int .i64 0, .int .i64 0]), 4, 32) := by kernel_rfl
theorem Try.infoDon : (Try.prog.info? 42).map (fun i => (i.zero, i.size, i.bytes)) = some (some (.agg #[.int .i64 0, .int .i64 0, .int .i64 0, .int .i64 0, .bool false]), 5, 40) := by kernel_rfl
/-- the simulation's memory -/
structure SimAt (w : World) (base b : Nat) (vl vc : Value) (pol : Int) (vr vs vj : Value) (s : St) : Prop where
  box : RowAt w b 61 [vl, vc, .int .i64 pol, vr, vs, vj]
  rd : w.ownsRow base 78 5 vr s.ready.length (s.ready.flatMap jobC)
  st : w.ownsRow base 39 4 vs s.stints.length (s.stints.flatMap stnC)
  jb : w.ownsRow base 42 5 vj s.jobs.length (s.jobs.flatMap donC)
theorem SimAt.bel {w w' : World} {base b : Nat} {vl vc : Value} {pol : Int} {vr vs vj : Value} {s : St} (h : SimAt w base b vl vc pol vr vs vj s) (hb : Bel w w') : SimAt w' base b vl vc pol vr vs vj s :=
  ⟨h.box.bel hb, ownsRow_bel h.rd hb, ownsRow_bel h.st hb, ownsRow_bel h.jb hb⟩
section
variable {w w3 : World} {base b : Nat} {vl vc : Value} {pol : Int} {vr vs vj v' : Value} {s : St}
theorem SimAt.box_r (h : SimAt w base b vl vc pol vr vs vj s) (hg : w.grownBy w3 vr.ownBlock) : RowAt w3 b 61 [vl, vc, .int .i64 pol, vr, vs, vj] := h.box.gro hg (box_row_ne h.box h.rd (by decide))
theorem SimAt.box_s (h : SimAt w base b vl vc pol vr vs vj s) (hg : w.grownBy w3 vs.ownBlock) : RowAt w3 b 61 [vl, vc, .int .i64 pol, vr, vs, vj] := h.box.gro hg (box_row_ne h.box h.st (by decide))
theorem SimAt.box_j (h : SimAt w base b vl vc pol vr vs vj s) (hg : w.grownBy w3 vj.ownBlock) : RowAt w3 b 61 [vl, vc, .int .i64 pol, vr, vs, vj] := h.box.gro hg (box_row_ne h.box h.jb (by decide))
theorem SimAt.put_r (h : SimAt w base b vl vc pol vr vs vj s) {l' : List Job} (hg : w.grownBy w3 vr.ownBlock) (ho : w3.ownsRow base 78 5 v' l'.length (l'.flatMap jobC)) :
    SimAt (w3.setCell ⟨b, 3, none⟩ v') base b vl vc pol v' vs vj { s with ready := l' } := by
  have hb := h.box_r hg
  have g := gro_set (gro_refl w3 (row := some b)) 3 v'
  have s3 := h.st.kept hg (own_types_ne h.st h.rd (by decide))
  have j3 := h.jb.kept hg (own_types_ne h.jb h.rd (by decide))
  exact ⟨hb.set 3 v', ho.kept g (own_box_ne hb ho (by decide)), s3.kept g (own_box_ne hb s3 (by decide)), j3.kept g (own_box_ne hb j3 (by decide))⟩
theorem SimAt.put_s (h : SimAt w base b vl vc pol vr vs vj s) {l' : List Stn} (hg : w.grownBy w3 vs.ownBlock) (ho : w3.ownsRow base 39 4 v' l'.length (l'.flatMap stnC)) :
    SimAt (w3.setCell ⟨b, 4, none⟩ v') base b vl vc pol vr v' vj { s with stints := l' } := by
  have hb := h.box_s hg
  have g := gro_set (gro_refl w3 (row := some b)) 4 v'
  have s3 := h.rd.kept hg (own_types_ne h.rd h.st (by decide))
  have j3 := h.jb.kept hg (own_types_ne h.jb h.st (by decide))
  exact ⟨hb.set 4 v', s3.kept g (own_box_ne hb s3 (by decide)), ho.kept g (own_box_ne hb ho (by decide)), j3.kept g (own_box_ne hb j3 (by decide))⟩
theorem SimAt.put_j (h : SimAt w base b vl vc pol vr vs vj s) {l' : List Don} (hg : w.grownBy w3 vj.ownBlock) (ho : w3.ownsRow base 42 5 v' l'.length (l'.flatMap donC)) :
    SimAt (w3.setCell ⟨b, 5, none⟩ v') base b vl vc pol vr vs v' { s with jobs := l' } := by
  have hb := h.box_j hg
  have g := gro_set (gro_refl w3 (row := some b)) 5 v'
  have s3 := h.rd.kept hg (own_types_ne h.rd h.jb (by decide))
  have j3 := h.st.kept hg (own_types_ne h.st h.jb (by decide))
  exact ⟨hb.set 5 v', s3.kept g (own_box_ne hb s3 (by decide)), j3.kept g (own_box_ne hb j3 (by decide)), ho.kept g (own_box_ne hb ho (by decide))⟩
end
set_option maxRecDepth 100000 in
set_option maxHeartbeats 8000000 in
theorem release_any (wb : World) (b : Nat) (vl vc : Value) (pol : Int) (l : List Tsk) (t : Int) (hb : wb.heap.size ≤ b) (hT : TsksAt wb wb.heap.size vl l) (h0 : rchk l = 0) (ht0 : 0 ≤ t) (ht1 : t ≤ 20000)
    (x : Ext wb) (s : St) (vr vs vj : Value) (h : SimAt x.w wb.heap.size b vl vc pol vr vs vj s) (hj : s.jobs.length ≤ 1000000) (hr : s.ready.length ≤ 1000000) :
    Calls Try.prog 25 #[.pointer (some ⟨b, 0, none⟩), .int .i64 t] x.w fun e w' => e = .returned (.tuple #[]) ∧ ∃ (y : Ext wb) (vr' vj' : Value), w' = y.w ∧ SimAt y.w wb.heap.size b vl vc pol vr' vs vj' (relJ t 0 l s) := by
  obtain ⟨A, c, rfl, hc⟩ := hT.form
  have HT := Lib.hid hT
  have hl8 := (rchk_ok h0).1
  have HTK := Lib.hid (fun i (hi : i < l.length) => (rchk_ok h0).2 i hi)
  have HS := Lib.hid h
  have k0 : x.w.cell? ⟨b, 0, none⟩ = some (.slice A l.length c) := h.box.cell rfl
  have hbx := h.box.lt
  clear h hT h0
  go_enter Try.func25, Try.ntmps25
  go_wp2
  clear k0 hbx
  go_loopg [12] l.length (fun gk s12 wr => ∃ (i : Nat) (y : Ext wb) (q : St) (vr vj : Value), i + gk = l.length ∧ s12 = .int .i64 i ∧ wr = y.w ∧ SimAt y.w wb.heap.size b (.slice A l.length c) vc pol vr vs vj q ∧ relJ t i (l.drop i) q = relJ t 0 l s ∧ q.jobs.length ≤ s.jobs.length + i ∧ q.ready.length ≤ s.ready.length + i)
  case atStart => exact ⟨0, x, s, vr, vj, by omega, rfl, rfl, HS.out, by simp, by omega, by omega⟩
  case round =>
    clear HS vr vj
    obtain ⟨i, y, q, vr, vj, hi, rfl, rfl, hq, hd, hqj, hqr⟩ := hrel
    by_cases hlt : i < l.length
    · have hdl : decide ((i : Int) < (l.length : Int)) = true := by simp; omega
      obtain ⟨ba, off, rfl, hba, hA⟩ := HT.out.at_ (by omega)
      obtain ⟨sv, ⟨t0, t1, t2, t3, t4, t5, t6⟩, hS⟩ := hA i hlt
      obtain ⟨A2, c2, rfl, _⟩ := hS.form
      have hok := tok_of (HTK.out i hlt).1
      obtain ⟨_, _, _, _, _, o1, o2, _⟩ := tskBad_false.1 (HTK.out i hlt).1
      have hp1 := hok.p1
      have hp2 := hok.p2
      rw [tsks_drop hlt] at hd
      simp only [relJ] at hd
      have HD := Lib.hid hd
      have HQ := Lib.hid hq
      have hdue : dueJ t (tskAt l i) = (decide ((tskAt l i).off ≤ t) && decide ((t - (tskAt l i).off) % (tskAt l i).per = 0)) := rfl
      have HDU := Lib.hid hdue
      have HNM : Hid (numJ t (tskAt l i) = (t - (tskAt l i).off) / (tskAt l i).per) := Lib.hid rfl
      clear hd hq hA hS hok hdue
      go_upto_region 3 with (fail)
      (generalize hW : World.alloc _ _ = wc; have q0_0 := (congrArg (fun W : World => W.cell? ⟨y.w.heap.size, 0, none⟩) hW).symm; simp [go_sem] at q0_0; have q0_1 := (congrArg (fun W : World => W.cell? ⟨y.w.heap.size, 1, none⟩) hW).symm; simp [go_sem] at q0_1; have q0_2 := (congrArg (fun W : World => W.cell? ⟨y.w.heap.size, 2, none⟩) hW).symm; simp [go_sem] at q0_2; have q0_3 := (congrArg (fun W : World => W.cell? ⟨y.w.heap.size, 3, none⟩) hW).symm; simp [go_sem] at q0_3; have q0_4 := (congrArg (fun W : World => W.cell? ⟨y.w.heap.size, 4, none⟩) hW).symm; simp [go_sem] at q0_4; have q0_5 := (congrArg (fun W : World => W.cell? ⟨y.w.heap.size, 5, none⟩) hW).symm; simp [go_sem] at q0_5; have q0_6 := (congrArg (fun W : World => W.cell? ⟨y.w.heap.size, 6, none⟩) hW).symm; simp [go_sem] at q0_6; have qz0 : y.w.heap.size < wc.heap.size := (by rw [← hW]; simp [go_sem]; try omega); have HBW : Hid (Bel y.w wc) := Lib.hid (by rw [← hW]; (repeat (first | exact Ext.bel _ | exact Bel.refl | refine Bel.alloc ?_ _ | refine Bel.drew ?_ | refine Bel.drewN ?_ _))); clear hW; have hkw := HBW.out.cells)
      have HQ2 := Lib.hid (HQ.out.bel HBW.out)
      obtain ⟨z, rfl⟩ := ext_of (y.bel.trans HBW.out)
      clear hkw HBW t0 t1 t2 t3 t4 t5 t6 HQ
      generalize y.w.heap.size = bx at *
      by_cases h1 : (tskAt l i).off ≤ t
      · have hd1 : decide (t < (tskAt l i).off) = false := by simp; omega
        by_cases h2 : (t - (tskAt l i).off) % (tskAt l i).per = 0
        · have hdt : dueJ t (tskAt l i) = true := by rw [HDU.out]; simp [h1, h2]
          have HD2 := HD.out
          rw [hdt, if_pos rfl] at HD2
          replace HD := Lib.hid HD2
          have hnb : 0 ≤ numJ t (tskAt l i) ∧ numJ t (tskAt l i) ≤ 20000 := by
            rw [HNM.out]
            have := Int.ediv_le_self (a := t - (tskAt l i).off) (tskAt l i).per (by omega)
            exact ⟨Int.ediv_nonneg (by omega) (by omega), by omega⟩
          have hm := HNM.out
          clear HD2 hdt HDU HNM
          generalize numJ t (tskAt l i) = nm at *
          have hn2 : (t - (tskAt l i).off) / (tskAt l i).per = nm := hm.symm
          have h2' : (t - (tskAt l i).off) % (tskAt l i).per = 0 := h2
          generalize (tskAt l i).off = of at *
          generalize (tskAt l i).per = pe at *
          clear hm
          go_upto_region 5 with (fail)
          have k3 : z.w.cell? ⟨b, 3, none⟩ = some vr := HQ2.out.box.cell rfl
          have k5 : z.w.cell? ⟨b, 5, none⟩ = some vj := HQ2.out.box.cell rfl
          obtain ⟨Aj, cj, rfl, _⟩ := own_slice HQ2.out.jb
          have hbz := HQ2.out.box.lt
          obtain ⟨row, hrow⟩ : ∃ r, r = vr.ownBlock := ⟨_, rfl⟩
          have hne : some b ≠ row := by rw [hrow]; exact box_row_ne HQ2.out.box HQ2.out.rd (by decide)
          have HROW := Lib.hid hrow
          clear hrow
          (refine wp_region_E 17 row (by kernel_rfl) ?_; refine anyE_takes [0, 1, 2, 3, 4, 5, 6, 7, 8, 9, 10, 11, 12, 13, 14] (fun _ _ _ _ _ h => h) ⟨⟨_, gro_drew (gro_refl _)⟩, rfl⟩ (by kernel_rfl) (by rfl) ?_; simp only [opsOf, List.filterMap_cons, List.filterMap_nil, List.getElem?_toArray, List.getElem?_cons_succ, List.getElem?_cons_zero, List.foldl_cons, List.foldl_nil]; (repeat (any_goals (first | go_big_quiet_step (fail) | quiet_step (fail)))); refine wpQuiet_nil ?_)
          have HY : Hid (SimAt z.w.drew wb.heap.size b (.slice (some ⟨ba, off, none⟩) l.length c) vc pol vr vs (.slice Aj q.jobs.length cj) q) := Lib.hid ⟨HQ2.out.box, HQ2.out.rd, HQ2.out.st, HQ2.out.jb⟩
          have hle : wb.heap.size ≤ z.w.drew.heap.size := z.bel.le
          have HZD : Hid (Bel wb z.w.drew) := Lib.hid z.bel.drew
          have hgd : Hid (z.w.grownBy z.w.drew row) := Lib.hid (gro_drew (gro_refl _))
          generalize z.w.drew = y at *
          (refine anyE_one 15 _ (by kernel_rfl) (by rfl) (fun K hK => ?_))
          go_simp
          refine hK _ _ (fun _ => ⟨⟨_, gro_alloc hgd.out _⟩, rfl⟩) ?_
          clear hK K
          clear k3 k5 hbz
          obtain ⟨j0, hj0, hy0, hy1, hy2⟩ := info_parts Try.infoJob
          (refine anyE_one 16 _ (by kernel_rfl) (by rfl) (fun K hK => ?_))
          rw [if_pos (by rfl)]
          refine wp_append_own _ _ _ 59 rfl wb.heap.size 78 j0 _ 5 40 Try.underlying59 hj0 hy0 hy1 hy2 rfl (by decide) _ _ _ rfl (HY.out.rd.alloc _) ⟨y.heap.size, 0, none⟩ 1 1 (jobC ⟨i, nm, t, 0, q.jobs.length⟩) rfl rfl ?d1 ?d2 ?d3 ?d4 ?d5 ?_
          case d1 => exact cells_new _ (jobC ⟨i, nm, t, 0, q.jobs.length⟩) _
          case d2 => intro u hu; simp [jobC] at hu; rcases hu with h | h | h | h | h <;> subst h <;> rfl
          case d3 => unfold maxLen; omega
          case d4 => omega
          case d5 => simp; omega
          intro v' w3 hown3 hg3 _
          obtain ⟨A', c', rfl, _⟩ := own_slice hown3
          replace hg3 := (World.grownBy_alloc y _ _).trans hg3
          refine hK _ _ (fun _ => ⟨⟨_, hgd.out.trans (by rw [HROW.out]; exact hg3)⟩, rfl⟩) ?_
          clear hK K
          have bx3 := HY.out.box_r hg3
          have c3 := bx3.cell (i := 3) rfl
          have f3 := bx3.frozen 3
          have l3 := bx3.lt
          have HS4 := Lib.hid (HY.out.put_r (l' := q.ready ++ [⟨i, nm, t, 0, q.jobs.length⟩]) hg3 (by rw [List.flatMap_append, List.length_append]; simpa using hown3))
          have hb4 : Bel wb (w3.setCell ⟨b, 3, none⟩ (.slice A' (q.ready.length + 1) c')) := (bel_gro HZD.out hg3 (fun k hk => (HY.out.rd.lt k hk).1)).set hb _
          have HB4 := Lib.hid hb4
          clear hown3 hg3 hb4 bx3
          (refine anyE_tail 17 (by decide) (by rfl) (by kernel_rfl) ?_; simp only [List.drop_succ_cons, List.drop_zero])
          go_wp2
          refine NoPanic.normal ?_
          clear c3 f3 l3
          generalize hW : World.setCell w3 _ _ = W4 at *
          clear hW
          obtain ⟨u, rfl⟩ := ext_of HB4.out
          have k5 : u.w.cell? ⟨b, 5, none⟩ = some (.slice Aj q.jobs.length cj) := HS4.out.box.cell rfl
          have hbz := HS4.out.box.lt
          have hle : wb.heap.size ≤ u.w.heap.size := u.bel.le
          clear HY HQ2
          obtain ⟨j0, hj0, hy0, hy1, hy2⟩ := info_parts Try.infoDon
          go_upto_region 7 with (at_builtin; go_must (refine wpList_append_own _ rfl _ _ 27 rfl wb.heap.size 42 j0 _ 5 40 Try.underlying27 hj0 hy0 hy1 hy2 rfl (by decide) _ _ _ rfl (HS4.out.jb.alloc _) ⟨u.w.heap.size, 0, none⟩ 1 1 (donC ⟨i, nm, t, -1, false⟩) rfl rfl ?e1 ?e2 ?e3 ?e4 ?e5 ?_))
          case e1 => exact cells_new _ (donC ⟨i, nm, t, -1, false⟩) _
          case e2 => intro u hu; simp [donC] at hu; rcases hu with h | h | h | h | h <;> subst h <;> rfl
          case e3 => unfold maxLen; omega
          case e4 => omega
          case e5 => simp; omega
          intro v5 w5 hown5 hg5 _
          obtain ⟨A5, c5', rfl, _⟩ := own_slice hown5
          replace hg5 := (World.grownBy_alloc u.w _ _).trans hg5
          have bx5 := HS4.out.box_j hg5
          have c5 := bx5.cell (i := 5) rfl
          have f5 := bx5.frozen 5
          have l5 := bx5.lt
          have HS6 := Lib.hid (HS4.out.put_j (l' := q.jobs ++ [⟨i, nm, t, -1, false⟩]) hg5 (by rw [List.flatMap_append, List.length_append]; simpa using hown5))
          have hb6 : Bel wb (w5.setCell ⟨b, 5, none⟩ (.slice A5 (q.jobs.length + 1) c5')) := (bel_gro u.bel hg5 (fun k hk => (HS4.out.jb.lt k hk).1)).set hb _
          have HB6 := Lib.hid hb6
          clear hown5 hg5 hb6 bx5 hj0 hy0 hy1 hy2 k5 hbz
          go_upto_region 7 with (fail)
          clear c5 f5 l5
          generalize hW : World.setCell w5 _ _ = W6 at *
          clear hW HS4
          obtain ⟨u6, rfl⟩ := ext_of HB6.out
          go_wp2
          go_roundg (gk - 1)
          case measure => omega
          case rel => exact ⟨i + 1, u6, _, _, _, by omega, by go_num, rfl, HS6.out, HD.out, by simp; omega, by simp; omega⟩
        · have h2' : ((t - (tskAt l i).off) % (tskAt l i).per == 0) = false := by simpa using h2
          have hdt : dueJ t (tskAt l i) = false := by rw [HDU.out]; simp [h2]
          have HD2 := HD.out
          rw [hdt, if_neg (by decide)] at HD2
          replace HD := Lib.hid HD2
          clear HD2 hdt HDU HNM
          go_wp2
          go_roundg (gk - 1)
          case measure => omega
          case rel => exact ⟨i + 1, z, _, _, _, by omega, by go_num, rfl, HQ2.out, HD.out, by omega, by omega⟩
      · have hd1 : decide (t < (tskAt l i).off) = true := by simp; omega
        have hdt : dueJ t (tskAt l i) = false := by rw [HDU.out]; simp [h1]
        have HD2 := HD.out
        rw [hdt, if_neg (by decide)] at HD2
        replace HD := Lib.hid HD2
        clear HD2 hdt HDU HNM
        go_wp2
        go_roundg (gk - 1)
        case measure => omega
        case rel => exact ⟨i + 1, z, _, _, _, by omega, by go_num, rfl, HQ2.out, HD.out, by omega, by omega⟩
    · obtain rfl : i = l.length := by omega
      have hdl : decide ((l.length : Int) < (l.length : Int)) = false := by simp
      have HQ := Lib.hid hq
      have HD : Hid (q = relJ t 0 l s) := Lib.hid (by rw [← hd]; simp [relJ])
      clear hd hq
      go_wp2
      go_end0
      exact ⟨rfl, y, _, _, rfl, by rw [← HD.out]; exact HQ.out⟩
end Go.Proofs.Ythcdemmamggboaa
