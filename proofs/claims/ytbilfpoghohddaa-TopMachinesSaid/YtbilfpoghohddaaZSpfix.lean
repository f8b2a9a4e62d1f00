import Derived.Test.YtbilfpoghohddaaZSfix
import Derived.Test.YtbilfpoghohddaaZTpblk
import Derived.Test.YtbilfpoghohddaaZTckp
import Derived.Test.YtbilfpoghohddaaZSleast
import Derived.Test.YtbilfpoghohddaaG1
namespace Go.Proofs.Ytbilfpoghohddaa
open Go.RowKit
theorem arr_next {w : World} {p n j : Nat} {e : TypeId} {f g : Nat → Int} (h : ArrAt w p e n f) (h1 : f j = g j) (h2 : ∀ k, k ≠ j → f k = if k < j then g k else 0) : ArrAt w p e n (fun k => if k < j + 1 then g k else 0) :=
  h.congr fun k _ => by
    by_cases hk : k = j
    · subst hk; rw [h1, if_pos (by omega)]
    · rw [h2 k hk]
      by_cases h3 : k < j
      · rw [if_pos h3, if_pos (by omega)]
      · rw [if_neg h3, if_neg (by omega)]
set_option maxRecDepth 100000 in
set_option maxHeartbeats 8000000 in
theorem pfixed_any (v : Value) (l : List Tsk) (w : World) (h : TsksAt w w.heap.size v l) (hs : Sized l) : Calls Try.prog 32 #[v] w (FixedPost l w) := by
  have HBK := Lib.hid (fun (W : World) (hW : Bel w W) => blocking_any checkP v l W (h.keep hW.keeps hW.le) hs)
  by_cases h0 : rchk l = 0
  · obtain ⟨hl8, hok⟩ := rchk_ok h0
    have HT := Lib.hid (toks_of h0)
    have HBD := Lib.hid (fun i (hi : i < l.length) => blocks_bd h0 hi)
    have HH := Lib.hid h
    obtain ⟨A, c, rfl, hlc⟩ := h.form
    have HMD := Lib.hid (fixedM_ok h0)
    have H0 := Lib.hid h0
    clear h hs hok h0
    go_enter Try.func32, Try.ntmps32
    go_upto_region 1 with (fail)
    (generalize hW : World.alloc _ _ = wb; have q0_0 := (congrArg (fun W : World => W.cell? ⟨w.heap.size, 0, none⟩) hW).symm; simp [go_sem] at q0_0; have qz0 : w.heap.size < wb.heap.size := (by rw [← hW]; simp [go_sem]; try omega); have HBW : Hid (Bel w wb) := Lib.hid (by rw [← hW]; (repeat (first | exact Ext.bel _ | exact Bel.refl | refine Bel.alloc ?_ _ | refine Bel.drew ?_ | refine Bel.drewN ?_ _))); clear hW; have hkw := HBW.out.cells)
    go_wp2_with fail
    refine (HBK.out _ HBW.out).mono ?_
    rintro e w2 ⟨vb, rfl, hvb, hb2, _⟩
    rw [H0.out] at hvb ⊢
    rw [if_pos rfl] at hvb
    obtain ⟨x0, rfl⟩ := ext_of hb2
    have HVB := Lib.hid hvb
    obtain ⟨Ab, cb, rfl, hcb⟩ := hvb.form
    rw [blocks_len] at *
    clear hvb HBK hb2 hcb
    go_upto_region 2 with (fail)
    have hkb0 : w.heap.size < x0.w.heap.size := Nat.lt_of_lt_of_le qz0 x0.bel.le
    have k0 := (x0.bel.cells _ _ qz0).trans q0_0
    have HB1 := Lib.hid (HBW.out.trans x0.bel)
    clear q0_0 qz0 hkw HBW
    (generalize hW : World.alloc _ _ = wk; have q0_0 := (congrArg (fun W : World => W.cell? ⟨x0.w.heap.size, 0, none⟩) hW).symm; simp [go_sem] at q0_0; have qz0 : x0.w.heap.size < wk.heap.size := (by rw [← hW]; simp [go_sem]; try omega); have HBW : Hid (Bel x0.w wk) := Lib.hid (by rw [← hW]; (repeat (first | exact Ext.bel _ | exact Bel.refl | refine Bel.alloc ?_ _ | refine Bel.drew ?_ | refine Bel.drewN ?_ _))); clear hW; have hkw := HBW.out.cells)
    have k1 := (hkw _ _ hkb0).trans k0
    have hkb1 := Nat.lt_of_lt_of_le hkb0 HBW.out.le
    have HVK := Lib.hid (HVB.out.keep HBW.out.keeps HBW.out.le)
    have HBK := Lib.hid (HB1.out.trans HBW.out)
    clear HVB k0 hkb0 hkw HBW HB1
    generalize hbk : x0.w.heap.size = bk at *
    clear hbk x0
    generalize hbl : w.heap.size = bl at k1 hkb1 ⊢
    have k2 := q0_0
    have hkb2 := qz0
    clear q0_0 qz0
    have HBLE : Hid (w.heap.size ≤ bl) := Lib.hid (by omega)
    clear hbl
    obtain ⟨i0, hi, hz0, hz1, hz2⟩ := info_parts Try.infoLong
    have hmk : ∀ W : World, (Instr.makeSlice 36 (.int .i64 (l.length : Int)) (.int .i64 (l.length : Int))).run Try.prog W = .ok (.slice (some ⟨W.heap.size, 0, none⟩) l.length l.length) (W.alloc (.cells (madeCells (Value.int .i64 0).cells (l.length * 1)) 2)) := make_ints Try.underlying36 hi hz0 hz1 hz2 l.length (by omega)
    clear hi hz0 hz1 hz2 i0
    have A0 := ArrAt.made wk 2 l.length
    rw [Nat.mul_one] at A0
    replace A0 : ArrAt (wk.alloc (.cells (madeCells #[Value.int .i64 0] l.length) 2)) wk.heap.size 2 l.length (fun _ => 0) := A0
    go_wp2
    generalize hW : World.alloc wk _ = W1 at *
    obtain ⟨x1, hx1⟩ : ∃ y : Ext wk, W1 = y.w := ext_of (by rw [← hW]; exact Bel.refl.alloc _)
    clear hW hmk
    subst hx1
    have hpx : wk.heap.size ≤ wk.heap.size := Nat.le_refl _
    generalize hp : wk.heap.size = p at A0 hpx ⊢
    have HP := Lib.hid hp
    clear hp
    go_loopw [8, 24] (fun s8 s24 wr => ∃ (j : Nat) (z : Ext wk), j ≤ l.length ∧ s8 = .bool ((respR l j).all okB) ∧ s24 = .int .i64 j ∧ wr = z.w ∧ ArrAt z.w p 2 l.length (fun r => if r < j then respM l (blocks l) r else 0)) (fun _ s24 _ => l.length - (intOf s24).toNat)
    case atStart => exact ⟨0, x1, by omega, rfl, rfl, rfl, A0.congr (fun r _ => by simp)⟩
    case round =>
      clear A0 x1
      obtain ⟨j, z, hj, rfl, rfl, rfl, AR⟩ := hrel
      by_cases hlt : j < l.length
      · have hdl : decide ((j : Int) < (l.length : Int)) = true := by simp; omega
        have hT := HH.out.keep (HBK.out.trans z.bel).keeps (HBK.out.trans z.bel).le
        obtain ⟨b, off, rfl, hb, hA⟩ := hT.at_ (by omega)
        obtain ⟨sv, ⟨t0, t1, t2, t3, t4, t5, t6⟩, hS⟩ := (hA j hlt)
        obtain ⟨A2, c2, rfl, _⟩ := hS.form
        have hki : TOk (tskAt l j) := HT.out _ (by simp [tskAt, List.getD, hlt])
        have hall := respR_all l j
        have hrm : respM l (blocks l) j = if fixN (respF l ((tskAt l j).cost + (blocks l).getD j 0) (tskAt l j).prio) (tskAt l j).dl.toNat 1 = 0 then -1 else fixN (respF l ((tskAt l j).cost + (blocks l).getD j 0) (tskAt l j).prio) (tskAt l j).dl.toNat 1 := rfl
        have hd1 := hki.d1
        have hd2 : (tskAt l j).dl ≤ 1000 := by have := hki.d2; have := hki.p2; omega
        have hc1 := hki.c1
        have hc2 : (tskAt l j).cost ≤ 1000 := by have := hki.c2; omega
        have HALL := Lib.hid hall
        have HRM := Lib.hid hrm
        have HAR := Lib.hid AR
        have HTZ := Lib.hid hT
        clear hall hrm hki hS hA hT AR
        go_upto_region 8 with (fail)
        (generalize hW : World.alloc _ _ = wb; have q0_0 := (congrArg (fun W : World => W.cell? ⟨z.w.heap.size, 0, none⟩) hW).symm; simp [go_sem] at q0_0; have qz0 : z.w.heap.size < wb.heap.size := (by rw [← hW]; simp [go_sem]; try omega); have q1_0 := (congrArg (fun W : World => W.cell? ⟨z.w.heap.size + 1, 0, none⟩) hW).symm; simp [go_sem] at q1_0; have q1_1 := (congrArg (fun W : World => W.cell? ⟨z.w.heap.size + 1, 1, none⟩) hW).symm; simp [go_sem] at q1_1; have q1_2 := (congrArg (fun W : World => W.cell? ⟨z.w.heap.size + 1, 2, none⟩) hW).symm; simp [go_sem] at q1_2; have q1_3 := (congrArg (fun W : World => W.cell? ⟨z.w.heap.size + 1, 3, none⟩) hW).symm; simp [go_sem] at q1_3; have q1_4 := (congrArg (fun W : World => W.cell? ⟨z.w.heap.size + 1, 4, none⟩) hW).symm; simp [go_sem] at q1_4; have q1_5 := (congrArg (fun W : World => W.cell? ⟨z.w.heap.size + 1, 5, none⟩) hW).symm; simp [go_sem] at q1_5; have q1_6 := (congrArg (fun W : World => W.cell? ⟨z.w.heap.size + 1, 6, none⟩) hW).symm; simp [go_sem] at q1_6; have qz1 : z.w.heap.size + 1 < wb.heap.size := (by rw [← hW]; simp [go_sem]; try omega); have HBW : Hid (Bel z.w wb) := Lib.hid (by rw [← hW]; (repeat (first | exact Ext.bel _ | exact Bel.refl | refine Bel.alloc ?_ _ | refine Bel.drew ?_ | refine Bel.drewN ?_ _))); clear hW; have hkw := HBW.out.cells)
        have hkz : wk.heap.size ≤ z.w.heap.size := z.bel.le
        have e0 := (hkw bk 0 (by omega)).trans ((z.bel.cells _ _ hkb2).trans k2)
        have e1 := (hkw bl 0 (by omega)).trans ((z.bel.cells _ _ hkb1).trans k1)
        have z0 : bk < wb.heap.size := by have := HBW.out.le; omega
        have z1 : bl < wb.heap.size := by have := HBW.out.le; omega
        have hIV := HVK.out.keep (z.bel.trans HBW.out).keeps (z.bel.trans HBW.out).le
        have hTW := HTZ.out.keep HBW.out.keeps HBW.out.le
        obtain ⟨hb1, hb2⟩ := HBD.out j hlt
        have HLS := Lib.hid (fun (WW : World) (hWW : Bel wb WW) => leastF_any (respF l ((tskAt l j).cost + (blocks l).getD j 0) (tskAt l j).prio) (tskAt l j).dl (z.w.heap.size + 1) bk z.w.heap.size bl WW (by omega) (by omega) (respF_mono HT.out) (respF_one HT.out (by omega)) (Lib.hid fun r W hWx h1 h2 => let hW := hWW.trans hWx; resp1_any _ _ l (blocks l) j r (tskAt l j).cost (tskAt l j).prio (z.w.heap.size + 1) bk z.w.heap.size bl W (hTW.keep hW.keeps hW.le) (hIV.keep hW.keeps hW.le) hl8 HT.out (by rw [blocks_len]; exact hlt) (by rw [blocks_len]; omega) (Nat.lt_of_lt_of_le qz1 hW.le) ((hW.cells _ _ qz1).trans q1_4) ((hW.cells _ _ qz1).trans q1_5) (Nat.lt_of_lt_of_le z0 hW.le) ((hW.cells _ _ z0).trans e0) (Nat.lt_of_lt_of_le qz0 hW.le) ((hW.cells _ _ qz0).trans q0_0) (Nat.lt_of_lt_of_le z1 hW.le) ((hW.cells _ _ z1).trans e1) h1 (by omega) hc1 hc2 hb1 hb2))
        have HARW := Lib.hid (HAR.out.bel HBW.out)
        have hsg : 0 ≤ fixN (respF l ((tskAt l j).cost + (blocks l).getD j 0) (tskAt l j).prio) (tskAt l j).dl.toNat 1 := by
          rcases fixN_bd (f := respF l ((tskAt l j).cost + (blocks l).getD j 0) (tskAt l j).prio) (tskAt l j).dl.toNat 1 (by omega) with h | ⟨h, _⟩ <;> omega
        have hrs : respM l (blocks l) j = _ := HRM.out
        have HAR1 := HAR
        clear hIV hTW HAR HRM hb1 hb2
        obtain ⟨r, hr⟩ : ∃ r, respM l (blocks l) j = r := ⟨_, rfl⟩
        rw [hr] at hrs HALL
        have HRJ := Lib.hid hr
        clear hr
        generalize fixN (respF l ((tskAt l j).cost + (blocks l).getD j 0) (tskAt l j).prio) (tskAt l j).dl.toNat 1 = F at *
        have hpz : p < wb.heap.size := HARW.out.lt
        (refine wp_region_qtail 7 (wb := wb) (by (repeat (first | exact Ext.bel _ | exact Bel.refl | refine Bel.alloc ?_ _ | refine Bel.drew ?_ | refine Bel.drewN ?_ _))) (by kernel_rfl) (by kernel_rfl) ?_; simp only [List.take_succ_cons, List.take_zero, List.drop_succ_cons, List.drop_zero]; (repeat (any_goals (first | go_big_quiet_step ((go_at_call 59; with_reducible exact ext_call (HLS.out _ (Ext.bel _)))) | quiet_step ((go_at_call 59; with_reducible exact ext_call (HLS.out _ (Ext.bel _)))) | (refine wpQuiet_step (fun K hK => ?_); go_simp; split <;> (refine hK _ ?_; clear hK K))))); all_goals (refine wpQuiet_nil ?_; intro _ hw'; obtain ⟨y, hw''⟩ := hw'; subst hw''))
        have AY := HARW.out.bel y.bel
        have fz := AY.frozen j
        have cz : y.w.cell? ⟨p, j, none⟩ = some (.int .i64 0) := by rw [AY.cell hlt]; simp
        have hpl := AY.lt
        have hzz : Hid (Bel wk y.w) := Lib.hid ((z.bel.trans HBW.out).trans y.bel)
        have c9 := (y.bel.cells _ _ qz0).trans q0_0
        have z9 : z.w.heap.size < y.w.heap.size := Nat.lt_of_lt_of_le qz0 y.bel.le
        have hpn : p ≠ z.w.heap.size := by have := HAR1.out.lt; omega
        have hpw : Hid (wk.heap.size ≤ p) := Lib.hid (by rw [HP.out]; exact Nat.le_refl _)
        generalize z.w.heap.size = pj at *
        go_upto_region 9 with (fail)
        have A3 := AY.set j F
        have hz2 := hzz.out.set (p := ⟨p, j, none⟩) hpw.out (.int .i64 F)
        generalize hW : World.setCell y.w _ _ = W2 at *
        have c9w : W2.cell? ⟨pj, 0, none⟩ = some (.int .i64 j) := by rw [← hW, World.cell?_setCell_other _ _ _ _ (by intro e; injection e with e; omega)]; exact c9
        have z9w : pj < W2.heap.size := by rw [← hW]; simpa [World.setCell] using z9
        have cjw : W2.cell? ⟨p, j, none⟩ = some (.int .i64 F) := by rw [A3.cell hlt]; simp
        have fzw := A3.frozen j
        have zpw := A3.lt
        have HA3 := Lib.hid A3
        have HZ2 := Lib.hid hz2
        clear hW c9 z9 fz cz AY A3 hz2 hzz HARW HLS hpl y
        by_cases hF : F = 0
        · subst hF
          rw [if_pos rfl] at hrs
          subst hrs
          have HX : Hid ((respR l (j + 1)).all okB = false) := Lib.hid (by rw [HALL.out]; simp [okB])
          go_wp2
          go_roundw
          case rel =>
            obtain ⟨z2, hz2⟩ := ext_of (HZ2.out.set (p := ⟨p, j, none⟩) hpw.out (.int .i64 (-1)))
            exact ⟨j + 1, z2, by omega, by rw [HX.out], by go_num, hz2, by rw [← hz2]; exact arr_next (HA3.out.set j (-1)) (by simp [HRJ.out]) (fun k hk => by simp [hk])⟩
          case measure => simp [intOf]; omega
        · rw [if_neg hF] at hrs
          subst hrs
          have hne : (r == 0) = false := by simpa using hF
          have HX : Hid ((respR l (j + 1)).all okB = (respR l j).all okB) := Lib.hid (by rw [HALL.out, show okB r = true from by (simp [okB]; omega), Bool.and_true])
          go_wp2
          go_roundw
          case rel =>
            obtain ⟨z2, hz2⟩ := ext_of HZ2.out
            exact ⟨j + 1, z2, by omega, by rw [HX.out], by go_num, hz2, by rw [← hz2]; exact arr_next HA3.out (by simp [HRJ.out]) (fun k hk => by simp [hk])⟩
          case measure => simp [intOf]; omega
      · obtain rfl : j = l.length := by omega
        have hdl : decide ((l.length : Int) < (l.length : Int)) = false := by simp
        have hI := IntsAt.of_arr (AR.congr (g' := respM l (blocks l)) fun r hr => by simp [hr])
        have hle := z.bel.le
        have hbk := HBK.out.le
        go_wp2
        go_ret3
        exact ⟨_, by rw [HMD.out]; rfl, by rw [HMD.out]; exact hI, HBK.out.trans z.bel, fun k hk => by have := HP.out; simp [Value.ownBlock] at hk; omega⟩
  · have HMD := Lib.hid (fixedM_no h0)
    have hne : (rchk l == 0) = false := by simpa using h0
    obtain ⟨A, c, rfl, hlc⟩ := h.form
    clear h hs
    go_enter Try.func32, Try.ntmps32
    go_upto_region 1 with (fail)
    (generalize hW : World.alloc _ _ = wb; have q0_0 := (congrArg (fun W : World => W.cell? ⟨w.heap.size, 0, none⟩) hW).symm; simp [go_sem] at q0_0; have qz0 : w.heap.size < wb.heap.size := (by rw [← hW]; simp [go_sem]; try omega); have HBW : Hid (Bel w wb) := Lib.hid (by rw [← hW]; (repeat (first | exact Ext.bel _ | exact Bel.refl | refine Bel.alloc ?_ _ | refine Bel.drew ?_ | refine Bel.drewN ?_ _))); clear hW; have hkw := HBW.out.cells)
    go_wp2_with fail
    refine (HBK.out _ HBW.out).mono ?_
    rintro e w2 ⟨vb, rfl, hvb, hb2, _⟩
    rw [if_neg h0] at hvb
    obtain ⟨Ab, cb, rfl, hcb⟩ := hvb.form
    have HB2 := Lib.hid hb2
    clear hvb HBK hb2 hcb
    generalize rchk l = ck at *
    go_wp2
    go_ret3
    exact ⟨_, by rw [HMD.out]; rfl, by rw [HMD.out]; exact ⟨none, 0, rfl, Nat.le_refl _, fun h => absurd h (by simp)⟩, (HBW.out.trans HB2.out).alloc _, fun k hk => by simp [Value.ownBlock] at hk⟩
end Go.Proofs.Ytbilfpoghohddaa
