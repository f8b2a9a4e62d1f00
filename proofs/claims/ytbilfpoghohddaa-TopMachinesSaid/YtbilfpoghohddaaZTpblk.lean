import Derived.Test.YtbilfpoghohddaaZTrblk
import Derived.Deep.Cut
import Derived.RegionTactic
namespace Go.Proofs.Ytbilfpoghohddaa
open Go.RowKit
theorem blocks_range (l : List Tsk) : blocks l = (List.range l.length).map fun r => blkT l (tskAt l r).prio l 0 := by
  apply List.ext_getElem
  · simp [blocks]
  · intro i h1 h2
    simp [blocks] at h1
    simp [blocks, tskAt, List.getD, h1]
theorem ceils_getD (l : List Tsk) (n : Nat) (h : n < 8) : (ceils l).getD n 0 = ceilT n l 0 := by simp [ceils, List.getD, h]
set_option maxRecDepth 100000 in
set_option maxHeartbeats 8000000 in
theorem blocking_any (HCP : CheckP) (v : Value) (l : List Tsk) (w : World) (h : TsksAt w w.heap.size v l) (hs : Sized l) :
    Calls Try.prog 58 #[v] w (BlocksPost l w) := by
  have HC := ceilings_any HCP v l w h hs
  replace HC := Lib.hid HC
  have hl := hs.len
  by_cases h0 : rchk l = 0
  · obtain ⟨hl8, hok⟩ := rchk_ok h0
    have H0 := Lib.hid h0
    obtain ⟨A, c, rfl, hlc⟩ := h.form
    clear h0
    obtain ⟨i0, hi, hz0, hz1, hz2⟩ := info_parts Try.infoLong
    have hmk : ∀ W : World, (Instr.makeSlice 36 (.int .i64 (l.length : Int)) (.int .i64 (l.length : Int))).run Try.prog W = .ok (.slice (some ⟨W.heap.size, 0, none⟩) l.length l.length) (W.alloc (.cells (madeCells (Value.int .i64 0).cells (l.length * 1)) 2)) := make_ints Try.underlying36 hi hz0 hz1 hz2 l.length (by omega)
    have HMK : ∀ W : World, ArrAt (W.alloc (.cells (madeCells (Value.int .i64 0).cells (l.length * 1)) 2)) W.heap.size 2 l.length (fun _ => 0) := fun W => ArrAt.made W 2 l.length
    generalize madeCells (Value.int .i64 0).cells (l.length * 1) = mc at *
    have HSZ := Lib.hid hs
    have HOK := Lib.hid hok
    have HMK' := Lib.hid HMK
    clear hs hok HMK hi hz0 hz1 hz2
    go_enter Try.func58, Try.ntmps58
    go_wp2_with fail
    refine HC.out.mono ?_
    rintro e w2 ⟨vc, rfl, hvc, hb2, _⟩
    rw [H0.out] at hvc ⊢
    obtain ⟨x0, rfl⟩ := ext_of hb2
    obtain ⟨Ac, cc, rfl, hcc⟩ := hvc.form
    rw [if_pos rfl] at *
    have hc8 : (ceils l).length = 8 := by simp [ceils]
    rw [hc8] at hvc hcc ⊢
    obtain ⟨bc, offc, rfl, hbc, hCc⟩ := hvc.at_ (by omega)
    have HCC : Hid (∀ n, n < 8 → x0.w.cell? ⟨bc, offc + n, none⟩ = some (.int .i64 (ceilT n l 0))) := Lib.hid (fun n hn => by rw [hCc n (by omega), ceils_getD l n hn])
    clear hCc hvc HC hb2
    go_wp2
    have hx := x0.bel.le
    have A0 := HMK'.out x0.w
    generalize hW : World.alloc x0.w _ = W1 at *
    obtain ⟨x1, rfl⟩ : ∃ y : Ext x0.w, W1 = y.w := ext_of (by rw [← hW]; exact Bel.refl.alloc _)
    clear hW hmk HMK'
    have hpx : x0.w.heap.size ≤ x0.w.heap.size := Nat.le_refl _
    generalize hp : x0.w.heap.size = p at A0 hpx ⊢
    have HP := Lib.hid hp
    clear hp
    obtain ⟨G, hG⟩ : ∃ G : Nat → Int, ∀ r, G r = blkT l (tskAt l r).prio l 0 := ⟨_, fun _ => rfl⟩
    have HG := Lib.hid hG
    clear hG
    go_loopw [26] (fun i' wr => ∃ (i : Nat) (y : Ext x0.w), i ≤ l.length ∧ i' = .int .i64 i ∧ wr = y.w ∧ ArrAt y.w p 2 l.length (fun r => if r < i then G r else 0)) (fun i' _ => l.length - (intOf i').toNat)
    case atStart => exact ⟨0, x1, by omega, rfl, rfl, A0.congr (fun r _ => by simp)⟩
    case round =>
      clear A0 x1
      obtain ⟨i, x, hik, rfl, rfl, AR⟩ := hrel
      by_cases hlt : i < l.length
      · obtain ⟨b, off, rfl, hb, hA⟩ := h.at_ (by omega)
        obtain ⟨svi, hTi, hSi⟩ := hA i hlt
        obtain ⟨Ai, ci, rfl, hci⟩ := hSi.form
        obtain ⟨t0, t1, t2, t3, t4, t5, t6⟩ := hTi
        have hbx : b < x0.w.heap.size := by omega
        have hxl := x.bel.le
        go_upto_region 8 with (fail)
        have AR1 := AR.alloc (.cells #[.string (tskAt l i).name, .int .i64 (tskAt l i).per, .int .i64 (tskAt l i).off, .int .i64 (tskAt l i).dl, .int .i64 (tskAt l i).cost, .int .i64 (tskAt l i).prio, .slice Ai (tskAt l i).secs.length ci] 57)
        generalize hW : World.alloc x.w _ = W1 at *
        have q5 : W1.cell? ⟨x.w.heap.size, 5, none⟩ = some (.int .i64 (tskAt l i).prio) := (by rw [← hW]; simp [go_sem])
        have qz : x.w.heap.size < W1.heap.size := (by rw [← hW]; simp [go_sem])
        obtain ⟨x1, rfl⟩ : ∃ y : Ext x0.w, W1 = y.w := ext_of (by rw [← hW]; exact x.bel.alloc _)
        have hpp := AR.lt
        clear hW
        generalize x.w.heap.size = p8 at *
        clear AR x t0 t1 t2 t3 t4 t5 t6 hSi
        go_wp2
        go_loopw [33] (fun k' wr => ∃ (k : Nat) (q : Int) (y : Ext x0.w), k ≤ l.length ∧ k' = .int .i64 k ∧ wr = y.w ∧ ArrAt y.w p 2 l.length (fun r => if r = i then q else if r < i then G r else 0) ∧ blkT l (tskAt l i).prio (l.drop k) q = blkT l (tskAt l i).prio l 0 ∧ y.w.cell? ⟨p8, 5, none⟩ = some (.int .i64 (tskAt l i).prio) ∧ p8 < y.w.heap.size) (fun k' _ => l.length - (intOf k').toNat)
        case atStart => exact ⟨0, 0, x1, by omega, rfl, rfl, AR1.congr (fun r _ => by by_cases hr : r = i <;> simp [hr]), rfl, q5, qz⟩
        case round =>
          clear AR1 x1 q5 qz
          obtain ⟨k, q, x, hk, rfl, rfl, AR, hd, q5, qz⟩ := hrel
          by_cases hltk : k < l.length
          · obtain ⟨sv, hT, hS⟩ := hA k hltk
            obtain ⟨A2, c2, rfl, hc2⟩ := hS.form
            obtain ⟨hs1, hs2⟩ := HSZ.out.parts k hltk
            have hres := Lib.hid (sec_len_bd (HOK.out k hltk).1 (HOK.out k hltk).2)
            obtain ⟨t0, t1, t2, t3, t4, t5, t6⟩ := hT
            have HT : Hid (blkT l (tskAt l i).prio (l.drop (k + 1)) (blkS l (tskAt l i).prio (tskAt l k).prio (tskAt l k).secs q) = blkT l (tskAt l i).prio l 0) := Lib.hid (by rw [← hd, tsks_drop hltk]; rfl)
            clear hd
            have hxl := x.bel.le
            go_upto_region 11 with (fail)
            have AR1 := AR.alloc (.cells #[.string (tskAt l k).name, .int .i64 (tskAt l k).per, .int .i64 (tskAt l k).off, .int .i64 (tskAt l k).dl, .int .i64 (tskAt l k).cost, .int .i64 (tskAt l k).prio, .slice A2 (tskAt l k).secs.length c2] 57)
            generalize hW : World.alloc x.w _ = W1 at *
            have r5 : W1.cell? ⟨x.w.heap.size, 5, none⟩ = some (.int .i64 (tskAt l k).prio) := (by rw [← hW]; simp [go_sem])
            have r6 : W1.cell? ⟨x.w.heap.size, 6, none⟩ = some (.slice A2 (tskAt l k).secs.length c2) := (by rw [← hW]; simp [go_sem])
            have rz : x.w.heap.size < W1.heap.size := (by rw [← hW]; simp [go_sem])
            have s5 : W1.cell? ⟨p8, 5, none⟩ = some (.int .i64 (tskAt l i).prio) := (by rw [← hW, World.cell?_alloc_lt _ _ _ qz]; exact q5)
            have sz : p8 < W1.heap.size := by omega
            obtain ⟨x1, rfl⟩ : ∃ y : Ext x0.w, W1 = y.w := ext_of (by rw [← hW]; exact x.bel.alloc _)
            have hpp2 := AR.lt
            clear hW
            generalize x.w.heap.size = p10 at *
            clear AR x t0 t1 t2 t3 t4 t5 t6 q5
            go_wp2
            go_loopw [40] (fun j' wr => ∃ (j : Nat) (q' : Int) (y : Ext x0.w), j ≤ (tskAt l k).secs.length ∧ j' = .int .i64 j ∧ wr = y.w ∧ ArrAt y.w p 2 l.length (fun r => if r = i then q' else if r < i then G r else 0) ∧ blkS l (tskAt l i).prio (tskAt l k).prio ((tskAt l k).secs.drop j) q' = blkS l (tskAt l i).prio (tskAt l k).prio (tskAt l k).secs q ∧ y.w.cell? ⟨p8, 5, none⟩ = some (.int .i64 (tskAt l i).prio) ∧ p8 < y.w.heap.size ∧ y.w.cell? ⟨p10, 5, none⟩ = some (.int .i64 (tskAt l k).prio) ∧ p10 < y.w.heap.size) (fun j' _ => (tskAt l k).secs.length - (intOf j').toNat)
            case atStart => exact ⟨0, q, x1, by omega, rfl, rfl, AR1, rfl, s5, sz, r5, rz⟩
            case round =>
              clear AR1 x1 r5 r6 rz s5 sz
              obtain ⟨j, q', z, hj, rfl, rfl, AR, hdj, s5, sz, r5, rz⟩ := hrel
              by_cases hltj : j < (tskAt l k).secs.length
              · obtain ⟨b2, off2, rfl, hb2, hA2⟩ := hS.at_ (by omega)
                obtain ⟨s0, s1, s2⟩ := hA2 j hltj
                obtain ⟨r0, r1, r2, r3⟩ := hres.out j hltj
                have hbx2 : b2 < x0.w.heap.size := by omega
                obtain ⟨n, hn⟩ := Int.eq_ofNat_of_zero_le r0
                have hn8 : n < 8 := by omega
                have HJ : Hid (blkS l (tskAt l i).prio (tskAt l k).prio ((tskAt l k).secs.drop (j + 1)) (if decide ((tskAt l k).prio < (tskAt l i).prio) && decide ((tskAt l i).prio ≤ ceilT n l 0) then (if q' < (secAt (tskAt l k).secs j).len - 1 then (secAt (tskAt l k).secs j).len - 1 else q') else q') = blkS l (tskAt l i).prio (tskAt l k).prio (tskAt l k).secs q) := Lib.hid (by rw [← hdj, ← hn, secs_drop hltj]; rfl)
                rw [hn] at s0
                have cn := HCC.out n hn8
                clear hdj hA2 hn r0 r1
                generalize ceilT n l 0 = cv at *
                have ci0 : z.w.cell? ⟨p, i, none⟩ = some (.int .i64 q') := by rw [AR.cell hlt]; simp
                have hpz := AR.lt
                have hzl := z.bel.le
                have HAR := Lib.hid AR
                clear AR
                go_upto_region 14 with (fail)
                have HAR1 := Lib.hid (HAR.out.alloc (.cells #[.int .i64 n, .int .i64 (secAt (tskAt l k).secs j).frm, .int .i64 (secAt (tskAt l k).secs j).len] 119))
                generalize hW : World.alloc z.w _ = wb at *
                have u0 : wb.cell? ⟨z.w.heap.size, 0, none⟩ = some (.int .i64 n) := (by rw [← hW]; simp [go_sem])
                have u2 : wb.cell? ⟨z.w.heap.size, 2, none⟩ = some (.int .i64 (secAt (tskAt l k).secs j).len) := (by rw [← hW]; simp [go_sem])
                have uz : z.w.heap.size < wb.heap.size := (by rw [← hW]; simp [go_sem])
                have HBW : Hid (Bel z.w wb) := Lib.hid (by rw [← hW]; exact Bel.refl.alloc _)
                have hkw := HBW.out.cells
                clear hW
                have e1 : p < wb.heap.size := by omega
                have e2 : p8 < wb.heap.size := by omega
                have e3 : p10 < wb.heap.size := by omega
                have e4 : bc < wb.heap.size := by omega
                have e5 : bc < z.w.heap.size := by omega
                clear s0 s1 s2
                (refine wp_region_ext (wb := wb) (by (repeat (first | exact Ext.bel _ | exact Bel.refl | refine Bel.alloc ?_ _ | refine Bel.drew ?_ | refine Bel.drewN ?_ _))) (by kernel_rfl) (by kernel_rfl) ?_; (repeat (any_goals (first | go_big_quiet_step (fail) | quiet_step (fail) | (refine wpQuiet_step (fun K hK => ?_); go_simp; split <;> (refine hK _ ?_; clear hK K))))); all_goals (refine wpQuiet_nil ?_; intro _ hw'; obtain ⟨y, hw''⟩ := hw'; subst hw''))
                all_goals have AY := Lib.hid (HAR1.out.bel y.bel)
                all_goals have HZY := Lib.hid (z.bel.trans (HBW.out.trans y.bel))
                all_goals have HC8 := Lib.hid (((y.bel.cells _ 5 e2).trans (HBW.out.cells _ _ sz)).trans s5)
                all_goals have HC10 := Lib.hid (((y.bel.cells _ 5 e3).trans (HBW.out.cells _ _ rz)).trans r5)
                all_goals have HL8 := Lib.hid (Nat.lt_of_lt_of_le e2 y.bel.le)
                all_goals have HL10 := Lib.hid (Nat.lt_of_lt_of_le e3 y.bel.le)
                all_goals go_wp2
                · have fz := AY.out.frozen i
                  have cz : y.w.cell? ⟨p, i, none⟩ = some (.int .i64 q') := by rw [AY.out.cell hlt]; simp
                  have hpl := AY.out.lt
                  have hpx2 : x0.w.heap.size ≤ p := by rw [HP.out]; exact Nat.le_refl _
                  go_region
                  all_goals go_wp2
                  all_goals go_roundw
                  case rel =>
                    refine ⟨j + 1, _, ⟨_, (HZY.out.set (p := ⟨p, i, none⟩) hpx2 _).drew⟩, by omega, by go_num, rfl, ((AY.out.set i _).drew).congr (fun r _ => by by_cases hr : r = i <;> simp [hr] <;> rfl), by rw [← HJ.out]; congr 1; rw [if_pos (c := (decide _ && decide _) = true) (by simp; omega)], ?_, ?_, ?_, ?_⟩
                    · show World.cell? (World.setCell _ _ _) _ = _
                      rw [World.cell?_setCell_other _ _ _ _ (by intro e; injection e with e; omega)]; exact HC8.out
                    · show p8 < (World.setCell _ _ _).heap.size
                      simp [World.setCell]; exact HL8.out
                    · show World.cell? (World.setCell _ _ _) _ = _
                      rw [World.cell?_setCell_other _ _ _ _ (by intro e; injection e with e; omega)]; exact HC10.out
                    · show p10 < (World.setCell _ _ _).heap.size
                      simp [World.setCell]; exact HL10.out
                  case measure => simp [intOf]; omega
                all_goals go_roundw
                case rel => exact ⟨j + 1, _, ⟨_, HZY.out⟩, by omega, by go_num, rfl, AY.out, by rw [← HJ.out]; congr 1; rw [if_neg (by simp; omega)], HC8.out, HL8.out, HC10.out, HL10.out⟩
                case measure => simp [intOf]; omega
                case rel => exact ⟨j + 1, _, ⟨_, HZY.out⟩, by omega, by go_num, rfl, AY.out, by rw [← HJ.out]; congr 1; rw [if_neg (by simp; omega)], HC8.out, HL8.out, HC10.out, HL10.out⟩
                case measure => simp [intOf]; omega
              · have : j = (tskAt l k).secs.length := by omega
                subst this
                have HJ := Lib.hid hdj
                clear hdj
                go_wp2
                go_roundw
                case rel => exact ⟨k + 1, _, z, by omega, by go_num, rfl, AR, by rw [← HT.out, ← HJ.out]; simp [blkS], s5, sz⟩
                case measure => simp [intOf]; omega
          · have : k = l.length := by omega
            subst this
            have HD : Hid (q = blkT l (tskAt l i).prio l 0) := Lib.hid (by rw [← hd]; simp [blkT])
            clear hd
            go_wp2
            go_roundw
            case rel => exact ⟨i + 1, x, by omega, by go_num, rfl, AR.congr (fun r _ => by
              by_cases hr : r = i
              · subst hr; simp [HD.out, HG.out]
              · by_cases hr2 : r < i
                · simp [hr, hr2, show r < i + 1 by omega]
                · simp [hr, hr2, show ¬ r < i + 1 by omega])⟩
            case measure => simp [intOf]; omega
      · have : i = l.length := by omega
        subst this
        go_wp2
        go_ret2
        refine ⟨_, by rw [H0.out]; rfl, ?_, x0.bel.trans x.bel, fun k hk => by have := HP.out; have := x0.bel.le; simp [Value.ownBlock] at hk; omega⟩
        rw [H0.out, if_pos rfl, blocks_range]
        have := IntsAt.of_arr (AR.congr (g' := fun r => blkT l (tskAt l r).prio l 0) (fun r hr => by simp [hr, HG.out]))
        exact this
  · have H0 := Lib.hid h0
    have hne : (rchk l != 0) = true := by simpa using h0
    go_enter Try.func58, Try.ntmps58
    go_wp2_with fail
    refine HC.out.mono ?_
    rintro e w2 ⟨vc, rfl, hvc, hb2, _⟩
    obtain ⟨Ac, cc, rfl, hcc⟩ := hvc.form
    have HB2 := Lib.hid hb2
    clear hb2 hvc
    go_wp2
    go_ret2
    exact ⟨_, rfl, by rw [if_neg H0.out]; exact ⟨none, 0, rfl, by simp, fun h => by simp at h⟩, HB2.out, fun k hk => by simp [Value.ownBlock] at hk⟩
end Go.Proofs.Ytbilfpoghohddaa
