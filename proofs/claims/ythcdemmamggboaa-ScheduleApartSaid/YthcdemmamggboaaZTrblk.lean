import Derived.Test.YthcdemmamggboaaG6
namespace Go.Proofs.Ythcdemmamggboaa
open Go.RowKit
def blkS (l : List Tsk) (pi pk : Int) : List Sec → Int → Int
  | [], m => m
  | s :: ss, m => blkS l pi pk ss (if decide (pk < pi) && decide (pi ≤ ceilT s.res l 0) then (if m < s.len - 1 then s.len - 1 else m) else m)
def blkT (l : List Tsk) (pi : Int) : List Tsk → Int → Int
  | [], m => m
  | t :: ts, m => blkT l pi ts (blkS l pi t.prio t.secs m)
def blocks (l : List Tsk) : List Int := l.map fun t => blkT l t.prio l 0
theorem sec_len_bd {t : Tsk} (h : tskBad t = false) (h2 : rsecsOk t = true) : ∀ i, i < t.secs.length → 0 ≤ (secAt t.secs i).res ∧ (secAt t.secs i).res < 8 ∧ 1 ≤ (secAt t.secs i).len ∧ (secAt t.secs i).len ≤ 1000 := by
  obtain ⟨_, _, _, _, _, _, _, _, _, h9, h10⟩ := tskBad_false.1 h
  obtain ⟨_, _, _, _, h4, _, _, _, h8, _, _⟩ := tskBad_false.1 h
  intro i hi
  have hx : okAll t.cost t.secs = true := by unfold rsecsOk at h2; cases hx2 : okAll t.cost t.secs <;> simp [hx2] at h2 ⊢
  obtain ⟨a1, a2, a3, a4, a5, a6⟩ := secs_ok_res hx i hi
  rw [wrap_small _ (by omega) (by omega)] at a6
  exact ⟨a1, a2, a4, by omega⟩
theorem ext_call_same {wb : World} {P : Program} {f : FuncId} {args : Array Value} {x : Ext wb} {v : Value} (h : Calls P f args x.w fun e w' => e = .returned v ∧ w' = x.w) :
    Calls P f args x.w fun e w'' => e = .returned v ∧ ∃ y : Ext wb, w'' = y.w := h.mono fun _ _ ⟨he, hb⟩ => ⟨he, x, hb⟩
/-- what Blocking hands back -/
def BlocksPost (l : List Tsk) (w : World) (e : Ending) (w' : World) : Prop :=
  ∃ v, e = .returned (.tuple #[v, .int .i64 (rchk l)]) ∧ IntsAt w' w'.heap.size v (if rchk l = 0 then blocks l else []) ∧ Bel w w' ∧ ∀ k, v.ownBlock = some k → w.heap.size ≤ k
theorem Try.infoLong : (Try.prog.info? 2).map (fun i => (i.zero, i.size, i.bytes)) = some (some (.int .i64 0), 1, 8) := by kernel_rfl
set_option maxRecDepth 100000 in
set_option maxHeartbeats 4000000 in
theorem rblocking_any (v : Value) (l : List Tsk) (w : World) (h : TsksAt w w.heap.size v l) (hs : Sized l) :
    Calls Try.prog 30 #[v] w (BlocksPost l w) := by
  have HC := rcheck_any v l w h hs.len hs.parts
  replace HC := Lib.hid HC
  have hl := hs.len
  by_cases h0 : rchk l = 0
  · obtain ⟨hl8, hok⟩ := rchk_ok h0
    have H0 := Lib.hid h0
    obtain ⟨A, c, rfl, hlc⟩ := h.form
    rw [h0] at HC
    clear h0
    obtain ⟨i0, hi, hz0, hz1, hz2⟩ := info_parts Try.infoLong
    have HSZ := Lib.hid hs
    have HOK := Lib.hid hok
    clear hs hok
    go_enter Try.func30, Try.ntmps30
    go_wp2_with (go_at_call 14; (with_reducible refine (HC.out).mono ?_); rintro e w2 ⟨rfl, hb2⟩; obtain ⟨x, rfl⟩ : ∃ x : Ext w, w2 = x.w := ext_of (hb2.after (by (repeat (first | exact Ext.bel _ | exact Bel.refl | refine Bel.alloc ?_ _ | refine Bel.drew ?_ | refine Bel.drewN ?_ _)))); clear hb2)
    go_loopw [5, 6] (fun u i wr => ∃ (k : Nat) (x : Ext w), k ≤ l.length ∧ i = .int .i64 k ∧ wr = x.w ∧ x.w.ownsRow w.heap.size 2 1 u k (((blocks l).take k).map (Value.int .i64))) (fun _ i _ => l.length - (intOf i).toNat)
    case atStart => exact ⟨0, x, by omega, rfl, rfl, World.ownsRow_nil _ _ _ _⟩
    case round =>
      clear x
      obtain ⟨i, x, hik, rfl, rfl, hown⟩ := hrel
      by_cases hlt : i < l.length
      · obtain ⟨b, off, rfl, hb, hA⟩ := h.at_ (by omega)
        obtain ⟨svi, hTi, _⟩ := hA i hlt
        obtain ⟨_, _, _, _, _, ti5, _⟩ := hTi
        have hxle := x.bel.le
        have HOWN := Lib.hid hown
        clear hown
        have hbx : b < x.w.heap.size := by omega
        go_wp2
        go_loopw [7, 8] (fun m i' wr => ∃ (k : Nat) (q : Int) (z : Ext x.w), k ≤ l.length ∧ i' = .int .i64 k ∧ m = .int .i64 q ∧ wr = z.w ∧ blkT l (tskAt l i).prio (l.drop k) q = blkT l (tskAt l i).prio l 0) (fun _ i _ => l.length - (intOf i).toNat)
        case atStart => exact ⟨0, 0, ⟨_, Bel.refl⟩, by omega, rfl, rfl, rfl, rfl⟩
        case round =>
          obtain ⟨k, q, z, hk, rfl, rfl, rfl, hd⟩ := hrel
          by_cases hltk : k < l.length
          · obtain ⟨sv, hT, hS⟩ := hA k hltk
            obtain ⟨A2, c2, rfl, hc2⟩ := hS.form
            obtain ⟨hs1, hs2⟩ := HSZ.out.parts k hltk
            have hres := Lib.hid (sec_len_bd (HOK.out k hltk).1 (HOK.out k hltk).2)
            obtain ⟨_, _, _, _, _, t5, t6⟩ := hT
            have HT : Hid (blkT l (tskAt l i).prio (l.drop (k + 1)) (blkS l (tskAt l i).prio (tskAt l k).prio (tskAt l k).secs q) = blkT l (tskAt l i).prio l 0) := Lib.hid (by rw [← hd, tsks_drop hltk]; rfl)
            clear hd
            go_wp2
            go_loopw [7, 9] (fun m i' wr => ∃ (j : Nat) (q' : Int) (z : Ext x.w), j ≤ (tskAt l k).secs.length ∧ i' = .int .i64 j ∧ m = .int .i64 q' ∧ wr = z.w ∧ blkS l (tskAt l i).prio (tskAt l k).prio ((tskAt l k).secs.drop j) q' = blkS l (tskAt l i).prio (tskAt l k).prio (tskAt l k).secs q) (fun _ i _ => (tskAt l k).secs.length - (intOf i).toNat)
            case atStart => exact ⟨0, q, z, by omega, rfl, rfl, rfl, rfl⟩
            case round =>
              clear z
              obtain ⟨j, q', z, hj, rfl, rfl, rfl, hdj⟩ := hrel
              by_cases hltj : j < (tskAt l k).secs.length
              · obtain ⟨b2, off2, rfl, hb2, hA2⟩ := hS.at_ (by omega)
                obtain ⟨s0, s1, s2⟩ := hA2 j hltj
                obtain ⟨r0, r1, r2, r3⟩ := hres.out j hltj
                have hbx2 : b2 < x.w.heap.size := by omega
                have HJ : Hid (blkS l (tskAt l i).prio (tskAt l k).prio ((tskAt l k).secs.drop (j + 1)) (if decide ((tskAt l k).prio < (tskAt l i).prio) && decide ((tskAt l i).prio ≤ ceilT (secAt (tskAt l k).secs j).res l 0) then (if q' < (secAt (tskAt l k).secs j).len - 1 then (secAt (tskAt l k).secs j).len - 1 else q') else q') = blkS l (tskAt l i).prio (tskAt l k).prio (tskAt l k).secs q) := Lib.hid (by rw [← hdj, secs_drop hltj]; rfl)
                clear hdj hA2
                go_upto_region 16 with (fail)
                (generalize hW : World.alloc _ _ = wb; have q0_0 := (congrArg (fun W : World => W.cell? ⟨z.w.heap.size, 0, none⟩) hW).symm; simp [go_sem] at q0_0; have q0_1 := (congrArg (fun W : World => W.cell? ⟨z.w.heap.size, 1, none⟩) hW).symm; simp [go_sem] at q0_1; have q0_2 := (congrArg (fun W : World => W.cell? ⟨z.w.heap.size, 2, none⟩) hW).symm; simp [go_sem] at q0_2; have qz0 : z.w.heap.size < wb.heap.size := (by rw [← hW]; simp [go_sem]; try omega); have HBW : Hid (Bel x.w wb) := Lib.hid (by rw [← hW]; (repeat (first | exact Ext.bel _ | exact Bel.refl | refine Bel.alloc ?_ _ | refine Bel.drew ?_ | refine Bel.drewN ?_ _))); clear hW; have hkw := HBW.out.cells; have : b < wb.heap.size := (Nat.lt_of_lt_of_le (by first | assumption | omega) HBW.out.le); have : b2 < wb.heap.size := (Nat.lt_of_lt_of_le (by first | assumption | omega) HBW.out.le))
                have HBX := HBW
                have hTs : ∀ y : Ext wb, TsksAt y.w y.w.heap.size (.slice (some ⟨b, off, none⟩) l.length c) l := fun y => h.keep (x.bel.trans (HBX.out.trans y.bel)).keeps (x.bel.trans (HBX.out.trans y.bel)).le
                have HTS := Lib.hid hTs
                clear hTs s0 s1 s2
                generalize hcv : ceilT (secAt (tskAt l k).secs j).res l 0 = cv at *
                have HV : Hid (∀ y : Ext wb, Calls Try.prog 42 #[.slice (some ⟨b, off, none⟩) l.length c, .int .i64 (secAt (tskAt l k).secs j).res] y.w fun e w' => e = .returned (.int .i64 cv) ∧ w' = y.w) := Lib.hid (fun y => by rw [← hcv]; exact ceiling_any _ l _ _ (HTS.out y) (by omega) (fun i hi => (HSZ.out.parts i hi).1))
                clear hcv
                (refine wp_region_ext (wb := wb) (by (repeat (first | exact Ext.bel _ | exact Bel.refl | refine Bel.alloc ?_ _ | refine Bel.drew ?_ | refine Bel.drewN ?_ _))) (by kernel_rfl) (by kernel_rfl) ?_; (repeat (any_goals (first | go_big_quiet_step ((go_at_call 42; exact ext_call_same (HV.out _))) | quiet_step ((go_at_call 42; exact ext_call_same (HV.out _))) | (refine wpQuiet_step (fun K hK => ?_); go_simp; split <;> (refine hK _ ?_; clear hK K))))); all_goals (refine wpQuiet_nil ?_; intro _ hw'; obtain ⟨y, hw''⟩ := hw'; subst hw''))
                all_goals go_wp2
                all_goals go_roundw
                case rel => exact ⟨j + 1, _, ⟨_, HBX.out.trans y.bel⟩, by omega, by go_num, rfl, rfl, by rw [← HJ.out]; congr 1; rw [if_pos (c := (decide _ && decide _) = true) (by simp; omega)]⟩
                case measure => simp [intOf]; omega
                case rel => exact ⟨j + 1, _, ⟨_, HBX.out.trans y.bel⟩, by omega, by go_num, rfl, rfl, by rw [← HJ.out]; congr 1; rw [if_neg (by simp; omega)]⟩
                case measure => simp [intOf]; omega
                case rel => exact ⟨j + 1, _, ⟨_, HBX.out.trans y.bel⟩, by omega, by go_num, rfl, rfl, by rw [← HJ.out]; congr 1; rw [if_neg (by simp; omega)]⟩
                case measure => simp [intOf]; omega
              · have : j = (tskAt l k).secs.length := by omega
                subst this
                have HJ := Lib.hid hdj
                clear hdj
                go_wp2
                go_roundw
                case rel => exact ⟨k + 1, _, z, by omega, by go_num, rfl, rfl, by rw [← HT.out, ← HJ.out]; simp [blkS]⟩
                case measure => simp [intOf]; omega
          · have : k = l.length := by omega
            subst this
            have HD : Hid (q = blkT l (tskAt l i).prio l 0) := Lib.hid (by rw [← hd]; simp [blkT])
            clear hd
            have hownz := ownsRow_bel HOWN.out z.bel
            have hzle := z.bel.le
            go_wp2_with (at_builtin; go_must (refine wpList_append_own _ rfl _ _ 37 rfl w.heap.size 2 i0 (.int .i64 0) 1 8 Try.underlying37 hi hz0 hz1 hz2 rfl (by decide) _ _ _ rfl (hownz.alloc _) ⟨z.w.heap.size, 0, none⟩ 1 1 [.int .i64 q] rfl rfl ?c1 ?c2 ?c3 ?c4 ?c5 ?_))
            case c1 => exact cells_new _ [.int .i64 q] _
            case c2 => intro u hu; simp at hu; subst hu; rfl
            case c3 => unfold maxLen; omega
            case c4 => omega
            case c5 => simp; omega
            intro v' w1 hown1 hg1 _
            have hbel := bel_grown ((x.bel.trans z.bel).alloc _) (hownz.alloc _) hg1
            obtain ⟨y, rfl⟩ := ext_of hbel
            have HO : Hid (y.w.ownsRow w.heap.size 2 1 v' (i + 1) (((blocks l).take (i + 1)).map (Value.int .i64))) := Lib.hid (by
              have e : (blocks l).take (i + 1) = (blocks l).take i ++ [q] := by
                rw [List.take_succ_eq_append_getElem (by simp [blocks]; omega), HD.out]
                congr 1
                simp [blocks, tskAt, List.getD, hlt]
              rw [e, List.map_append, List.map_take]; exact hown1)
            clear hown1 hg1 hbel hownz
            go_wp2
            go_roundw
            case rel => exact ⟨i + 1, y, by omega, by go_num, rfl, HO.out⟩
            case measure => simp [intOf]; omega
      · have : i = l.length := by omega
        subst this
        go_wp2
        go_ret2
        refine ⟨_, by rw [H0.out]; rfl, ?_, x.bel, fun k hk => (hown.lt k hk).1⟩
        rw [H0.out]
        have e : (blocks l).length = l.length := by simp [blocks]
        have := hown
        rw [List.take_of_length_le (by omega)] at this
        rw [← e] at this
        exact IntsAt.of_own this
  · have H0 := Lib.hid h0
    have hne : (rchk l != 0) = true := by simpa using h0
    go_enter Try.func30, Try.ntmps30
    go_wp2_with (go_at_call 14; (with_reducible refine (HC.out).mono ?_); rintro e w2 ⟨rfl, hb2⟩; obtain ⟨x, rfl⟩ : ∃ x : Ext w, w2 = x.w := ext_of (hb2.after (by (repeat (first | exact Ext.bel _ | exact Bel.refl | refine Bel.alloc ?_ _ | refine Bel.drew ?_ | refine Bel.drewN ?_ _)))); clear hb2)
    go_ret2
    exact ⟨_, rfl, by rw [if_neg H0.out]; exact ⟨none, 0, rfl, by simp, fun h => by simp at h⟩, x.bel, fun k hk => by simp [Value.ownBlock] at hk⟩
end Go.Proofs.Ythcdemmamggboaa
