import Derived.Test.YthidbmeocifkcaaZEtimes
import Derived.Test.YthidbmeocifkcaaG1
import Derived.Test.YthidbmeocifkcaaZEclone
import Derived.Laws.StructEq
/- enforce: stamped; the reference's made. -/
namespace Go.Proofs.Ythidbmeocifkcaa
open Go.RowKit
def psC (s : PS) : List Value := [.int .i64 s.at_, .int .i64 s.ev]
theorem psC_len (s : PS) : (psC s).length = 2 := rfl
theorem psAt_eq {l : List PS} {k : Nat} (h : k < l.length) : psAt l k = l[k] := by simp [psAt, List.getD, h]
theorem stamps_rd {w : World} {B : Nat} {v : Value} {l : List PS} (h : RdAt w B v 2 psC l) : StampsAt w B v l := by
  obtain ⟨A, c, rfl, hc, h⟩ := h
  refine ⟨A, c, rfl, hc, fun h0 => ?_⟩
  obtain ⟨b, off, rfl, hb, h⟩ := h h0
  refine ⟨b, off, rfl, hb, fun i hi => ⟨?_, ?_⟩⟩
  · rw [psAt_eq hi]; exact h i hi 0 (by omega)
  · rw [psAt_eq hi]; exact h i hi 1 (by omega)
theorem stamps_own {w : World} {base n : Nat} {e : TypeId} {v : Value} {l : List PS} (hn : n = l.length) (h : w.ownsRow base e 2 v n (l.flatMap psC)) : StampsAt w w.heap.size v l := stamps_rd (RdAt.of_own psC_len hn h)
theorem srcOf_stamps {w : World} {v : Value} {l : List PS} (h : StampsAt w w.heap.size v l) : SrcOf w v l.length (l.flatMap psC) := by
  obtain ⟨A, c, rfl, hc, h⟩ := h
  refine ⟨A, c, rfl, hc, fun hA => ?_, fun h0 => ?_⟩
  · rcases Nat.eq_zero_or_pos l.length with h0 | h0
    · exact h0
    · obtain ⟨b, off, e, _⟩ := h h0
      rw [hA] at e; cases e
  · obtain ⟨b, off, e, hb, hat⟩ := h h0
    refine ⟨b, off, e, hb, fun j u hj => ?_⟩
    have hl : j < l.length * 2 := by
      have := (List.getElem?_eq_some_iff.1 hj).1
      rw [flat_len psC_len] at this
      exact this
    obtain ⟨q, r, rfl, hr⟩ : ∃ q r, j = q * 2 + r ∧ r < 2 := ⟨j / 2, j % 2, by omega, by omega⟩
    have hq : q < l.length := by omega
    rw [flat_at psC_len l q r hq hr] at hj
    have a := hat q hq
    rw [← hj, ← psAt_eq hq]
    obtain rfl | rfl : r = 0 ∨ r = 1 := by omega
    · exact a.c0
    · rw [← Nat.add_assoc]; exact a.c1
theorem psC_one {l : List PS} : ∀ u ∈ l.flatMap psC, u.oneCell' = true := by
  intro u hu
  obtain ⟨s, _, hs⟩ := List.mem_flatMap.mp hu
  simp [psC] at hs
  rcases hs with rfl | rfl <;> rfl
/-- the first i stamps have their new times -/
def stL (w : List PS) (ts : List Int) (i : Nat) : List PS := madeM (w.take i) (ts.take i) ++ w.drop i
theorem made_len {w : List PS} {ts : List Int} (h : ts.length = w.length) : (madeM w ts).length = w.length := by simp [madeM, h]
theorem stL_len {w : List PS} {ts : List Int} {i : Nat} (h : ts.length = w.length) (hi : i ≤ w.length) : (stL w ts i).length = w.length := by
  unfold stL
  rw [List.length_append, made_len (by simp [h]), List.length_take, List.length_drop]; omega
theorem stL_at {w : List PS} {ts : List Int} {i : Nat} (h : ts.length = w.length) (hi : i < w.length) : psAt (stL w ts i) i = psAt w i := by
  unfold psAt stL
  simp only [List.getD]
  rw [List.getElem?_append_right (by rw [made_len (by simp [h]), List.length_take]; omega), made_len (by simp [h]), List.length_take, Nat.min_eq_left (by omega), Nat.sub_self, List.getElem?_drop, Nat.add_zero]
theorem madeM_snoc {w : List PS} {ts : List Int} {i : Nat} (h : ts.length = w.length) (hi : i < w.length) : madeM (w.take (i + 1)) (ts.take (i + 1)) = madeM (w.take i) (ts.take i) ++ [⟨ts.getD i 0, (psAt w i).ev⟩] := by
  have h1 : w.take (i + 1) = w.take i ++ [psAt w i] := by
    rw [List.take_add_one]; simp [psAt, List.getD, hi]
  have h2 : ts.take (i + 1) = ts.take i ++ [ts.getD i 0] := by
    rw [List.take_add_one]; simp [List.getD, show i < ts.length by omega]
  unfold madeM
  rw [h1, h2, List.zipWith_append (by simp [h])]
  rfl
theorem stL_set {w : List PS} {ts : List Int} {i : Nat} (h : ts.length = w.length) (hi : i < w.length) : (stL w ts i).set i ⟨ts.getD i 0, (psAt w i).ev⟩ = stL w ts (i + 1) := by
  have hl : (madeM (w.take i) (ts.take i)).length = i := by rw [made_len (by simp [h]), List.length_take]; omega
  unfold stL
  rw [madeM_snoc h hi, List.set_append_right _ _ (by omega), hl, Nat.sub_self, List.drop_eq_getElem_cons hi, List.set_cons_zero, List.append_assoc]
  rfl
theorem stL_zero (w : List PS) (ts : List Int) : stL w ts 0 = w := rfl
theorem stL_all {w : List PS} {ts : List Int} (h : ts.length = w.length) : stL w ts w.length = madeM w ts := by
  unfold stL
  rw [List.take_length, List.drop_length, List.append_nil, ← h, List.take_length]
def StPost (W : World) (l : List PS) (e : Ending) (W' : World) : Prop := ∃ v, e = .returned v ∧ W'.ownsRow W.heap.size 48 2 v l.length (l.flatMap psC) ∧ Bel W W'
set_option maxRecDepth 100000 in
set_option maxHeartbeats 4000000 in
theorem stamped_any {W : World} {A : Option Addr} {c : Nat} {tv : Value} {w : List PS} {ts : List Int} (hw : StampsAt W W.heap.size (.slice A w.length c) w) (ht : IntsAt W W.heap.size tv ts) (hl : ts.length = w.length) (hn : w.length ≤ 1000000) :
    Calls Try.prog 30 #[.slice A w.length c, tv] W (StPost W (madeM w ts)) := by
  have HCL := Lib.hid (cloneStamp_any (.slice A w.length c) w.length (w.flatMap psC) W (srcOf_stamps hw) (flat_len psC_len w) psC_one (by omega))
  have HT := Lib.hid ht
  have HL := Lib.hid hl
  obtain ⟨At, ct, rfl, _⟩ := ht.form
  rw [hl]
  rw [hl] at HT
  clear hw ht hl
  go_enter Try.func30, Try.ntmps30
  go_wp2_with fail
  refine HCL.out.mono ?_
  rintro e w1 ⟨u, rfl, ho, hB⟩
  obtain ⟨Au, cu, rfl, _⟩ := own_slice ho
  have HO : Hid (w1.ownsRow W.heap.size 48 2 (.slice Au w.length cu) w.length ((stL w ts 0).flatMap psC)) := Lib.hid ho
  have HB := Lib.hid hB
  clear ho hB HCL
  go_wp2_with fail
  go_loopw [11] (fun s11 wq => ∃ i, i ≤ w.length ∧ s11 = .int .i64 i ∧ Bel W wq ∧ wq.ownsRow W.heap.size 48 2 (.slice Au w.length cu) w.length ((stL w ts i).flatMap psC)) (fun s11 _ => w.length - (intOf s11).toNat)
  case atStart => exact ⟨0, Nat.zero_le _, rfl, HB.out, HO.out⟩
  case round =>
    clear HB HO
    obtain ⟨i, hi, rfl, hb, ho⟩ := hrel
    by_cases hlt : i < w.length
    · have hdl : decide ((i : Int) < (w.length : Int)) = true := by simp; omega
      have hil : (i : Int) < (w.length : Int) := by omega
      obtain ⟨bt, ot, rfl, hbt, hat⟩ := HT.out.at_ (by rw [HL.out]; omega)
      have t0 := (hb.cells _ _ hbt).trans (hat i (by rw [HL.out]; exact hlt))
      have tz := Nat.lt_of_lt_of_le hbt hb.le
      obtain ⟨g, cap, hv, hcap, hg, hgl⟩ := own_form ho (by omega)
      injection hv with hv _ _
      subst hv
      have e0 : wr.cell? ⟨g, i * 2, none⟩ = some (.int .i64 (psAt w i).at_) := by
        have h := ho.cellAt (i * 2) (by omega)
        have h2 := flat_at psC_len (stL w ts i) i 0 (by rw [stL_len HL.out hi]; exact hlt) (by omega)
        rw [Nat.add_zero] at h2
        rw [h, h2, ← psAt_eq, stL_at HL.out hlt]; rfl
      have e1 := ho.frozenAt (i * 2)
      have h3 := ho.stored (i * 2) (.int .i64 (ts.getD i 0))
      rw [show (stL w ts i).flatMap psC = ((stL w ts i).flatMap psC) from rfl] at h3
      have hst := flat_set psC_len (stL w ts i) i 0 ⟨ts.getD i 0, (psAt w i).ev⟩ (.int .i64 (ts.getD i 0)) (by rw [stL_len HL.out hi]; exact hlt) (by omega) (by rw [← psAt_eq, stL_at HL.out hlt]; rfl)
      rw [Nat.add_zero, stL_set HL.out hlt] at hst
      rw [hst] at h3
      have HO := Lib.hid h3.1
      have HB := Lib.hid (hb.set (p := ⟨g, i * 2, none⟩) hg (.int .i64 (ts.getD i 0)))
      clear hb ho h3 hst hat
      generalize ts.getD i 0 = tt at *
      go_wp2
      go_roundw
      case rel => exact ⟨i + 1, by omega, by go_num, HB.out, HO.out⟩
      case measure => simp [intOf]; omega
    · obtain rfl : i = w.length := by omega
      have hdl : decide ((w.length : Int) < (w.length : Int)) = false := by simp
      have HO : Hid (StPost W (madeM w ts) (.returned (.slice Au w.length cu)) wr) := Lib.hid ⟨_, rfl, by rw [stL_all HL.out] at ho; rw [made_len HL.out]; exact ho, hb⟩
      clear hb ho
      go_wp2
      go_ret
      exact HO.out
set_option maxRecDepth 100000 in
set_option maxHeartbeats 4000000 in
theorem rmade_any {W : World} {A : Option Addr} {n c : Nat} {tv : Value} {w : List PS} {ts : List Int} (hw : StampsAt W W.heap.size (.slice A n c) w) (ht : IntsAt W W.heap.size tv ts) (hl : ts.length ≤ w.length) (hn : w.length ≤ 1000000) :
    Calls Try.prog 33 #[.slice A n c, tv] W (StPost W (madeM w ts)) := by
  obtain ⟨j0, hj0, hy0, hy1, hy2⟩ := info_parts Try.infoStamp
  have hnw : n = w.length := by
    obtain ⟨A', c', e, _⟩ := hw.form
    injection e
  subst hnw
  have HW := Lib.hid hw
  have HT := Lib.hid ht
  have HL := Lib.hid hl
  obtain ⟨At, ct, rfl, _⟩ := ht.form
  have HML : Hid (∀ i, i ≤ ts.length → (madeM (w.take i) (ts.take i)).length = i) := Lib.hid (fun i hi => by
    have := HL.out
    simp [madeM]; omega)
  clear hw ht hl
  go_enter Try.func33, Try.ntmps33
  go_wp2_with fail
  go_loopw [5, 6] (fun s5 s6 wq => ∃ i, i ≤ ts.length ∧ s6 = .int .i64 i ∧ Bel W wq ∧ wq.ownsRow W.heap.size 48 2 s5 i ((madeM (w.take i) (ts.take i)).flatMap psC)) (fun _ s6 _ => ts.length - (intOf s6).toNat)
  case atStart => exact ⟨0, Nat.zero_le _, rfl, Bel.refl, World.ownsRow_nil _ _ _ _⟩
  case round =>
    obtain ⟨i, hi, rfl, hb, ho⟩ := hrel
    obtain ⟨Ao, co, rfl, _⟩ := own_slice ho
    by_cases hlt : i < ts.length
    · have hiw : i < w.length := Nat.lt_of_lt_of_le hlt HL.out
      have hdl : decide ((i : Int) < (ts.length : Int)) = true := by simp; omega
      have hil : (i : Int) < (ts.length : Int) := by omega
      have hil2 : (i : Int) < (w.length : Int) := by omega
      obtain ⟨bt, ot, rfl, hbt, hat⟩ := HT.out.at_ (by omega)
      have t0 := (hb.cells _ _ hbt).trans (hat i hlt)
      have tz := Nat.lt_of_lt_of_le hbt hb.le
      obtain ⟨bw, ow, rfl, hbw, hat2⟩ := HW.out.at_ (by omega)
      have w0 := (hb.cells _ _ hbw).trans (hat2 i hiw).c1
      have wz := Nat.lt_of_lt_of_le hbw hb.le
      obtain ⟨row, hrow⟩ : ∃ r, r = (Value.slice Ao i co).ownBlock := ⟨_, rfl⟩
      have hn1 : some bt ≠ row := by rw [hrow]; intro e; have := (ho.lt bt e.symm).1; omega
      have hn2 : some bw ≠ row := by rw [hrow]; intro e; have := (ho.lt bw e.symm).1; omega
      have HROW := Lib.hid hrow
      have HM1 := Lib.hid (HML.out i hi)
      have HSN : Hid (madeM (w.take (i + 1)) (ts.take (i + 1)) = madeM (w.take i) (ts.take i) ++ [⟨ts.getD i 0, (psAt w i).ev⟩]) := Lib.hid (by
        have h1 : w.take (i + 1) = w.take i ++ [psAt w i] := by
          rw [List.take_add_one]; simp [psAt, List.getD, hiw]
        have h2 : ts.take (i + 1) = ts.take i ++ [ts.getD i 0] := by
          rw [List.take_add_one]; simp [List.getD, hlt]
        unfold madeM
        rw [h1, h2, List.zipWith_append (by simp; omega)]
        rfl)
      clear hat hat2 hrow
      generalize ts.getD i 0 = tt at *
      generalize (psAt w i).ev = ee at *
      go_upto_region 5 with (fail)
      (refine wp_region_E 13 row (by kernel_rfl) ?_; refine anyE_takes [0, 1, 2, 3, 4, 5, 6, 7, 8, 9, 10] (fun _ _ _ _ _ h => h) ⟨⟨_, gro_drew (gro_refl _)⟩, rfl⟩ (by kernel_rfl) (by rfl) ?_; simp only [opsOf, List.filterMap_cons, List.filterMap_nil, List.getElem?_toArray, List.getElem?_cons_succ, List.getElem?_cons_zero, List.foldl_cons, List.foldl_nil]; (repeat (any_goals (first | go_big_quiet_step (fail) | quiet_step (fail)))); refine wpQuiet_nil ?_)
      have HO := Lib.hid (ownsRow_bel ho Bel.refl.drew)
      have HB := Lib.hid (hb.drew)
      have hgd : Hid (wr.grownBy wr.drew row) := Lib.hid (gro_drew (gro_refl _))
      generalize wr.drew = y at *
      clear ho hb t0 tz w0 wz
      (refine anyE_one 11 _ (by kernel_rfl) (by rfl) (fun K hK => ?_))
      go_simp
      refine hK _ _ (fun _ => ⟨⟨_, gro_alloc hgd.out _⟩, rfl⟩) ?_
      clear hK K
      have hle := HB.out.le
      have hts := HL.out
      (refine anyE_one 12 _ (by kernel_rfl) (by rfl) (fun K hK => ?_))
      rw [if_pos (by rfl)]
      refine wp_append_own _ _ _ 26 rfl W.heap.size 48 j0 _ 2 16 Try.underlying26 hj0 hy0 hy1 hy2 rfl (by decide) _ _ _ rfl (HO.out.alloc _) ⟨y.heap.size, 0, none⟩ 1 1 (psC ⟨tt, ee⟩) rfl rfl ?d1 ?d2 ?d3 ?d4 ?d5 ?_
      case d1 => exact cells_new _ (psC ⟨tt, ee⟩) _
      case d2 => intro u hu; simp [psC] at hu; rcases hu with h | h <;> subst h <;> rfl
      case d3 => unfold maxLen; omega
      case d4 => omega
      case d5 => simp; omega
      intro v' w4 hown3 hg3 _
      obtain ⟨A', c', rfl, _⟩ := own_slice hown3
      have hbn := bel_grown (HB.out.alloc _) (HO.out.alloc _) hg3
      replace hg3 := (World.grownBy_alloc y _ _).trans hg3
      refine hK _ _ (fun _ => ⟨⟨_, hgd.out.trans (by rw [HROW.out]; exact hg3)⟩, rfl⟩) ?_
      clear hK K
      have HB4 := Lib.hid hbn
      have HO4 : Hid (w4.ownsRow W.heap.size 48 2 (.slice A' (i + 1) c') (i + 1) ((madeM (w.take (i + 1)) (ts.take (i + 1))).flatMap psC)) := Lib.hid (by
        rw [HSN.out, List.flatMap_append]
        simpa [psC] using hown3)
      clear hown3 hg3 hbn HO HB hgd
      (refine anyE_tail 13 (by decide) (by rfl) (by kernel_rfl) ?_; simp only [List.drop_succ_cons, List.drop_zero])
      go_wp2
      refine NoPanic.normal ?_
      go_wp2
      go_roundw
      case rel => exact ⟨i + 1, by omega, by go_num, HB4.out, HO4.out⟩
      case measure => simp [intOf]; omega
    · obtain rfl : i = ts.length := by omega
      have hdl : decide ((ts.length : Int) < (ts.length : Int)) = false := by simp
      have hzz : madeM (w.take ts.length) (ts.take ts.length) = madeM w ts := by
        unfold madeM
        rw [List.take_length]
        apply List.ext_getElem
        · simp [Nat.min_comm]
        · intro j h1 h2; simp
      have hml := HML.out ts.length (Nat.le_refl _)
      rw [hzz] at ho hml
      have HO : Hid (StPost W (madeM w ts) (.returned (.slice Ao ts.length co)) wr) := Lib.hid ⟨_, rfl, by rw [hml]; exact ho, hb⟩
      clear hb ho
      go_wp2
      go_ret
      exact HO.out
end Go.Proofs.Ythidbmeocifkcaa
/- enforce: SameWord. -/
namespace Go.Proofs.Ythidbmeocifkcaa
open Go.RowKit
theorem stamp_neq (a0 a1 : Int) (w : World) : (binOp .neq 48 (.agg #[.int .i64 a0, .int .i64 a1]) (.agg #[.int .i64 a0, .int .i64 a1])).run Try.prog w = .ok (.bool false) w := by
  have hS : Try.prog.underlying 48 = some (.struct (Try.prog.fieldsOf 48)) := by kernel_rfl
  have hp : Try.prog.stoodInHeld 48 = false := by kernel_rfl
  have u2 := Try.underlying2
  have u3 := Try.underlying3
  rw [run_neq_struct, show (10000 : Nat) = 9999 + 1 from rfl, run_equalIn_agg w 9999 48 _ _ hS hp]
  simp only [Program.fieldsOf, Try.underlying48]
  go_simp
theorem stamp_guard : Try.prog.eqGuardType Try.prog.depth 48 = false := by kernel_rfl
set_option maxRecDepth 100000 in
set_option maxHeartbeats 8000000 in
theorem sameWord_any (v1 v2 : Value) (l : List PS) (w : World) (h1 : StampsAt w w.heap.size v1 l) (h2 : StampsAt w w.heap.size v2 l) (hj : l.length ≤ 1000000) :
    Calls Try.prog 15 #[v1, v2] w fun e w' => e = .returned (.bool true) ∧ Bel w w' := by
  have H1 := Lib.hid h1
  have H2 := Lib.hid h2
  obtain ⟨A1, c1, rfl, _⟩ := h1.form
  obtain ⟨A2, c2, rfl, _⟩ := h2.form
  clear h1 h2
  go_enter Try.func15, Try.ntmps15
  go_wp2
  go_loopg [5] l.length (fun gk s5 wr => ∃ (i : Nat) (y : Ext w), i + gk = l.length ∧ s5 = .int .i64 i ∧ wr = y.w)
  case atStart => exact ⟨0, ⟨w, Bel.refl⟩, by omega, rfl, rfl⟩
  case round =>
    obtain ⟨i, y1, hi, rfl, rfl⟩ := hrel
    by_cases hlt : i < l.length
    · have hdl : decide ((i : Int) < (l.length : Int)) = true := by simp; omega
      have hil : (i : Int) < (l.length : Int) := by omega
      obtain ⟨b1, o1, rfl, hb1, k1⟩ := H1.out.at_ (by omega)
      obtain ⟨b3, o3, rfl, hb3, k3⟩ := H2.out.at_ (by omega)
      obtain ⟨x0, x1⟩ := k1 i hlt
      obtain ⟨z0, z1⟩ := k3 i hlt
      generalize psAt l i = s at *
      have hse := fun (W : World) => stamp_neq s.at_ s.ev W
      have hsg := stamp_guard
      clear k1 k3
      go_upto_region 4 with (fail)
      (refine wp_region_ext (wb := y1.w) (by (repeat (first | exact Ext.bel _ | exact Bel.refl | refine Bel.alloc ?_ _ | refine Bel.drew ?_ | refine Bel.drewN ?_ _))) (by kernel_rfl) (by kernel_rfl) ?_; (repeat (any_goals (first | go_big_quiet_step (fail) | quiet_step (fail) | (refine wpQuiet_step (fun K hK => ?_); go_simp; split <;> (refine hK _ ?_; clear hK K))))); all_goals (refine wpQuiet_nil ?_; intro _ hw'; obtain ⟨y, hw''⟩ := hw'; subst hw''))
      clear hse hsg
      go_wp2
      go_roundg (gk - 1)
      case measure => omega
      case rel => exact ⟨i + 1, ⟨_, y1.bel.trans y.bel⟩, by omega, by go_num, rfl⟩
    · obtain rfl : i = l.length := by omega
      have hdl : decide ((l.length : Int) < (l.length : Int)) = false := by simp
      go_wp2
      go_ret
      exact ⟨rfl, y1.bel⟩
end Go.Proofs.Ythidbmeocifkcaa
