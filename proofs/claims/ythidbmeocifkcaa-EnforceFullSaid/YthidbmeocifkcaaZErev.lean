/- enforce: Event of the reference. -/
import Derived.Test.YthidbmeocifkcaaG22
import Derived.Test.YthidbmeocifkcaaZErb
import Derived.Test.YthidbmeocifkcaaZEnew
import Derived.Deep.CutRange
namespace Go.Proofs.Ythidbmeocifkcaa
open Go.RowKit
def REvPost (wm W : World) (p : PP) (gv ev : Value) (br : Nat) (hv ov : Value) (r : EnS × List PS × Int) (e : Ending) (W' : World) : Prop :=
  ∃ v hv' ov', e = .returned (.tuple #[v, .int .i64 r.2.2]) ∧ ErAt wm W' br p gv ev r.1 hv' ov' ∧ GrsOk W (ownL br hv ov) W' ∧ (∀ k ∈ ownL br hv' ov', k ∈ ownL br hv ov ∨ W.heap.size ≤ k) ∧ W'.ownsRow W.heap.size 48 2 v r.2.1.length (r.2.1.flatMap psC)
set_option maxRecDepth 100000 in
set_option maxHeartbeats 16000000 in
theorem revent_any {wm W : World} {p : PP} {gv ev : Value} {br : Nat} {s : EnS} {hv ov : Value} (a : PS) (h : ErAt wm W br p gv ev s hv ov) (hok : EnOk p s) (hvl : PValid p p.clks.toNat) (hs : PSized p) (hev : p.evs ≤ 8) (hai : i64 a.at_ ∧ i64 a.ev)
    (hN : evBad p s a = false → evFull s = false → putsM (stepR p) (mostM p) a.at_ (heldW a.at_ (s.held ++ [a.ev])) s.x s.t + 1 < 9223372036854775807) :
    Calls Try.prog 19 #[.pointer (some ⟨br, 0, none⟩), .agg #[.int .i64 a.at_, .int .i64 a.ev]] W (REvPost wm W p gv ev br hv ov (eventR p s a)) := by
  have HH := Lib.hid h
  have HOK := Lib.hid hok
  have HV := Lib.hid hvl
  have HS := Lib.hid hs
  have HAI := Lib.hid hai
  have HN := Lib.hid hN
  obtain ⟨hl, hb, hle⟩ := h.b
  have hll : hl.length = s.held.length := by rw [← hle]; simp
  have hE0 := EvM.start hb
  have hbig := hb.big
  obtain ⟨Ah, ch, rfl, _⟩ := own_slice hb.held
  obtain ⟨Ao, co, rfl, _⟩ := own_slice hb.out
  have HLL := Lib.hid hll
  have HLE := Lib.hid hle
  have HBIG := Lib.hid hbig
  have HRL := Lib.hid hb.row.lt
  rw [hll] at hE0 HH HBIG ⊢
  obtain ⟨Ag, cg, rfl, _⟩ := h.prop.g.form
  obtain ⟨Ae, ce, rfl, _⟩ := h.prop.e.form
  generalize hrs : ownL br (.slice Ah s.held.length ch) (.slice Ao s.out.length co) = rs at *
  have HRS := Lib.hid hrs
  have hE := Lib.hid hE0
  clear h hok hvl hs hai hN hE0 hrs hb hle hll hbig
  go_enter Try.func19, Try.ntmps19
  go_upto_region 1 with (fail)
  generalize hW : World.alloc W _ = W1 at *
  have hB : Bel W W1 := by rw [← hW]; exact Bel.refl.alloc _
  have rb : RowAt W1 W.heap.size 48 [.int .i64 a.at_, .int .i64 a.ev] := by rw [← hW]; exact RowAt.new _ _ _
  clear hW
  have HE1 := Lib.hid (hE.out.after hB)
  have HRB := Lib.hid rb
  clear rb hE
  have HBS : Hid (W.heap.size ≤ W.heap.size) := Lib.hid (Nat.le_refl _)
  obtain ⟨bs, hbs⟩ : ∃ b, b = W.heap.size := ⟨_, rfl⟩
  have HBS : Hid (W.heap.size ≤ bs) := Lib.hid (by omega)
  rw [← hbs] at HRB ⊢
  clear hbs hB
  have s0 := HRB.out.cell (i := 0) rfl
  have s1 := HRB.out.cell (i := 1) rfl
  have sz := HRB.out.lt
  have f0 := HE1.out.e.row.cell (i := 0) rfl
  have fz := HE1.out.e.row.lt
  have f8 := HE1.out.e.row.cell (i := 8) rfl
  have hai := HAI.out
  have hls := HOK.out.last.1
  go_upto_region 1 with (fail)
  go_cut [44] from 13 to 44 (fun s44 wx => s44 = .bool (evBad p s a) ∧ ∃ z : Ext W1, wx = z.w)
  case first =>
    by_cases q3 : a.at_ < 0
    · have h5 : decide (a.at_ < 0) = true := decide_eq_true q3
      have h3 : decide (a.at_ < s.last) = true := decide_eq_true (by omega)
      cases h1 : decide (a.ev < 0) <;> cases h2 : decide (p.evs ≤ a.ev)
      all_goals
        (refine wp_region_ext (wb := W1) (by (repeat (first | exact Ext.bel _ | exact Bel.refl | refine Bel.alloc ?_ _ | refine Bel.drew ?_ | refine Bel.drewN ?_ _))) (by kernel_rfl) (by kernel_rfl) ?_; (repeat (any_goals (first | go_big_quiet_step (fail) | quiet_step (fail) | (refine wpQuiet_step (fun K hK => ?_); go_simp; split <;> (refine hK _ ?_; clear hK K))))); all_goals (refine wpQuiet_nil ?_; intro _ hw'; obtain ⟨y, hw''⟩ := hw'; subst hw''))
        go_wp2
        go_meet
        case rel => exact ⟨by unfold evBad; rw [h1, h2, h3]; simp, y, rfl⟩
    · have h5 : decide (a.at_ < 0) = false := decide_eq_false q3
      cases h1 : decide (a.ev < 0) <;> cases h2 : decide (p.evs ≤ a.ev) <;> cases h3 : decide (a.at_ < s.last) <;> cases h4 : decide (1000000 < a.at_)
      all_goals
        (refine wp_region_ext (wb := W1) (by (repeat (first | exact Ext.bel _ | exact Bel.refl | refine Bel.alloc ?_ _ | refine Bel.drew ?_ | refine Bel.drewN ?_ _))) (by kernel_rfl) (by kernel_rfl) ?_; (repeat (any_goals (first | go_big_quiet_step (fail) | quiet_step (fail) | (refine wpQuiet_step (fun K hK => ?_); go_simp; split <;> (refine hK _ ?_; clear hK K))))); all_goals (refine wpQuiet_nil ?_; intro _ hw'; obtain ⟨y, hw''⟩ := hw'; subst hw''))
        go_wp2
        go_meet
        case rel => exact ⟨by unfold evBad; rw [h1, h2, h3, h4]; rfl, y, rfl⟩
  case rest =>
  obtain ⟨rfl, y, hy⟩ := hcut
  subst hy
  have HE2 := Lib.hid (HE1.out.after y.bel)
  have HRB2 := Lib.hid (HRB.out.bel y.bel)
  clear s0 s1 sz f0 fz f8 HE1 HRB
  generalize y.w = W2 at *
  clear y W1
  cases hbad : evBad p s a
  case true =>
    have HPO : Hid (REvPost wm W p (.slice Ag p.good.length cg) (.slice Ae p.edges.length ce) br (.slice Ah s.held.length ch) (.slice Ao s.out.length co) (eventR p s a) (.returned (.tuple #[.slice none 0 0, .int .i64 2])) W2) := Lib.hid (by
      have e : eventR p s a = (s, [], 2) := by unfold eventR eventM; rw [hbad]; rfl
      rw [e]
      exact ⟨_, _, _, rfl, ⟨⟨hl, HE2.out.e, HLE.out⟩, HH.out.prop, HH.out.loc, HH.out.cl⟩, by rw [HRS.out]; exact HE2.out.g, fun k hk => .inl hk, World.ownsRow_nil _ _ _ _⟩)
    clear hbad
    go_wp2
    go_ret2
    exact HPO.out
  have HBAD := Lib.hid hbad
  clear hbad
  have f6 := HE2.out.e.row.cell (i := 6) rfl
  have f7 := HE2.out.e.row.cell (i := 7) rfl
  have fz := HE2.out.e.row.lt
  have hh40 := HOK.out.h40
  have hh200 := HOK.out.c200
  go_upto_region 3 with (fail)
  go_cut [57] from 45 to 57 (fun s57 wx => s57 = .bool (evFull s) ∧ ∃ z : Ext W2, wx = z.w)
  case first =>
    cases h1 : decide (s.held.length = 40) <;> cases h2 : decide (s.came = 200)
    all_goals
      have g1 : decide ((40 : Int) ≤ (s.held.length : Int)) = decide (s.held.length = 40) := by rw [Bool.eq_iff_iff]; simp; omega
      have g2 : decide ((200 : Int) ≤ (s.came : Int)) = decide (s.came = 200) := by rw [Bool.eq_iff_iff]; simp; omega
      have g3 : decide (40 ≤ s.held.length) = decide (s.held.length = 40) := by rw [Bool.eq_iff_iff]; simp; omega
      have g4 : decide (200 ≤ s.came) = decide (s.came = 200) := by rw [Bool.eq_iff_iff]; simp; omega
      rw [h1] at g1 g3
      rw [h2] at g2 g4
      go_wp2
      go_meet
      case rel => exact ⟨by unfold evFull; rw [h1, h2]; rfl, ⟨W2, Bel.refl⟩, rfl⟩
  case rest =>
  obtain ⟨rfl, y, hy⟩ := hcut
  subst hy
  have HE3 := Lib.hid (HE2.out.after y.bel)
  have HRB3 := Lib.hid (HRB2.out.bel y.bel)
  clear f6 f7 fz HE2 HRB2 hh40 hh200
  generalize y.w = W3 at *
  clear y W2
  cases hful : evFull s
  case true =>
    have HPO : Hid (REvPost wm W p (.slice Ag p.good.length cg) (.slice Ae p.edges.length ce) br (.slice Ah s.held.length ch) (.slice Ao s.out.length co) (eventR p s a) (.returned (.tuple #[.slice none 0 0, .int .i64 5])) W3) := Lib.hid (by
      have e : eventR p s a = (s, [], 5) := by unfold eventR eventM; rw [HBAD.out, hful]; rfl
      rw [e]
      exact ⟨_, _, _, rfl, ⟨⟨hl, HE3.out.e, HLE.out⟩, HH.out.prop, HH.out.loc, HH.out.cl⟩, by rw [HRS.out]; exact HE3.out.g, fun k hk => .inl hk, World.ownsRow_nil _ _ _ _⟩)
    clear hful
    go_wp2
    go_ret2
    exact HPO.out
  have HFUL := Lib.hid hful
  clear hful
  obtain ⟨ef1, ef2⟩ := evFull_false HFUL.out
  obtain ⟨eb1, eb2, eb3, eb4⟩ := evBad_false HBAD.out
  have hcame := HOK.out.c200
  have h40 := HOK.out.h40
  have hlst := HOK.out.last
  have s0 := HRB3.out.cell (i := 0) rfl
  have s1 := HRB3.out.cell (i := 1) rfl
  have sz := HRB3.out.lt
  have f7 := HE3.out.e.row.cell (i := 7) rfl
  have f8 := HE3.out.e.row.cell (i := 8) rfl
  have fz := HE3.out.e.row.lt
  have nbr : bs ∉ [br] := by
    have h1 := HRL.out
    have h2 := HBS.out
    simp; omega
  have hw1 : IntKind.i64.wrap ((s.came : Int) + 1) = (s.came : Int) + 1 := IntWalk.i64_in _ (by omega)
  go_upto_region 5 with (fail)
  (refine wp_region_T (TT W3 [br] [0, 2, 3, 4, 5, 6, 9, 10] 14) (by kernel_rfl) ?_; refine anyT_takes (fun w' => ∃ y : Grs W3 [br], w' = y.w) 14 [1, 7, 8] tt_2 (tt_i2 (by rfl)) (fun _ _ _ _ _ h => h) ⟨⟨_, grs_drew _ _⟩, rfl⟩ (by kernel_rfl) (by rfl) ?_; simp only [opsOf, List.filterMap_cons, List.filterMap_nil, List.getElem?_toArray, List.getElem?_cons_succ, List.getElem?_cons_zero, List.foldl_cons, List.foldl_nil]; (repeat (any_goals (first | go_big_quiet_step (fail) | quiet_step (fail)))); refine wpQuiet_nil ?_; refine anyT_takes (fun w' => ∃ y : Grs W3 [], w' = y.w) 11 [0, 2, 3, 4, 5, 6, 9, 10] (tt_1 (by kernel_rfl)) tt_i1 (fun _ _ _ _ _ h => h) ⟨⟨_, grs_drew _ _⟩, rfl⟩ (by kernel_rfl) (by rfl) ?_; simp only [opsOf, List.filterMap_cons, List.filterMap_nil, List.getElem?_toArray, List.getElem?_cons_succ, List.getElem?_cons_zero, List.foldl_cons, List.foldl_nil]; (repeat (any_goals (first | go_big_quiet_step (fail) | quiet_step (fail)))); refine wpQuiet_nil ?_)
  have HE4 := Lib.hid (((HE3.out.set 7 (.int .i64 ((s.came : Int) + 1))).set 8 (.int .i64 a.at_)).after Bel.refl.drew)
  have HRB4 := Lib.hid (((HRB3.out.far (a := ⟨br, 7, none⟩) (by simpa using nbr) (.int .i64 ((s.came : Int) + 1))).far (a := ⟨br, 8, none⟩) (by simpa using nbr) (.int .i64 a.at_)).bel Bel.refl.drew)
  have g1 : GrsOk W3 [br] (W3.drew.setCell ⟨br, 7, none⟩ (.int .i64 ((s.came : Int) + 1))) := grs_set (grs_drew _ _) br (by simp) _ _
  have G1 := Lib.hid g1
  have k8 := HE3.out.e.row.frozen 8
  have k7 := HE3.out.e.row.frozen 7
  clear g1
  (refine anyT_one 11 _ (by kernel_rfl) (by rfl) (fun K hK => ?_))
  go_simp
  refine hK _ _ ⟨fun h => absurd h (by decide), fun _ => ⟨⟨_, G1.out⟩, rfl⟩⟩ ?_
  clear hK K
  (refine anyT_one 12 _ (by kernel_rfl) (by rfl) (fun K hK => ?_))
  go_simp
  refine hK _ _ ⟨fun h => absurd h (by decide), fun _ => ⟨⟨_, G1.out⟩, rfl⟩⟩ ?_
  clear hK K
  (refine anyT_one 13 _ (by kernel_rfl) (by rfl) (fun K hK => ?_))
  go_simp
  refine hK _ _ ⟨fun h => absurd h (by decide), fun _ => ⟨⟨_, G1.out⟩, rfl⟩⟩ ?_
  clear hK K
  (refine anyT_one 14 _ (by kernel_rfl) (by rfl) (fun K hK => ?_))
  go_simp
  refine hK _ _ ⟨fun h => absurd h (by decide), fun h => absurd h (by decide)⟩ ?_
  clear hK K
  refine anyT_done (by kernel_rfl) ?_ _
  refine NoPanic.normal ?_
  generalize hW : World.drew (World.setCell (World.setCell _ _ _) _ _) = W4 at *
  have HE5 : Hid (EvM wm W W4 rs br 45 (erC p (.slice Ag p.good.length cg) (.slice Ae p.edges.length ce) { s with came := s.came + 1, last := a.at_ } (.slice Ah s.held.length ch) (.slice Ao s.out.length co)) (.slice Ah s.held.length ch) (.slice Ao s.out.length co) hl s.out) := Lib.hid HE4.out
  clear hW HE4 HE3 HRB3 G1 s0 s1 sz f7 f8 fz k7 k8 hw1
  have s0 := HRB4.out.cell (i := 0) rfl
  have s1 := HRB4.out.cell (i := 1) rfl
  have sz := HRB4.out.lt
  have f6 := HE5.out.e.row.cell (i := 6) rfl
  have fz := HE5.out.e.row.lt
  obtain ⟨j0, hj0, hy0, hy1, hy2⟩ := info_parts Try.infoStamp
  obtain ⟨row, hrow⟩ : ∃ r, r = (Value.slice Ah s.held.length ch).ownBlock := ⟨_, rfl⟩
  have hn1 : some br ≠ row := by rw [hrow]; exact box_row_ne HE5.out.e.row HE5.out.e.held (by decide)
  have hn2 : some bs ≠ row := by
    rw [hrow]
    intro e
    have h1 := HBIG.out bs (by rw [← HRS.out]; exact mem_ownL.mpr (.inr (.inl e.symm)))
    have h2 := HBS.out
    omega
  have HROW := Lib.hid hrow
  clear hrow
  go_upto_region 6 with (fail)
  (refine wp_region_E 8 row (by kernel_rfl) ?_; refine anyE_takes [0, 1, 2, 3, 4, 5] (fun _ _ _ _ _ h => h) ⟨⟨_, gro_drew (gro_refl _)⟩, rfl⟩ (by kernel_rfl) (by rfl) ?_; simp only [opsOf, List.filterMap_cons, List.filterMap_nil, List.getElem?_toArray, List.getElem?_cons_succ, List.getElem?_cons_zero, List.foldl_cons, List.foldl_nil]; (repeat (any_goals (first | go_big_quiet_step (fail) | quiet_step (fail)))); refine wpQuiet_nil ?_)
  have HE6 := Lib.hid (HE5.out.after Bel.refl.drew)
  have HRB6 := Lib.hid (HRB4.out.bel Bel.refl.drew)
  have hgd : Hid (W4.grownBy W4.drew row) := Lib.hid (gro_drew (gro_refl _))
  generalize W4.drew = W5 at *
  clear s0 s1 sz f6 fz HE5 HRB4
  (refine anyE_one 6 _ (by kernel_rfl) (by rfl) (fun K hK => ?_))
  go_simp
  refine hK _ _ (fun _ => ⟨⟨_, gro_alloc hgd.out _⟩, rfl⟩) ?_
  clear hK K
  have hle := HE6.out.e.bel.le
  have hhl := HE6.out.e.held
  rw [HLL.out] at hhl
  (refine anyE_one 7 _ (by kernel_rfl) (by rfl) (fun K hK => ?_))
  rw [if_pos (by rfl)]
  refine wp_append_lies _ _ _ 26 rfl wm.heap.size 48 j0 _ 2 16 Try.underlying26 hj0 hy0 hy1 hy2 rfl (by decide) _ _ _ rfl (hhl.alloc _) ⟨W5.heap.size, 0, none⟩ 1 1 (psC ⟨a.at_, a.ev⟩) rfl rfl (cells_new _ (psC ⟨a.at_, a.ev⟩) _) (by intro u hu; simp [psC] at hu; rcases hu with h | h <;> subst h <;> rfl) (by decide) (by unfold maxLen; omega) (by omega) (by simp; omega) _ rfl ?_
  intro g5 c5 w6 hown hg3 hlie _
  have hg4 : W5.grownBy w6 (Value.slice Ah s.held.length ch).ownBlock := (World.grownBy_alloc W5 _ _).trans hg3
  replace hlie : (Value.slice Ah s.held.length ch).ownBlock = some g5 ∨ g5 = (W5.alloc (.cells #[.int .i64 a.at_, .int .i64 a.ev] 48)).heap.size := hlie
  have HBG : Hid (bs ≠ g5) := Lib.hid (by
    rcases hlie with e | e
    · intro q
      rw [← q] at e
      exact hn2 (by rw [HROW.out]; exact e.symm)
    · have h1 := HRB6.out.lt
      have h2 : (W5.alloc (.cells #[.int .i64 a.at_, .int .i64 a.ev] 48)).heap.size = W5.heap.size + 1 := by simp [go_sem]
      omega)
  have hsz : W5.heap.size ≤ (W5.alloc (.cells #[.int .i64 a.at_, .int .i64 a.ev] 48)).heap.size := by simp [go_sem]
  refine hK _ _ (fun _ => ⟨⟨_, hgd.out.trans (by rw [HROW.out]; exact hg4)⟩, rfl⟩) ?_
  clear hK K
  have HE7 := Lib.hid (HE6.out.turnH (hv' := .slice (some ⟨g5, 0, none⟩) (s.held.length + 1) c5) (hl' := hl ++ [⟨a.at_, a.ev⟩]) hg4 (by rw [List.length_append, HLL.out, List.flatMap_append]; simpa [psC] using hown) (by
    intro k e
    simp only [Value.ownBlock, Option.some.injEq] at e
    subst e
    rcases hlie with e | e
    · exact .inl e
    · exact .inr (by rw [e]; exact hsz)))
  have HRB7 := Lib.hid (HRB6.out.gro hg4 (by rw [← HROW.out]; exact hn2))
  clear hown hg3 hlie hg4 hsz hhl hle
  have f6 := HE7.out.e.row.cell (i := 6) rfl
  have k6 := HE7.out.e.row.frozen 6
  have fz := HE7.out.e.row.lt
  have HE8 := Lib.hid (HE7.out.set 6 (.slice (some ⟨g5, 0, none⟩) (s.held.length + 1) c5))
  have HRB8 := Lib.hid (HRB7.out.far (a := ⟨br, 6, none⟩) (by simpa using nbr) (.slice (some ⟨g5, 0, none⟩) (s.held.length + 1) c5))
  (refine anyE_tail 8 (by decide) (by rfl) (by kernel_rfl) ?_; simp only [List.drop_succ_cons, List.drop_zero])
  go_wp2
  refine NoPanic.normal ?_
  generalize hW : World.setCell _ _ _ = W8 at *
  have HE9 : Hid (EvM wm W W8 rs br 45 (erC p (.slice Ag p.good.length cg) (.slice Ae p.edges.length ce) { s with came := s.came + 1, last := a.at_ } (.slice (some ⟨g5, 0, none⟩) (s.held.length + 1) c5) (.slice Ao s.out.length co)) (.slice (some ⟨g5, 0, none⟩) (s.held.length + 1) c5) (.slice Ao s.out.length co) (hl ++ [⟨a.at_, a.ev⟩]) s.out) := Lib.hid HE8.out
  clear hW HE8 HE7 HE6 HRB7 HRB6 hgd f6 k6 fz hn1 hn2 HROW
  have HL9 : Hid ((hl ++ ([⟨a.at_, a.ev⟩] : List PS)).length = s.held.length + 1) := Lib.hid (by rw [List.length_append, HLL.out]; rfl)
  have HM9 : Hid ((hl ++ ([⟨a.at_, a.ev⟩] : List PS)).map PS.ev = s.held ++ [a.ev]) := Lib.hid (by rw [List.map_append, HLE.out]; rfl)
  generalize hl9 : hl ++ ([⟨a.at_, a.ev⟩] : List PS) = l9 at *
  clear hl9
  have HW8 : Hid (bs < W8.heap.size ∧ br < W8.heap.size ∧ g5 < W8.heap.size) := Lib.hid ⟨HRB8.out.lt, HE9.out.e.row.lt, (HE9.out.e.held.lt g5 rfl).2⟩
  go_wp2
  go_loopw [6, 7] (fun s6 s7 wq => ∃ (i : Nat) (z : Ext W8), i ≤ s.held.length + 1 ∧ s7 = .int .i64 i ∧ wq = z.w ∧ z.w.ownsRow W8.heap.size 48 2 s6 i ((heldW a.at_ ((s.held ++ [a.ev]).take i)).flatMap psC)) (fun _ s7 _ => s.held.length + 1 - (intOf s7).toNat)
  case atStart => exact ⟨0, ⟨W8, Bel.refl⟩, Nat.zero_le _, rfl, rfl, World.ownsRow_nil _ _ _ _⟩
  case round =>
    obtain ⟨i, z, hi, rfl, rfl, ho⟩ := hrel
    obtain ⟨Aw, cw, rfl, _⟩ := own_slice ho
    have HO := Lib.hid ho
    have HE := Lib.hid (HE9.out.after z.bel)
    have HR := Lib.hid (HRB8.out.bel z.bel)
    clear ho
    by_cases hlt : i < s.held.length + 1
    · have hdl : decide ((i : Int) < (s.held.length : Int) + 1) = true := by simp; omega
      have hil : (i : Int) < (s.held.length : Int) + 1 := by omega
      obtain ⟨row, hrow⟩ : ∃ r, r = (Value.slice Aw i cw).ownBlock := ⟨_, rfl⟩
      have hrw : ∀ k, k < W8.heap.size → some k ≠ row := fun k hk e => by
        rw [hrow] at e
        have := (HO.out.lt k e.symm).1
        omega
      have hn1 := hrw _ HW8.out.1
      have hn2 := hrw _ HW8.out.2.1
      have hn3 := hrw _ HW8.out.2.2
      have HROW := Lib.hid hrow
      clear hrow hrw
      have hev9 : (psAt l9 i).ev = (s.held ++ [a.ev]).getD i 0 := by
        rw [← HM9.out, psAt_eq (by rw [HL9.out]; exact hlt)]
        simp [List.getD, show i < l9.length by rw [HL9.out]; exact hlt]
      have HSN : Hid (heldW a.at_ ((s.held ++ [a.ev]).take (i + 1)) = heldW a.at_ ((s.held ++ [a.ev]).take i) ++ [⟨a.at_, (psAt l9 i).ev⟩]) := Lib.hid (by
        rw [hev9, List.take_add_one]
        have : (s.held ++ [a.ev])[i]? = some ((s.held ++ [a.ev]).getD i 0) := by
          have hq : i < (s.held ++ [a.ev]).length := by simp; omega
          unfold List.getD
          rw [List.getElem?_eq_getElem hq]; rfl
        rw [this]
        unfold heldW
        rw [List.map_append]; rfl)
      have f6 := HE.out.e.row.cell (i := 6) rfl
      have fz := HE.out.e.row.lt
      have s0 := HR.out.cell (i := 0) rfl
      have sz := HR.out.lt
      have hh := HE.out.e.held
      rw [HL9.out] at hh
      have e1 : z.w.cell? ⟨g5, i * 2 + 1, none⟩ = some (.int .i64 (psAt l9 i).ev) := by
        have h1 := hh.cellAt (i * 2 + 1) (by omega)
        have h2 := flat_at psC_len l9 i 1 (by rw [HL9.out]; exact hlt) (by omega)
        rw [h1, h2, ← psAt_eq]; rfl
      have gz := (hh.lt g5 rfl).2
      clear hh hev9
      generalize (psAt l9 i).ev = ee at *
      obtain ⟨j0, hj0, hy0, hy1, hy2⟩ := info_parts Try.infoStamp
      have HZB := Lib.hid z.bel
      generalize z.w = wz at *
      clear z
      go_upto_region 11 with (fail)
      (refine wp_region_E 14 row (by kernel_rfl) ?_; refine anyE_takes [0, 1, 2, 3, 4, 5, 6, 7, 8, 9, 10, 11] (fun _ _ _ _ _ h => h) ⟨⟨_, gro_drew (gro_refl _)⟩, rfl⟩ (by kernel_rfl) (by rfl) ?_; simp only [opsOf, List.filterMap_cons, List.filterMap_nil, List.getElem?_toArray, List.getElem?_cons_succ, List.getElem?_cons_zero, List.foldl_cons, List.foldl_nil]; (repeat (any_goals (first | go_big_quiet_step (fail) | quiet_step (fail)))); refine wpQuiet_nil ?_)
      have HO2 := Lib.hid (ownsRow_bel HO.out Bel.refl.drew)
      have HB2 := Lib.hid (HZB.out.drew)
      have hgd : Hid (wz.grownBy wz.drew row) := Lib.hid (gro_drew (gro_refl _))
      clear f6 fz s0 sz e1 gz HO HZB HE HR
      generalize wz.drew = y at *
      (refine anyE_one 12 _ (by kernel_rfl) (by rfl) (fun K hK => ?_))
      go_simp
      refine hK _ _ (fun _ => ⟨⟨_, gro_alloc hgd.out _⟩, rfl⟩) ?_
      clear hK K
      have hle := HB2.out.le
      (refine anyE_one 13 _ (by kernel_rfl) (by rfl) (fun K hK => ?_))
      rw [if_pos (by rfl)]
      refine wp_append_own _ _ _ 26 rfl W8.heap.size 48 j0 _ 2 16 Try.underlying26 hj0 hy0 hy1 hy2 rfl (by decide) _ _ _ rfl (HO2.out.alloc _) ⟨y.heap.size, 0, none⟩ 1 1 (psC ⟨a.at_, ee⟩) rfl rfl ?d1 ?d2 ?d3 ?d4 ?d5 ?_
      case d1 => exact cells_new _ (psC ⟨a.at_, ee⟩) _
      case d2 => intro u hu; simp [psC] at hu; rcases hu with h | h <;> subst h <;> rfl
      case d3 => unfold maxLen; omega
      case d4 => omega
      case d5 => simp; omega
      intro v' w4 hown3 hg3 _
      obtain ⟨A', c', rfl, _⟩ := own_slice hown3
      have hbn := bel_grown (HB2.out.alloc _) (HO2.out.alloc _) hg3
      replace hg3 := (World.grownBy_alloc y _ _).trans hg3
      refine hK _ _ (fun _ => ⟨⟨_, hgd.out.trans (by rw [HROW.out]; exact hg3)⟩, rfl⟩) ?_
      clear hK K
      have HO4 : Hid (w4.ownsRow W8.heap.size 48 2 (.slice A' (i + 1) c') (i + 1) ((heldW a.at_ ((s.held ++ [a.ev]).take (i + 1))).flatMap psC)) := Lib.hid (by
        rw [HSN.out, List.flatMap_append]
        simpa [psC] using hown3)
      obtain ⟨z4, rfl⟩ := ext_of hbn
      clear hown3 hg3 hbn HO2 HB2 hgd
      (refine anyE_tail 14 (by decide) (by rfl) (by kernel_rfl) ?_; simp only [List.drop_succ_cons, List.drop_zero])
      go_wp2
      refine NoPanic.normal ?_
      go_wp2
      go_roundw
      case rel => exact ⟨i + 1, z4, by omega, by go_num, rfl, HO4.out⟩
      case measure => simp [intOf]; omega
    · obtain rfl : i = s.held.length + 1 := by omega
      have hdl : decide ((s.held.length : Int) + 1 < (s.held.length : Int) + 1) = false := by simp
      have HTK : Hid ((s.held ++ [a.ev]).take (s.held.length + 1) = s.held ++ [a.ev]) := Lib.hid (List.take_of_length_le (by simp))
      rw [HTK.out] at HO
      have f6 := HE.out.e.row.cell (i := 6) rfl
      have fz := HE.out.e.row.lt
      have hx : (⟨s.x.loc, [s.x.cl.getD 0 0, s.x.cl.getD 1 0, s.x.cl.getD 2 0]⟩ : Pt) = s.x := by
        have h3 := HH.out.cl.1
        generalize s.x = x at *
        obtain ⟨xl, xc⟩ := x
        match xc, h3 with
        | [x0, x1, x2], _ => rfl
      have hwl : (heldW a.at_ (s.held ++ [a.ev])).length = s.held.length + 1 := by simp [heldW]
      have HWL := Lib.hid hwl
      have hEL : endL s.t (heldW a.at_ (s.held ++ [a.ev])) = a.at_ := by
        have h0 : 0 < (heldW a.at_ (s.held ++ [a.ev])).length := by rw [hwl]; omega
        unfold endL
        rw [if_pos h0, ← endW_at h0]; exact endW_held
      obtain ⟨gw, cw', hAw, _, hgw, _⟩ := own_form HO.out (by omega)
      injection hAw with hAw _ hcw
      subst hAw hcw
      have hst : StampsAt z.w z.w.heap.size (.slice (some ⟨gw, 0, none⟩) (s.held.length + 1) cw) (heldW a.at_ (s.held ++ [a.ev])) := stamps_own hwl.symm HO.out
      have hwok : ∀ u ∈ heldW a.at_ (s.held ++ [a.ev]), 0 ≤ u.at_ ∧ u.at_ ≤ 1000000 ∧ i64 u.ev := fun u hu => by
        obtain ⟨h1, h2⟩ := heldW_mem hu
        rw [h1]
        refine ⟨by omega, eb4, ?_⟩
        rcases List.mem_append.mp h2 with h2 | h2
        · have := HOK.out.ev _ h2
          unfold i64; omega
        · simp at h2; rw [h2]; exact HAI.out.2
      have ht := HOK.out.t
      have hoc := HOK.out.came
      have henv : RtEnv z.w p (.slice Ag p.good.length cg) (.slice Ae p.edges.length ce) (some ⟨gw, 0, none⟩) cw (endL s.t (heldW a.at_ (s.held ++ [a.ev]))) (heldW a.at_ (s.held ++ [a.ev])) :=
        search_env HV.out HS.out (HH.out.prop.bel HE.out.e.bel) hst hwok (by rw [hwl]; omega) s.t
      have HRT : Hid (∀ (V : World) (bsr bqr : Nat), SrAt z.w V p bsr bqr (.slice Ag p.good.length cg) (.slice Ae p.edges.length ce) (some ⟨gw, 0, none⟩) cw (endL s.t (heldW a.at_ (s.held ++ [a.ev]))) (heldW a.at_ (s.held ++ [a.ev])) (fun _ => false) 0 → Calls Try.prog 31 #[.pointer (some ⟨bsr, 0, none⟩), .agg #[.int .i64 0, .int .i64 s.x.loc, .int .i64 (s.x.cl.getD 0 0), .int .i64 (s.x.cl.getD 1 0), .int .i64 (s.x.cl.getD 2 0), .int .i64 s.t]] V
          (RtPost z.w V p bsr bqr (.slice Ag p.good.length cg) (.slice Ae p.edges.length ce) (some ⟨gw, 0, none⟩) cw (endL s.t (heldW a.at_ (s.held ++ [a.ev]))) (heldW a.at_ (s.held ++ [a.ev])) 0 (heldW a.at_ (s.held ++ [a.ev])) s.x s.t)) := Lib.hid (fun V bsr bqr hsr => by
        have := rtimes_any henv (heldW a.at_ (s.held ++ [a.ev])) 0 s.x.loc (s.x.cl.getD 0 0) (s.x.cl.getD 1 0) (s.x.cl.getD 2 0) s.t V (fun _ => false) 0 rfl (Nat.zero_le _) hsr (by rw [hx]; exact HH.out.loc) (by have := HH.out.cl; rw [← hx] at this; exact this) ht.1 (by rw [hwl]; omega) (by rw [hx, hEL]; have := HN.out HBAD.out HFUL.out; omega)
        rw [hx] at this
        exact this)
      have HTE : Hid (srR p (endL s.t (heldW a.at_ (s.held ++ [a.ev]))) (heldW a.at_ (s.held ++ [a.ev])) s.x s.t = timesR p s.x s.t (heldW a.at_ (s.held ++ [a.ev]))) := Lib.hid (timesR_eq p s.x s.t _ _ (fun h => if_pos h))
      have HHW := Lib.hid hst
      have HZB := Lib.hid z.bel
      clear hx hwl hEL hst hwok ht hoc henv f6 fz hgw
      generalize z.w = wz at *
      clear z HR
      have f0 := HE.out.e.row.cell (i := 0) rfl
      have f1 := HE.out.e.row.cell (i := 1) rfl
      have f2 := HE.out.e.row.cell (i := 2) rfl
      have f3 := HE.out.e.row.cell (i := 3) rfl
      have f4 := HE.out.e.row.cell (i := 4) rfl
      have f6 := HE.out.e.row.cell (i := 6) rfl
      have fz := HE.out.e.row.lt
      have hmk := @run_makeMap Try.prog
      go_upto_region 13 with (fail)
      clear hmk f0 f1 f2 f3 f4 f6 fz
      have HBM := Lib.hid (BSet.made wz Try.prog 81 4)
      generalize hW : World.alloc (World.alloc wz _) _ = wa at *
      have hBa : Bel wz wa := by rw [← hW]; exact (Bel.refl.alloc _).alloc _
      have hrow : RowAt wa (wz.alloc (.map #[] 0)).heap.size 77 [.int .i64 p.evs, .int .i64 p.clks, .int .i64 p.ini, .slice Ag p.good.length cg, .slice Ae p.edges.length ce, .slice (some ⟨gw, 0, none⟩) (s.held.length + 1) cw, .map (some wz.heap.size)] := by rw [← hW]; exact RowAt.new _ _ _
      have hset : BSet wa Try.prog 81 4 wz.heap.size 0 (fun _ => false) := by rw [← hW]; exact HBM.out.alloc _
      clear hW HBM
      have hqs : (wz.alloc (.map #[] 0)).heap.size = wz.heap.size + 1 := by simp [go_sem]
      rw [hqs] at hrow
      have HEa := Lib.hid (HE.out.after hBa)
      have HSRA : Hid (SrAt wz wa p (wz.heap.size + 1) wz.heap.size (.slice Ag p.good.length cg) (.slice Ae p.edges.length ce) (some ⟨gw, 0, none⟩) cw (endL s.t (heldW a.at_ (s.held ++ [a.ev]))) (heldW a.at_ (s.held ++ [a.ev])) (fun _ => false) 0) := Lib.hid ⟨hBa, by rw [HWL.out]; exact hrow, hset, start_lost, Nat.le_refl _⟩
      have HBa := Lib.hid hBa
      have hnq : some br ≠ some wz.heap.size := by
        intro e
        injection e with e
        have := HE.out.e.row.lt
        omega
      have HQ : Hid (wz.heap.size ≤ wz.heap.size) := Lib.hid (Nat.le_refl _)
      clear hrow hset hqs hBa
      have HQ2 : Hid (∃ q, q = wz.heap.size) := Lib.hid ⟨_, rfl⟩
      obtain ⟨q, hq⟩ := HQ2.out
      have HQ3 : Hid (wz.heap.size ≤ q) := Lib.hid (by omega)
      rw [← hq] at HSRA hnq ⊢
      clear hq HQ HQ2
      have f9 := HEa.out.e.row.cell (i := 9) rfl
      have f10 := HEa.out.e.row.cell (i := 10) rfl
      have f11 := HEa.out.e.row.cell (i := 11) rfl
      have f12 := HEa.out.e.row.cell (i := 12) rfl
      have f13 := HEa.out.e.row.cell (i := 13) rfl
      have fz := HEa.out.e.row.lt
      (refine wp_region_E 15 (some q) (by kernel_rfl) ?_; refine anyE_takes [0, 1, 2, 3, 4, 5, 6, 7, 8, 9] (fun _ _ _ _ _ h => h) ⟨⟨_, gro_drew (gro_refl _)⟩, rfl⟩ (by kernel_rfl) (by rfl) ?_; simp only [opsOf, List.filterMap_cons, List.filterMap_nil, List.getElem?_toArray, List.getElem?_cons_succ, List.getElem?_cons_zero, List.foldl_cons, List.foldl_nil]; (repeat (any_goals (first | go_big_quiet_step (fail) | quiet_step (fail)))); refine wpQuiet_nil ?_)
      clear f9 f10 f11 f12 f13 fz
      have hsr := HSRA.out.bel' Bel.refl.drew
      have HG0 : Hid (Bel wa wa.drew) := Lib.hid Bel.refl.drew
      generalize wa.drew = wf at *
      (refine anyE_one 10 _ (by kernel_rfl) (by rfl) (fun K hK => ?_))
      rw [if_pos (by rfl)]
      go_simp
      refine (HRT.out wf (q + 1) q hsr).mono ?_
      rintro _ w5 ⟨v, m', N', rfl, hS, hG, _, ho⟩
      have hgq : wa.grownBy w5 (some q) := ⟨hG.os.trans HG0.out.os, hG.tape.trans HG0.out.tape, hG.output.trans HG0.out.output, Nat.le_trans HG0.out.size hG.size, fun k hk hne => (hG.block k (Nat.lt_of_lt_of_le hk HG0.out.size) (by simp; exact fun e => hne (by rw [e]))).trans (HG0.out.block k hk)⟩
      refine hK _ _ (fun _ => ⟨⟨_, hgq⟩, rfl⟩) ?_
      clear hK K
      (refine anyE_takes [11, 12, 13, 14] (fun _ _ _ _ _ h => h) ⟨⟨_, hgq⟩, rfl⟩ (by kernel_rfl) (by rfl) ?_; simp only [opsOf, List.filterMap_cons, List.filterMap_nil, List.getElem?_toArray, List.getElem?_cons_succ, List.getElem?_cons_zero, List.foldl_cons, List.foldl_nil]; (repeat (any_goals (first | go_big_quiet_step (fail) | quiet_step (fail)))); refine wpQuiet_nil ?_)
      have hB5 : Bel wz w5 := bel_gro HBa.out hgq (fun k e => by injection e with e; rw [← e]; exact HQ3.out)
      have HE5 := Lib.hid (HE.out.after hB5)
      have HHW5 := Lib.hid (HHW.out.bel hB5)
      have HTS := Lib.hid ho
      rw [HTE.out] at HTS ⊢
      clear hsr hS hG ho hgq hB5 HG0 HRT HSRA HEa HBa HE HO HHW hnq
      (refine anyE_tail 15 (by decide) (by rfl) (by kernel_rfl) ?_; simp only [List.drop_succ_cons, List.drop_zero])
      go_wp2
      refine NoPanic.normal ?_
      cases htm : timesR p s.x s.t (heldW a.at_ (s.held ++ [a.ev])) with
      | none =>
        simp only [Option.isSome_none]
        have HPO : Hid (REvPost wm W p (.slice Ag p.good.length cg) (.slice Ae p.edges.length ce) br (.slice Ah s.held.length ch) (.slice Ao s.out.length co) (eventR p s a) (.returned (.tuple #[.slice none 0 0, .int .i64 0])) w5) := Lib.hid (by
          have e : eventR p s a = ({ s with last := a.at_, came := s.came + 1, held := s.held ++ [a.ev] }, [], 0) := by unfold eventR eventM; rw [HBAD.out, HFUL.out, htm]; rfl
          rw [e]
          exact ⟨_, _, _, rfl, ⟨⟨l9, HE5.out.e, HM9.out⟩, HH.out.prop, HH.out.loc, HH.out.cl⟩, by rw [HRS.out]; exact HE5.out.g, fun k hk => by rw [HRS.out]; exact HE5.out.hb k hk, World.ownsRow_nil _ _ _ _⟩)
        clear htm HTS
        go_wp2
        go_ret2
        exact HPO.out
      | some ts =>
        simp only [Option.isSome_some]
        rw [htm] at HTS
        have htl : ts.length = s.held.length + 1 := by
          have := search_len _ _ _ ts htm
          rw [this]; exact HWL.out
        have HTL := Lib.hid htl
        have HOT := Lib.hid (fun i (hi : i < s.held.length + 1) => out_times (stp := stepR p) HV.out hev HOK.out HBAD.out HFUL.out htm hi)
        have HEV : Hid (eventR p s a = (⟨(runE (stepR p) s.x s.t (madeM (heldW a.at_ (s.held ++ [a.ev])) ts)).1, (runE (stepR p) s.x s.t (madeM (heldW a.at_ (s.held ++ [a.ev])) ts)).2, a.at_, s.came + 1, [], s.out ++ madeM (heldW a.at_ (s.held ++ [a.ev])) ts⟩, madeM (heldW a.at_ (s.held ++ [a.ev])) ts, 0)) := Lib.hid (by
          unfold eventR eventM; rw [HBAD.out, HFUL.out, htm]; rfl)
        have HMD := Lib.hid (rmade_any (W := w5) (A := some ⟨gw, 0, none⟩) (n := s.held.length + 1) (c := cw) (w := heldW a.at_ (s.held ++ [a.ev])) (ts := ts) HHW5.out (IntsAt.of_own HTS.out) (by rw [htl, HWL.out]; exact Nat.le_refl _) (by rw [HWL.out]; omega))
        have HOL : Hid ((madeM (heldW a.at_ (s.held ++ [a.ev])) ts).length = s.held.length + 1) := Lib.hid (by rw [madeM_len2 (by rw [htl, HWL.out]), HWL.out])
        generalize madeM (heldW a.at_ (s.held ++ [a.ev])) ts = o at *
        clear htm HTS htl HHW5
        go_wp2_with fail
        refine HMD.out.mono ?_
        rintro _ w6 ⟨v9, rfl, ho9, hB⟩
        rw [HOL.out] at ho9
        obtain ⟨g9, c9, rfl, _, hg9, _⟩ := own_form ho9 (by omega)
        have HO9 := Lib.hid ho9
        have HE6 := Lib.hid (HE5.out.after hB)
        have HG9 : Hid (w5.heap.size ≤ g9) := Lib.hid hg9
        have HLE5 : Hid (W.heap.size ≤ w5.heap.size) := Lib.hid HE5.out.g.size
        have HRSW : Hid (∀ k ∈ ownL br (.slice (some ⟨g5, 0, none⟩) (s.held.length + 1) c5) (.slice Ao s.out.length co), k < w5.heap.size) := Lib.hid (fun k hk => (HE5.out.e.big k hk).2)
        have HE6 : Hid (EvM wm W w6 rs br 45 (erC p (.slice Ag p.good.length cg) (.slice Ae p.edges.length ce) { s with x := (runE (stepR p) s.x s.t (o.take 0)).1, t := (runE (stepR p) s.x s.t (o.take 0)).2, came := s.came + 1, last := a.at_ } (.slice (some ⟨g5, 0, none⟩) (s.held.length + 1) c5) (.slice Ao s.out.length co)) (.slice (some ⟨g5, 0, none⟩) (s.held.length + 1) c5) (.slice Ao s.out.length co) l9 s.out) := HE6
        have HL0 : Hid (ClOk (runE (stepR p) s.x s.t (o.take 0)).1.cl ∧ LocOk p (runE (stepR p) s.x s.t (o.take 0)).1) := Lib.hid ⟨HH.out.cl, HH.out.loc⟩
        clear ho9 hB hg9 HMD HE5
        go_wp2
        go_loopw [12] (fun s12 wq => ∃ i, i ≤ s.held.length + 1 ∧ s12 = .int .i64 i ∧ EvM wm W wq rs br 45 (erC p (.slice Ag p.good.length cg) (.slice Ae p.edges.length ce) { s with x := (runE (stepR p) s.x s.t (o.take i)).1, t := (runE (stepR p) s.x s.t (o.take i)).2, came := s.came + 1, last := a.at_ } (.slice (some ⟨g5, 0, none⟩) (s.held.length + 1) c5) (.slice Ao s.out.length co)) (.slice (some ⟨g5, 0, none⟩) (s.held.length + 1) c5) (.slice Ao s.out.length co) l9 s.out ∧
          wq.ownsRow w5.heap.size 48 2 (.slice (some ⟨g9, 0, none⟩) (s.held.length + 1) c9) (s.held.length + 1) (o.flatMap psC) ∧ ClOk (runE (stepR p) s.x s.t (o.take i)).1.cl ∧ LocOk p (runE (stepR p) s.x s.t (o.take i)).1) (fun s12 _ => s.held.length + 1 - (intOf s12).toNat)
        case atStart => exact ⟨0, Nat.zero_le _, rfl, HE6.out, HO9.out, HL0.out.1, HL0.out.2⟩
        case round =>
          clear HE6 HO9 HL0
          obtain ⟨i, hi, rfl, hE, hO, hcl, hlo⟩ := hrel
          have HE := Lib.hid hE
          have HO := Lib.hid hO
          have HCL := Lib.hid hcl
          have HLO := Lib.hid hlo
          clear hE hO hcl hlo
          by_cases hlt : i < s.held.length + 1
          · have hdl : decide ((i : Int) < (s.held.length : Int) + 1) = true := by simp; omega
            have hil : (i : Int) < (s.held.length : Int) + 1 := by omega
            obtain ⟨ot1, ot2, ot3, ot4, ot5⟩ := HOT.out i hlt
            have HX1 : Hid (runE (stepR p) s.x s.t (o.take (i + 1)) = (step p.clks.toNat p.edges (runE (stepR p) s.x s.t (o.take i)).1 ((psAt o i).at_ - (runE (stepR p) s.x s.t (o.take i)).2) (psAt o i).ev, (psAt o i).at_)) := Lib.hid (by
              rw [ps_take (by rw [HOL.out]; exact hlt), runE_snoc]; rfl)
            have HC0 : Hid (∀ V : World, V.ownsRow w5.heap.size 48 2 (.slice (some ⟨g9, 0, none⟩) (s.held.length + 1) c9) (s.held.length + 1) (o.flatMap psC) → V.cell? ⟨g9, i * 2, none⟩ = some (.int .i64 (psAt o i).at_)) := Lib.hid (fun V hV => by
              have h1 := hV.cellAt (i * 2) (by omega)
              have h2 := flat_at psC_len o i 0 (by rw [HOL.out]; exact hlt) (by omega)
              rw [Nat.add_zero] at h2
              rw [h1, h2, ← psAt_eq]; rfl)
            have o0 := HC0.out _ HO.out
            have o1 : wr.cell? ⟨g9, i * 2 + 1, none⟩ = some (.int .i64 (psAt o i).ev) := by
              have h1 := HO.out.cellAt (i * 2 + 1) (by omega)
              have h2 := flat_at psC_len o i 1 (by rw [HOL.out]; exact hlt) (by omega)
              rw [h1, h2, ← psAt_eq]; rfl
            have oz := (HO.out.lt g9 rfl).2
            generalize runE (stepR p) s.x s.t (o.take i) = XT at *
            obtain ⟨⟨xl, xc⟩, xt⟩ := XT
            obtain ⟨x0, x1, x2, rfl⟩ : ∃ x0 x1 x2, xc = [x0, x1, x2] := by
              have h3 := HCL.out.1
              match xc, h3 with
              | [x0, x1, x2], _ => exact ⟨x0, x1, x2, rfl⟩
            dsimp only at HX1 ot1 ot2 HCL HLO
            have hwx : IntKind.i64.wrap ((psAt o i).at_ - xt) = (psAt o i).at_ - xt := IntWalk.i64_in _ (by omega)
            have hnk := stepR_cl (p := p) HV.out (x := ⟨xl, [x0, x1, x2]⟩) (ev := (psAt o i).ev) HCL.out ot1
            have hnl := step_loc HV.out (x := ⟨xl, [x0, x1, x2]⟩) HLO.out ((psAt o i).at_ - xt) (psAt o i).ev
            have HST := Lib.hid (fun W' (hW' : Bel wr W') => rstep_any p p.clks.toNat _ _ ⟨xl, [x0, x1, x2]⟩ ((psAt o i).at_ - xt) (psAt o i).ev W' HV.out.cn HV.out.n3 (HH.out.prop.bel (HE.out.e.bel.trans hW')) HS.out HV.out.ed HCL.out ot1 ot2)
            generalize step p.clks.toNat p.edges ⟨xl, [x0, x1, x2]⟩ ((psAt o i).at_ - xt) (psAt o i).ev = nx at *
            obtain ⟨nl, ncl⟩ := nx
            obtain ⟨d0, d1, d2, rfl⟩ : ∃ d0 d1 d2, ncl = [d0, d1, d2] := by
              match ncl, hnk.1 with
              | [x, y, z], _ => exact ⟨x, y, z, rfl⟩
            have HSTP : Hid (∀ W', Bel wr W' → Calls Try.prog 37 #[.agg #[.int .i64 p.evs, .int .i64 p.clks, .int .i64 p.ini, .slice Ag p.good.length cg, .slice Ae p.edges.length ce], .agg #[.int .i64 xl, .int .i64 x0, .int .i64 x1, .int .i64 x2], .int .i64 ((psAt o i).at_ - xt), .int .i64 (psAt o i).ev] W' fun en w' => en = .returned (.agg #[.int .i64 nl, .int .i64 d0, .int .i64 d1, .int .i64 d2]) ∧ Bel W' w') := Lib.hid HST.out
            have HNK := Lib.hid hnk
            have HNL := Lib.hid hnl
            clear hnk hnl HST ot1 ot2 ot3 ot4 ot5
            generalize (psAt o i).at_ = oa at *
            generalize (psAt o i).ev = oe at *
            have f0 := HE.out.e.row.cell (i := 0) rfl
            have f1 := HE.out.e.row.cell (i := 1) rfl
            have f2 := HE.out.e.row.cell (i := 2) rfl
            have f3 := HE.out.e.row.cell (i := 3) rfl
            have f4 := HE.out.e.row.cell (i := 4) rfl
            have f9 := HE.out.e.row.cell (i := 9) rfl
            have f10 := HE.out.e.row.cell (i := 10) rfl
            have f11 := HE.out.e.row.cell (i := 11) rfl
            have f12 := HE.out.e.row.cell (i := 12) rfl
            have f13 := HE.out.e.row.cell (i := 13) rfl
            have fz := HE.out.e.row.lt
            go_upto_region 20 with (fail)
            (refine wp_region_qtail 25 (wb := wr) (by (repeat (first | exact Ext.bel _ | exact Bel.refl | refine Bel.alloc ?_ _ | refine Bel.drew ?_ | refine Bel.drewN ?_ _))) (by kernel_rfl) (by kernel_rfl) ?_; simp only [List.take_succ_cons, List.take_zero, List.drop_succ_cons, List.drop_zero]; (repeat (any_goals (first | go_big_quiet_step ((go_at_call 37; with_reducible exact ext_call (HSTP.out _ (Ext.bel _)))) | quiet_step ((go_at_call 37; with_reducible exact ext_call (HSTP.out _ (Ext.bel _)))) | (refine wpQuiet_step (fun K hK => ?_); go_simp; split <;> (refine hK _ ?_; clear hK K))))); all_goals (refine wpQuiet_nil ?_; intro _ hw'; obtain ⟨y, hw''⟩ := hw'; subst hw''))
            have HE7 := Lib.hid (HE.out.after y.bel)
            have HO7 := Lib.hid (ownsRow_bel HO.out y.bel)
            clear o0 o1 oz f0 f1 f2 f3 f4 f9 f10 f11 f12 f13 fz HE HO HSTP
            generalize y.w = w7 at *
            clear y
            have f9 := HE7.out.e.row.cell (i := 9) rfl
            have f10 := HE7.out.e.row.cell (i := 10) rfl
            have f11 := HE7.out.e.row.cell (i := 11) rfl
            have f12 := HE7.out.e.row.cell (i := 12) rfl
            have k9 := HE7.out.e.row.frozen 9
            have k10 := HE7.out.e.row.frozen 10
            have k11 := HE7.out.e.row.frozen 11
            have k12 := HE7.out.e.row.frozen 12
            have fz := HE7.out.e.row.lt
            go_upto_region 21 with (fail)
            have HE8 := Lib.hid ((((HE7.out.set 9 (.int .i64 nl)).set 10 (.int .i64 d0)).set 11 (.int .i64 d1)).set 12 (.int .i64 d2))
            have HO8 : Hid (((((w7.setCell ⟨br, 9, none⟩ (.int .i64 nl)).setCell ⟨br, 10, none⟩ (.int .i64 d0)).setCell ⟨br, 11, none⟩ (.int .i64 d1)).setCell ⟨br, 12, none⟩ (.int .i64 d2)).ownsRow w5.heap.size 48 2 (.slice (some ⟨g9, 0, none⟩) (s.held.length + 1) c9) (s.held.length + 1) (o.flatMap psC)) := Lib.hid (by
              have g : w7.grownBy ((((w7.setCell ⟨br, 9, none⟩ (.int .i64 nl)).setCell ⟨br, 10, none⟩ (.int .i64 d0)).setCell ⟨br, 11, none⟩ (.int .i64 d1)).setCell ⟨br, 12, none⟩ (.int .i64 d2)) (some br) := gro_set (gro_set (gro_set (gro_set (gro_refl _) 9 _) 10 _) 11 _) 12 _
              exact HO7.out.kept g (own_box_ne HE7.out.e.row HO7.out (by decide)))
            clear f9 f10 f11 f12 k9 k10 k11 k12 fz HE7 HO7
            generalize World.setCell (World.setCell (World.setCell (World.setCell _ _ _) _ _) _ _) _ _ = w8 at *
            have o0 := HC0.out _ HO8.out
            have oz := (HO8.out.lt g9 rfl).2
            have f13 := HE8.out.e.row.cell (i := 13) rfl
            have k13 := HE8.out.e.row.frozen 13
            have fz := HE8.out.e.row.lt
            have HE9 := Lib.hid (HE8.out.set 13 (.int .i64 oa))
            have HO9 := Lib.hid (HO8.out.kept (gro_set (gro_refl _) 13 (.int .i64 oa) : w8.grownBy (w8.setCell ⟨br, 13, none⟩ (.int .i64 oa)) (some br)) (own_box_ne HE8.out.e.row HO8.out (by decide)))
            go_wp2
            go_roundw
            case rel =>
              refine ⟨i + 1, by omega, by go_num, ?_, HO9.out, ?_, ?_⟩
              · rw [HX1.out]; exact HE9.out
              · rw [HX1.out]; exact HNK.out
              · rw [HX1.out]; exact HNL.out
            case measure => simp [intOf]; omega
          · obtain rfl : i = s.held.length + 1 := by omega
            have hdl : decide ((s.held.length : Int) + 1 < (s.held.length : Int) + 1) = false := by simp
            have HFULL : Hid (o.take (s.held.length + 1) = o) := Lib.hid (List.take_of_length_le (by rw [HOL.out]; exact Nat.le_refl _))
            rw [HFULL.out] at HE HCL HLO
            obtain ⟨j0, hj0, hy0, hy1, hy2⟩ := info_parts Try.infoStamp
            have hao := HE.out.e.out
            have f5 := HE.out.e.row.cell (i := 5) rfl
            have fz := HE.out.e.row.lt
            have hoc := HOK.out.came
            have hbl := HE.out.e.bel.le
            go_upto_region 23 with (at_builtin; go_must (refine wpList_append_lies _ rfl _ _ 26 rfl wm.heap.size 48 j0 _ 2 16 Try.underlying26 hj0 hy0 hy1 hy2 rfl (by decide) _ _ _ rfl hao ⟨g9, 0, none⟩ (s.held.length + 1) c9 (o.flatMap psC) rfl (by rw [flat_len psC_len, HOL.out]) (fun j u hu => HO.out.cells (g := g9) rfl j u hu) psC_one (by omega) (by unfold maxLen; omega) (by omega) hbl _ rfl ?_))
            intro g7 c7 w8 hown hgr hlie _
            clear f5 fz hao hoc hbl
            replace hgr : wr.grownBy w8 (Value.slice Ao s.out.length co).ownBlock := hgr
            replace hlie : (Value.slice Ao s.out.length co).ownBlock = some g7 ∨ g7 = wr.heap.size := hlie
            have HE8 := Lib.hid (HE.out.turnO (ov' := .slice (some ⟨g7, 0, none⟩) (s.out.length + (s.held.length + 1)) c7) (ol' := s.out ++ o) hgr (by rw [List.length_append, HOL.out, List.flatMap_append]; exact hown) (by
              intro k e
              simp only [Value.ownBlock, Option.some.injEq] at e
              subst e
              rcases hlie with e | e
              · exact .inl e
              · exact .inr (by rw [e]; exact Nat.le_refl _)))
            have HO8 : Hid (w8.ownsRow w5.heap.size 48 2 (.slice (some ⟨g9, 0, none⟩) (s.held.length + 1) c9) (s.held.length + 1) (o.flatMap psC)) := Lib.hid (HO.out.kept hgr (.inr (fun e => by
              have h1 := HRSW.out g9 (mem_ownL.mpr (.inr (.inr e.symm)))
              have h2 := HG9.out
              omega)))
            have HS8 := Lib.hid ((HE8.out.set 5 (.slice (some ⟨g7, 0, none⟩) (s.out.length + (s.held.length + 1)) c7)).set 6 (.slice none 0 0)).drop
            have f5 := HE8.out.e.row.cell (i := 5) rfl
            have f6 := HE8.out.e.row.cell (i := 6) rfl
            have k5 := HE8.out.e.row.frozen 5
            have k6 := HE8.out.e.row.frozen 6
            have fz := HE8.out.e.row.lt
            have HPO : Hid (REvPost wm W p (.slice Ag p.good.length cg) (.slice Ae p.edges.length ce) br (.slice Ah s.held.length ch) (.slice Ao s.out.length co) (eventR p s a) (.returned (.tuple #[.slice (some ⟨g9, 0, none⟩) (s.held.length + 1) c9, .int .i64 0])) ((w8.setCell ⟨br, 5, none⟩ (.slice (some ⟨g7, 0, none⟩) (s.out.length + (s.held.length + 1)) c7)).setCell ⟨br, 6, none⟩ (.slice none 0 0))) := Lib.hid (by
              have hle := HLE5.out
              rw [HEV.out]
              refine ⟨_, .slice none 0 0, .slice (some ⟨g7, 0, none⟩) (s.out.length + (s.held.length + 1)) c7, rfl, ⟨⟨[], HS8.out.e, rfl⟩, HH.out.prop, HLO.out, HCL.out⟩, by rw [HRS.out]; exact HS8.out.g, fun k hk => by rw [HRS.out]; exact HS8.out.hb k hk, ?_⟩
              have g : w8.grownBy ((w8.setCell ⟨br, 5, none⟩ (.slice (some ⟨g7, 0, none⟩) (s.out.length + (s.held.length + 1)) c7)).setCell ⟨br, 6, none⟩ (.slice none 0 0)) (some br) := gro_set (gro_set (gro_refl _) 5 _) 6 _
              have := HO8.out.kept g (own_box_ne HE8.out.e.row HO8.out (by decide))
              rw [HOL.out]
              exact own_mono this hle)
            clear hown hgr hlie
            go_wp2
            go_ret2
            exact HPO.out
end Go.Proofs.Ythidbmeocifkcaa
