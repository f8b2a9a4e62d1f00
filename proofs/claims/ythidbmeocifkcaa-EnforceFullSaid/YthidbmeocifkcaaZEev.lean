/- enforce: Event of the program. -/
import Derived.Test.YthidbmeocifkcaaG22
import Derived.Test.YthidbmeocifkcaaG26
import Derived.Test.YthidbmeocifkcaaG1
import Derived.Deep.CutRange
namespace Go.Proofs.Ythidbmeocifkcaa
open Go.RowKit
set_option maxRecDepth 100000 in
set_option maxHeartbeats 1000000 in
theorem enone_at {bf : Nat} {ad : Addr} (w : World) (hc : w.cell? ⟨bf, 0, none⟩ = some (.pointer (some ad))) : Calls Try.prog 35 #[.pointer (some ⟨bf, 0, none⟩)] w fun e w' => e = .returned (.bool false) ∧ w = w' := by
  go_enter Try.func35, Try.ntmps35
  go_wp2
  go_ret
  exact ⟨rfl, rfl⟩
set_option maxRecDepth 100000 in
set_option maxHeartbeats 1000000 in
theorem enone_un {bf : Nat} (w : World) (hc : w.cell? ⟨bf, 0, none⟩ = some (.pointer none)) : Calls Try.prog 35 #[.pointer (some ⟨bf, 0, none⟩)] w fun e w' => e = .returned (.bool true) ∧ w = w' := by
  go_enter Try.func35, Try.ntmps35
  go_wp2
  go_ret
  exact ⟨rfl, rfl⟩
set_option maxRecDepth 100000 in
set_option maxHeartbeats 1000000 in
theorem enone_nil (w : World) : Calls Try.prog 35 #[.pointer none] w fun e w' => e = .returned (.bool true) ∧ w = w' := by
  go_enter Try.func35, Try.ntmps35
  go_wp2
  go_ret
  exact ⟨rfl, rfl⟩
def EvPost (wm W : World) (p : PP) (bf bm : Nat) (hv ov : Value) (r : EnS × List PS × Int) (e : Ending) (W' : World) : Prop :=
  ∃ v hv' ov', e = .returned (.tuple #[v, .int .i64 r.2.2]) ∧ EfAt wm W' bf bm p r.1 hv' ov' ∧ GrsOk W (ownL bf hv ov) W' ∧ (∀ k ∈ ownL bf hv' ov', k ∈ ownL bf hv ov ∨ W.heap.size ≤ k) ∧ W'.ownsRow W.heap.size 48 2 v r.2.1.length (r.2.1.flatMap psC) ∧ ∀ k, v.ownBlock = some k → k ∉ ownL bf hv' ov'
set_option maxRecDepth 100000 in
set_option maxHeartbeats 16000000 in
theorem event_any {wm W : World} {p : PP} {bf bm : Nat} {s : EnS} {hv ov : Value} (a : PS) (h : EfAt wm W bf bm p s hv ov) (hok : EnOk p s) (hvl : PValid p p.clks.toNat) (hs : PSized p) (hev : p.evs ≤ 8) (hai : i64 a.at_ ∧ i64 a.ev)
    (hN : evBad p s a = false → evFull s = false → putsM (stepP p) (mostM p) a.at_ (heldW a.at_ (s.held ++ [a.ev])) s.x s.t + 1 < 9223372036854775807) :
    Calls Try.prog 18 #[.pointer (some ⟨bf, 0, none⟩), .agg #[.int .i64 a.at_, .int .i64 a.ev]] W (EvPost wm W p bf bm hv ov (eventP p s a)) := by
  have HH := Lib.hid h
  have HOK := Lib.hid hok
  have HV := Lib.hid hvl
  have HS := Lib.hid hs
  have HAI := Lib.hid hai
  have HN := Lib.hid hN
  have hE0 := EvM.start h.b
  obtain ⟨Ah, ch, rfl, _⟩ := own_slice h.b.held
  obtain ⟨Ao, co, rfl, _⟩ := own_slice h.b.out
  rw [heldW_len] at hE0 HH ⊢
  generalize hrs : ownL bf (.slice Ah s.held.length ch) (.slice Ao s.out.length co) = rs at *
  have HRS := Lib.hid hrs
  have hE := Lib.hid hE0
  clear h hok hvl hs hai hN hE0 hrs
  go_enter Try.func18, Try.ntmps18
  go_upto_region 1 with (fail)
  generalize hW : World.alloc W _ = W1 at *
  have hB : Bel W W1 := by rw [← hW]; exact Bel.refl.alloc _
  have rb : RowAt W1 W.heap.size 48 [.int .i64 a.at_, .int .i64 a.ev] := by rw [← hW]; exact RowAt.new _ _ _
  clear hW
  have HE1 := Lib.hid (hE.out.after hB)
  have HRB := Lib.hid rb
  clear rb hE
  have HBS : Hid (W.heap.size ≤ W.heap.size) := Lib.hid (Nat.le_refl _)
  obtain ⟨bs, hbs⟩ : ∃ b, b = W.heap.size := ⟨_, rfl⟩
  have HBS : Hid (W.heap.size ≤ bs) := Lib.hid (by omega)
  rw [← hbs] at HRB ⊢
  clear hbs hB
  have s0 := HRB.out.cell (i := 0) rfl
  have s1 := HRB.out.cell (i := 1) rfl
  have sz := HRB.out.lt
  have f0 := HE1.out.e.row.cell (i := 0) rfl
  have fz := HE1.out.e.row.lt
  go_wp2_with fail
  refine (enone_at _ f0).mono ?_
  rintro e w2 ⟨rfl, rfl⟩
  have f1 := HE1.out.e.row.cell (i := 1) rfl
  have f7 := HE1.out.e.row.cell (i := 7) rfl
  have hai := HAI.out
  go_upto_region 3 with (fail)
  go_cut [15] from 16 to 41 (fun s15 wx => s15 = .bool (evBad p s a) ∧ ∃ z : Ext W1, wx = z.w)
  case first =>
    cases h1 : decide (a.ev < 0) <;> cases h2 : decide (p.evs ≤ a.ev) <;> cases h3 : decide (a.at_ < s.last) <;> cases h4 : decide (1000000 < a.at_)
    all_goals
      (refine wp_region_ext (wb := W1) (by (repeat (first | exact Ext.bel _ | exact Bel.refl | refine Bel.alloc ?_ _ | refine Bel.drew ?_ | refine Bel.drewN ?_ _))) (by kernel_rfl) (by kernel_rfl) ?_; (repeat (any_goals (first | go_big_quiet_step (fail) | quiet_step (fail) | (refine wpQuiet_step (fun K hK => ?_); go_simp; split <;> (refine hK _ ?_; clear hK K))))); all_goals (refine wpQuiet_nil ?_; intro _ hw'; obtain ⟨y, hw''⟩ := hw'; subst hw''))
      go_wp2
      go_meet
      case rel => exact ⟨by unfold evBad; rw [h1, h2, h3, h4]; rfl, y, rfl⟩
  case rest =>
  obtain ⟨rfl, y, hy⟩ := hcut
  subst hy
  have HE2 := Lib.hid (HE1.out.after y.bel)
  have HRB2 := Lib.hid (HRB.out.bel y.bel)
  clear s0 s1 sz f0 fz f1 f7 HE1 HRB
  generalize y.w = W2 at *
  clear y W1
  cases hbad : evBad p s a
  case true =>
    have HPO : Hid (EvPost wm W p bf bm (.slice Ah s.held.length ch) (.slice Ao s.out.length co) (eventP p s a) (.returned (.tuple #[.slice none 0 0, .int .i64 2])) W2) := Lib.hid (by
      have e : eventP p s a = (s, [], 2) := by unfold eventP eventM; rw [hbad]; rfl
      rw [e]
      exact ⟨_, _, _, rfl, ⟨HE2.out.e, HH.out.mach, HH.out.loc, HH.out.cl⟩, by rw [HRS.out]; exact HE2.out.g, fun k hk => .inl hk, World.ownsRow_nil _ _ _ _, fun k e => by simp [Value.ownBlock] at e⟩)
    clear hbad
    go_wp2
    go_ret2
    exact HPO.out
  have HBAD := Lib.hid hbad
  clear hbad
  have f0 := HE2.out.e.row.cell (i := 0) rfl
  have f8 := HE2.out.e.row.cell (i := 8) rfl
  have f9 := HE2.out.e.row.cell (i := 9) rfl
  have fz := HE2.out.e.row.lt
  go_upto_region 5 with (fail)
  go_cut [42] from 43 to 55 (fun s42 wx => s42 = .bool (evFull s) ∧ ∃ z : Ext W2, wx = z.w)
  case first =>
    cases h1 : decide (s.held.length = 40) <;> cases h2 : decide (s.came = 200)
    all_goals
      have g1 : ((s.held.length : Int) == 40) = decide (s.held.length = 40) := by rw [Bool.eq_iff_iff]; simp; omega
      have g2 : ((s.came : Int) == 200) = decide (s.came = 200) := by rw [Bool.eq_iff_iff]; simp; omega
      rw [h1] at g1
      rw [h2] at g2
      go_wp2
      go_meet
      case rel => exact ⟨by unfold evFull; rw [h1, h2]; rfl, ⟨W2, Bel.refl⟩, rfl⟩
  case rest =>
  obtain ⟨rfl, y, hy⟩ := hcut
  subst hy
  have HE3 := Lib.hid (HE2.out.after y.bel)
  have HRB3 := Lib.hid (HRB2.out.bel y.bel)
  clear f0 f8 f9 fz HE2 HRB2
  generalize y.w = W3 at *
  clear y W2
  cases hful : evFull s
  case true =>
    have HPO : Hid (EvPost wm W p bf bm (.slice Ah s.held.length ch) (.slice Ao s.out.length co) (eventP p s a) (.returned (.tuple #[.slice none 0 0, .int .i64 5])) W3) := Lib.hid (by
      have e : eventP p s a = (s, [], 5) := by unfold eventP eventM; rw [HBAD.out, hful]; rfl
      rw [e]
      exact ⟨_, _, _, rfl, ⟨HE3.out.e, HH.out.mach, HH.out.loc, HH.out.cl⟩, by rw [HRS.out]; exact HE3.out.g, fun k hk => .inl hk, World.ownsRow_nil _ _ _ _, fun k e => by simp [Value.ownBlock] at e⟩)
    clear hful
    go_wp2
    go_ret2
    exact HPO.out
  have HFUL := Lib.hid hful
  clear hful
  obtain ⟨ef1, ef2⟩ := evFull_false HFUL.out
  obtain ⟨eb1, eb2, eb3, eb4⟩ := evBad_false HBAD.out
  have hcame := HOK.out.c200
  have h40 := HOK.out.h40
  have hlst := HOK.out.last
  have s0 := HRB3.out.cell (i := 0) rfl
  have s1 := HRB3.out.cell (i := 1) rfl
  have sz := HRB3.out.lt
  have f7 := HE3.out.e.row.cell (i := 7) rfl
  have f8 := HE3.out.e.row.cell (i := 8) rfl
  have fz := HE3.out.e.row.lt
  have nbf : bs ∉ [bf] := by
    have h1 := HH.out.b.row.lt
    have h2 := HBS.out
    simp; omega
  have hw1 : IntKind.i64.wrap ((s.came : Int) + 1) = (s.came : Int) + 1 := IntWalk.i64_in _ (by omega)
  go_upto_region 7 with (fail)
  (refine wp_region_T (TT W3 [bf] [0, 2, 3, 4, 5, 6, 9, 10] 14) (by kernel_rfl) ?_; refine anyT_takes (fun w' => ∃ y : Grs W3 [bf], w' = y.w) 14 [1, 7, 8] tt_2 (tt_i2 (by rfl)) (fun _ _ _ _ _ h => h) ⟨⟨_, grs_drew _ _⟩, rfl⟩ (by kernel_rfl) (by rfl) ?_; simp only [opsOf, List.filterMap_cons, List.filterMap_nil, List.getElem?_toArray, List.getElem?_cons_succ, List.getElem?_cons_zero, List.foldl_cons, List.foldl_nil]; (repeat (any_goals (first | go_big_quiet_step (fail) | quiet_step (fail)))); refine wpQuiet_nil ?_; refine anyT_takes (fun w' => ∃ y : Grs W3 [], w' = y.w) 11 [0, 2, 3, 4, 5, 6, 9, 10] (tt_1 (by kernel_rfl)) tt_i1 (fun _ _ _ _ _ h => h) ⟨⟨_, grs_drew _ _⟩, rfl⟩ (by kernel_rfl) (by rfl) ?_; simp only [opsOf, List.filterMap_cons, List.filterMap_nil, List.getElem?_toArray, List.getElem?_cons_succ, List.getElem?_cons_zero, List.foldl_cons, List.foldl_nil]; (repeat (any_goals (first | go_big_quiet_step (fail) | quiet_step (fail)))); refine wpQuiet_nil ?_)
  have HE4 := Lib.hid (((HE3.out.set 8 (.int .i64 ((s.came : Int) + 1))).set 7 (.int .i64 a.at_)).after Bel.refl.drew)
  have HRB4 := Lib.hid (((HRB3.out.far (a := ⟨bf, 8, none⟩) (by simpa using nbf) (.int .i64 ((s.came : Int) + 1))).far (a := ⟨bf, 7, none⟩) (by simpa using nbf) (.int .i64 a.at_)).bel Bel.refl.drew)
  have g1 : GrsOk W3 [bf] (W3.drew.setCell ⟨bf, 8, none⟩ (.int .i64 ((s.came : Int) + 1))) := grs_set (grs_drew _ _) bf (by simp) _ _
  have G1 := Lib.hid g1
  have k8 := HE3.out.e.row.frozen 8
  have k7 := HE3.out.e.row.frozen 7
  clear g1
  (refine anyT_one 11 _ (by kernel_rfl) (by rfl) (fun K hK => ?_))
  go_simp
  refine hK _ _ ⟨fun h => absurd h (by decide), fun _ => ⟨⟨_, G1.out⟩, rfl⟩⟩ ?_
  clear hK K
  (refine anyT_one 12 _ (by kernel_rfl) (by rfl) (fun K hK => ?_))
  go_simp
  refine hK _ _ ⟨fun h => absurd h (by decide), fun _ => ⟨⟨_, G1.out⟩, rfl⟩⟩ ?_
  clear hK K
  (refine anyT_one 13 _ (by kernel_rfl) (by rfl) (fun K hK => ?_))
  go_simp
  refine hK _ _ ⟨fun h => absurd h (by decide), fun _ => ⟨⟨_, G1.out⟩, rfl⟩⟩ ?_
  clear hK K
  (refine anyT_one 14 _ (by kernel_rfl) (by rfl) (fun K hK => ?_))
  go_simp
  refine hK _ _ ⟨fun h => absurd h (by decide), fun h => absurd h (by decide)⟩ ?_
  clear hK K
  refine anyT_done (by kernel_rfl) ?_ _
  refine NoPanic.normal ?_
  generalize hW : World.drew (World.setCell (World.setCell _ _ _) _ _) = W4 at *
  have HE5 : Hid (EvM wm W W4 rs bf 61 (enC bm p { s with came := s.came + 1, last := a.at_ } (.slice Ah s.held.length ch) (.slice Ao s.out.length co)) (.slice Ah s.held.length ch) (.slice Ao s.out.length co) (heldW s.last s.held) s.out) := Lib.hid HE4.out
  clear hW HE4 HE3 HRB3 G1 s0 s1 sz f7 f8 fz k7 k8 hw1
  have s0 := HRB4.out.cell (i := 0) rfl
  have s1 := HRB4.out.cell (i := 1) rfl
  have sz := HRB4.out.lt
  have f9 := HE5.out.e.row.cell (i := 9) rfl
  have fz := HE5.out.e.row.lt
  obtain ⟨j0, hj0, hy0, hy1, hy2⟩ := info_parts Try.infoStamp
  obtain ⟨row, hrow⟩ : ∃ r, r = (Value.slice Ah s.held.length ch).ownBlock := ⟨_, rfl⟩
  have hn1 : some bf ≠ row := by rw [hrow]; exact box_row_ne HE5.out.e.row HE5.out.e.held (by decide)
  have hn2 : some bs ≠ row := by
    rw [hrow]
    intro e
    have h1 := HH.out.b.big bs (mem_ownL.mpr (.inr (.inl e.symm)))
    have h2 := HBS.out
    omega
  have HROW := Lib.hid hrow
  clear hrow
  go_upto_region 8 with (fail)
  (refine wp_region_E 8 row (by kernel_rfl) ?_; refine anyE_takes [0, 1, 2, 3, 4, 5] (fun _ _ _ _ _ h => h) ⟨⟨_, gro_drew (gro_refl _)⟩, rfl⟩ (by kernel_rfl) (by rfl) ?_; simp only [opsOf, List.filterMap_cons, List.filterMap_nil, List.getElem?_toArray, List.getElem?_cons_succ, List.getElem?_cons_zero, List.foldl_cons, List.foldl_nil]; (repeat (any_goals (first | go_big_quiet_step (fail) | quiet_step (fail)))); refine wpQuiet_nil ?_)
  have HE6 := Lib.hid (HE5.out.after Bel.refl.drew)
  have HRB6 := Lib.hid (HRB4.out.bel Bel.refl.drew)
  have hgd : Hid (W4.grownBy W4.drew row) := Lib.hid (gro_drew (gro_refl _))
  generalize W4.drew = W5 at *
  clear s0 s1 sz f9 fz HE5 HRB4
  (refine anyE_one 6 _ (by kernel_rfl) (by rfl) (fun K hK => ?_))
  go_simp
  refine hK _ _ (fun _ => ⟨⟨_, gro_alloc hgd.out _⟩, rfl⟩) ?_
  clear hK K
  have hle := HE6.out.e.bel.le
  have hhl := HE6.out.e.held
  rw [heldW_len] at hhl
  (refine anyE_one 7 _ (by kernel_rfl) (by rfl) (fun K hK => ?_))
  rw [if_pos (by rfl)]
  refine wp_append_lies _ _ _ 26 rfl wm.heap.size 48 j0 _ 2 16 Try.underlying26 hj0 hy0 hy1 hy2 rfl (by decide) _ _ _ rfl (hhl.alloc _) ⟨W5.heap.size, 0, none⟩ 1 1 (psC ⟨a.at_, a.ev⟩) rfl rfl (cells_new _ (psC ⟨a.at_, a.ev⟩) _) (by intro u hu; simp [psC] at hu; rcases hu with h | h <;> subst h <;> rfl) (by decide) (by unfold maxLen; omega) (by omega) (by simp; omega) _ rfl ?_
  intro g5 c5 w6 hown hg3 hlie _
  have hg4 : W5.grownBy w6 (Value.slice Ah s.held.length ch).ownBlock := (World.grownBy_alloc W5 _ _).trans hg3
  replace hlie : (Value.slice Ah s.held.length ch).ownBlock = some g5 ∨ g5 = (W5.alloc (.cells #[.int .i64 a.at_, .int .i64 a.ev] 48)).heap.size := hlie
  have HBG : Hid (bs ≠ g5) := Lib.hid (by
    rcases hlie with e | e
    · intro q
      rw [← q] at e
      exact hn2 (by rw [HROW.out]; exact e.symm)
    · have h1 := HRB6.out.lt
      have h2 : (W5.alloc (.cells #[.int .i64 a.at_, .int .i64 a.ev] 48)).heap.size = W5.heap.size + 1 := by simp [go_sem]
      omega)
  have hsz : W5.heap.size ≤ (W5.alloc (.cells #[.int .i64 a.at_, .int .i64 a.ev] 48)).heap.size := by simp [go_sem]
  refine hK _ _ (fun _ => ⟨⟨_, hgd.out.trans (by rw [HROW.out]; exact hg4)⟩, rfl⟩) ?_
  clear hK K
  have HE7 := Lib.hid (HE6.out.turnH (hv' := .slice (some ⟨g5, 0, none⟩) (s.held.length + 1) c5) (hl' := heldW s.last s.held ++ [⟨a.at_, a.ev⟩]) hg4 (by rw [List.length_append, heldW_len, List.flatMap_append]; simpa [psC] using hown) (by
    intro k e
    simp only [Value.ownBlock, Option.some.injEq] at e
    subst e
    rcases hlie with e | e
    · exact .inl e
    · exact .inr (by rw [e]; exact hsz)))
  have HRB7 := Lib.hid (HRB6.out.gro hg4 (by rw [← HROW.out]; exact hn2))
  clear hown hg3 hlie hg4 hsz hhl hle
  have f9 := HE7.out.e.row.cell (i := 9) rfl
  have k9 := HE7.out.e.row.frozen 9
  have fz := HE7.out.e.row.lt
  have HE8 := Lib.hid (HE7.out.set 9 (.slice (some ⟨g5, 0, none⟩) (s.held.length + 1) c5))
  have HRB8 := Lib.hid (HRB7.out.far (a := ⟨bf, 9, none⟩) (by simpa using nbf) (.slice (some ⟨g5, 0, none⟩) (s.held.length + 1) c5))
  (refine anyE_tail 8 (by decide) (by rfl) (by kernel_rfl) ?_; simp only [List.drop_succ_cons, List.drop_zero])
  go_wp2
  refine NoPanic.normal ?_
  generalize hW : World.setCell _ _ _ = W8 at *
  have HE9 : Hid (EvM wm W W8 rs bf 61 (enC bm p { s with came := s.came + 1, last := a.at_ } (.slice (some ⟨g5, 0, none⟩) (s.held.length + 1) c5) (.slice Ao s.out.length co)) (.slice (some ⟨g5, 0, none⟩) (s.held.length + 1) c5) (.slice Ao s.out.length co) (heldW s.last s.held ++ [⟨a.at_, a.ev⟩]) s.out) := Lib.hid HE8.out
  clear hW HE8 HE7 HE6 HRB7 HRB6 hgd f9 k9 fz hn1 hn2 HROW
  have HL9 : Hid ((heldW s.last s.held ++ ([⟨a.at_, a.ev⟩] : List PS)).length = s.held.length + 1) := Lib.hid (by rw [List.length_append, heldW_len]; rfl)
  have HM9 : Hid (setAt (heldW s.last s.held ++ ([⟨a.at_, a.ev⟩] : List PS)) a.at_ (s.held.length + 1) = heldW a.at_ (s.held ++ [a.ev])) := Lib.hid (by
    rw [← HL9.out, setAt_all, List.map_append, heldW_evs]; rfl)
  generalize hl9 : heldW s.last s.held ++ ([⟨a.at_, a.ev⟩] : List PS) = l9 at *
  clear hl9
  have f9 := HE9.out.e.row.cell (i := 9) rfl
  have fz := HE9.out.e.row.lt
  go_wp2
  clear f9 fz
  generalize hcs : enC bm p { s with came := s.came + 1, last := a.at_ } (.slice (some ⟨g5, 0, none⟩) (s.held.length + 1) c5) (.slice Ao s.out.length co) = cs9 at *
  have HCS := Lib.hid hcs
  clear hcs
  have hiN : (((s.held.length + 1 : Nat) : Int)) = (s.held.length : Int) + 1 := rfl
  go_loopw [84] (fun s84 wq => ∃ i, i ≤ s.held.length + 1 ∧ s84 = .int .i64 i ∧ EvM wm W wq rs bf 61 cs9 (.slice (some ⟨g5, 0, none⟩) (s.held.length + 1) c5) (.slice Ao s.out.length co) (setAt l9 a.at_ i) s.out ∧ RowAt wq bs 48 [.int .i64 a.at_, .int .i64 a.ev]) (fun s84 _ => s.held.length + 1 - (intOf s84).toNat)
  case atStart => exact ⟨0, Nat.zero_le _, rfl, HE9.out, HRB8.out⟩
  case round =>
    clear HE9 HRB8
    obtain ⟨i, hi, rfl, hE, hR⟩ := hrel
    have HE := Lib.hid hE
    have HR := Lib.hid hR
    clear hE hR
    by_cases hlt : i < s.held.length + 1
    · have hdl : decide ((i : Int) < (s.held.length : Int) + 1) = true := by simp; omega
      have hil : (i : Int) < (s.held.length : Int) + 1 := by omega
      have f9 : wr.cell? ⟨bf, 9, none⟩ = some (.slice (some ⟨g5, 0, none⟩) (s.held.length + 1) c5) := HE.out.e.row.cell (i := 9) (by rw [← HCS.out]; rfl)
      have fz := HE.out.e.row.lt
      have s0 := HR.out.cell (i := 0) rfl
      have sz := HR.out.lt
      go_upto_region 12 with (fail)
      (refine wp_region_qtail 7 (wb := wr) (by (repeat (first | exact Ext.bel _ | exact Bel.refl | refine Bel.alloc ?_ _ | refine Bel.drew ?_ | refine Bel.drewN ?_ _))) (by kernel_rfl) (by kernel_rfl) ?_; simp only [List.take_succ_cons, List.take_zero, List.drop_succ_cons, List.drop_zero]; (repeat (any_goals (first | go_big_quiet_step (fail) | quiet_step (fail) | (refine wpQuiet_step (fun K hK => ?_); go_simp; split <;> (refine hK _ ?_; clear hK K))))); all_goals (refine wpQuiet_nil ?_; intro _ hw'; obtain ⟨y, hw''⟩ := hw'; subst hw''))
      have HEy := Lib.hid (HE.out.after y.bel)
      have HRy := Lib.hid (HR.out.bel y.bel)
      clear HE HR f9 fz s0 sz
      have ho := HEy.out.e.held
      rw [setAt_len, HL9.out] at ho
      have hg := (ho.lt g5 rfl).2
      have e0 : y.w.cell? ⟨g5, i * 2, none⟩ = some (.int .i64 (psAt l9 i).at_) := by
        have h1 := ho.cellAt (i * 2) (by omega)
        have h2 := flat_at psC_len (setAt l9 a.at_ i) i 0 (by rw [setAt_len, HL9.out]; exact hlt) (by omega)
        rw [Nat.add_zero] at h2
        rw [h1, h2, ← psAt_eq, setAt_at (by rw [HL9.out]; exact hlt)]; rfl
      have e1 := ho.frozenAt (i * 2)
      have h3 := ho.stored (i * 2) (.int .i64 a.at_)
      have hst := flat_set psC_len (setAt l9 a.at_ i) i 0 ⟨a.at_, (psAt l9 i).ev⟩ (.int .i64 a.at_) (by rw [setAt_len, HL9.out]; exact hlt) (by omega) (by rw [← psAt_eq, setAt_at (by rw [HL9.out]; exact hlt)]; rfl)
      rw [Nat.add_zero, setAt_set (by rw [HL9.out]; exact hlt)] at hst
      rw [hst] at h3
      have HEN := Lib.hid (HEy.out.turnH (hl' := setAt l9 a.at_ (i + 1)) h3.2 (by rw [setAt_len, HL9.out]; exact h3.1) (fun k e => .inl e))
      have HRN := Lib.hid (HRy.out.far (a := ⟨g5, i * 2, none⟩) HBG.out (.int .i64 a.at_))
      clear ho h3 hst HEy HRy
      go_wp2
      go_roundw
      case rel => exact ⟨i + 1, by omega, by go_num, HEN.out, HRN.out⟩
      case measure => simp [intOf]; omega
    · obtain rfl : i = s.held.length + 1 := by omega
      have hdl : decide ((s.held.length : Int) + 1 < (s.held.length : Int) + 1) = false := by simp
      rw [HM9.out] at HE
      have hx : (⟨s.x.loc, [s.x.cl.getD 0 0, s.x.cl.getD 1 0, s.x.cl.getD 2 0]⟩ : Pt) = s.x := by
        have h3 := HH.out.cl.1
        generalize s.x = x at *
        obtain ⟨xl, xc⟩ := x
        match xc, h3 with
        | [x0, x1, x2], _ => rfl
      have HX := Lib.hid hx
      have hwl : (heldW a.at_ (s.held ++ [a.ev])).length = s.held.length + 1 := by simp [heldW]
      have HWL := Lib.hid hwl
      have hEL : endL s.t (heldW a.at_ (s.held ++ [a.ev])) = a.at_ := by
        have h0 : 0 < (heldW a.at_ (s.held ++ [a.ev])).length := by rw [hwl]; omega
        unfold endL
        rw [if_pos h0, ← endW_at h0]; exact endW_held
      have hst : StampsAt wr wr.heap.size (.slice (some ⟨g5, 0, none⟩) (heldW a.at_ (s.held ++ [a.ev])).length c5) (heldW a.at_ (s.held ++ [a.ev])) := by
        have ho := HE.out.e.held
        rw [hwl] at ho ⊢
        exact stamps_own hwl.symm ho
      have hwok : ∀ u ∈ heldW a.at_ (s.held ++ [a.ev]), 0 ≤ u.at_ ∧ u.at_ ≤ 1000000 ∧ i64 u.ev := fun u hu => by
        obtain ⟨h1, h2⟩ := heldW_mem hu
        rw [h1]
        refine ⟨by omega, eb4, ?_⟩
        rcases List.mem_append.mp h2 with h2 | h2
        · have := HOK.out.ev _ h2
          unfold i64; omega
        · simp at h2; rw [h2]; exact HAI.out.2
      have HWOK := Lib.hid hwok
      have ht := HOK.out.t
      have hoc := HOK.out.came
      have HTM := Lib.hid (fun (V : World) (hV : Bel wr V) => times_any (W := V) (A := some ⟨g5, 0, none⟩) (c := c5) (w := heldW a.at_ (s.held ++ [a.ev])) s.x.loc (s.x.cl.getD 0 0) (s.x.cl.getD 1 0) (s.x.cl.getD 2 0) s.t HV.out HS.out (HH.out.mach.bel (HE.out.e.bel.trans hV)) (hst.bel hV) hwok (by rw [hwl]; omega) ht.1 (by omega)
        (by rw [hx]; exact HH.out.loc) (by have := HH.out.cl; rw [← hx] at this; exact this) (by rw [hx, hEL]; exact HN.out HBAD.out HFUL.out))
      rw [hx, hwl] at HTM
      have HTE : Hid (srP p (endL s.t (heldW a.at_ (s.held ++ [a.ev]))) (heldW a.at_ (s.held ++ [a.ev])) s.x s.t = timesP p s.x s.t (heldW a.at_ (s.held ++ [a.ev]))) := Lib.hid (timesP_eq _ _ _ _)
      have f0 : wr.cell? ⟨bf, 0, none⟩ = some (.pointer (some ⟨bm, 0, none⟩)) := HE.out.e.row.cell (i := 0) (by rw [← HCS.out]; rfl)
      have f2 : wr.cell? ⟨bf, 2, none⟩ = some (.int .i64 s.x.loc) := HE.out.e.row.cell (i := 2) (by rw [← HCS.out]; rfl)
      have f3 : wr.cell? ⟨bf, 3, none⟩ = some (.int .i64 (s.x.cl.getD 0 0)) := HE.out.e.row.cell (i := 3) (by rw [← HCS.out]; rfl)
      have f4 : wr.cell? ⟨bf, 4, none⟩ = some (.int .i64 (s.x.cl.getD 1 0)) := HE.out.e.row.cell (i := 4) (by rw [← HCS.out]; rfl)
      have f5 : wr.cell? ⟨bf, 5, none⟩ = some (.int .i64 (s.x.cl.getD 2 0)) := HE.out.e.row.cell (i := 5) (by rw [← HCS.out]; rfl)
      have f6 : wr.cell? ⟨bf, 6, none⟩ = some (.int .i64 s.t) := HE.out.e.row.cell (i := 6) (by rw [← HCS.out]; rfl)
      have f9 : wr.cell? ⟨bf, 9, none⟩ = some (.slice (some ⟨g5, 0, none⟩) (s.held.length + 1) c5) := HE.out.e.row.cell (i := 9) (by rw [← HCS.out]; rfl)
      have fz := HE.out.e.row.lt
      clear hx hwl hEL hst hwok ht hoc
      go_upto_region 14 with (fail)
      (refine wp_region_E 21 none (by kernel_rfl) ?_; refine anyE_takes [0, 1, 2, 3, 4, 5, 6, 7, 8, 9, 10, 11, 12, 13, 14, 15] (fun _ _ _ _ _ h => h) ⟨⟨_, gro_drew (gro_refl _)⟩, rfl⟩ (by kernel_rfl) (by rfl) ?_; simp only [opsOf, List.filterMap_cons, List.filterMap_nil, List.getElem?_toArray, List.getElem?_cons_succ, List.getElem?_cons_zero, List.foldl_cons, List.foldl_nil]; (repeat (any_goals (first | go_big_quiet_step (fail) | quiet_step (fail)))); refine wpQuiet_nil ?_)
      have G0 : Hid (Bel wr wr.drew) := Lib.hid (gro_bel (gro_drew (gro_refl _)))
      clear f0 f2 f3 f4 f5 f6 f9 fz
      generalize wr.drew = wf at *
      (refine anyE_one 16 _ (by kernel_rfl) (by rfl) (fun K hK => ?_))
      rw [if_pos (by rfl)]
      go_simp
      refine (HTM.out wf G0.out).mono ?_
      rintro _ w5 ⟨gt, ts, rfl, hgt, hrow, htsl, hB, hlt2⟩
      refine hK _ _ (fun _ => ⟨⟨_, gro_of_bel (G0.out.trans hB)⟩, rfl⟩) ?_
      clear hK K
      (refine anyE_takes [17, 18, 19, 20] (fun _ _ _ _ _ h => h) ⟨⟨_, gro_of_bel (G0.out.trans hB)⟩, rfl⟩ (by kernel_rfl) (by rfl) ?_; simp only [opsOf, List.filterMap_cons, List.filterMap_nil, List.getElem?_toArray, List.getElem?_cons_succ, List.getElem?_cons_zero, List.foldl_cons, List.foldl_nil]; (repeat (any_goals (first | go_big_quiet_step (fail) | quiet_step (fail)))); refine wpQuiet_nil ?_)
      have HE5 := Lib.hid (HE.out.after (G0.out.trans hB))
      have HRW := Lib.hid hrow
      have HTS := Lib.hid htsl
      have HLT := Lib.hid hlt2
      rw [HTE.out] at HLT ⊢
      rw [HWL.out] at HTS
      try rw [HWL.out]
      clear hB hrow hgt htsl hlt2 G0 HTM HE HR
      (refine anyE_tail 21 (by decide) (by rfl) (by kernel_rfl) ?_; simp only [List.drop_succ_cons, List.drop_zero])
      go_wp2
      refine NoPanic.normal ?_
      cases htm : timesP p s.x s.t (heldW a.at_ (s.held ++ [a.ev])) with
      | none =>
        simp only [Option.isSome_none]
        have HPO : Hid (EvPost wm W p bf bm (.slice Ah s.held.length ch) (.slice Ao s.out.length co) (eventP p s a) (.returned (.tuple #[.slice none 0 0, .int .i64 0])) w5) := Lib.hid (by
          have e : eventP p s a = ({ s with last := a.at_, came := s.came + 1, held := s.held ++ [a.ev] }, [], 0) := by unfold eventP eventM; rw [HBAD.out, HFUL.out, htm]; rfl
          rw [e]
          exact ⟨_, _, _, rfl, ⟨by have := HE5.out.e; rw [← HCS.out] at this; exact this, HH.out.mach, HH.out.loc, HH.out.cl⟩, by rw [HRS.out]; exact HE5.out.g, fun k hk => by rw [HRS.out]; exact HE5.out.hb k hk, World.ownsRow_nil _ _ _ _, fun k e => by simp [Value.ownBlock] at e⟩)
        clear htm HLT
        go_wp2
        go_ret2
        exact HPO.out
      | some l =>
        simp only [Option.isSome_some]
        obtain rfl : ts = l := HLT.out l htm
        have HOT := Lib.hid (fun i (hi : i < s.held.length + 1) => out_times (stp := stepP p) HV.out hev HOK.out HBAD.out HFUL.out htm hi)
        have HSM : Hid (s.held.length + 1 = ts.length) := Lib.hid HTS.out.symm
        have HEV : Hid (eventP p s a = (⟨(runE (stepP p) s.x s.t (madeM (heldW a.at_ (s.held ++ [a.ev])) ts)).1, (runE (stepP p) s.x s.t (madeM (heldW a.at_ (s.held ++ [a.ev])) ts)).2, a.at_, s.came + 1, [], s.out ++ madeM (heldW a.at_ (s.held ++ [a.ev])) ts⟩, madeM (heldW a.at_ (s.held ++ [a.ev])) ts, 0)) := Lib.hid (by
          unfold eventP eventM; rw [HBAD.out, HFUL.out, htm]; rfl)
        have hst : StampsAt w5 w5.heap.size (.slice (some ⟨g5, 0, none⟩) (heldW a.at_ (s.held ++ [a.ev])).length c5) (heldW a.at_ (s.held ++ [a.ev])) := by
          have ho := HE5.out.e.held
          rw [HWL.out] at ho ⊢
          exact stamps_own HWL.out.symm ho
        have HST := Lib.hid (stamped_any hst (ints_row HRW.out) (by rw [HTS.out, HWL.out]) (by rw [HWL.out]; omega))
        have HOL : Hid ((madeM (heldW a.at_ (s.held ++ [a.ev])) ts).length = s.held.length + 1) := Lib.hid (by rw [madeM_len2 (by rw [HTS.out, HWL.out]), HWL.out])
        rw [HTS.out, HWL.out] at HST
        generalize madeM (heldW a.at_ (s.held ++ [a.ev])) ts = o at *
        clear hst htm HLT HRW HWOK HTE
        have f9 : w5.cell? ⟨bf, 9, none⟩ = some (.slice (some ⟨g5, 0, none⟩) (s.held.length + 1) c5) := HE5.out.e.row.cell (i := 9) (by rw [← HCS.out]; rfl)
        have fz := HE5.out.e.row.lt
        go_wp2_with fail
        refine HST.out.mono ?_
        rintro _ w6 ⟨v9, rfl, ho9, hB⟩
        rw [HOL.out] at ho9
        obtain ⟨g9, c9, rfl, _, hg9, _⟩ := own_form ho9 (by omega)
        have HO9 := Lib.hid ho9
        have HE6 := Lib.hid (HE5.out.after hB)
        have HG9 : Hid (w5.heap.size ≤ g9) := Lib.hid hg9
        have HLE5 : Hid (W.heap.size ≤ w5.heap.size) := Lib.hid HE5.out.g.size
        have HRSW : Hid (∀ k ∈ ownL bf (.slice (some ⟨g5, 0, none⟩) (s.held.length + 1) c5) (.slice Ao s.out.length co), k < w5.heap.size) := Lib.hid (fun k hk => (HE5.out.e.big k hk).2)
        have HCX : Hid (cs9 = enC bm p { s with x := (runE (stepP p) s.x s.t (o.take 0)).1, t := (runE (stepP p) s.x s.t (o.take 0)).2, came := s.came + 1, last := a.at_ } (.slice (some ⟨g5, 0, none⟩) (s.held.length + 1) c5) (.slice Ao s.out.length co)) := Lib.hid (by rw [← HCS.out]; rfl)
        rw [HCX.out] at HE6
        have HL0 : Hid (Cl3 (mostM p) (runE (stepP p) s.x s.t (o.take 0)).1.cl ∧ LocOk p (runE (stepP p) s.x s.t (o.take 0)).1) := Lib.hid ⟨HH.out.cl, HH.out.loc⟩
        clear f9 fz ho9 hB hg9 HST HE5 HCX HCS
        go_wp2
        go_loopw [127] (fun s127 wq => ∃ i, i ≤ s.held.length + 1 ∧ s127 = .int .i64 i ∧ EvM wm W wq rs bf 61 (enC bm p { s with x := (runE (stepP p) s.x s.t (o.take i)).1, t := (runE (stepP p) s.x s.t (o.take i)).2, came := s.came + 1, last := a.at_ } (.slice (some ⟨g5, 0, none⟩) (s.held.length + 1) c5) (.slice Ao s.out.length co)) (.slice (some ⟨g5, 0, none⟩) (s.held.length + 1) c5) (.slice Ao s.out.length co) (heldW a.at_ (s.held ++ [a.ev])) s.out ∧
          wq.ownsRow w5.heap.size 48 2 (.slice (some ⟨g9, 0, none⟩) (s.held.length + 1) c9) (s.held.length + 1) (o.flatMap psC) ∧ Cl3 (mostM p) (runE (stepP p) s.x s.t (o.take i)).1.cl ∧ LocOk p (runE (stepP p) s.x s.t (o.take i)).1) (fun s127 _ => s.held.length + 1 - (intOf s127).toNat)
        case atStart => exact ⟨0, Nat.zero_le _, rfl, HE6.out, HO9.out, HL0.out.1, HL0.out.2⟩
        case round =>
          clear HE6 HO9 HL0
          obtain ⟨i, hi, rfl, hE, hO, hcl, hlo⟩ := hrel
          have HE := Lib.hid hE
          have HO := Lib.hid hO
          have HCL := Lib.hid hcl
          have HLO := Lib.hid hlo
          clear hE hO hcl hlo
          by_cases hlt : i < s.held.length + 1
          · have hdl : decide ((i : Int) < (s.held.length : Int) + 1) = true := by simp; omega
            have hil : (i : Int) < (s.held.length : Int) + 1 := by omega
            obtain ⟨ot1, ot2, ot3, ot4, ot5⟩ := HOT.out i hlt
            have HX1 : Hid (runE (stepP p) s.x s.t (o.take (i + 1)) = (step3 (mostM p) p.edges (runE (stepP p) s.x s.t (o.take i)).1 ((psAt o i).at_ - (runE (stepP p) s.x s.t (o.take i)).2) (psAt o i).ev, (psAt o i).at_)) := Lib.hid (by
              rw [ps_take (by rw [HOL.out]; exact hlt), runE_snoc]; rfl)
            have o0 : wr.cell? ⟨g9, i * 2, none⟩ = some (.int .i64 (psAt o i).at_) := by
              have h1 := HO.out.cellAt (i * 2) (by omega)
              have h2 := flat_at psC_len o i 0 (by rw [HOL.out]; exact hlt) (by omega)
              rw [Nat.add_zero] at h2
              rw [h1, h2, ← psAt_eq]; rfl
            have o1 : wr.cell? ⟨g9, i * 2 + 1, none⟩ = some (.int .i64 (psAt o i).ev) := by
              have h1 := HO.out.cellAt (i * 2 + 1) (by omega)
              have h2 := flat_at psC_len o i 1 (by rw [HOL.out]; exact hlt) (by omega)
              rw [h1, h2, ← psAt_eq]; rfl
            have oz := (HO.out.lt g9 rfl).2
            have hM := most_bd HV.out
            generalize runE (stepP p) s.x s.t (o.take i) = XT at *
            obtain ⟨⟨xl, xc⟩, xt⟩ := XT
            obtain ⟨x0, x1, x2, rfl⟩ : ∃ x0 x1 x2, xc = [x0, x1, x2] := by
              have h3 := HCL.out.1
              match xc, h3 with
              | [x0, x1, x2], _ => exact ⟨x0, x1, x2, rfl⟩
            dsimp only at HX1 ot1 ot2 HCL HLO
            have hwx : IntKind.i64.wrap ((psAt o i).at_ - xt) = (psAt o i).at_ - xt := IntWalk.i64_in _ (by omega)
            have hnk := step3_ok (es := p.edges) (x := ⟨xl, [x0, x1, x2]⟩) (ev := (psAt o i).ev) hM.1 HCL.out ot1
            have hnl := step3_loc HV.out (mostM p) (x := ⟨xl, [x0, x1, x2]⟩) ((psAt o i).at_ - xt) (psAt o i).ev
            have HST := Lib.hid (fun W' (hW' : Bel wr W') => mstep_any p bm ⟨xl, [x0, x1, x2]⟩ ((psAt o i).at_ - xt) (psAt o i).ev W' (HH.out.mach.bel (HE.out.e.bel.trans hW')) ⟨hM.1, hM.2.1⟩ (rst_of HV.out) HS.out.e (fun y hy => (HS.out.x y hy).2) HCL.out (by have h1 : -1 ≤ xl := HLO.out.1; have h2 : xl < p.good.length := HLO.out.2; have := HS.out.g; show i64 xl; unfold i64; omega) ot5 ot1 ot2)
            generalize step3 (mostM p) p.edges ⟨xl, [x0, x1, x2]⟩ ((psAt o i).at_ - xt) (psAt o i).ev = nx at *
            obtain ⟨nl, ncl⟩ := nx
            obtain ⟨d0, d1, d2, rfl⟩ : ∃ d0 d1 d2, ncl = [d0, d1, d2] := by
              match ncl, hnk.1 with
              | [x, y, z], _ => exact ⟨x, y, z, rfl⟩
            have HSTP : Hid (∀ W', Bel wr W' → Calls Try.prog 36 #[.pointer (some ⟨bm, 0, none⟩), .agg #[.int .i64 xl, .int .i64 x0, .int .i64 x1, .int .i64 x2], .int .i64 ((psAt o i).at_ - xt), .int .i64 (psAt o i).ev] W' fun en w' => en = .returned (.agg #[.int .i64 nl, .int .i64 d0, .int .i64 d1, .int .i64 d2]) ∧ Bel W' w') := Lib.hid HST.out
            have HNK := Lib.hid hnk
            have HNL := Lib.hid hnl
            clear hnk hnl HST hM ot1 ot2 ot3 ot4 ot5
            generalize (psAt o i).at_ = oa at *
            generalize (psAt o i).ev = oe at *
            go_upto_region 21 with (fail)
            generalize hW : World.alloc wr _ = wa at *
            have hB : Bel wr wa := by rw [← hW]; exact Bel.refl.alloc _
            have rbo : RowAt wa wr.heap.size 48 [.int .i64 oa, .int .i64 oe] := by rw [← hW]; exact RowAt.new _ _ _
            clear hW o0 o1 oz
            have hbn : wr.heap.size ≠ bf := by have := HE.out.e.row.lt; omega
            have HEa := Lib.hid (HE.out.after hB)
            have HOa := Lib.hid (ownsRow_bel HO.out hB)
            have HBa := Lib.hid hB
            generalize wr.heap.size = bo at *
            have nbo : bo ∉ [bf] := by simpa using hbn
            have o0 := rbo.cell (i := 0) rfl
            have o1 := rbo.cell (i := 1) rfl
            have oz := rbo.lt
            have f0 := HEa.out.e.row.cell (i := 0) rfl
            have f2 := HEa.out.e.row.cell (i := 2) rfl
            have f3 := HEa.out.e.row.cell (i := 3) rfl
            have f4 := HEa.out.e.row.cell (i := 4) rfl
            have f5 := HEa.out.e.row.cell (i := 5) rfl
            have f6 := HEa.out.e.row.cell (i := 6) rfl
            have fz := HEa.out.e.row.lt
            clear HE HO hB rbo hbn
            (refine wp_region_T (TT wa [bf] [0, 2, 3, 4, 5, 6, 7, 8, 9, 10, 11, 12, 13, 14, 15, 16, 17, 18, 19, 22, 23] 27) (by kernel_rfl) ?_; refine anyT_takes (fun w' => ∃ y : Grs wa [bf], w' = y.w) 27 [1, 20, 21] tt_2 (tt_i2 (by rfl)) (fun _ _ _ _ _ h => h) ⟨⟨_, grs_drew _ _⟩, rfl⟩ (by kernel_rfl) (by rfl) ?_; simp only [opsOf, List.filterMap_cons, List.filterMap_nil, List.getElem?_toArray, List.getElem?_cons_succ, List.getElem?_cons_zero, List.foldl_cons, List.foldl_nil]; (repeat (any_goals (first | go_big_quiet_step (fail) | quiet_step (fail)))); refine wpQuiet_nil ?_; refine anyT_takes (fun w' => ∃ y : Grs wa [], w' = y.w) 24 [0, 2, 3, 4, 5, 6, 7, 8, 9, 10, 11, 12, 13, 14, 15, 16, 17, 18] (tt_1 (by kernel_rfl)) tt_i1 (fun _ _ _ _ _ h => h) ⟨⟨_, grs_drew _ _⟩, rfl⟩ (by kernel_rfl) (by rfl) ?_; simp only [opsOf, List.filterMap_cons, List.filterMap_nil, List.getElem?_toArray, List.getElem?_cons_succ, List.getElem?_cons_zero, List.foldl_cons, List.foldl_nil]; (repeat (any_goals (first | go_big_quiet_step (fail) | quiet_step (fail)))); refine wpQuiet_nil ?_)
            (refine anyT_one 19 _ (by kernel_rfl) (by rfl) (fun K hK => ?_))
            rw [if_pos (by rfl)]
            go_simp
            refine (HSTP.out wa.drew (HBa.out.trans Bel.refl.drew)).mono ?_
            rintro _ w7 ⟨rfl, hB⟩
            have hB7 : Bel wa w7 := Bel.trans Bel.refl.drew hB
            have G7 := Lib.hid (grs_bel (rs := []) hB7)
            have G7b := Lib.hid (grs_bel (rs := [bf]) hB7)
            have HE7 := Lib.hid (HEa.out.after hB7)
            have HO7 := Lib.hid (ownsRow_bel HOa.out hB7)
            refine hK _ _ ⟨fun _ => ⟨⟨_, G7.out⟩, rfl⟩, fun _ => ⟨⟨_, G7b.out⟩, rfl⟩⟩ ?_
            clear hK K hB hB7 o0 o1 oz f0 f2 f3 f4 f5 f6 fz HEa HOa HSTP
            have f2 := HE7.out.e.row.cell (i := 2) rfl
            have f3 := HE7.out.e.row.cell (i := 3) rfl
            have f4 := HE7.out.e.row.cell (i := 4) rfl
            have f5 := HE7.out.e.row.cell (i := 5) rfl
            have f6 := HE7.out.e.row.cell (i := 6) rfl
            have k2 := HE7.out.e.row.frozen 2
            have k3 := HE7.out.e.row.frozen 3
            have k4 := HE7.out.e.row.frozen 4
            have k5 := HE7.out.e.row.frozen 5
            have k6 := HE7.out.e.row.frozen 6
            have fz := HE7.out.e.row.lt
            have G8 : Hid (GrsOk wa [bf] ((((w7.setCell ⟨bf, 2, none⟩ (.int .i64 nl)).setCell ⟨bf, 3, none⟩ (.int .i64 d0)).setCell ⟨bf, 4, none⟩ (.int .i64 d1)).setCell ⟨bf, 5, none⟩ (.int .i64 d2))) := Lib.hid (grs_set (grs_set (grs_set (grs_set G7b.out bf (by simp) _ _) bf (by simp) _ _) bf (by simp) _ _) bf (by simp) _ _)
            (refine anyT_one 22 _ (by kernel_rfl) (by rfl) (fun K hK => ?_))
            go_simp
            refine hK _ _ ⟨fun _ => ⟨⟨_, G7.out⟩, rfl⟩, fun _ => ⟨⟨_, G7b.out⟩, rfl⟩⟩ ?_
            clear hK K
            (refine anyT_one 23 _ (by kernel_rfl) (by rfl) (fun K hK => ?_))
            go_simp
            refine hK _ _ ⟨fun _ => ⟨⟨_, G7.out⟩, rfl⟩, fun _ => ⟨⟨_, G7b.out⟩, rfl⟩⟩ ?_
            clear hK K
            (refine anyT_one 24 _ (by kernel_rfl) (by rfl) (fun K hK => ?_))
            go_simp
            refine hK _ _ ⟨fun h => absurd h (by decide), fun _ => ⟨⟨_, G8.out⟩, rfl⟩⟩ ?_
            clear hK K
            (refine anyT_one 25 _ (by kernel_rfl) (by rfl) (fun K hK => ?_))
            go_simp
            refine hK _ _ ⟨fun h => absurd h (by decide), fun _ => ⟨⟨_, G8.out⟩, rfl⟩⟩ ?_
            clear hK K
            (refine anyT_one 26 _ (by kernel_rfl) (by rfl) (fun K hK => ?_))
            go_simp
            refine hK _ _ ⟨fun h => absurd h (by decide), fun _ => ⟨⟨_, G8.out⟩, rfl⟩⟩ ?_
            clear hK K
            (refine anyT_one 27 _ (by kernel_rfl) (by rfl) (fun K hK => ?_))
            go_simp
            refine hK _ _ ⟨fun h => absurd h (by decide), fun h => absurd h (by decide)⟩ ?_
            clear hK K
            refine anyT_done (by kernel_rfl) ?_ _
            refine NoPanic.normal ?_
            have HE9 := Lib.hid (((((HE7.out.set 2 (.int .i64 nl)).set 3 (.int .i64 d0)).set 4 (.int .i64 d1)).set 5 (.int .i64 d2)).set 6 (.int .i64 oa))
            have HO9 : Hid ((((((w7.setCell ⟨bf, 2, none⟩ (.int .i64 nl)).setCell ⟨bf, 3, none⟩ (.int .i64 d0)).setCell ⟨bf, 4, none⟩ (.int .i64 d1)).setCell ⟨bf, 5, none⟩ (.int .i64 d2)).setCell ⟨bf, 6, none⟩ (.int .i64 oa)).ownsRow w5.heap.size 48 2 (.slice (some ⟨g9, 0, none⟩) (s.held.length + 1) c9) (s.held.length + 1) (o.flatMap psC)) := Lib.hid (by
              have g : w7.grownBy (((((w7.setCell ⟨bf, 2, none⟩ (.int .i64 nl)).setCell ⟨bf, 3, none⟩ (.int .i64 d0)).setCell ⟨bf, 4, none⟩ (.int .i64 d1)).setCell ⟨bf, 5, none⟩ (.int .i64 d2)).setCell ⟨bf, 6, none⟩ (.int .i64 oa)) (some bf) := gro_set (gro_set (gro_set (gro_set (gro_set (gro_refl _) 2 _) 3 _) 4 _) 5 _) 6 _
              exact HO7.out.kept g (own_box_ne HE7.out.e.row HO7.out (by decide)))
            clear f2 f3 f4 f5 f6 k2 k3 k4 k5 k6 fz HE7 HO7 G7 G7b G8
            generalize World.setCell (World.setCell (World.setCell (World.setCell (World.setCell _ _ _) _ _) _ _) _ _) _ _ = w9 at *
            go_wp2
            go_roundw
            case rel =>
              refine ⟨i + 1, by omega, by go_num, ?_, HO9.out, ?_, ?_⟩
              · rw [HX1.out]; exact HE9.out
              · rw [HX1.out]; exact HNK.out
              · rw [HX1.out]; exact HNL.out
            case measure => simp [intOf]; omega
          · obtain rfl : i = s.held.length + 1 := by omega
            have hdl : decide ((s.held.length : Int) + 1 < (s.held.length : Int) + 1) = false := by simp
            have HFULL : Hid (o.take (s.held.length + 1) = o) := Lib.hid (List.take_of_length_le (by rw [HOL.out]; exact Nat.le_refl _))
            rw [HFULL.out] at HE HCL HLO
            obtain ⟨j0, hj0, hy0, hy1, hy2⟩ := info_parts Try.infoStamp
            have hao := HE.out.e.out
            have f10 := HE.out.e.row.cell (i := 10) rfl
            have fz := HE.out.e.row.lt
            have hoc := HOK.out.came
            have hbl := HE.out.e.bel.le
            go_wp2_with (at_builtin; go_must (refine wpList_append_lies _ rfl _ _ 26 rfl wm.heap.size 48 j0 _ 2 16 Try.underlying26 hj0 hy0 hy1 hy2 rfl (by decide) _ _ _ rfl hao ⟨g9, 0, none⟩ (s.held.length + 1) c9 (o.flatMap psC) rfl (by rw [flat_len psC_len, HOL.out]) (fun j u hu => HO.out.cells (g := g9) rfl j u hu) psC_one (by omega) (by unfold maxLen; omega) (by omega) hbl _ rfl ?_))
            intro g7 c7 w8 hown hgr hlie _
            clear f10 fz hao hoc hbl
            replace hgr : wr.grownBy w8 (Value.slice Ao s.out.length co).ownBlock := hgr
            replace hlie : (Value.slice Ao s.out.length co).ownBlock = some g7 ∨ g7 = wr.heap.size := hlie
            have HE8 := Lib.hid (HE.out.turnO (ov' := .slice (some ⟨g7, 0, none⟩) (s.out.length + (s.held.length + 1)) c7) (ol' := s.out ++ o) hgr (by rw [List.length_append, HOL.out, List.flatMap_append]; exact hown) (by
              intro k e
              simp only [Value.ownBlock, Option.some.injEq] at e
              subst e
              rcases hlie with e | e
              · exact .inl e
              · exact .inr (by rw [e]; exact Nat.le_refl _)))
            have HO8 : Hid (w8.ownsRow w5.heap.size 48 2 (.slice (some ⟨g9, 0, none⟩) (s.held.length + 1) c9) (s.held.length + 1) (o.flatMap psC)) := Lib.hid (HO.out.kept hgr (.inr (fun e => by
              have h1 := HRSW.out g9 (mem_ownL.mpr (.inr (.inr e.symm)))
              have h2 := HG9.out
              omega)))
            have HNE : Hid (∀ k, (Value.slice (some ⟨g9, 0, none⟩) (s.held.length + 1) c9).ownBlock = some k → k ∉ ownL bf (.slice none 0 0) (.slice (some ⟨g7, 0, none⟩) (s.out.length + (s.held.length + 1)) c7)) := Lib.hid (by
              intro k e
              simp only [Value.ownBlock, Option.some.injEq] at e
              subst e
              intro hm
              have h1 := HG9.out
              have h2 := (HO.out.lt g9 rfl).2
              rcases mem_ownL.mp hm with e | e | e
              · have := HRSW.out bf (mem_ownL.mpr (.inl rfl)); omega
              · simp [Value.ownBlock] at e
              · simp only [Value.ownBlock, Option.some.injEq] at e
                rcases hlie with q | q
                · have := HRSW.out g7 (mem_ownL.mpr (.inr (.inr q))); omega
                · omega)
            have HS8 := Lib.hid ((HE8.out.set 10 (.slice (some ⟨g7, 0, none⟩) (s.out.length + (s.held.length + 1)) c7)).set 9 (.slice none 0 0)).drop
            have f9 := HE8.out.e.row.cell (i := 9) rfl
            have f10 := HE8.out.e.row.cell (i := 10) rfl
            have k9 := HE8.out.e.row.frozen 9
            have k10 := HE8.out.e.row.frozen 10
            have fz := HE8.out.e.row.lt
            have HPO : Hid (EvPost wm W p bf bm (.slice Ah s.held.length ch) (.slice Ao s.out.length co) (eventP p s a) (.returned (.tuple #[.slice (some ⟨g9, 0, none⟩) (s.held.length + 1) c9, .int .i64 0])) ((w8.setCell ⟨bf, 10, none⟩ (.slice (some ⟨g7, 0, none⟩) (s.out.length + (s.held.length + 1)) c7)).setCell ⟨bf, 9, none⟩ (.slice none 0 0))) := Lib.hid (by
              have hle := HLE5.out
              rw [HEV.out]
              refine ⟨_, .slice none 0 0, .slice (some ⟨g7, 0, none⟩) (s.out.length + (s.held.length + 1)) c7, rfl, ⟨HS8.out.e, HH.out.mach, HLO.out, HCL.out⟩, by rw [HRS.out]; exact HS8.out.g, fun k hk => by rw [HRS.out]; exact HS8.out.hb k hk, ?_, HNE.out⟩
              have g : w8.grownBy ((w8.setCell ⟨bf, 10, none⟩ (.slice (some ⟨g7, 0, none⟩) (s.out.length + (s.held.length + 1)) c7)).setCell ⟨bf, 9, none⟩ (.slice none 0 0)) (some bf) := gro_set (gro_set (gro_refl _) 10 _) 9 _
              have := HO8.out.kept g (own_box_ne HE8.out.e.row HO8.out (by decide))
              rw [HOL.out]
              exact own_mono this hle)
            clear hown hgr hlie
            go_wp2
            go_ret2
            exact HPO.out
end Go.Proofs.Ythidbmeocifkcaa
