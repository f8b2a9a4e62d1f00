/- enforce: New of both; Held and Output. -/
import Derived.Test.YthidbmeocifkcaaG22
import Derived.Test.YthidbmeocifkcaaZEev
import Derived.Test.YthidbmeocifkcaaZPpchk
import Derived.Test.YthidbmeocifkcaaZPrchk
namespace Go.Proofs.Ythidbmeocifkcaa
open Go.RowKit
def nil0 : Value := .slice none 0 0
def NewPost (W : World) (p : PP) (e : Ending) (W' : World) : Prop :=
  (rpchk p ≠ 0 ∧ e = .returned (.tuple #[.pointer none, .int .i64 (rpchk p)]) ∧ Bel W W') ∨
    (rpchk p = 0 ∧ ∃ bf bm wm, e = .returned (.tuple #[.pointer (some ⟨bf, 0, none⟩), .int .i64 0]) ∧ Bel W wm ∧ EfAt wm W' bf bm p (en0 p) (.slice none 0 0) (.slice none 0 0))
set_option maxRecDepth 100000 in
set_option maxHeartbeats 16000000 in
theorem new_any (p : PP) (gv ev : Value) (W : World) (h : PropAt W W.heap.size gv ev p) (hs : PSized p) :
    Calls Try.prog 16 #[.agg #[.int .i64 p.evs, .int .i64 p.clks, .int .i64 p.ini, gv, ev]] W (NewPost W p) := by
  have HC := Lib.hid (fun (V : World) (hV : Bel W V) => pcheck35_any p gv ev V (h.bel hV) hs)
  have HP := Lib.hid h
  have HS := Lib.hid hs
  obtain ⟨A1, k1, rfl, _⟩ := h.g.form
  obtain ⟨A2, k2, rfl, _⟩ := h.e.form
  clear h hs
  go_enter Try.func16, Try.ntmps16
  go_upto_region 1 with (fail)
  generalize hW1 : World.alloc W _ = W1 at *
  have rb : RowAt W1 W.heap.size 25 [.int .i64 p.evs, .int .i64 p.clks, .int .i64 p.ini, .slice A1 p.good.length k1, .slice A2 p.edges.length k2] := by rw [← hW1]; exact RowAt.new _ _ _
  have hB1 : Bel W W1 := by rw [← hW1]; exact Bel.refl.alloc _
  clear hW1
  obtain ⟨bp, hbp⟩ : ∃ b, b = W.heap.size := ⟨_, rfl⟩
  rw [← hbp] at rb ⊢
  clear hbp
  have q0 := rb.cell (i := 0) rfl
  have q1 := rb.cell (i := 1) rfl
  have q2 := rb.cell (i := 2) rfl
  have q3 := rb.cell (i := 3) rfl
  have q4 := rb.cell (i := 4) rfl
  have qz := rb.lt
  have HRB := Lib.hid rb
  have HB1 := Lib.hid hB1
  clear rb hB1
  go_wp2_with fail
  refine (HC.out W1 HB1.out).mono ?_
  rintro e W2 ⟨rfl, hB⟩
  clear q0 q1 q2 q3 q4 qz HC
  have HB2 := Lib.hid (HB1.out.trans hB)
  have HR2 := Lib.hid (HRB.out.bel hB)
  clear HB1 HRB hB
  have q0 := HR2.out.cell (i := 0) rfl
  have q1 := HR2.out.cell (i := 1) rfl
  have q2 := HR2.out.cell (i := 2) rfl
  have q3 := HR2.out.cell (i := 3) rfl
  have q4 := HR2.out.cell (i := 4) rfl
  have qz := HR2.out.lt
  by_cases hc : rpchk p = 0
  case neg =>
    have HPO : Hid (NewPost W p (.returned (.tuple #[.pointer none, .int .i64 (rpchk p)])) W2) := Lib.hid (.inl ⟨hc, rfl, HB2.out⟩)
    have t1 : (rpchk p == 0) = false := by simpa using hc
    have t2 : (rpchk p != 0) = true := by simpa using hc
    generalize rpchk p = er at *
    clear hc
    go_wp2
    go_ret2
    exact HPO.out
  have HVL := Lib.hid (pvalid_of hc)
  have HCK := Lib.hid hc
  rw [hc]
  clear hc
  have hn3 := HVL.out.n3
  have hcn := HVL.out.cn
  have HMA := Lib.hid (fun (V : World) (hV : Bel W V) => mach_any p _ _ V (HP.out.bel hV) HS.out (by omega) HVL.out.ed)
  clear hn3 hcn
  go_upto_region 4 with (fail)
  (refine wp_region_E 7 none (by kernel_rfl) ?_; refine anyE_takes [0, 2, 3, 4, 5, 6] (fun _ _ _ _ _ h => h) ⟨⟨_, gro_drew (gro_refl _)⟩, rfl⟩ (by kernel_rfl) (by rfl) ?_; simp only [opsOf, List.filterMap_cons, List.filterMap_nil, List.getElem?_toArray, List.getElem?_cons_succ, List.getElem?_cons_zero, List.foldl_cons, List.foldl_nil]; (repeat (any_goals (first | go_big_quiet_step (fail) | quiet_step (fail)))); refine wpQuiet_nil ?_)
  have G0 : Hid (Bel W2 W2.drew) := Lib.hid (gro_bel (gro_drew (gro_refl _)))
  clear q0 q1 q2 q3 q4 qz HR2
  generalize W2.drew = wf at *
  (refine anyE_one 1 _ (by kernel_rfl) (by rfl) (fun K hK => ?_))
  rw [if_pos (by rfl)]
  go_simp
  refine (HMA.out wf (HB2.out.trans G0.out)).mono ?_
  rintro _ w3 ⟨bm, rfl, _, hm, hB⟩
  refine hK _ _ (fun _ => ⟨⟨_, gro_of_bel (G0.out.trans hB)⟩, rfl⟩) ?_
  clear hK K
  have HB3 := Lib.hid (HB2.out.trans (G0.out.trans hB))
  have HM := Lib.hid hm
  clear hm hB G0 HMA HB2
  have HPO : Hid (NewPost W p (.returned (.tuple #[.pointer (some ⟨w3.heap.size, 0, none⟩), .int .i64 0])) (w3.alloc (.cells #[.pointer (some ⟨bm, 0, none⟩), .int .i64 p.evs, .int .i64 p.ini, .int .i64 0, .int .i64 0, .int .i64 0, .int .i64 0, .int .i64 0, .int .i64 0, .slice none 0 0, .slice none 0 0] 61))) := Lib.hid (.inr ⟨HCK.out, w3.heap.size, bm, w3, rfl, HB3.out, ⟨Bel.refl.alloc _, Nat.le_refl _, RowAt.new w3 _ _, World.ownsRow_nil _ _ _ _, World.ownsRow_nil _ _ _ _, fun k e => by simp [Value.ownBlock] at e, by decide⟩, HM.out, (start_ok HVL.out).1, (start_rel HVL.out).p3⟩)
  (refine anyE_tail 7 (by decide) (by rfl) (by kernel_rfl) ?_; simp only [List.drop_succ_cons, List.drop_zero])
  go_wp2
  refine NoPanic.normal ?_
  go_wp2
  go_ret2
  exact HPO.out
def RNewPost (wm W : World) (p : PP) (gv ev : Value) (e : Ending) (W' : World) : Prop :=
  (rpchk p ≠ 0 ∧ e = .returned (.tuple #[.pointer none, .int .i64 (rpchk p)]) ∧ Bel W W') ∨
    (rpchk p = 0 ∧ ∃ br, e = .returned (.tuple #[.pointer (some ⟨br, 0, none⟩), .int .i64 0]) ∧ Bel W W' ∧ W.heap.size ≤ br ∧ ErAt wm W' br p gv ev (en0 p) (.slice none 0 0) (.slice none 0 0))
set_option maxRecDepth 100000 in
set_option maxHeartbeats 16000000 in
theorem rnew36_any (p : PP) (gv ev : Value) (wm W : World) (hp : PropAt wm wm.heap.size gv ev p) (hb : Bel wm W) (hs : PSized p) :
    Calls Try.prog 17 #[.agg #[.int .i64 p.evs, .int .i64 p.clks, .int .i64 p.ini, gv, ev]] W (RNewPost wm W p gv ev) := by
  have HC := Lib.hid (fun (V : World) (hV : Bel W V) => rcheck35_any p gv ev V (hp.bel (hb.trans hV)) hs)
  have HST := Lib.hid (fun (V : World) (hV : Bel W V) => rstart_any p gv ev V (hp.bel (hb.trans hV)))
  have HP := Lib.hid hp
  have HB := Lib.hid hb
  have HS := Lib.hid hs
  obtain ⟨A1, k1, rfl, _⟩ := hp.g.form
  obtain ⟨A2, k2, rfl, _⟩ := hp.e.form
  clear hp hb hs
  go_enter Try.func17, Try.ntmps17
  go_upto_region 1 with (fail)
  generalize hW1 : World.alloc W _ = W1 at *
  have rb : RowAt W1 W.heap.size 25 [.int .i64 p.evs, .int .i64 p.clks, .int .i64 p.ini, .slice A1 p.good.length k1, .slice A2 p.edges.length k2] := by rw [← hW1]; exact RowAt.new _ _ _
  have hB1 : Bel W W1 := by rw [← hW1]; exact Bel.refl.alloc _
  clear hW1
  obtain ⟨bp, hbp⟩ : ∃ b, b = W.heap.size := ⟨_, rfl⟩
  rw [← hbp] at rb ⊢
  clear hbp
  have q0 := rb.cell (i := 0) rfl
  have q1 := rb.cell (i := 1) rfl
  have q2 := rb.cell (i := 2) rfl
  have q3 := rb.cell (i := 3) rfl
  have q4 := rb.cell (i := 4) rfl
  have qz := rb.lt
  have HRB := Lib.hid rb
  have HB1 := Lib.hid hB1
  clear rb hB1
  go_wp2_with fail
  refine (HC.out W1 HB1.out).mono ?_
  rintro e W2 ⟨rfl, hB⟩
  clear q0 q1 q2 q3 q4 qz HC
  have HB2 := Lib.hid (HB1.out.trans hB)
  have HR2 := Lib.hid (HRB.out.bel hB)
  clear HB1 HRB hB
  have q0 := HR2.out.cell (i := 0) rfl
  have q1 := HR2.out.cell (i := 1) rfl
  have q2 := HR2.out.cell (i := 2) rfl
  have q3 := HR2.out.cell (i := 3) rfl
  have q4 := HR2.out.cell (i := 4) rfl
  have qz := HR2.out.lt
  by_cases hc : rpchk p = 0
  case neg =>
    have HPO : Hid (RNewPost wm W p (.slice A1 p.good.length k1) (.slice A2 p.edges.length k2) (.returned (.tuple #[.pointer none, .int .i64 (rpchk p)])) W2) := Lib.hid (.inl ⟨hc, rfl, HB2.out⟩)
    have t1 : (rpchk p == 0) = false := by simpa using hc
    have t2 : (rpchk p != 0) = true := by simpa using hc
    generalize rpchk p = er at *
    clear hc
    go_wp2
    go_ret2
    exact HPO.out
  have HVL := Lib.hid (pvalid_of hc)
  have HCK := Lib.hid hc
  rw [hc]
  clear hc
  go_upto_region 4 with (fail)
  (refine wp_region_E 3 none (by kernel_rfl) ?_; refine anyE_takes [0, 1] (fun _ _ _ _ _ h => h) ⟨⟨_, gro_drew (gro_refl _)⟩, rfl⟩ (by kernel_rfl) (by rfl) ?_; simp only [opsOf, List.filterMap_cons, List.filterMap_nil, List.getElem?_toArray, List.getElem?_cons_succ, List.getElem?_cons_zero, List.foldl_cons, List.foldl_nil]; (repeat (any_goals (first | go_big_quiet_step (fail) | quiet_step (fail)))); refine wpQuiet_nil ?_)
  have G0 : Hid (Bel W2 W2.drew) := Lib.hid (gro_bel (gro_drew (gro_refl _)))
  clear q0 q1 q2 q3 q4 qz HR2
  generalize W2.drew = wf at *
  (refine anyE_one 2 _ (by kernel_rfl) (by rfl) (fun K hK => ?_))
  rw [if_pos (by rfl)]
  go_simp
  refine (HST.out wf (HB2.out.trans G0.out)).mono ?_
  rintro _ w3 ⟨rfl, hB⟩
  refine hK _ _ (fun _ => ⟨⟨_, gro_of_bel (G0.out.trans hB)⟩, rfl⟩) ?_
  clear hK K
  have HB3 := Lib.hid (HB2.out.trans (G0.out.trans hB))
  clear hB G0 HST HB2
  have HPO : Hid (RNewPost wm W p (.slice A1 p.good.length k1) (.slice A2 p.edges.length k2) (.returned (.tuple #[.pointer (some ⟨w3.heap.size, 0, none⟩), .int .i64 0])) (w3.alloc (.cells #[.int .i64 p.evs, .int .i64 p.clks, .int .i64 p.ini, .slice A1 p.good.length k1, .slice A2 p.edges.length k2, .slice none 0 0, .slice none 0 0, .int .i64 0, .int .i64 0, .int .i64 p.ini, .int .i64 0, .int .i64 0, .int .i64 0, .int .i64 0] 45))) := Lib.hid (.inr ⟨HCK.out, w3.heap.size, rfl, HB3.out.alloc _, HB3.out.le, ⟨[], ⟨(HB.out.trans HB3.out).alloc _, (HB.out.trans HB3.out).le, RowAt.new w3 _ _, World.ownsRow_nil _ _ _ _, World.ownsRow_nil _ _ _ _, fun k e => by simp [Value.ownBlock] at e, by decide⟩, rfl⟩, HP.out, (start_ok HVL.out).1, (start_ok HVL.out).2⟩)
  (refine anyE_tail 3 (by decide) (by rfl) (by kernel_rfl) ?_; simp only [List.drop_succ_cons, List.drop_zero])
  go_wp2
  refine NoPanic.normal ?_
  go_wp2
  go_ret2
  exact HPO.out
set_option maxRecDepth 100000 in
set_option maxHeartbeats 4000000 in
theorem eheld_any {wm W : World} {p : PP} {bf bm : Nat} {s : EnS} {hv ov : Value} (h : EfAt wm W bf bm p s hv ov) :
    Calls Try.prog 20 #[.pointer (some ⟨bf, 0, none⟩)] W fun e W' => e = .returned (.int .i64 s.held.length) ∧ W = W' := by
  obtain ⟨Ah, ch, rfl, _⟩ := own_slice h.b.held
  rw [heldW_len] at h
  have f0 := h.b.row.cell (i := 0) rfl
  have f9 := h.b.row.cell (i := 9) rfl
  have fz := h.b.row.lt
  clear h
  go_enter Try.func20, Try.ntmps20
  go_wp2_with (first | (go_at_call 35; (with_reducible refine (enone_at _ f0).mono ?_); rintro e w2 ⟨rfl, rfl⟩))
  go_ret
  exact ⟨rfl, rfl⟩
set_option maxRecDepth 100000 in
set_option maxHeartbeats 4000000 in
theorem eout_any {wm W : World} {p : PP} {bf bm : Nat} {s : EnS} {hv ov : Value} (h : EfAt wm W bf bm p s hv ov) (hl : s.out.length ≤ 100000) :
    Calls Try.prog 21 #[.pointer (some ⟨bf, 0, none⟩)] W (StPost W s.out) := by
  obtain ⟨Ao, co, rfl, _⟩ := own_slice h.b.out
  have f0 := h.b.row.cell (i := 0) rfl
  have f10 := h.b.row.cell (i := 10) rfl
  have fz := h.b.row.lt
  have HCL := Lib.hid (cloneStamp_any (.slice Ao s.out.length co) s.out.length (s.out.flatMap psC) W (srcOf_stamps (stamps_own rfl h.b.out)) (flat_len psC_len _) psC_one (by omega))
  clear h
  go_enter Try.func21, Try.ntmps21
  go_wp2_with (first | (go_at_call 35; (with_reducible refine (enone_at _ f0).mono ?_); rintro e w2 ⟨rfl, rfl⟩))
  refine HCL.out.mono ?_
  rintro e w1 ⟨u, rfl, ho, hB⟩
  have HPO : Hid (StPost W s.out (.returned u) w1) := Lib.hid ⟨u, rfl, ho, hB⟩
  clear ho hB HCL
  go_wp2
  go_ret
  exact HPO.out
end Go.Proofs.Ythidbmeocifkcaa
