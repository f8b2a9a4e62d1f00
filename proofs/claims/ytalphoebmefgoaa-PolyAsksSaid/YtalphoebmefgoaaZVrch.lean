/- poly, the reference: chosen. -/
import Derived.Test.YtalphoebmefgoaaZVrbd
import Derived.Test.YtalphoebmefgoaaG41
import Derived.Test.YtalphoebmefgoaaG37
namespace Go.Proofs.Ytalphoebmefgoaa
open Go.RowKit
set_option maxRecDepth 100000 in
theorem cho_res {W : World} {tmps : Array Value} {p : Nat} {n d er : Int} (h : RowAt W p 41 [.int .i64 n, .int .i64 d]) (t2 : tmps[2]? = some (.pointer (some ⟨p, 0, none⟩))) (t3 : tmps[3]? = some (.int .i64 er)) :
    (results Try.f68 tmps).run Try.prog W = .ok (.tuple #[.agg #[.int .i64 n, .int .i64 d], .int .i64 er]) W := by
  have q0 := h.cell (i := 0) rfl
  have q1 := h.cell (i := 1) rfl
  simp [results, Try.f68, go_sem, q0, q1, t2, t3]
def ChPost (M : Rt × Int) (w : World) (e : Ending) (w' : World) : Prop := e = .returned (.tuple #[.agg #[.int .i64 M.1.num, .int .i64 M.1.den], .int .i64 M.2]) ∧ Bel w w'
theorem cho_post {M : Rt × Int} {w W : World} {n d er : Int} (h : M = (⟨n, d⟩, er)) (hb : Bel w W) : ChPost M w (.returned (.tuple #[.agg #[.int .i64 n, .int .i64 d], .int .i64 er])) W := by subst h; exact ⟨rfl, hb⟩
set_option maxRecDepth 100000 in
set_option maxHeartbeats 8000000 in
theorem rchosen_any (pb : Nat) (lo hi : En) (w : World) (he : RowAt w pb 87 (enC lo hi)) (hlw : lo.at_.wf) (hhw : hi.at_.wf) :
    Calls Try.prog 68 #[.pointer (some ⟨pb, 0, none⟩)] w (ChPost (chosenE (lo, hi, 0)) w) := by
  have HE0 := Lib.hid he
  have HOW : Hid ((⟨1, 1⟩ : Rt).wf) := Lib.hid ⟨i64_lit' (by decide) (by decide), i64_lit' (by decide) (by decide)⟩
  clear he
  go_enter Try.func68, Try.ntmps68
  go_upto_region 1 with (fail)
  generalize hW : World.alloc w _ = w1 at *
  have rr : RowAt w1 w.heap.size 41 [.int .i64 0, .int .i64 0] := by rw [← hW]; exact RowAt.new _ _ _
  have hb1 : Bel w w1 := by rw [← hW]; exact Bel.refl.alloc _
  clear hW
  obtain ⟨p2, hp2⟩ : ∃ q, q = w.heap.size := ⟨_, rfl⟩
  rw [← hp2] at rr ⊢
  have HP2 : Hid (w.heap.size ≤ p2) := Lib.hid (by omega)
  clear hp2
  have HB := Lib.hid hb1
  have HR := Lib.hid rr
  have HE := Lib.hid (HE0.out.bel hb1)
  clear hb1 rr HE0
  have e0 := HE.out.cell (i := 0) rfl
  have e1 := HE.out.cell (i := 1) rfl
  have e2 := HE.out.cell (i := 2) rfl
  have e3 := HE.out.cell (i := 3) rfl
  have e4 := HE.out.cell (i := 4) rfl
  have e5 := HE.out.cell (i := 5) rfl
  have e6 := HE.out.cell (i := 6) rfl
  have e7 := HE.out.cell (i := 7) rfl
  have le := HE.out.lt
  try dsimp only at e0 e1 e2 e3 e4 e5 e6 e7
  have r0 := HR.out.cell (i := 0) rfl
  have r1 := HR.out.cell (i := 1) rfl
  have fr := fun q => HR.out.frozen q
  have lr := HR.out.lt
  cases h4 : lo.is
  · rw [h4] at e4
    cases h5 : hi.is
    · rw [h5] at e5
      cases h6 : lo.op
      all_goals
        rw [h6] at e6
        cases h7 : hi.op
        all_goals
          rw [h7] at e7
          have HCE : Hid (chosenE (lo, hi, 0) = (⟨0, 1⟩, 0)) := Lib.hid (by unfold chosenE; simp [h4, h5, h6, h7]; try rfl)
          have HRN := Lib.hid ((HR.out.set 0 (.int .i64 0)).set 1 (.int .i64 1))
          have HBN := Lib.hid ((HB.out.set (p := ⟨p2, 0, none⟩) HP2.out (.int .i64 0)).set (p := ⟨p2, 1, none⟩) HP2.out (.int .i64 1))
          clear h4 h5 h6 h7
          go_wp2
          generalize World.setCell (World.setCell _ _ _) _ _ = WN at *
          exact bodyPost_ret (v := .tuple #[.agg #[.int .i64 0, .int .i64 1], .int .i64 0]) (cho_res HRN.out rfl rfl) rfl (cho_post HCE.out HBN.out)
    · rw [h5] at e5
      cases h7 : hi.op
      · rw [h7] at e7
        cases h6 : lo.op
        all_goals
          rw [h6] at e6
          have HCE : Hid (chosenE (lo, hi, 0) = (⟨hi.n, hi.d⟩, 0)) := Lib.hid (by unfold chosenE; simp [h4, h5, h6, h7]; try rfl)
          have HRN := Lib.hid ((HR.out.set 0 (.int .i64 hi.n)).set 1 (.int .i64 hi.d))
          have HBN := Lib.hid ((HB.out.set (p := ⟨p2, 0, none⟩) HP2.out (.int .i64 hi.n)).set (p := ⟨p2, 1, none⟩) HP2.out (.int .i64 hi.d))
          clear h4 h5 h6 h7
          go_wp2
          generalize World.setCell (World.setCell _ _ _) _ _ = WN at *
          exact bodyPost_ret (v := .tuple #[.agg #[.int .i64 hi.n, .int .i64 hi.d], .int .i64 0]) (cho_res HRN.out rfl rfl) rfl (cho_post HCE.out HBN.out)
      · rw [h7] at e7
        cases h6 : lo.op
        all_goals
          rw [h6] at e6
          have HCQ := Lib.hid (fun W => rrsub_any hi.at_ ⟨1, 1⟩ W hhw HOW.out)
          have HCE0 : Hid (chosenE (lo, hi, 0) = rsub hi.at_ ⟨1, 1⟩) := Lib.hid (by unfold chosenE; simp [h4, h5, h6, h7])
          generalize rsub hi.at_ ⟨1, 1⟩ = Q at *
          obtain ⟨⟨qn, qd⟩, qe⟩ := Q
          unfold rresV Rt.V En.at_ at HCQ
          dsimp only at HCQ
          have HCE : Hid (chosenE (lo, hi, 0) = (⟨qn, qd⟩, qe)) := HCE0
          clear h4 h5 h6 h7 HCE0
          go_wp2_with fail
          refine (HCQ.out _).mono ?_
          rintro e w2 ⟨rfl, hB⟩
          have HR2 := Lib.hid (HR.out.bel hB)
          have HB2 := Lib.hid (HB.out.trans hB)
          clear hB HCQ r0 r1 fr lr e0 e1 e2 e3 e4 e5 e6 e7 le
          have r0 := HR2.out.cell (i := 0) rfl
          have r1 := HR2.out.cell (i := 1) rfl
          have fr := fun q => HR2.out.frozen q
          have lr := HR2.out.lt
          have HRN := Lib.hid ((HR2.out.set 0 (.int .i64 qn)).set 1 (.int .i64 qd))
          have HBN := Lib.hid ((HB2.out.set (p := ⟨p2, 0, none⟩) HP2.out (.int .i64 qn)).set (p := ⟨p2, 1, none⟩) HP2.out (.int .i64 qd))
          go_wp2
          generalize World.setCell (World.setCell _ _ _) _ _ = WN at *
          exact bodyPost_ret (v := .tuple #[.agg #[.int .i64 qn, .int .i64 qd], .int .i64 qe]) (cho_res HRN.out rfl rfl) rfl (cho_post HCE.out HBN.out)
  · rw [h4] at e4
    cases h6 : lo.op
    · rw [h6] at e6
      cases h5 : hi.is
      all_goals
        rw [h5] at e5
        cases h7 : hi.op
        all_goals
          rw [h7] at e7
          have HCE : Hid (chosenE (lo, hi, 0) = (⟨lo.n, lo.d⟩, 0)) := Lib.hid (by unfold chosenE; simp [h4, h6]; try rfl)
          have HRN := Lib.hid ((HR.out.set 0 (.int .i64 lo.n)).set 1 (.int .i64 lo.d))
          have HBN := Lib.hid ((HB.out.set (p := ⟨p2, 0, none⟩) HP2.out (.int .i64 lo.n)).set (p := ⟨p2, 1, none⟩) HP2.out (.int .i64 lo.d))
          clear h4 h5 h6 h7
          go_wp2
          generalize World.setCell (World.setCell _ _ _) _ _ = WN at *
          exact bodyPost_ret (v := .tuple #[.agg #[.int .i64 lo.n, .int .i64 lo.d], .int .i64 0]) (cho_res HRN.out rfl rfl) rfl (cho_post HCE.out HBN.out)
    · rw [h6] at e6
      cases h5 : hi.is
      · rw [h5] at e5
        cases h7 : hi.op
        all_goals
          rw [h7] at e7
          have HCQ := Lib.hid (fun W => rradd_any lo.at_ ⟨1, 1⟩ W hlw HOW.out)
          have HCE0 : Hid (chosenE (lo, hi, 0) = radd lo.at_ ⟨1, 1⟩) := Lib.hid (by unfold chosenE; simp [h4, h5, h6])
          generalize radd lo.at_ ⟨1, 1⟩ = Q at *
          obtain ⟨⟨qn, qd⟩, qe⟩ := Q
          unfold rresV Rt.V En.at_ at HCQ
          dsimp only at HCQ
          have HCE : Hid (chosenE (lo, hi, 0) = (⟨qn, qd⟩, qe)) := HCE0
          clear h4 h5 h6 h7 HCE0
          go_wp2_with fail
          refine (HCQ.out _).mono ?_
          rintro e w2 ⟨rfl, hB⟩
          have HR2 := Lib.hid (HR.out.bel hB)
          have HB2 := Lib.hid (HB.out.trans hB)
          clear hB HCQ r0 r1 fr lr e0 e1 e2 e3 e4 e5 e6 e7 le
          have r0 := HR2.out.cell (i := 0) rfl
          have r1 := HR2.out.cell (i := 1) rfl
          have fr := fun q => HR2.out.frozen q
          have lr := HR2.out.lt
          have HRN := Lib.hid ((HR2.out.set 0 (.int .i64 qn)).set 1 (.int .i64 qd))
          have HBN := Lib.hid ((HB2.out.set (p := ⟨p2, 0, none⟩) HP2.out (.int .i64 qn)).set (p := ⟨p2, 1, none⟩) HP2.out (.int .i64 qd))
          go_wp2
          generalize World.setCell (World.setCell _ _ _) _ _ = WN at *
          exact bodyPost_ret (v := .tuple #[.agg #[.int .i64 qn, .int .i64 qd], .int .i64 qe]) (cho_res HRN.out rfl rfl) rfl (cho_post HCE.out HBN.out)
      · rw [h5] at e5
        cases h7 : hi.op
        all_goals
          rw [h7] at e7
          have HCQ := Lib.hid (fun W => rrmid_any lo.at_ hi.at_ W hlw hhw)
          have HCE0 : Hid (chosenE (lo, hi, 0) = rmid lo.at_ hi.at_) := Lib.hid (by unfold chosenE; simp [h4, h5, h6])
          generalize rmid lo.at_ hi.at_ = Q at *
          obtain ⟨⟨qn, qd⟩, qe⟩ := Q
          unfold rresV Rt.V En.at_ at HCQ
          dsimp only at HCQ
          have HCE : Hid (chosenE (lo, hi, 0) = (⟨qn, qd⟩, qe)) := HCE0
          clear h4 h5 h6 h7 HCE0
          go_upto_region 4 with (fail)
          (refine wp_region_qtail 11 (wb := w1) (by (repeat (first | exact Ext.bel _ | exact Bel.refl | refine Bel.alloc ?_ _ | refine Bel.drew ?_ | refine Bel.drewN ?_ _))) (by kernel_rfl) (by kernel_rfl) ?_; simp only [List.take_succ_cons, List.take_zero, List.drop_succ_cons, List.drop_zero]; (repeat (any_goals (first | go_big_quiet_step ((go_at_call 100; with_reducible exact ext_call (HCQ.out _))) | quiet_step ((go_at_call 100; with_reducible exact ext_call (HCQ.out _))) | (refine wpQuiet_step (fun K hK => ?_); go_simp; split <;> (refine hK _ ?_; clear hK K))))); all_goals (refine wpQuiet_nil ?_; intro _ hw'; obtain ⟨y, hw''⟩ := hw'; subst hw''))
          have HR2 := Lib.hid (HR.out.bel y.bel)
          have HB2 := Lib.hid (HB.out.trans y.bel)
          clear HCQ r0 r1 fr lr e0 e1 e2 e3 e4 e5 e6 e7 le
          generalize y.w = w2 at *
          have r0 := HR2.out.cell (i := 0) rfl
          have r1 := HR2.out.cell (i := 1) rfl
          have fr := fun q => HR2.out.frozen q
          have lr := HR2.out.lt
          have HRN := Lib.hid ((HR2.out.set 0 (.int .i64 qn)).set 1 (.int .i64 qd))
          have HBN := Lib.hid ((HB2.out.set (p := ⟨p2, 0, none⟩) HP2.out (.int .i64 qn)).set (p := ⟨p2, 1, none⟩) HP2.out (.int .i64 qd))
          go_wp2
          generalize World.setCell (World.setCell _ _ _) _ _ = WN at *
          exact bodyPost_ret (v := .tuple #[.agg #[.int .i64 qn, .int .i64 qd], .int .i64 qe]) (cho_res HRN.out rfl rfl) rfl (cho_post HCE.out HBN.out)
end Go.Proofs.Ytalphoebmefgoaa
