import Derived.Test.YthcdemmamggboaaG9
import Derived.Test.YthcdemmamggboaaZHrun
namespace Go.Proofs.Ythcdemmamggboaa
open Go.RowKit
set_option maxRecDepth 100000 in
set_option maxHeartbeats 32000000 in
theorem rrun_err (v : Value) (l : List Tsk) (pol ticks : Int) (w : World) (h : TsksAt w w.heap.size v l) (hs : Sized l) (hbad : ¬ (rchk l = 0 ∧ ¬ (pol ≠ 1 ∧ (pol ≠ 2 ∨ secsB l = true)) ∧ 0 ≤ ticks ∧ ticks ≤ 20000)) :
    Calls Try.prog 11 #[v, .int .i64 pol, .int .i64 ticks] w (RunPost (scheduleM l pol ticks) w) := by
  have HC := Lib.hid (fun (W : World) (hW : Bel w W) => rcheck_any v l W (h.keep hW.keeps hW.le) hs.len hs.parts)
  have HA := Lib.hid (fun (W : World) (hW : Bel w W) => allowed_any v l pol W (h.keep hW.keeps hW.le) hs.len)
  have HS := Lib.hid hs
  have HT := Lib.hid h
  obtain ⟨A, c, rfl, hlc⟩ := h.form
  have HBAD := Lib.hid hbad
  clear h hs hbad
  go_enter Try.func11, Try.ntmps11
  go_upto_region 1 with (fail)
  generalize hW : World.alloc w _ = wa at *
  have r6 : RowAt wa w.heap.size 29 [.slice none 0 0, .slice none 0 0] := by rw [← hW]; exact RowAt.new _ _ _
  have hba : Bel w wa := by rw [← hW]; exact Bel.refl.alloc _
  clear hW
  have HR6 := Lib.hid r6
  generalize hn0 : w.heap.size = n0 at *
  have HN0 := Lib.hid hn0
  have HBA := Lib.hid hba
  clear hn0 r6 hba
  go_wp2_with fail
  refine (HC.out _ HBA.out).mono ?_
  rintro e w2 ⟨rfl, hb2⟩
  have HB3 := Lib.hid (HBA.out.trans hb2)
  have HR63 := Lib.hid (HR6.out.bel hb2)
  clear hb2 HR6 HBA HC
  by_cases h0 : rchk l = 0
  case neg =>
    have HM : Hid (scheduleM l pol ticks = ([], [], rchk l)) := Lib.hid (by unfold scheduleM; rw [if_neg h0])
    have hne : (rchk l == 0) = false := by simpa using h0
    generalize rchk l = ck at *
    have e0 := HR63.out.cell (i := 0) rfl
    have e1 := HR63.out.cell (i := 1) rfl
    have g0 := HR63.out.frozen 0
    have g1 := HR63.out.frozen 1
    have ez := HR63.out.lt
    have R := Lib.hid ((HR63.out.set 0 (.slice none 0 0)).set 1 (.slice none 0 0))
    have B := Lib.hid ((HB3.out.set (p := ⟨n0, 0, none⟩) (by rw [HN0.out]; exact Nat.le_refl _) (.slice none 0 0)).set (p := ⟨n0, 1, none⟩) (by rw [HN0.out]; exact Nat.le_refl _) (.slice none 0 0))
    go_wp2
    generalize World.setCell _ ⟨n0, 1, none⟩ _ = W5 at *
    have w0 := R.out.cell (i := 0) rfl
    have w1 := R.out.cell (i := 1) rfl
    exact bodyPost_ret (v := .tuple #[.agg #[.slice none 0 0, .slice none 0 0], .int .i64 ck]) (by simp [results, Try.results11, go_sem, w0, w1]) rfl (runPost_err HM.out B.out)
  rw [h0]
  have H0 := Lib.hid h0
  clear h0
  go_upto_region 4 with (fail)
  go_wp2_with fail
  refine (HA.out _ HB3.out).mono ?_
  rintro e w3 ⟨rfl, hb3⟩
  replace HB3 := Lib.hid (HB3.out.trans hb3)
  replace HR63 := Lib.hid (HR63.out.bel hb3)
  clear hb3 HA
  obtain ⟨al, hal⟩ : ∃ al, al = (decide (pol = 1) || (decide (pol = 2) && !secsB l)) := ⟨_, rfl⟩
  rw [← hal]
  have hall : al = true ↔ ¬ (pol ≠ 1 ∧ (pol ≠ 2 ∨ secsB l = true)) := by
    rw [hal]
    by_cases p1 : pol = 1 <;> by_cases p2 : pol = 2 <;> cases secsB l <;> simp [p1, p2]
  have HAL := Lib.hid hall
  clear hal hall
  cases al
  case false =>
    have HM : Hid (scheduleM l pol ticks = ([], [], 2)) := Lib.hid (by
      have : pol ≠ 1 ∧ (pol ≠ 2 ∨ secsB l = true) := Classical.byContradiction fun h => by have := HAL.out.mpr h; cases this
      unfold scheduleM; rw [if_pos H0.out, if_pos (.inl this)])
    have e0 := HR63.out.cell (i := 0) rfl
    have e1 := HR63.out.cell (i := 1) rfl
    have g0 := HR63.out.frozen 0
    have g1 := HR63.out.frozen 1
    have ez := HR63.out.lt
    have R := Lib.hid ((HR63.out.set 0 (.slice none 0 0)).set 1 (.slice none 0 0))
    have B := Lib.hid ((HB3.out.set (p := ⟨n0, 0, none⟩) (by rw [HN0.out]; exact Nat.le_refl _) (.slice none 0 0)).set (p := ⟨n0, 1, none⟩) (by rw [HN0.out]; exact Nat.le_refl _) (.slice none 0 0))
    go_wp2
    generalize World.setCell _ ⟨n0, 1, none⟩ _ = W5 at *
    have w0 := R.out.cell (i := 0) rfl
    have w1 := R.out.cell (i := 1) rfl
    exact bodyPost_ret (v := .tuple #[.agg #[.slice none 0 0, .slice none 0 0], .int .i64 2]) (by simp [results, Try.results11, go_sem, w0, w1]) rfl (runPost_err HM.out B.out)
  have hna := HAL.out.mp rfl
  by_cases htn : ticks < 0
  case pos =>
    have hd : decide (ticks < 0) = true := by simpa using htn
    have HM : Hid (scheduleM l pol ticks = ([], [], 2)) := Lib.hid (by unfold scheduleM; rw [if_pos H0.out, if_pos (.inr htn)])
    clear hna
    have e0 := HR63.out.cell (i := 0) rfl
    have e1 := HR63.out.cell (i := 1) rfl
    have g0 := HR63.out.frozen 0
    have g1 := HR63.out.frozen 1
    have ez := HR63.out.lt
    have R := Lib.hid ((HR63.out.set 0 (.slice none 0 0)).set 1 (.slice none 0 0))
    have B := Lib.hid ((HB3.out.set (p := ⟨n0, 0, none⟩) (by rw [HN0.out]; exact Nat.le_refl _) (.slice none 0 0)).set (p := ⟨n0, 1, none⟩) (by rw [HN0.out]; exact Nat.le_refl _) (.slice none 0 0))
    go_wp2
    generalize World.setCell _ ⟨n0, 1, none⟩ _ = W5 at *
    have w0 := R.out.cell (i := 0) rfl
    have w1 := R.out.cell (i := 1) rfl
    exact bodyPost_ret (v := .tuple #[.agg #[.slice none 0 0, .slice none 0 0], .int .i64 2]) (by simp [results, Try.results11, go_sem, w0, w1]) rfl (runPost_err HM.out B.out)
  have hd0 : decide (ticks < 0) = false := by simpa using htn
  have ht0 : 0 ≤ ticks := by omega
  have hl : 20000 < ticks := by
    rcases Int.lt_or_le 20000 ticks with h | h
    · exact h
    · exact absurd ⟨H0.out, hna, ht0, h⟩ HBAD.out
  have hd : decide (20000 < ticks) = true := by simpa using hl
  have HM : Hid (scheduleM l pol ticks = ([], [], 3)) := Lib.hid (by unfold scheduleM; rw [if_pos H0.out, if_neg (fun h => h.elim hna htn), if_pos hl])
  clear hna
  have e0 := HR63.out.cell (i := 0) rfl
  have e1 := HR63.out.cell (i := 1) rfl
  have g0 := HR63.out.frozen 0
  have g1 := HR63.out.frozen 1
  have ez := HR63.out.lt
  have R := Lib.hid ((HR63.out.set 0 (.slice none 0 0)).set 1 (.slice none 0 0))
  have B := Lib.hid ((HB3.out.set (p := ⟨n0, 0, none⟩) (by rw [HN0.out]; exact Nat.le_refl _) (.slice none 0 0)).set (p := ⟨n0, 1, none⟩) (by rw [HN0.out]; exact Nat.le_refl _) (.slice none 0 0))
  go_wp2
  generalize World.setCell _ ⟨n0, 1, none⟩ _ = W5 at *
  have w0 := R.out.cell (i := 0) rfl
  have w1 := R.out.cell (i := 1) rfl
  exact bodyPost_ret (v := .tuple #[.agg #[.slice none 0 0, .slice none 0 0], .int .i64 3]) (by simp [results, Try.results11, go_sem, w0, w1]) rfl (runPost_err HM.out B.out)
end Go.Proofs.Ythcdemmamggboaa
