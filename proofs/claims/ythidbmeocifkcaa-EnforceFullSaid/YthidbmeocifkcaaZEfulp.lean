/- EnforceFull: the plain law. -/
import Derived.Test.YthidbmeocifkcaaZEexm
namespace Go.Proofs.Ythidbmeocifkcaa
open Go.RowKit
def fP : PP := ⟨1, 0, 0, [false], []⟩
def fQ : PP := ⟨1, 0, 0, [true], [⟨0, 0, 0, [], []⟩]⟩
theorem fP_ok : rpchk fP = 0 := by decide +kernel
theorem fQ_ok : rpchk fQ = 0 := by decide +kernel
theorem fP_sized : PSized fP where
  g := by decide
  e := by decide
  x := by decide
  wf := { e := by decide, c := by decide, i := by decide, l := fun x hx => by simp [fP] at hx }
theorem fQ_sized : PSized fQ where
  g := by decide
  e := by decide
  x := by decide
  wf := { e := by decide, c := by decide, i := by decide, l := fun x hx => by
            simp only [fQ, List.mem_cons, List.not_mem_nil, or_false] at hx
            subst hx
            exact ⟨by decide, by decide, by decide, fun c hc => by simp at hc, fun c hc => by simp at hc⟩ }
theorem firstT_none {f : Int → Option (List Int)} (h : ∀ t, f t = none) : ∀ (k : Nat) (t : Int), firstT f t k = none
  | 0, _ => rfl
  | k + 1, t => by simp only [firstT, h t]; exact firstT_none h k (t + 1)
theorem fP_step (x : Pt) (a e : Int) : stepP fP x a e = ⟨-1, [0, 0, 0]⟩ := rfl
theorem search_pit {stp : Pt → Int → Int → Pt} {M E : Int} : ∀ (ss : List PS) (x : Pt) (t : Int), x.loc < 0 → searchM stp (goodM fP) M E ss x t = none
  | [], x, t, h => by
    simp only [searchM]
    have : goodM fP x = false := by unfold goodM; rw [decide_eq_false (by omega)]; rfl
    rw [this]; rfl
  | s :: ss, x, t, h => by simp only [searchM]; rw [if_pos h]
theorem fP_times {s : PS} {ss : List PS} {x : Pt} {t : Int} : timesP fP x t (s :: ss) = none := by
  unfold timesP
  simp only [searchM]
  split
  · rfl
  · refine firstT_none (fun u => ?_) _ _
    rw [fP_step, search_pit ss _ _ (by decide)]; rfl
theorem puts_pit {stp : Pt → Int → Int → Pt} {M E : Int} (ss : List PS) (x : Pt) (t : Int) (h : x.loc < 0) : putsM stp M E ss x t = 0 := by
  cases ss with
  | nil => rfl
  | cons s ss => simp only [putsM]; rw [if_pos h]
theorem fP_puts {E : Int} {ss : List PS} {x : Pt} {t : Int} : putsM (stepP fP) (mostM fP) E ss x t + 1 < 9223372036854775807 := by
  cases ss with
  | nil => simp [putsM]
  | cons s ss =>
    simp only [putsM]
    split
    · omega
    · have := putsT_le (f := fun u => putsM (stepP fP) (mostM fP) E ss (stepP fP x (u - t) s.ev) u) (B := 0) (spanT (mostM fP) E (mx t s.at_)) (mx t s.at_) (fun u _ => by
        rw [fP_step, puts_pit ss _ _ (by decide)]; exact Nat.le_refl _)
      omega
/-- the enforcer that lets nothing out, behind i events -/
structure FI (i : Nat) (s : EnS) : Prop where
  held : s.held = List.replicate (min i 40) 0
  came : s.came = min i 40
  out : s.out = []
  last : 0 ≤ s.last ∧ s.last ≤ i
theorem f_bad {p : PP} (hp : p.evs = 1) {s : EnS} {i : Nat} (hl : s.last ≤ i) (hi : i ≤ 250) : evBad p s ⟨i, 0⟩ = false := by
  unfold evBad
  simp only [Bool.or_eq_false_iff, decide_eq_false_iff_not]
  omega
theorem f_step {i : Nat} {s : EnS} (h : FI i s) (hi : i ≤ 250) : (eventP fP s ⟨i, 0⟩).2 = ([], if i < 40 then 0 else 5) ∧ FI (i + 1) (eventP fP s ⟨i, 0⟩).1 := by
  have hb := f_bad (p := fP) rfl h.last.2 hi
  have hl : s.held.length = min i 40 := by rw [h.held]; simp
  unfold eventP eventM
  rw [hb]
  by_cases h40 : i < 40
  · have hf : evFull s = false := by
      unfold evFull
      simp only [Bool.or_eq_false_iff, decide_eq_false_iff_not]
      rw [hl, h.came]; omega
    rw [hf]
    simp only [Bool.false_eq_true, if_false]
    have hw : ∃ u us, heldW (i : Int) (s.held ++ [0]) = u :: us := by
      cases hq : heldW (i : Int) (s.held ++ [0]) with
      | nil => have := congrArg List.length hq; simp [heldW] at this
      | cons u us => exact ⟨u, us, rfl⟩
    obtain ⟨u, us, hw⟩ := hw
    rw [hw, fP_times, if_pos h40]
    refine ⟨rfl, ⟨?_, ?_, h.out, ⟨by show (0 : Int) ≤ (i : Int); omega, by show (i : Int) ≤ ((i + 1 : Nat) : Int); omega⟩⟩⟩
    · show s.held ++ [0] = _
      rw [h.held, show min (i + 1) 40 = min i 40 + 1 by omega, List.replicate_succ']
    · show s.came + 1 = _
      rw [h.came]; omega
  · have hf : evFull s = true := by
      unfold evFull
      simp only [Bool.or_eq_true, decide_eq_true_eq]
      left; rw [hl]; omega
    rw [hf, if_neg h40]
    refine ⟨rfl, ⟨?_, ?_, h.out, ⟨h.last.1, ?_⟩⟩⟩
    · show s.held = _
      rw [h.held]; congr 1; omega
    · show s.came = _
      rw [h.came]; omega
    · show s.last ≤ _
      have := h.last.2; omega
theorem fQ_step {x : Pt} {a : Int} (hl : x.loc = 0) (hc : Cl3 0 x.cl) (ha : 0 ≤ a) : (stepP fQ x a 0).loc = 0 ∧ Cl3 0 (stepP fQ x a 0).cl := by
  have ht := tick3_ok (a := a) (j := 3) (Int.le_refl 0) hc ha
  have ho : open3 (spans3 0 []) (tick3 0 a x.cl 3) 3 = true := by
    rw [open3_iff]
    intro i hi
    have := cl3_at ht hi
    have e : (spans3 0 ([] : List PC)).getD i (0, 0) = (0, 1) := by
      have h3 : i = 0 ∨ i = 1 ∨ i = 2 := by omega
      rcases h3 with rfl | rfl | rfl <;> rfl
    rw [e]; exact this
  have hm : movesOf fQ.edges x.loc 0 = [⟨0, 0, 0, [], []⟩] := by rw [hl]; rfl
  have hM : mostM fQ = 0 := rfl
  refine ⟨?_, step3_ok (M := 0) (Int.le_refl 0) hc ha⟩
  unfold stepP step3
  rw [hM, hm]
  simp only [find3, ho, if_true]
theorem fQ_puts {E t : Int} {s : PS} {x : Pt} : putsM (stepP fQ) (mostM fQ) E [s] x t + 1 < 9223372036854775807 := by
  simp only [putsM]
  split
  · omega
  · have := putsT_le (f := fun _ => 0) (B := 0) (spanT (mostM fQ) E (mx t s.at_)) (mx t s.at_) (fun u _ => Nat.le_refl _)
    omega
/-- the enforcer that lets all out, behind i events -/
structure GI (i : Nat) (s : EnS) : Prop where
  held : s.held = []
  came : s.came = min i 200
  out : s.out.length = min i 200
  loc : s.x.loc = 0
  cl : Cl3 0 s.x.cl
  t : 0 ≤ s.t ∧ s.t ≤ i
  last : 0 ≤ s.last ∧ s.last ≤ i
theorem g_step {i : Nat} {s : EnS} (h : GI i s) (hi : i ≤ 250) : (eventP fQ s ⟨i, 0⟩).2 = (if i < 200 then [⟨i, 0⟩] else [], if i < 200 then 0 else 5) ∧ GI (i + 1) (eventP fQ s ⟨i, 0⟩).1 := by
  have hb := f_bad (p := fQ) rfl h.last.2 hi
  unfold eventP eventM
  rw [hb]
  by_cases h200 : i < 200
  · have hf : evFull s = false := by
      unfold evFull
      simp only [Bool.or_eq_false_iff, decide_eq_false_iff_not]
      rw [h.held, h.came]; simp; omega
    rw [hf]
    simp only [Bool.false_eq_true, if_false]
    have hw : heldW (i : Int) (s.held ++ [0]) = [⟨i, 0⟩] := by rw [h.held]; rfl
    have hs := fQ_step (a := (i : Int) - s.t) h.loc h.cl (by have := h.t; omega)
    have ht : timesP fQ s.x s.t [⟨(i : Int), 0⟩] = some [(i : Int)] := by
      have hmx : mx s.t (i : Int) = i := by unfold mx; have := h.t; split <;> omega
      unfold timesP
      simp only [searchM]
      rw [if_neg (by rw [h.loc]; decide), hmx]
      refine firstT_hit ?_ ?_
      · unfold spanT
        have := mx_l (i : Int) (endW [⟨(i : Int), 0⟩])
        have hM : mostM fQ = 0 := rfl
        omega
      · have hg : goodM fQ (stepP fQ s.x ((i : Int) - s.t) 0) = true := by
          unfold goodM
          rw [hs.1]; rfl
        rw [if_pos hg]; rfl
    rw [hw, ht, if_pos h200, if_pos h200]
    refine ⟨rfl, ⟨rfl, ?_, ?_, hs.1, hs.2, ⟨by show (0 : Int) ≤ (i : Int); omega, by show (i : Int) ≤ _; omega⟩, ⟨by show (0 : Int) ≤ (i : Int); omega, by show (i : Int) ≤ _; omega⟩⟩⟩
    · show s.came + 1 = _
      rw [h.came]; omega
    · show (s.out ++ [_]).length = _
      rw [List.length_append, h.out]; simp; omega
  · have hf : evFull s = true := by
      unfold evFull
      simp only [Bool.or_eq_true, decide_eq_true_eq]
      right; rw [h.came]; omega
    rw [hf, if_neg h200, if_neg h200]
    refine ⟨rfl, ⟨h.held, ?_, ?_, h.loc, h.cl, ⟨h.t.1, ?_⟩, ⟨h.last.1, ?_⟩⟩⟩
    · show s.came = _
      rw [h.came]; omega
    · show s.out.length = _
      rw [h.out]; omega
    · show s.t ≤ _
      have := h.t.2; omega
    · show s.last ≤ _
      have := h.last.2; omega
theorem f_start : FI 0 (en0 fP) := ⟨rfl, rfl, rfl, ⟨by decide, by decide⟩⟩
theorem g_start : GI 0 (en0 fQ) := ⟨rfl, rfl, rfl, rfl, (start_rel (pvalid_of fQ_ok)).p3, ⟨by decide, by decide⟩, ⟨by decide, by decide⟩⟩
end Go.Proofs.Ythidbmeocifkcaa
