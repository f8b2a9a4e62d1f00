import Derived.Test.YthcdemmamggboaaTmodp
namespace Go.Proofs.Ythcdemmamggboaa
open Go.RowKit
/-! the plain law: the two ways of checking agree -/
theorem okAll_all (c : Int) : ∀ ss, okAll c ss = ss.all (fun s => !secBad c s)
  | [] => rfl
  | s :: ss => by simp only [okAll, List.all_cons]; rw [okAll_all c ss]; cases secBad c s <;> rfl
theorem secBad_eq (c : Int) (s : Sec) (hc : 1 ≤ c) (hc2 : c ≤ 1000) (hf : -9223372036854775808 ≤ s.frm) (hf2 : s.frm ≤ 9223372036854775807) (hl : -9223372036854775808 ≤ s.len) (hl2 : s.len ≤ 9223372036854775807) : secBad c s = secBadP c s := by
  unfold secBad secBadP
  by_cases h1 : s.res < 0 <;> by_cases h2 : 8 ≤ s.res <;> by_cases h3 : s.frm < 0 <;> simp [h1, h2, h3]
  by_cases h4 : s.len < 1 <;> simp [h4]
  by_cases h5 : c < s.frm
  · simp [h5, show c ≤ s.frm by omega]
  · by_cases h6 : c < s.len
    · have : c - s.frm < s.len := by omega
      rw [wrap_small (c - s.frm) (by omega) (by omega)]; simp [h6, this]
    · rw [wrap_small (c - s.frm) (by omega) (by omega), wrap_small (s.frm + s.len) (by omega) (by omega)]
      simp [h5, h6]
      by_cases h7 : c ≤ s.frm
      · simp [h7]; omega
      · simp [h7]
        omega
theorem secsOkP_eq (c : Int) (hb : ∀ s, secBad c s = secBadP c s → True) : ∀ (ss pre : List Sec), (∀ s ∈ ss, secBad c s = secBadP c s) → secsOkP c pre ss = (okAll c ss && noClash pre ss)
  | [], pre, _ => rfl
  | s :: ss, pre, h => by
    have h0 := h s (by simp)
    have ih := secsOkP_eq c hb ss (pre ++ [s]) (fun x hx => h x (by simp [hx]))
    simp only [secsOkP, okAll, noClash]
    rw [ih, ← h0]
    cases secBad c s <;> cases clashAny s pre <;> simp
structure Sec.wf (s : Sec) : Prop where
  r : i64 s.res
  f : i64 s.frm
  l : i64 s.len
structure Tsk.wf (t : Tsk) : Prop where
  per : i64 t.per
  off : i64 t.off
  dl : i64 t.dl
  cost : i64 t.cost
  prio : i64 t.prio
  secs : ∀ s ∈ t.secs, s.wf
theorem twinAny_eq (t : Tsk) : ∀ pre, twinAny t pre = (nameIn t pre || prioIn t pre)
  | [] => rfl
  | o :: os => by
    have ih := twinAny_eq t os
    simp only [twinAny, nameIn, prioIn, List.any_cons] at *
    rw [ih]
    have e : twin t o = (decide (o.name.data.toList = t.name.data.toList) || decide (o.prio = t.prio)) := by
      unfold twin; rw [ByteArray.toList_eq, ByteArray.toList_eq]
      rw [Bool.eq_iff_iff]; simp
    rw [e]
    cases decide (o.name.data.toList = t.name.data.toList) <;> cases decide (o.prio = t.prio) <;> simp
theorem nameIn_snoc {l : List Tsk} {k : Nat} (h : k < l.length) (t : Tsk) : nameIn t (l.take (k + 1)) = (nameIn t (l.take k) || decide ((tskAt l k).name.data.toList = t.name.data.toList)) := by
  rw [tsks_snoc h]; simp [nameIn]
theorem prioIn_snoc {l : List Tsk} {k : Nat} (h : k < l.length) (t : Tsk) : prioIn t (l.take (k + 1)) = (prioIn t (l.take k) || decide ((tskAt l k).prio = t.prio)) := by
  rw [tsks_snoc h]; simp [prioIn]
theorem psecsOk_eq {t : Tsk} (h : t.wf) (hb : tskBad t = false) : psecsOk t = rsecsOk t := by
  obtain ⟨_, _, _, h3, h4, _, _, h7, h8, h9, h10⟩ := tskBad_false.1 hb
  exact secsOkP_eq t.cost (fun _ _ => trivial) t.secs [] (fun s hs => by
    obtain ⟨h1, h2, h3'⟩ := h.secs s hs
    unfold i64 at *
    exact secBad_eq _ _ (by omega) (by omega) (by omega) (by omega) (by omega) (by omega))
theorem chkT_eq : ∀ (l pre : List Tsk), (∀ t ∈ l, t.wf) → pchkT pre l = rchkT pre l
  | [], _, _ => rfl
  | t :: ts, pre, h => by
    simp only [pchkT, rchkT]
    rw [chkT_eq ts (pre ++ [t]) (fun x hx => h x (by simp [hx])), twinAny_eq]
    cases hb : tskBad t
    · rw [psecsOk_eq (h t (by simp)) hb]
      cases rsecsOk t <;> cases nameIn t pre <;> cases prioIn t pre <;> simp
    · simp
theorem chk_eq (l : List Tsk) (h : ∀ t ∈ l, t.wf) : pchk l = rchk l := by
  unfold pchk rchk
  rw [chkT_eq l [] h]
  by_cases h8 : 8 < l.length <;> cases manySecs l <;> simp [h8]
end Go.Proofs.Ythcdemmamggboaa
