import Derived.Test.YthcdemmamggboaaHord2
/- schedule: the timeline that Run hands back (plain). -/
namespace Go.Proofs.Ythcdemmamggboaa
open Go.RowKit
structure JobEnd (l : List Tsk) (T : Int) (ss : List Stn) (d : Don) : Prop where
  tk : d.tk < l.length
  r0 : 0 ≤ d.rel
  r1 : d.rel ≤ T
  en : (sumD ss d < costD l d ∧ d.resp = -1 ∧ lastTo ss = T) ∨ (sumD ss d = costD l d ∧ 0 < d.resp ∧ d.resp = endD ss d - d.rel)
structure OrderOk (l : List Tsk) (T : Int) (ss : List Stn) (js : List Don) : Prop where
  st : ∀ i, i < ss.length → StnOk l T js (ss.take i) (stAt ss i)
  un : ∀ a b, a < js.length → b < js.length → (dnAt js a).tk = (dnAt js b).tk → (dnAt js a).job = (dnAt js b).job → a = b
  jb : ∀ k, k < js.length → JobEnd l T ss (dnAt js k)
theorem stn_take_drop {ss : List Stn} {i : Nat} (h : i < ss.length) : ss = ss.take i ++ stAt ss i :: ss.drop (i + 1) := by
  conv => lhs; rw [← List.take_append_drop i ss]
  rw [List.drop_eq_getElem_cons h]
  simp [stAt, List.getD, h]
theorem stn_take_succ {ss : List Stn} {i : Nat} (h : i < ss.length) : ss.take (i + 1) = ss.take i ++ [stAt ss i] := by
  rw [List.take_succ_eq_append_getElem h]; simp [stAt, List.getD, h]
theorem dnAt_map {f : Don → Don} {js : List Don} {k : Nat} (h : k < js.length) : dnAt (js.map f) k = f (dnAt js k) := by simp [dnAt, List.getD, h]
theorem alike_miss (l : List Tsk) (ticks : Int) (js : List Don) : Alike js (js.map (missM l ticks)) := by
  refine ⟨by simp, fun k => ?_⟩
  rcases Nat.lt_or_ge k js.length with h | h
  · rw [dnAt_map h]; exact ⟨rfl, rfl, rfl⟩
  · have e : dnAt (js.map (missM l ticks)) k = dnAt js k := by simp [dnAt, List.getD, h]
    rw [e]; exact ⟨rfl, rfl, rfl⟩
theorem TI.order {l : List Tsk} (h0 : rchk l = 0) {T : Int} {s : St} (h : TI l T 0 s) : OrderOk l T s.stints (s.jobs.map (missM l T)) := by
  have ha := alike_miss l T s.jobs
  refine ⟨fun i hi => ha.stn (Int.le_refl _) (h.st _ _ _ (stn_take_drop hi)), fun a b hA hB e1 e2 => ?_, fun k hk => ?_⟩
  · rw [ha.1] at hA hB
    rw [(ha.2 a).1, (ha.2 b).1] at e1
    rw [(ha.2 a).2.1, (ha.2 b).2.1] at e2
    exact h.un a b hA hB e1 e2
  · rw [ha.1] at hk
    obtain ⟨a1, a2, a3, a4⟩ := h.jr k hk
    have hp := (tok_at h0 a1).p1
    obtain ⟨_, _, _, _, _, o1, _⟩ := tskBad_false.1 ((rchk_ok h0).2 _ a1).1
    have hm : 0 ≤ (dnAt s.jobs k).job * (tskAt l (dnAt s.jobs k).tk).per := Int.mul_nonneg a2 (by omega)
    rw [dnAt_map hk]
    refine ⟨a1, ?_, ?_, ?_⟩
    · show 0 ≤ (dnAt s.jobs k).rel
      omega
    · show (dnAt s.jobs k).rel ≤ T
      omega
    · show (sumD s.stints (dnAt s.jobs k) < costD l (dnAt s.jobs k) ∧ (dnAt s.jobs k).resp = -1 ∧ lastTo s.stints = T) ∨ (sumD s.stints (dnAt s.jobs k) = costD l (dnAt s.jobs k) ∧ 0 < (dnAt s.jobs k).resp ∧ (dnAt s.jobs k).resp = endD s.stints (dnAt s.jobs k) - (dnAt s.jobs k).rel)
      rcases h.dn k hk with ⟨j, hj, e⟩ | hd
      · left
        have hJ := h.rd j hj
        have e1 := hJ.eq
        rw [e] at e1
        have hw := h.wk ⟨j, hj, by rw [e1] at a4; dsimp only at a4; omega⟩
        refine ⟨?_, by rw [e1], hw⟩
        unfold sumD costD
        rw [e1]
        dsimp only
        rw [hJ.sm]
        exact hJ.d1
      · exact .inr hd
/-- what is executed of a job -/
theorem sum_bd {l : List Tsk} {T : Int} {js : List Don} (tk num : Int) : ∀ (n : Nat) (ss : List Stn), ss.length = n → (∀ pre x post, ss = pre ++ x :: post → StnOk l T js pre x) → 0 ≤ sumOf tk num ss ∧ sumOf tk num ss ≤ lastTo ss ∧ 0 ≤ lastTo ss ∧ 0 ≤ endOf tk num ss ∧ endOf tk num ss ≤ lastTo ss
  | 0, ss, hn, _ => by
    have : ss = [] := List.length_eq_zero_iff.mp hn
    subst this; simp [sumOf, lastTo, lastFrom, endOf, endFrom]
  | n + 1, ss, hn, h => by
    rcases List.eq_nil_or_concat ss with e | ⟨q, z, e⟩
    · subst e; simp at hn
    · rw [List.concat_eq_append] at e
      subst e
      have hz := h q z [] rfl
      have := sum_bd tk num n q (by simpa using hn) (fun pre x post e => h pre x (post ++ [z]) (by rw [e]; simp))
      have h1 := hz.fr
      have h2 := hz.ft
      rw [sumOf_snoc, lastTo_snoc, endOf_snoc]
      split <;> omega
theorem OrderOk.split {l : List Tsk} {T : Int} {ss : List Stn} {js : List Don} (h : OrderOk l T ss js) : ∀ pre x post, ss = pre ++ x :: post → StnOk l T js pre x := by
  intro pre x post e
  have hl : pre.length < ss.length := by rw [e]; simp
  have h1 := h.st pre.length hl
  have e1 : ss.take pre.length = pre := by rw [e]; simp
  have e2 : stAt ss pre.length = x := by rw [e]; simp [stAt, List.getD]
  rwa [e1, e2] at h1
theorem OrderOk.bd {l : List Tsk} {T : Int} {ss : List Stn} {js : List Don} (h : OrderOk l T ss js) (hT : 0 ≤ T) (i : Nat) (d : Don) :
    0 ≤ sumD (ss.take i) d ∧ sumD (ss.take i) d ≤ lastTo (ss.take i) ∧ 0 ≤ lastTo (ss.take i) ∧ lastTo (ss.take i) ≤ T ∧ 0 ≤ endD (ss.take i) d ∧ endD (ss.take i) d ≤ T := by
  have hs : ∀ pre x post, ss.take i = pre ++ x :: post → StnOk l T js pre x := fun pre x post e => h.split pre x (post ++ ss.drop i) ((List.take_append_drop i ss).symm.trans (by rw [e]; simp))
  obtain ⟨a1, a2, a3, a4, a5⟩ := sum_bd d.tk d.job _ _ rfl hs
  have : lastTo (ss.take i) ≤ T := by
    rcases List.eq_nil_or_concat (ss.take i) with e | ⟨q, z, e⟩
    · rw [e]; exact hT
    · rw [List.concat_eq_append] at e
      have := (hs q z [] e).tt
      rw [e, lastTo_snoc]; exact this
  exact ⟨a1, a2, a3, this, a4, Int.le_trans a5 this⟩
/-- the next stint -/
theorem OrderOk.next {l : List Tsk} {T : Int} {ss : List Stn} {js : List Don} (h : OrderOk l T ss js) {i k : Nat} (hi : i < ss.length) (hk : k < js.length) (hm : (stAt ss i).tk = (dnAt js k).tk ∧ (stAt ss i).job = (dnAt js k).job) :
    ∀ r, r < js.length → (if r = k then sumD (ss.take i) (dnAt js k) + (stAt ss i).to - (stAt ss i).frm else sumD (ss.take i) (dnAt js r)) = sumD (ss.take (i + 1)) (dnAt js r) ∧
      (if r = k then (stAt ss i).to else endD (ss.take i) (dnAt js r)) = endD (ss.take (i + 1)) (dnAt js r) := by
  intro r hr
  rw [stn_take_succ hi]
  unfold sumD endD
  rw [sumOf_snoc, endOf_snoc]
  by_cases e : r = k
  · subst e
    have : isJ (dnAt js r).tk (dnAt js r).job (stAt ss i) = true := isJ_iff.mpr hm
    simp only [this, if_true]
    exact ⟨by omega, trivial⟩
  · have : isJ (dnAt js r).tk (dnAt js r).job (stAt ss i) = false := by
      rw [← Bool.not_eq_true, isJ_iff]
      rintro ⟨e1, e2⟩
      exact e (h.un r k hr hk (by have := hm.1; omega) (by rw [← e2, hm.2]))
    simp [this, e]
/-- a tick less -/
theorem order_less {l : List Tsk} (h0 : rchk l = 0) (pol : Int) (n : Nat) :
    (upTo l pol n).stints.length ≤ (upTo l pol (n + 1)).stints.length ∧ (upTo l pol n).jobs.length ≤ (upTo l pol (n + 1)).jobs.length ∧
    ∀ i, i < (upTo l pol n).stints.length → stAt (upTo l pol n).stints i = { stAt (upTo l pol (n + 1)).stints i with to := if (stAt (upTo l pol (n + 1)).stints i).to < n then (stAt (upTo l pol (n + 1)).stints i).to else n } := by
  have hT := upTo_TI h0 pol n
  rw [upTo_succ]
  unfold tickM
  obtain ⟨hrs, hrj⟩ : (relJ (n : Int) 0 l (upTo l pol n)).stints = (upTo l pol n).stints ∧ (upTo l pol n).jobs.length ≤ (relJ (n : Int) 0 l (upTo l pol n)).jobs.length :=
    rel_ind0 (Q := fun _ s => s.stints = (upTo l pol n).stints ∧ (upTo l pol n).jobs.length ≤ s.jobs.length) (fun i s _ _ h => ⟨h.1, by have := h.2; simp; omega⟩) (fun i s _ _ h => h) ⟨rfl, Nat.le_refl _⟩
  have hle : ∀ i, i < (upTo l pol n).stints.length → (stAt (upTo l pol n).stints i).to ≤ n := fun i hi => (hT.st _ _ _ (stn_take_drop hi)).tt
  generalize relJ (n : Int) 0 l (upTo l pol n) = s at *
  have hself : ∀ i, i < (upTo l pol n).stints.length → stAt (upTo l pol n).stints i = { stAt (upTo l pol n).stints i with to := if (stAt (upTo l pol n).stints i).to < n then (stAt (upTo l pol n).stints i).to else n } := by
    intro i hi
    have := hle i hi
    have e : (if (stAt (upTo l pol n).stints i).to < n then (stAt (upTo l pol n).stints i).to else (n : Int)) = (stAt (upTo l pol n).stints i).to := by split <;> omega
    rw [e]
  have hjobs : (exeM l pol (n : Int) s).jobs.length = s.jobs.length := by
    unfold exeM runOne
    split
    · rfl
    · dsimp only; split <;> simp
  refine ⟨?_, by rw [hjobs]; exact hrj, ?_⟩
  · unfold exeM
    split
    · rw [hrs]; exact Nat.le_refl _
    · unfold runOne
      dsimp only
      rw [hrs]
      rcases stintsM_cases n (jbAt s.ready (bestM l pol s.ready)) (upTo l pol n).stints with ⟨ss', z, e1, _, _, e2⟩ | e2 <;> split <;> dsimp only <;> rw [e2]
      · rw [e1]; simp
      · rw [e1]; simp
      · simp
      · simp
  · intro i hi
    unfold exeM
    split
    · rw [hrs]; exact hself i hi
    · unfold runOne
      dsimp only
      have key : stAt (upTo l pol n).stints i = { stAt (stintsM n (jbAt s.ready (bestM l pol s.ready)) (upTo l pol n).stints) i with to := if (stAt (stintsM n (jbAt s.ready (bestM l pol s.ready)) (upTo l pol n).stints) i).to < n then (stAt (stintsM n (jbAt s.ready (bestM l pol s.ready)) (upTo l pol n).stints) i).to else n } := by
        rcases stintsM_cases n (jbAt s.ready (bestM l pol s.ready)) (upTo l pol n).stints with ⟨ss', z, e1, _, hz, e2⟩ | e2
        · rw [e2]
          by_cases hil : i < ss'.length
          · have ea : stAt (ss' ++ [{ z with to := (n : Int) + 1 }]) i = stAt (upTo l pol n).stints i := by rw [e1]; simp [stAt, List.getD, List.getElem?_append_left hil]
            rw [ea]; exact hself i hi
          · have hlen : i = ss'.length := by rw [e1] at hi; simp at hi; omega
            subst hlen
            have ea : stAt (ss' ++ [{ z with to := (n : Int) + 1 }]) ss'.length = { z with to := (n : Int) + 1 } := by simp [stAt, List.getD]
            have eb : stAt (upTo l pol n).stints ss'.length = z := by rw [e1]; simp [stAt, List.getD]
            rw [ea, eb]
            dsimp only
            rw [if_neg (by omega), ← hz]
        · rw [e2]
          have ea : stAt ((upTo l pol n).stints ++ [⟨(jbAt s.ready (bestM l pol s.ready)).tk, (jbAt s.ready (bestM l pol s.ready)).num, (n : Int), (n : Int) + 1⟩]) i = stAt (upTo l pol n).stints i := by simp [stAt, List.getD, List.getElem?_append_left hi]
          rw [ea]; exact hself i hi
      split <;> dsimp only <;> rw [hrs] <;> exact key
end Go.Proofs.Ythcdemmamggboaa
