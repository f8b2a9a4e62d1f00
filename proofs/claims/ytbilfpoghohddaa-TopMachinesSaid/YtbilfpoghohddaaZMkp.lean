/- TopMachines: when the jobs of a table are done (plain). -/
import Derived.Test.YtbilfpoghohddaaZXkp
namespace Go.Proofs.Ytbilfpoghohddaa
open Go.RowKit
/-- the job of task i in its period number c is done after x ticks of the period, if it needs its Cost -/
structure FinAt (l : List Tsk) (xs : List Int) (i c x : Nat) : Prop where
  x1 : 1 ≤ x
  xp : x ≤ perN l i
  at_ : posB xs i (c * perN l i + (x - 1)) = true
  full : (cntR (posB xs i) (c * perN l i) x : Int) = (tskAt l i).cost
section
variable {l : List Tsk} {xs : List Int} {f : Prop} {t : Nat}
theorem fin_ge (S : Srv l xs) {i : Nat} (hi : i < l.length) {c x y : Nat} (h : FinAt l xs i c x) (hy1 : 1 ≤ y) (hyp : y ≤ perN l i) (hy : posB xs i (c * perN l i + (y - 1)) = true) : y ≤ x := by
  rcases Nat.lt_or_ge x y with h1 | h1
  · exfalso
    have h2 := cntR_le (posB xs i) (c * perN l i) (m := x) (n := y - 1) (by omega)
    have h3 := S.le hi c hyp
    obtain ⟨z, rfl⟩ : ∃ z, y = z + 1 := ⟨y - 1, by omega⟩
    rw [Nat.add_sub_cancel] at hy h2
    simp only [cntR, hy, if_true] at h3
    have := h.full
    push_cast at h3
    omega
  · exact h1
theorem fin_unique (S : Srv l xs) {i : Nat} (hi : i < l.length) {c x y : Nat} (h1 : FinAt l xs i c x) (h2 : FinAt l xs i c y) : x = y := by
  have a := fin_ge S hi h1 h2.x1 h2.xp h2.at_
  have b := fin_ge S hi h2 h1.x1 h1.xp h1.at_
  omega
theorem cnt_reach (g : Nat → Bool) (a k : Nat) (hk : 1 ≤ k) : ∀ n, k ≤ cntR g a n → ∃ x, 1 ≤ x ∧ x ≤ n ∧ g (a + (x - 1)) = true ∧ cntR g a x = k
  | 0, h => by simp [cntR] at h; omega
  | n + 1, h => by
    rcases Nat.lt_or_ge (cntR g a n) k with h1 | h1
    · refine ⟨n + 1, by omega, Nat.le_refl _, ?_, ?_⟩
      · cases hg : g (a + n) with
        | true => rw [Nat.add_sub_cancel]; exact hg
        | false => simp only [cntR, hg] at h; simp at h; omega
      · simp only [cntR] at h ⊢
        split at h <;> split <;> omega
    · obtain ⟨x, a1, a2, a3, a4⟩ := cnt_reach g a k hk n h1
      exact ⟨x, a1, by omega, a3, a4⟩
theorem fin_ex (S : Srv l xs) {i : Nat} (hi : i < l.length) (c : Nat) : ∃ x, FinAt l xs i c x := by
  have h := S.full hi c
  have hc := (tok_at S.h0 hi).c1
  obtain ⟨x, a, b, d, e⟩ := cnt_reach (posB xs i) (c * perN l i) (tskAt l i).cost.toNat (by omega) (perN l i) (by omega)
  exact ⟨x, a, b, d, by omega⟩
theorem pos_mod (S : Srv l xs) {i : Nat} (hi : i < l.length) (c : Nat) {q : Nat} (hq : q < perN l i) : posB xs i (c * perN l i + q) = posB xs i (c % (xs.length / perN l i) * perN l i + q) := by
  obtain ⟨_, hp, hd⟩ := S.per i hi
  have hM := Nat.div_mul_cancel hd
  have h1 := mul_mod2 (c := c) (M := xs.length / perN l i) hq
  have h2 := mul_mod2 (c := c % (xs.length / perN l i)) (M := xs.length / perN l i) hq
  rw [Nat.mod_mod] at h2
  rw [hM] at h1 h2
  unfold posB
  rw [h1, h2]
theorem fin_mod (S : Srv l xs) {i : Nat} (hi : i < l.length) {c x : Nat} (h : FinAt l xs i c x) : FinAt l xs i (c % (xs.length / perN l i)) x := by
  obtain ⟨a, b, d, e⟩ := h
  refine ⟨a, b, by rw [← pos_mod S hi c (by omega)]; exact d, ?_⟩
  rw [← e]
  congr 1
  exact (cntR_congr (fun q hq => pos_mod S hi c (by omega))).symm
/-! the responses of a tick -/
theorem start_zero {now : Int} : ∀ (is : List Nat) (ns : List Int) (p : List JobX × List Don), ∀ y ∈ (startX now is ns p).2, y ∈ p.2 ∨ (y.resp = 0 ∧ y.tk ∈ is)
  | [], ns, p, y, h => by cases ns <;> exact .inl h
  | i :: is, [], p, y, h => .inl h
  | i :: is, n :: ns, p, y, h => by
    simp only [startX] at h
    rcases start_zero is ns _ y h with h1 | h1
    · dsimp only at h1
      split at h1
      · rcases List.mem_append.mp h1 with h2 | h2
        · exact .inl h2
        · right
          simp at h2
          subst h2
          exact ⟨rfl, by simp⟩
      · exact .inl h1
    · exact .inr ⟨h1.1, by simp [h1.2]⟩
theorem start_full {now : Int} (S : Srv l xs) : ∀ (is : List Nat) (p : List JobX × List Don), (∀ i ∈ is, i < l.length) → (startX now is (is.map fun i => (tskAt l i).cost) p).2 = p.2
  | [], p, _ => rfl
  | i :: is, p, h => by
    have hc := (tok_at S.h0 (h i (by simp))).c1
    simp only [List.map_cons, startX]
    rw [start_full S is _ (fun k hk => h k (by simp [hk]))]
    dsimp only
    rw [if_neg (by omega)]
theorem run_done {now k : Int} {p : List JobX × List Don} : ∀ y ∈ (runX now k p).2.2, y ∈ p.2 ∨ (0 ≤ k ∧ (jxAt p.1 k.toNat).lft = 1 ∧ y.tk = k.toNat ∧ y.resp = now + 1 - (jxAt p.1 k.toNat).rel) := by
  intro y hy
  unfold runX at hy
  split at hy
  · exact .inl hy
  · next hc =>
    dsimp only at hy
    split at hy
    · rcases List.mem_append.mp hy with h | h
      · exact .inl h
      · right
        simp at h
        subst h
        exact ⟨by omega, by omega, rfl, rfl⟩
    · exact .inl hy
theorem job_fin (S : Srv l xs) {i : Nat} (hi : i < l.length) {j : JobX} (h : JobT l xs True i t t j) (hp : posB xs i t = true) (h1 : j.lft = 1) : ∃ x, FinAt l xs i (t / perN l i) x ∧ t + 1 = bg (perN l i) t + x ∧ (t : Int) + 1 - j.rel = x := by
  obtain ⟨c, q, e1, e2, e3, e4⟩ := S.parts hi t
  have e5 : t / perN l i * perN l i = c * perN l i := e3
  have ha := h.rel
  have he := h.eq trivial
  rw [e3] at ha he
  have e7 : t - c * perN l i = q := by omega
  rw [e7] at he
  refine ⟨q + 1, ⟨by omega, by omega, ?_, ?_⟩, by omega, by omega⟩
  · rw [e5, Nat.add_sub_cancel, ← e1]; exact hp
  · rw [e5]
    simp only [cntR]
    rw [← e1, hp]
    simp
    omega
/-- an executive whose jobs all need their Cost -/
theorem full_tick (S : Srv l xs) {st : ExS} (hnow : st.now = t) (P : PreT l xs True t st.js) {ns : List Int} (hn : ns = (relL t 0 l).map (fun i => (tskAt l i).cost)) :
    (∀ y ∈ (tickX l xs st ns).done, ∃ x : Nat, y.tk < l.length ∧ y.resp = x ∧ FinAt l xs y.tk (t / perN l y.tk) x ∧ t + 1 = bg (perN l y.tk) t + x) ∧
    (∀ i x, i < l.length → FinAt l xs i (t / perN l i) x → t + 1 = bg (perN l i) t + x → ∃ y ∈ (tickX l xs st ns).done, y.tk = i ∧ y.resp = x) := by
  have hmem := fun i => relL_iff (now := (t : Int)) (i := i) l 0 (l := l) rfl
  have hrl : ∀ i ∈ relL t 0 l, i < l.length := fun i hi => ((hmem i).mp hi).2.1
  obtain ⟨op1, hop, hol, hoe⟩ := keep_open S P (op := st.js.map opn) (by simp [P.ln]) (fun i hi => by
    have : i < st.js.length := by rw [P.ln]; exact hi
    simp [List.getD, jxAt, this])
  have hno := need_costs S (relL t 0 l) hrl
  obtain ⟨hl1, hT, _⟩ := start_T (f := True) (t := t) S (relL t 0 l) ns st.js [] op1 op1 P.ln (relL_sorted _ _ _) (fun i hi => ⟨hrl i hi, (S.modz (hrl i hi) t).mp ((hmem i).mp hi).2.2⟩) (by rw [hn]; exact hno) (by rw [hn]; simp) (fun _ => hn) (fun i hi hni => P.nz i hi (fun hz => hni ((hmem i).mpr ⟨Nat.zero_le _, hi, (S.modz hi t).mpr hz⟩))) (.nil _) hol hoe
  have hd := start_full (now := (t : Int)) S (relL t 0 l) (st.js, []) hrl
  subst hn
  unfold tickX
  rw [hnow, if_pos ⟨by simp, hno⟩]
  dsimp only
  generalize startX (t : Int) (relL t 0 l) ((relL t 0 l).map fun i => (tskAt l i).cost) (st.js, []) = p at *
  have hk : tickK xs (t : Int) = xs.getD (t % xs.length) 0 := by
    unfold tickK
    rw [← Int.natCast_emod, Int.toNat_natCast]
  have hent := S.ent _ (tickK_mem (xs := xs) (now := (t : Int)) (by omega) S.x1)
  rw [hk] at *
  have hpt : ∀ i : Nat, (i : Int) = xs.getD (t % xs.length) 0 → posB xs i t = true := fun i e => by unfold posB; simpa using e.symm
  have hpt2 : ∀ i : Nat, posB xs i t = true → xs.getD (t % xs.length) 0 = i := fun i e => by unfold posB at e; simpa using e
  generalize xs.getD (t % xs.length) 0 = k at *
  constructor
  · intro y hy
    rcases run_done y hy with h | ⟨h0, h1, h2, h3⟩
    · rw [hd] at h; cases h
    · have hkl : k.toNat < l.length := by omega
      obtain ⟨x, a, b, c⟩ := job_fin S hkl (hT _ hkl) (hpt _ (by omega)) h1
      rw [h2, h3]
      exact ⟨x, hkl, c, a, b⟩
  · intro i x hi hf hx
    have hpi : posB xs i t = true := by
      have hat := hf.at_
      have hx1 := hf.x1
      rw [show t / perN l i * perN l i = bg (perN l i) t from rfl, show bg (perN l i) t + (x - 1) = t by omega] at hat
      exact hat
    have hki := hpt2 i hpi
    subst hki
    have hj := hT i hi
    have heq := hj.eq trivial
    have hfu := hf.full
    have e : t / perN l i * perN l i = bg (perN l i) t := rfl
    have hx1 := hf.x1
    rw [e] at hfu
    obtain ⟨z, rfl⟩ : ∃ z, x = z + 1 := ⟨x - 1, by omega⟩
    have hz : t - bg (perN l i) t = z := by omega
    rw [hz] at heq
    simp only [cntR] at hfu
    rw [show bg (perN l i) t + z = t by omega, hpi] at hfu
    simp at hfu
    have hl1' : (jxAt p.1 i).lft = 1 := by omega
    unfold runX
    rw [if_neg (by rw [Int.toNat_natCast]; omega)]
    dsimp only
    rw [Int.toNat_natCast, if_pos (by omega)]
    refine ⟨⟨i, (jxAt p.1 i).num, (jxAt p.1 i).rel, (t : Int) + 1 - (jxAt p.1 i).rel, false⟩, by simp, rfl, ?_⟩
    have := hj.rel
    dsimp only
    omega
/-- no job is done later than if it needed its Cost -/
theorem less_tick (S : Srv l xs) {st : ExS} (hnow : st.now = t) (P : PreT l xs False t st.js) {ns : List Int} (hn : needOk l (relL t 0 l) ns = true) (hc : ns.length = (relL t 0 l).length) :
    ∀ y ∈ (tickX l xs st ns).done, y.tk < l.length ∧ ∀ x, FinAt l xs y.tk (t / perN l y.tk) x → y.resp ≤ x := by
  have hmem := fun i => relL_iff (now := (t : Int)) (i := i) l 0 (l := l) rfl
  have hrl : ∀ i ∈ relL t 0 l, i < l.length := fun i hi => ((hmem i).mp hi).2.1
  obtain ⟨op1, hop, hol, hoe⟩ := keep_open S P (op := st.js.map opn) (by simp [P.ln]) (fun i hi => by
    have : i < st.js.length := by rw [P.ln]; exact hi
    simp [List.getD, jxAt, this])
  obtain ⟨hl1, hT, _⟩ := start_T (f := False) (t := t) S (relL t 0 l) ns st.js [] op1 op1 P.ln (relL_sorted _ _ _) (fun i hi => ⟨hrl i hi, (S.modz (hrl i hi) t).mp ((hmem i).mp hi).2.2⟩) hn hc (fun h => h.elim) (fun i hi hni => P.nz i hi (fun hz => hni ((hmem i).mpr ⟨Nat.zero_le _, hi, (S.modz hi t).mpr hz⟩))) (.nil _) hol hoe
  have hd := start_zero (now := (t : Int)) (relL t 0 l) ns (st.js, [])
  unfold tickX
  rw [hnow, if_pos ⟨hc, hn⟩]
  dsimp only
  generalize startX (t : Int) (relL t 0 l) ns (st.js, []) = p at *
  have hk : tickK xs (t : Int) = xs.getD (t % xs.length) 0 := by
    unfold tickK
    rw [← Int.natCast_emod, Int.toNat_natCast]
  have hent := S.ent _ (tickK_mem (xs := xs) (now := (t : Int)) (by omega) S.x1)
  rw [hk] at *
  have hpt : ∀ i : Nat, (i : Int) = xs.getD (t % xs.length) 0 → posB xs i t = true := fun i e => by unfold posB; simpa using e.symm
  generalize xs.getD (t % xs.length) 0 = k at *
  intro y hy
  rcases run_done y hy with h | ⟨h0, h1, h2, h3⟩
  · rcases hd y h with h4 | ⟨h4, h5⟩
    · cases h4
    · exact ⟨hrl _ h5, fun x _ => by rw [h4]; omega⟩
  · have hkl : k.toNat < l.length := by omega
    rw [h2]
    refine ⟨hkl, fun x hx => ?_⟩
    have hpk := hpt k.toNat (by omega)
    obtain ⟨c, q, e1, e2, e3, e4⟩ := S.parts hkl t
    have e5 : t / perN l k.toNat * perN l k.toNat = c * perN l k.toNat := e3
    have hr := (hT _ hkl).rel
    have := fin_ge S hkl hx (y := q + 1) (by omega) (by omega) (by rw [e5, Nat.add_sub_cancel, ← e1]; exact hpk)
    rw [h3, hr, e3]
    omega
end
end Go.Proofs.Ytbilfpoghohddaa
