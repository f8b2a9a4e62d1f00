/- executive: a table that serves (plain). -/
import Derived.Test.YtbilfpoghohddaaG14
import Derived.Test.YtbilfpoghohddaaZWtab
namespace Go.Proofs.Ytbilfpoghohddaa
open Go.RowKit
structure Srv (l : List Tsk) (xs : List Int) : Prop where
  h0 : rchk l = 0
  x1 : 1 ≤ xs.length
  ent : ∀ k ∈ xs, -1 ≤ k ∧ k < l.length
  per : ∀ i, i < l.length → (perN l i : Int) = (tskAt l i).per ∧ 1 ≤ perN l i ∧ perN l i ∣ xs.length
  sv : ∀ i, i < l.length → ∀ c, c < xs.length / perN l i → serveB l i (partN xs (perN l i) c) = true
theorem srv_of {l : List Tsk} {xs : List Int} (h : chkT l xs = 0) : Srv l xs := by
  have hok := ex0_ok h
  have he : (hyp l).2 = 0 := by
    by_cases he : (hyp l).2 = 0
    · exact he
    · rw [chkT_err he] at h; exact absurd h he
  cases ho : offsB l with
  | true => rw [chkT_off he ho] at h; exact absurd h (by decide)
  | false =>
    rw [chkT_on he ho] at h
    obtain ⟨hdv, a, b⟩ := hyp_dvd hok.h0 he
    split at h
    · exact absurd h (by decide)
    · next hl =>
      have hl' : (xs.length : Int) = (hyp l).1 := by simpa using hl
      split at h
      · exact absurd h (by decide)
      · split at h
        · next hs =>
          refine ⟨hok.h0, hok.x1, hok.xk, fun i hi => ?_, fun i hi c hc => ?_⟩
          · have hp1 := (tok_at hok.h0 hi).p1
            have hd := hdv i hi
            have e : (perN l i : Int) = (tskAt l i).per := by unfold perN; omega
            rw [← e, ← hl'] at hd
            exact ⟨e, by omega, Int.ofNat_dvd.mp hd⟩
          · cases hf : serveB l i (partN xs (perN l i) c) with
            | true => rfl
            | false =>
              have := svL_false hi hc hf l 0 rfl (Nat.zero_le _)
              rw [this] at hs
              cases hs
        · exact absurd h (by decide)
def posB (xs : List Int) (i q : Nat) : Bool := decide (xs.getD (q % xs.length) 0 = (i : Int))
theorem mul_mod2 {c M p q : Nat} (hq : q < p) : (c * p + q) % (M * p) = c % M * p + q := by
  rcases Nat.eq_zero_or_pos M with rfl | hM
  · simp
  have e : c * p + q = (c % M * p + q) + (M * p) * (c / M) := by
    have h := Nat.div_add_mod c M
    have h2 : c * p = (M * (c / M) + c % M) * p := by rw [h]
    rw [Nat.add_mul, Nat.mul_right_comm] at h2
    omega
  rw [e, Nat.add_mul_mod_self_left]
  refine Nat.mod_eq_of_lt ?_
  have h1 : c % M + 1 ≤ M := Nat.mod_lt _ hM
  have h2 := Nat.mul_le_mul_right p h1
  rw [Nat.add_mul, Nat.one_mul] at h2
  omega
section
variable {l : List Tsk} {xs : List Int}
theorem Srv.cnt (S : Srv l xs) {i : Nat} (hi : i < l.length) (c : Nat) {q : Nat} (hq : q ≤ perN l i) :
    cntR (posB xs i) (c * perN l i) q = (posL i 0 ((partN xs (perN l i) (c % (xs.length / perN l i))).take q)).length := by
  obtain ⟨_, hp, hd⟩ := S.per i hi
  have hM := Nat.div_mul_cancel hd
  have hMp : 0 < xs.length / perN l i := Nat.div_pos (Nat.le_of_dvd (by have := S.x1; omega) hd) hp
  have hlt := Nat.mod_lt c hMp
  have hle := chunk_le hp hd hlt
  have hmul : (c % (xs.length / perN l i) + 1) * perN l i = c % (xs.length / perN l i) * perN l i + perN l i := by rw [Nat.add_mul, Nat.one_mul]
  rw [posL_cnt _ _ q (by unfold partN; rw [List.length_take, List.length_drop]; omega)]
  refine cntR_congr (fun x hx => ?_)
  rw [Nat.zero_add]
  unfold posB
  rw [part_at2 (by omega)]
  conv => lhs; rw [show (c * perN l i + x) % xs.length = c % (xs.length / perN l i) * perN l i + x by
    conv => lhs; rw [← hM]
    rw [Nat.div_mul_cancel hd]
    conv => lhs; rw [← hM]
    exact mul_mod2 (by omega)]
theorem Srv.serve (S : Srv l xs) {i : Nat} (hi : i < l.length) (c : Nat) : serveB l i (partN xs (perN l i) (c % (xs.length / perN l i))) = true := by
  obtain ⟨_, hp, hd⟩ := S.per i hi
  exact S.sv i hi _ (Nat.mod_lt _ (Nat.div_pos (Nat.le_of_dvd (by have := S.x1; omega) hd) hp))
theorem Srv.plen (S : Srv l xs) {i : Nat} (hi : i < l.length) (c : Nat) : (partN xs (perN l i) (c % (xs.length / perN l i))).length = perN l i := by
  obtain ⟨_, hp, hd⟩ := S.per i hi
  have hMp : 0 < xs.length / perN l i := Nat.div_pos (Nat.le_of_dvd (by have := S.x1; omega) hd) hp
  have hle := chunk_le hp hd (Nat.mod_lt c hMp)
  have hmul : (c % (xs.length / perN l i) + 1) * perN l i = c % (xs.length / perN l i) * perN l i + perN l i := by rw [Nat.add_mul, Nat.one_mul]
  unfold partN; rw [List.length_take, List.length_drop]; omega
theorem Srv.full (S : Srv l xs) {i : Nat} (hi : i < l.length) (c : Nat) : (cntR (posB xs i) (c * perN l i) (perN l i) : Int) = (tskAt l i).cost := by
  have hs := S.serve hi c
  rw [S.cnt hi c (Nat.le_refl _), List.take_of_length_le (by rw [S.plen hi c]; exact Nat.le_refl _)]
  unfold serveB at hs
  simp only [Bool.and_eq_true, decide_eq_true_eq] at hs
  exact hs.1.1
theorem cntR_le (f : Nat → Bool) (a : Nat) {m n : Nat} (h : m ≤ n) : cntR f a m ≤ cntR f a n := by
  obtain ⟨k, rfl⟩ : ∃ k, n = m + k := ⟨n - m, by omega⟩
  rw [cntR_add]; omega
theorem Srv.le (S : Srv l xs) {i : Nat} (hi : i < l.length) (c : Nat) {q : Nat} (hq : q ≤ perN l i) : (cntR (posB xs i) (c * perN l i) q : Int) ≤ (tskAt l i).cost := by
  rw [← S.full hi c]
  have := cntR_le (posB xs i) (c * perN l i) hq
  omega
theorem Srv.late (S : Srv l xs) {i : Nat} (hi : i < l.length) (c : Nat) {q : Nat} (hq : q < perN l i) (h : posB xs i (c * perN l i + q) = true) : (q : Int) < (tskAt l i).dl := by
  have hs := S.serve hi c
  have hl := S.plen hi c
  have htk := tok_at S.h0 hi
  have hc1 := htk.c1
  have hd2 := htk.d2
  obtain ⟨e, hp, _⟩ := S.per i hi
  unfold serveB at hs
  simp only [Bool.and_eq_true, decide_eq_true_eq] at hs
  obtain ⟨⟨h1, h2⟩, _⟩ := hs
  rcases Int.lt_or_le (q : Int) (tskAt l i).dl with h3 | h3
  · exact h3
  exfalso
  have hx := S.cnt hi c (q := q) (by omega)
  have h4 := (inAt_lt (i := (i : Int)) (xs := partN xs (perN l i) (c % (xs.length / perN l i))) (q := q) (by omega) (m := (tskAt l i).cost - 1) (by omega) (by omega)).mp (by omega)
  rw [← hx] at h4
  have h5 := S.le hi c (q := q + 1) (by omega)
  simp only [cntR, h, if_true] at h5
  push_cast at h5
  omega
end
/-! the responses of a tick -/
structure DoneOk (l : List Tsk) (t : Nat) (op : List Int) (y : Don) : Prop where
  tk : y.tk < l.length
  r0 : 0 ≤ y.resp
  r1 : y.resp ≤ (tskAt l y.tk).dl
  ms : y.miss = false
  op : op.getD y.tk 0 = 1
  rl : y.rel + y.resp ≤ t + 1
  re : 0 ≤ y.rel
inductive Eat (l : List Tsk) (t : Nat) : List Int → List Don → List Int → Prop
  | nil (op : List Int) : Eat l t op [] op
  | cons {op op' : List Int} {y : Don} {ys : List Don} : DoneOk l t op y → Eat l t (op.set y.tk 0) ys op' → Eat l t op (y :: ys) op'
theorem Eat.snoc {l : List Tsk} {t : Nat} {op op' : List Int} {ds : List Don} {y : Don} (h : Eat l t op ds op') (hy : DoneOk l t op' y) : Eat l t op (ds ++ [y]) (op'.set y.tk 0) := by
  induction h with
  | nil op => exact .cons hy (.nil _)
  | cons h1 _ ih => exact .cons h1 (ih hy)
inductive Opn (l : List Tsk) (t : Nat) : List Int → List Nat → List Int → Prop
  | nil (op : List Int) : Opn l t op [] op
  | cons {op op' : List Int} {i : Nat} {is : List Nat} : i < l.length → (t : Int) % (tskAt l i).per = 0 → op.getD i 0 = 0 → Opn l t (op.set i 1) is op' → Opn l t op (i :: is) op'
theorem getD_set {op : List Int} {i k : Nat} {v : Int} (hi : i < op.length) : (op.set i v).getD k 0 = if k = i then v else op.getD k 0 := by
  by_cases h : k = i
  · subst h; simp [List.getD, hi]
  · rw [if_neg h]; simp [List.getD, List.getElem?_set, Ne.symm h]
theorem opn_ok {l : List Tsk} {t : Nat} : ∀ (is : List Nat) (op : List Int), op.length = l.length → is.Pairwise (· < ·) → (∀ i ∈ is, i < l.length ∧ (t : Int) % (tskAt l i).per = 0 ∧ op.getD i 0 = 0) →
    ∃ op1, Opn l t op is op1 ∧ op1.length = l.length ∧ ∀ i, i < l.length → op1.getD i 0 = if i ∈ is then 1 else op.getD i 0
  | [], op, hl, _, _ => ⟨op, .nil _, hl, fun i _ => by simp⟩
  | i :: is, op, hl, hs, h => by
    rw [List.pairwise_cons] at hs
    obtain ⟨a, b, c⟩ := h i (by simp)
    obtain ⟨op1, h1, h2, h3⟩ := opn_ok is (op.set i 1) (by rw [List.length_set]; exact hl) hs.2 (fun k hk => by
      obtain ⟨a', b', c'⟩ := h k (by simp [hk])
      refine ⟨a', b', ?_⟩
      rw [getD_set (by omega), if_neg (by have := hs.1 k hk; omega)]
      exact c')
    refine ⟨op1, .cons a b c h1, h2, fun k hk => ?_⟩
    rw [h3 k hk, getD_set (by omega)]
    by_cases e : k = i
    · subst e; simp
    · simp [e]
/-! the jobs -/
def opn (j : JobX) : Int := if j.lft = 0 then 0 else 1
def bg (p t : Nat) : Nat := t / p * p
/-- what is known of a job: its ticks until n are counted -/
structure JobT (l : List Tsk) (xs : List Int) (f : Prop) (i t n : Nat) (j : JobX) : Prop where
  rel : j.rel = (bg (perN l i) t : Nat)
  l0 : 0 ≤ j.lft
  le : j.lft + (cntR (posB xs i) (bg (perN l i) t) (n - bg (perN l i) t) : Nat) ≤ (tskAt l i).cost
  eq : f → j.lft + (cntR (posB xs i) (bg (perN l i) t) (n - bg (perN l i) t) : Nat) = (tskAt l i).cost
structure PreT (l : List Tsk) (xs : List Int) (f : Prop) (t : Nat) (js : List JobX) : Prop where
  ln : js.length = l.length
  z : ∀ i, i < l.length → t % perN l i = 0 → (jxAt js i).lft = 0
  nz : ∀ i, i < l.length → t % perN l i ≠ 0 → JobT l xs f i t t (jxAt js i)
theorem relL_iff {now : Int} {i : Nat} : ∀ (ts : List Tsk) (k : Nat) {l : List Tsk}, ts = l.drop k → (i ∈ relL now k ts ↔ k ≤ i ∧ i < l.length ∧ now % (tskAt l i).per = 0)
  | [], k, l, e => by
    have := congrArg List.length e
    simp at this
    simp [relL]; omega
  | x :: ts, k, l, e => by
    have hlt : k < l.length := by
      rcases Nat.lt_or_ge k l.length with h | h
      · exact h
      · rw [List.drop_eq_nil_of_le h] at e; cases e
    rw [tsks_drop hlt] at e
    injection e with e1 e2
    subst e1
    have ih := relL_iff (now := now) (i := i) ts (k + 1) e2
    unfold relL
    by_cases h : now % (tskAt l k).per = 0
    · rw [if_pos h, List.mem_cons, ih]
      constructor
      · rintro (rfl | h2)
        · exact ⟨Nat.le_refl _, hlt, h⟩
        · exact ⟨by omega, h2.2⟩
      · rintro ⟨a, b, c⟩
        rcases Nat.lt_or_eq_of_le a with h2 | rfl
        · exact .inr ⟨h2, b, c⟩
        · exact .inl rfl
    · rw [if_neg h, ih]
      constructor
      · exact fun ⟨a, b⟩ => ⟨by omega, b⟩
      · rintro ⟨a, b, c⟩
        rcases Nat.lt_or_eq_of_le a with h2 | rfl
        · exact ⟨h2, b, c⟩
        · exact absurd c h
section
variable {l : List Tsk} {xs : List Int} {f : Prop} {t : Nat}
theorem Srv.modz (S : Srv l xs) {i : Nat} (hi : i < l.length) (t : Nat) : (t : Int) % (tskAt l i).per = 0 ↔ t % perN l i = 0 := by
  obtain ⟨e, _, _⟩ := S.per i hi
  rw [← e, ← Int.natCast_emod]
  omega
theorem Srv.parts (S : Srv l xs) {i : Nat} (hi : i < l.length) (t : Nat) : ∃ c q, t = c * perN l i + q ∧ q < perN l i ∧ bg (perN l i) t = c * perN l i ∧ t % perN l i = q := by
  obtain ⟨_, hp, _⟩ := S.per i hi
  refine ⟨t / perN l i, t % perN l i, ?_, Nat.mod_lt _ hp, rfl, rfl⟩
  have := Nat.div_add_mod t (perN l i)
  rw [Nat.mul_comm] at this
  omega
theorem jobT_new (S : Srv l xs) {i : Nat} (hi : i < l.length) (hz : t % perN l i = 0) {m n : Int} (h0 : 0 ≤ n) (h1 : n ≤ (tskAt l i).cost) (hf : f → n = (tskAt l i).cost) : JobT l xs f i t t ⟨m, t, n⟩ := by
  obtain ⟨c, q, e1, e2, e3, e4⟩ := S.parts hi t
  have hq : q = 0 := by omega
  have e5 : bg (perN l i) t = t := by omega
  refine ⟨by rw [e5], h0, ?_, fun hh => ?_⟩ <;> rw [e5, Nat.sub_self] <;> simp [cntR]
  · exact h1
  · exact hf hh
theorem JobT.next (S : Srv l xs) {i : Nat} (hi : i < l.length) {j : JobX} (h : JobT l xs f i t (t + 1) j) : (if (t + 1) % perN l i = 0 then j.lft = 0 else JobT l xs f i (t + 1) (t + 1) j) := by
  obtain ⟨c, q, e1, e2, e3, e4⟩ := S.parts hi t
  obtain ⟨h1, h2, h3, h4⟩ := h
  rw [e3] at h1 h3 h4
  by_cases hq : q + 1 = perN l i
  · have hz : (t + 1) % perN l i = 0 := by
      rw [e1, Nat.add_assoc, hq, Nat.add_mod_right, Nat.mul_mod_left]
    rw [if_pos hz]
    have e5 : t + 1 - c * perN l i = perN l i := by omega
    rw [e5, S.full hi c] at h3
    omega
  · have e6 : (t + 1) / perN l i = c := by
      rw [e1, Nat.add_assoc, Nat.mul_comm c, Nat.mul_add_div (by omega), Nat.div_eq_of_lt (by omega)]; rfl
    have e5 : bg (perN l i) (t + 1) = c * perN l i := by unfold bg; rw [e6]
    have hz : (t + 1) % perN l i ≠ 0 := by
      rw [e1, Nat.add_assoc, Nat.mul_comm c, Nat.mul_add_mod, Nat.mod_eq_of_lt (by omega)]; omega
    rw [if_neg hz]
    refine ⟨?_, h2, ?_, ?_⟩ <;> rw [e5]
    · exact h1
    · exact h3
    · exact h4
/-- the releases -/
theorem start_T (S : Srv l xs) : ∀ (is : List Nat) (ns : List Int) (js : List JobX) (d : List Don) (op1 opd : List Int), js.length = l.length → is.Pairwise (· < ·) → (∀ i ∈ is, i < l.length ∧ t % perN l i = 0) → needOk l is ns = true → ns.length = is.length → (f → ns = is.map (fun i => (tskAt l i).cost)) →
    (∀ i, i < l.length → i ∉ is → JobT l xs f i t t (jxAt js i)) → Eat l t op1 d opd → opd.length = l.length → (∀ i, i < l.length → opd.getD i 0 = if i ∈ is then 1 else opn (jxAt js i)) →
    (startX t is ns (js, d)).1.length = l.length ∧ (∀ i, i < l.length → JobT l xs f i t t (jxAt (startX t is ns (js, d)).1 i)) ∧ ∃ op', Eat l t op1 (startX t is ns (js, d)).2 op' ∧ op'.length = l.length ∧ ∀ i, i < l.length → op'.getD i 0 = opn (jxAt (startX t is ns (js, d)).1 i)
  | [], ns, js, d, op1, opd, hl, _, _, _, _, _, hT, hE, ho, hop => by
    have e : startX t [] ns (js, d) = (js, d) := by cases ns <;> rfl
    rw [e]
    exact ⟨hl, fun i hi => hT i hi (by simp), opd, hE, ho, fun i hi => by rw [hop i hi]; simp⟩
  | i :: is, [], js, d, op1, opd, _, _, _, _, hc, _, _, _, _, _ => by simp at hc
  | i :: is, n :: ns, js, d, op1, opd, hl, hs, hi, hn, hc, hf, hT, hE, ho, hop => by
    rw [List.pairwise_cons] at hs
    simp only [needOk, Bool.and_eq_true, decide_eq_true_eq] at hn
    obtain ⟨hil, hz⟩ := hi i (by simp)
    have hlj : i < js.length := by rw [hl]; exact hil
    have hni : i ∉ is := fun h => by have := hs.1 i h; omega
    have htk := tok_at S.h0 hil
    have hd1 := htk.d1
    have hat : ∀ k, jxAt (js.set i ⟨(jxAt js i).num + 1, (t : Int), n⟩) k = if k = i then ⟨(jxAt js i).num + 1, (t : Int), n⟩ else jxAt js k := fun k => jxAt_set hlj
    have hT2 : ∀ k, k < l.length → k ∉ is → JobT l xs f k t t (jxAt (js.set i ⟨(jxAt js i).num + 1, (t : Int), n⟩) k) := fun k hk hki => by
      rw [hat k]
      by_cases e : k = i
      · subst e
        rw [if_pos rfl]
        exact jobT_new S hk hz hn.1.1 hn.1.2 (fun hh => by have := hf hh; simp at this; exact this.1)
      · rw [if_neg e]
        exact hT k hk (by simp [e, hki])
    simp only [startX]
    by_cases hn0 : n = 0
    · rw [if_pos hn0]
      have hdo : DoneOk l t opd ⟨i, (jxAt js i).num + 1, t, 0, false⟩ := ⟨hil, by simp, by simp; omega, rfl, by have := hop i hil; simpa using this, by simp; omega, by dsimp only; omega⟩
      refine start_T S is ns _ _ op1 (opd.set i 0) (by rw [List.length_set]; exact hl) hs.2 (fun k hk => hi k (by simp [hk])) hn.2 (by simpa using hc) (fun hh => by have := hf hh; simp at this; exact this.2) hT2 (hE.snoc hdo) (by rw [List.length_set]; exact ho) (fun k hk => ?_)
      rw [getD_set (by omega), hat k]
      by_cases e : k = i
      · subst e; rw [if_pos rfl, if_neg hni, if_pos rfl]; simp [opn, hn0]
      · rw [if_neg e, if_neg e, hop k hk]; simp [e]
    · rw [if_neg hn0]
      refine start_T S is ns _ _ op1 opd (by rw [List.length_set]; exact hl) hs.2 (fun k hk => hi k (by simp [hk])) hn.2 (by simpa using hc) (fun hh => by have := hf hh; simp at this; exact this.2) hT2 hE ho (fun k hk => ?_)
      rw [hop k hk, hat k]
      by_cases e : k = i
      · subst e; rw [if_neg hni, if_pos rfl]; simp [opn, hn0]
      · rw [if_neg e]; simp [e]
theorem JobT.other (S : Srv l xs) {i : Nat} (hi : i < l.length) {j : JobX} (h : JobT l xs f i t t j) (hp : posB xs i t = false) : JobT l xs f i t (t + 1) j := by
  obtain ⟨c, q, e1, e2, e3, e4⟩ := S.parts hi t
  obtain ⟨h1, h2, h3, h4⟩ := h
  have e5 : t + 1 - bg (perN l i) t = (t - bg (perN l i) t) + 1 := by omega
  have e6 : bg (perN l i) t + (t - bg (perN l i) t) = t := by omega
  refine ⟨h1, h2, ?_, ?_⟩ <;> rw [e5] <;> simp only [cntR, e6, hp]
  · exact h3
  · exact h4
theorem JobT.idle (S : Srv l xs) {i : Nat} (hi : i < l.length) {j : JobX} (h : JobT l xs f i t t j) (hp : posB xs i t = true) (hz : j.lft = 0) : JobT l xs f i t (t + 1) j ∧ ¬ f := by
  obtain ⟨c, q, e1, e2, e3, e4⟩ := S.parts hi t
  obtain ⟨h1, h2, h3, h4⟩ := h
  have e5 : t + 1 - bg (perN l i) t = (t - bg (perN l i) t) + 1 := by omega
  have e6 : bg (perN l i) t + (t - bg (perN l i) t) = t := by omega
  have hle := S.le hi c (q := q + 1) (by omega)
  have e7 : q = t - bg (perN l i) t := by omega
  rw [← e3, e7] at hle
  have hnf : ¬ f := fun hh => by
    have := h4 hh
    simp only [cntR, e6, hp, if_true] at hle
    push_cast at hle
    omega
  refine ⟨⟨h1, h2, ?_, fun hh => absurd hh hnf⟩, hnf⟩
  rw [e5, hz]; omega
theorem JobT.work (S : Srv l xs) {i : Nat} (hi : i < l.length) {j : JobX} (h : JobT l xs f i t t j) (hp : posB xs i t = true) (hz : j.lft ≠ 0) : JobT l xs f i t (t + 1) { j with lft := j.lft - 1 } ∧ 0 ≤ (t : Int) + 1 - j.rel ∧ (t : Int) + 1 - j.rel ≤ (tskAt l i).dl := by
  obtain ⟨c, q, e1, e2, e3, e4⟩ := S.parts hi t
  obtain ⟨h1, h2, h3, h4⟩ := h
  have e5 : t + 1 - bg (perN l i) t = (t - bg (perN l i) t) + 1 := by omega
  have e6 : bg (perN l i) t + (t - bg (perN l i) t) = t := by omega
  have hlt := S.late hi c e2 (by rw [← e1]; exact hp)
  refine ⟨⟨h1, by dsimp only; omega, ?_, fun hh => ?_⟩, by omega, by omega⟩ <;> rw [e5] <;> simp only [cntR, e6, hp, if_true] <;> push_cast
  · omega
  · have := h4 hh; omega
theorem keep_tick (S : Srv l xs) {st : ExS} (hnow : st.now = t) (P : PreT l xs f t st.js) {ns : List Int} (hn : needOk l (relL t 0 l) ns = true) (hc : ns.length = (relL t 0 l).length) (hf : f → ns = (relL t 0 l).map (fun i => (tskAt l i).cost)) {op1 : List Int} (ho : op1.length = l.length)
    (hop : ∀ i, i < l.length → op1.getD i 0 = if i ∈ relL t 0 l then 1 else opn (jxAt st.js i)) :
    (tickX l xs st ns).err = 0 ∧ (tickX l xs st ns).st.now = ((t + 1 : Nat) : Int) ∧ PreT l xs f (t + 1) (tickX l xs st ns).st.js ∧ (f → (tickX l xs st ns).run = xs.getD (t % xs.length) 0) ∧
    ∃ op2, Eat l t op1 (tickX l xs st ns).done op2 ∧ op2.length = l.length ∧ ∀ i, i < l.length → op2.getD i 0 = opn (jxAt (tickX l xs st ns).st.js i) := by
  have hmem := fun i => relL_iff (now := (t : Int)) (i := i) l 0 (l := l) rfl
  obtain ⟨hl1, hT, op', hE, ho', hop'⟩ := start_T (f := f) (t := t) S (relL t 0 l) ns st.js [] op1 op1 P.ln (relL_sorted _ _ _) (fun i hi => by
      obtain ⟨_, a, b⟩ := (hmem i).mp hi
      exact ⟨a, (S.modz a t).mp b⟩) hn hc hf (fun i hi hni => P.nz i hi (fun hz => hni ((hmem i).mpr ⟨Nat.zero_le _, hi, (S.modz hi t).mpr hz⟩))) (.nil _) ho hop
  unfold tickX
  rw [hnow, if_pos ⟨hc, hn⟩]
  dsimp only
  generalize startX (t : Int) (relL t 0 l) ns (st.js, []) = p at *
  have hk : tickK xs (t : Int) = xs.getD (t % xs.length) 0 := by
    unfold tickK
    rw [← Int.natCast_emod, Int.toNat_natCast]
  have hent := S.ent _ (tickK_mem (xs := xs) (now := (t : Int)) (by omega) S.x1)
  refine ⟨rfl, by push_cast; rfl, ?_⟩
  rw [hk] at *
  have hpb : ∀ i, i < l.length → (i : Int) ≠ xs.getD (t % xs.length) 0 → posB xs i t = false := fun i hi hne => by unfold posB; simpa using Ne.symm hne
  have hpt : ∀ i : Nat, (i : Int) = xs.getD (t % xs.length) 0 → posB xs i t = true := fun i e => by unfold posB; simpa using e.symm
  generalize xs.getD (t % xs.length) 0 = k at *
  have fin : ∀ js : List JobX, js.length = l.length → (∀ i, i < l.length → JobT l xs f i t (t + 1) (jxAt js i)) → PreT l xs f (t + 1) js := fun js h1 h2 => ⟨h1, fun i hi hz => by
    have := (h2 i hi).next S hi
    rw [if_pos hz] at this
    exact this, fun i hi hz => by
    have := (h2 i hi).next S hi
    rw [if_neg hz] at this
    exact this⟩
  unfold runX
  by_cases hk0 : k < 0
  · rw [if_pos (.inl hk0)]
    dsimp only
    exact ⟨fin _ hl1 (fun i hi => (hT i hi).other S hi (hpb i hi (by omega))), fun _ => by omega, op', hE, ho', hop'⟩
  have hkl : k.toNat < l.length := by omega
  have hke : (k.toNat : Int) = k := by omega
  generalize k.toNat = m at *
  subst hke
  by_cases hz : (jxAt p.1 m).lft = 0
  · rw [if_pos (.inr hz)]
    dsimp only
    have hid := (hT m hkl).idle S hkl (hpt m rfl) hz
    refine ⟨fin _ hl1 (fun i hi => ?_), fun hh => absurd hh hid.2, op', hE, ho', hop'⟩
    by_cases e : i = m
    · subst e; exact hid.1
    · exact (hT i hi).other S hi (hpb i hi (by omega))
  · rw [if_neg (by omega)]
    dsimp only
    have hw := (hT m hkl).work S hkl (hpt m rfl) hz
    have hlj : m < p.1.length := by omega
    refine ⟨fin _ (by rw [List.length_set]; exact hl1) (fun i hi => ?_), fun _ => rfl, ?_⟩
    · rw [jxAt_set hlj]
      by_cases e : i = m
      · subst e; rw [if_pos rfl]; exact hw.1
      · rw [if_neg e]; exact (hT i hi).other S hi (hpb i hi (by omega))
    · by_cases h1 : (jxAt p.1 m).lft - 1 = 0
      · rw [if_pos h1]
        refine ⟨op'.set m 0, hE.snoc (y := ⟨m, (jxAt p.1 m).num, (jxAt p.1 m).rel, (t : Int) + 1 - (jxAt p.1 m).rel, false⟩) ⟨hkl, hw.2.1, hw.2.2, rfl, by dsimp only; rw [hop' m hkl]; simp [opn, hz], by dsimp only; omega, by dsimp only; have := (hT m hkl).rel; omega⟩, by rw [List.length_set]; exact ho', fun i hi => ?_⟩
        rw [getD_set (by omega), jxAt_set hlj]
        by_cases e : i = m
        · subst e; rw [if_pos rfl, if_pos rfl]; simp [opn, h1]
        · rw [if_neg e, if_neg e]; exact hop' i hi
      · rw [if_neg h1]
        refine ⟨op', hE, ho', fun i hi => ?_⟩
        rw [jxAt_set hlj]
        by_cases e : i = m
        · subst e; rw [if_pos rfl, hop' i hi]; simp [opn, h1, hz]
        · rw [if_neg e]; exact hop' i hi
theorem ex0_pre (f : Prop) (S : Srv l xs) : PreT l xs f 0 (ex0 l).js := by
  have hat : ∀ i, i < l.length → jxAt (ex0 l).js i = ⟨-1, 0, 0⟩ := fun i hi => by simp [ex0, jxAt, List.getD, hi]
  exact ⟨by simp [ex0], fun i hi _ => by rw [hat i hi], fun i hi hz => absurd (Nat.zero_mod _) hz⟩
/-- the releases open nothing that is open -/
theorem keep_open (S : Srv l xs) {js : List JobX} (P : PreT l xs f t js) {op : List Int} (ho : op.length = l.length) (hop : ∀ i, i < l.length → op.getD i 0 = opn (jxAt js i)) :
    ∃ op1, Opn l t op (relL t 0 l) op1 ∧ op1.length = l.length ∧ ∀ i, i < l.length → op1.getD i 0 = if i ∈ relL t 0 l then 1 else opn (jxAt js i) := by
  have hmem := fun i => relL_iff (now := (t : Int)) (i := i) l 0 (l := l) rfl
  obtain ⟨op1, a, b, c⟩ := opn_ok (l := l) (t := t) (relL t 0 l) op ho (relL_sorted _ _ _) (fun i hi => by
    obtain ⟨_, a, b⟩ := (hmem i).mp hi
    exact ⟨a, b, by rw [hop i a]; simp [opn, P.z i a ((S.modz a t).mp b)]⟩)
  exact ⟨op1, a, b, fun i hi => by rw [c i hi, hop i hi]⟩
/-- after whole hyperperiods nothing is open -/
theorem keep_end (S : Srv l xs) {n : Nat} {js : List JobX} (P : PreT l xs f (n * xs.length) js) : ∀ i, i < l.length → opn (jxAt js i) = 0 := by
  intro i hi
  obtain ⟨_, _, m, hm⟩ := S.per i hi
  have : n * xs.length % perN l i = 0 := by
    rw [hm, Nat.mul_left_comm, Nat.mul_mod_right]
  simp [opn, P.z i hi this]
theorem need_costs (S : Srv l xs) : ∀ is : List Nat, (∀ i ∈ is, i < l.length) → needOk l is (is.map fun i => (tskAt l i).cost) = true
  | [], _ => rfl
  | i :: is, h => by
    have hc := (tok_at S.h0 (h i (by simp))).c1
    simp only [List.map_cons, needOk, need_costs S is (fun k hk => h k (by simp [hk]))]
    simp; omega
/-- an executive whose jobs all need their Cost -/
theorem keep_full (S : Srv l xs) {st : ExS} (hnow : st.now = t) (P : PreT l xs True t st.js) {ns : List Int} (hn : ns = (relL t 0 l).map (fun i => (tskAt l i).cost)) :
    (tickX l xs st ns).err = 0 ∧ (tickX l xs st ns).st.now = ((t + 1 : Nat) : Int) ∧ PreT l xs True (t + 1) (tickX l xs st ns).st.js ∧ (tickX l xs st ns).run = xs.getD (t % xs.length) 0 := by
  subst hn
  obtain ⟨op1, _, h1, h2⟩ := keep_open S P (op := st.js.map opn) (by simp [P.ln]) (fun i hi => by
    have : i < st.js.length := by rw [P.ln]; exact hi
    simp [List.getD, jxAt, this])
  obtain ⟨a, b, c, d, _⟩ := keep_tick S hnow P (need_costs S _ (fun i hi => by have := relL_mem l 0 hi; omega)) (by simp) (fun _ => rfl) h1 h2
  exact ⟨a, b, c, d trivial⟩
end
end Go.Proofs.Ytbilfpoghohddaa
