/- schedule: the job that is executed is the first one (plain); ranks. -/
import Derived.Test.YthcdemmamggboaaG5
namespace Go.Proofs.Ythcdemmamggboaa
open Go.RowKit
theorem cmpI_neg {x y : Int} : cmpI x y < 0 ↔ x < y := by unfold cmpI; split <;> (try split) <;> omega
theorem cmpI_zero {x y : Int} : cmpI x y = 0 ↔ x = y := by unfold cmpI; split <;> (try split) <;> omega
theorem cmpL_cons_neg {x y : Int} {xs ys : List Int} : cmpL (x :: xs) (y :: ys) < 0 ↔ (x < y ∨ (x = y ∧ cmpL xs ys < 0)) := by
  simp only [cmpL]
  split
  · next h => rw [cmpI_zero] at h; omega
  · next h => rw [cmpI_zero] at h; rw [cmpI_neg]; omega
theorem cmpL_trans : ∀ {a b c : List Int}, a.length = b.length → b.length = c.length → cmpL a b < 0 → cmpL b c < 0 → cmpL a c < 0
  | [], [], _, _, _, h, _ => by simp [cmpL] at h
  | _ :: _, [], _, h, _, _, _ => by simp at h
  | [], _ :: _, _, h, _, _, _ => by simp at h
  | _ :: _, _ :: _, [], _, h, _, _ => by simp at h
  | x :: xs, y :: ys, z :: zs, h1, h2, h3, h4 => by
    rw [cmpL_cons_neg] at h3 h4 ⊢
    rcases h3 with h3 | ⟨e3, h3⟩ <;> rcases h4 with h4 | ⟨e4, h4⟩
    · left; omega
    · left; omega
    · left; omega
    · right; exact ⟨by omega, cmpL_trans (by simpa using h1) (by simpa using h2) h3 h4⟩
theorem cmpL_irr : ∀ a : List Int, cmpL a a = 0
  | [] => rfl
  | x :: xs => by simp only [cmpL]; rw [if_pos (cmpI_zero.mpr rfl)]; exact cmpL_irr xs
theorem before_trans {l : List Tsk} {pol : Int} {a b c : Job} (h1 : beforeM l pol a b = true) (h2 : beforeM l pol b c = true) : beforeM l pol a c = true := by
  rw [← cmp_before, decide_eq_true_eq] at h1 h2 ⊢
  exact cmpL_trans (by rw [keyM_len, keyM_len]) (by rw [keyM_len, keyM_len]) h1 h2
theorem before_irr (l : List Tsk) (pol : Int) (a : Job) : beforeM l pol a a = false := by
  rw [← cmp_before, cmpL_irr]; rfl
theorem bestF_min (l : List Tsk) (pol : Int) (r : List Job) : ∀ (js : List Job) (b i : Nat), js = r.drop i → b < i → i ≤ r.length → (∀ x, x < i → beforeM l pol (jbAt r x) (jbAt r b) = false) →
    ∀ x, x < r.length → beforeM l pol (jbAt r x) (jbAt r (bestF l pol b (jbAt r b) i js)) = false
  | [], b, i, hj, hb, hi, h => by
    have : i = r.length := by
      have := congrArg List.length hj
      simp at this; omega
    subst this
    exact h
  | j :: js, b, i, hj, hb, hi, h => by
    have hlt : i < r.length := by
      rcases Nat.lt_or_ge i r.length with h | h
      · exact h
      · rw [List.drop_eq_nil_of_le h] at hj; cases hj
    have e : r.drop i = jbAt r i :: r.drop (i + 1) := by rw [List.drop_eq_getElem_cons hlt]; simp [jbAt, List.getD, hlt]
    rw [e] at hj
    injection hj with e1 e2
    subst e1
    unfold bestF
    split
    · next hbf =>
      refine bestF_min l pol r js i (i + 1) e2 (by omega) (by omega) (fun x hx => ?_)
      by_cases hxi : x = i
      · subst hxi; exact before_irr _ _ _
      · cases hc : beforeM l pol (jbAt r x) (jbAt r i) with
        | false => rfl
        | true => exact absurd (before_trans hc hbf) (by rw [h x (by omega)]; simp)
    · next hbf =>
      refine bestF_min l pol r js b (i + 1) e2 (by omega) (by omega) (fun x hx => ?_)
      by_cases hxi : x = i
      · subst hxi; simpa using hbf
      · exact h x (by omega)
theorem bestM_min (l : List Tsk) (pol : Int) {r : List Job} (hr : 0 < r.length) : ∀ x, x < r.length → beforeM l pol (jbAt r x) (jbAt r (bestM l pol r)) = false :=
  bestF_min l pol r (r.drop 1) 0 1 rfl (by omega) (by omega) (fun x hx => by
    obtain rfl : x = 0 := by omega
    exact before_irr _ _ _)
/-! ranks -/
theorem mx_le {a b : Int} : a ≤ mx a b ∧ b ≤ mx a b ∧ (mx a b = a ∨ mx a b = b) := by unfold mx; split <;> omega
theorem rankS_ge (l : List Tsk) (d : Int) : ∀ (ss : List Sec) (p : Int × Bool), p.1 ≤ (rankS l d p ss).1 ∧ (p.2 = true → (rankS l d p ss).2 = true) ∧ (∀ s ∈ ss, insideB s d = true → ceilT s.res l 0 ≤ (rankS l d p ss).1 ∧ (rankS l d p ss).2 = true) ∧
    ((rankS l d p ss).2 = true → p.2 = true ∨ ∃ s ∈ ss, insideB s d = true) ∧ ((rankS l d p ss).1 = p.1 ∨ ∃ s ∈ ss, insideB s d = true ∧ (rankS l d p ss).1 = ceilT s.res l 0)
  | [], p => by simp [rankS]
  | s :: ss, p => by
    obtain ⟨a1, a2, a3, a4, a5⟩ := rankS_ge l d ss (if insideB s d then (mx p.1 (ceilT s.res l 0), true) else p)
    unfold rankS
    cases hi : insideB s d
    · rw [hi] at a1 a2 a3 a4 a5
      simp only [Bool.false_eq_true, if_false] at a1 a2 a3 a4 a5 ⊢
      refine ⟨a1, a2, fun x hx hxi => ?_, fun h => ?_, ?_⟩
      · rcases List.mem_cons.mp hx with rfl | hx
        · rw [hi] at hxi; cases hxi
        · exact a3 x hx hxi
      · rcases a4 h with h | ⟨x, hx, hxi⟩
        · exact .inl h
        · exact .inr ⟨x, List.mem_cons_of_mem _ hx, hxi⟩
      · rcases a5 with h | ⟨x, hx, hxi, e⟩
        · exact .inl h
        · exact .inr ⟨x, List.mem_cons_of_mem _ hx, hxi, e⟩
    · rw [hi] at a1 a2 a3 a4 a5
      simp only [if_true] at a1 a2 a3 a4 a5 ⊢
      obtain ⟨m1, m2, m3⟩ := mx_le (a := p.1) (b := ceilT s.res l 0)
      refine ⟨by omega, fun _ => a2 trivial, fun x hx hxi => ?_, fun h => .inr ⟨s, by simp, hi⟩, ?_⟩
      · rcases List.mem_cons.mp hx with rfl | hx
        · exact ⟨by omega, a2 trivial⟩
        · exact a3 x hx hxi
      · rcases a5 with h | ⟨x, hx, hxi, e⟩
        · rcases m3 with h3 | h3
          · left; omega
          · right; exact ⟨s, by simp, hi, by omega⟩
        · exact .inr ⟨x, List.mem_cons_of_mem _ hx, hxi, e⟩
/-- a job is inside this section -/
def InSec (l : List Tsk) (j : Job) (s : Sec) : Prop := s ∈ (tskAt l j.tk).secs ∧ insideB s j.dn = true
theorem rank_prio (l : List Tsk) (j : Job) : (tskAt l j.tk).prio ≤ (rankM l j).1 := (rankS_ge l j.dn _ _).1
theorem rank_ceil {l : List Tsk} {j : Job} {s : Sec} (h : InSec l j s) : ceilT s.res l 0 ≤ (rankM l j).1 ∧ (rankM l j).2 = true := (rankS_ge l j.dn _ _).2.2.1 s h.1 h.2
theorem rank_in {l : List Tsk} {j : Job} (h : (rankM l j).2 = true) : ∃ s, InSec l j s := by
  rcases (rankS_ge l j.dn _ _).2.2.2.1 h with h | ⟨s, h1, h2⟩
  · cases h
  · exact ⟨s, h1, h2⟩
theorem rank_eq (l : List Tsk) (j : Job) : (rankM l j).1 = (tskAt l j.tk).prio ∨ ∃ s, InSec l j s ∧ (rankM l j).1 = ceilT s.res l 0 := by
  rcases (rankS_ge l j.dn _ _).2.2.2.2 with h | ⟨s, h1, h2, h3⟩
  · exact .inl h
  · exact .inr ⟨s, ⟨h1, h2⟩, h3⟩
theorem ceilS_ge (r p : Int) : ∀ (ss : List Sec) (m : Int), m ≤ ceilS r p ss m ∧ (∀ s ∈ ss, s.res = r → p ≤ ceilS r p ss m)
  | [], m => by simp [ceilS]
  | s :: ss, m => by
    obtain ⟨a1, a2⟩ := ceilS_ge r p ss (if s.res == r then (if m < p then p else m) else m)
    unfold ceilS
    have hm : m ≤ (if s.res == r then (if m < p then p else m) else m) := by split <;> (try split) <;> omega
    refine ⟨by omega, fun x hx hr => ?_⟩
    rcases List.mem_cons.mp hx with rfl | hx
    · have : p ≤ (if x.res == r then (if m < p then p else m) else m) := by rw [if_pos (by simpa using hr)]; split <;> omega
      omega
    · exact a2 x hx hr
theorem ceilT_ge (r : Int) : ∀ (ts : List Tsk) (m : Int), m ≤ ceilT r ts m ∧ (∀ t ∈ ts, ∀ s ∈ t.secs, s.res = r → t.prio ≤ ceilT r ts m)
  | [], m => by simp [ceilT]
  | t :: ts, m => by
    obtain ⟨a1, a2⟩ := ceilT_ge r ts (ceilS r t.prio t.secs m)
    obtain ⟨b1, b2⟩ := ceilS_ge r t.prio t.secs m
    unfold ceilT
    refine ⟨by omega, fun x hx s hs hr => ?_⟩
    rcases List.mem_cons.mp hx with rfl | hx
    · have := b2 s hs hr; omega
    · exact a2 x hx s hs hr
/-- who uses a resource is not above its ceiling -/
theorem ceil_own {l : List Tsk} {k : Nat} (hk : k < l.length) {s : Sec} (hs : s ∈ (tskAt l k).secs) : (tskAt l k).prio ≤ ceilT s.res l 0 :=
  (ceilT_ge s.res l 0).2 (tskAt l k) (by simp [tskAt, List.getD, hk]) s hs rfl
end Go.Proofs.Ythcdemmamggboaa
/- schedule: no two jobs are inside sections of a resource (plain). -/
namespace Go.Proofs.Ythcdemmamggboaa
open Go.RowKit
theorem inside_iff {s : Sec} {d : Int} : insideB s d = true ↔ (s.frm < d ∧ d < s.frm + s.len) := by simp [insideB]
/-- nothing that b is inside of hinders a -/
def Abv (l : List Tsk) (a b : Job) : Prop := ∀ s, InSec l b s → ceilT s.res l 0 < (tskAt l a.tk).prio
theorem abv_fresh {l : List Tsk} (h : rchk l = 0) (a : Job) {b : Job} (hb : b.tk < l.length) (hd : b.dn = 0) : Abv l a b := by
  intro s ⟨hs, hi⟩
  rw [inside_iff] at hi
  have := (sec_fit h hb hs).f0
  omega
theorem best_abv {l : List Tsk} {j c : Job} (hj : j.tk < l.length) (hb : beforeM l 1 c j = false) (hp : Abv l j c ∨ Abv l c j) : Abv l j c := by
  rcases hp with h | h
  · exact h
  intro s hs
  rcases Int.lt_or_le (ceilT s.res l 0) (tskAt l j.tk).prio with hlt | hge
  · exact hlt
  exfalso
  obtain ⟨hr1, hr2⟩ := rank_ceil hs
  have hrp := rank_prio l c
  have : beforeM l 1 c j = true := by
    unfold beforeM
    rw [if_neg (by decide)]
    rcases rank_eq l j with e | ⟨s', hs', e⟩
    · by_cases eq : (rankM l c).1 = (rankM l j).1
      · rw [if_pos eq]
        cases hji : (rankM l j).2
        · rw [if_neg (by rw [hr2]; simp)]; exact hr2
        · exfalso
          obtain ⟨s', hs'⟩ := rank_in hji
          have h1 := h s' hs'
          have h2 := ceil_own hj hs'.1
          omega
      · rw [if_neg eq]; simp; omega
    · have h1 := h s' hs'
      rw [if_neg (by omega)]; simp; omega
  rw [this] at hb; cases hb
def AInv (l : List Tsk) (s : St) : Prop := s.ready.Pairwise (fun a b => Abv l a b ∨ Abv l b a)
theorem AInv.rel {l : List Tsk} (h0 : rchk l = 0) {t : Int} {s : St} (h : AInv l s) : AInv l (relJ t 0 l s) :=
  rel_ind0 (Q := fun _ s => AInv l s) (fun i s hi _ h => by
    unfold AInv at *
    dsimp only
    rw [List.pairwise_append]
    refine ⟨h, by simp, fun a _ b hb => ?_⟩
    simp only [List.mem_singleton] at hb
    subst hb
    exact .inl (abv_fresh h0 a hi rfl)) (fun i s _ _ h => h) h
theorem AInv.at_ {l : List Tsk} {s : St} (h : AInv l s) {x y : Nat} (hx : x < s.ready.length) (hy : y < s.ready.length) (hne : x ≠ y) : Abv l (jbAt s.ready x) (jbAt s.ready y) ∨ Abv l (jbAt s.ready y) (jbAt s.ready x) := by
  have e : ∀ z (hz : z < s.ready.length), jbAt s.ready z = s.ready[z] := fun z hz => by simp [jbAt, List.getD, hz]
  rw [e x hx, e y hy]
  rcases Nat.lt_or_gt_of_ne hne with h1 | h1
  · exact List.pairwise_iff_getElem.mp h x y hx hy h1
  · exact (List.pairwise_iff_getElem.mp h y x hy hx h1).symm
theorem AInv.exe {l : List Tsk} {t : Int} {s : St} (h : AInv l s) (htk : ∀ j ∈ s.ready, j.tk < l.length) : AInv l (exeM l 1 t s) := by
  unfold exeM
  split
  · exact h
  · next hn =>
    have hb := bestM_lt2 l 1 (r := s.ready) (by omega)
    have hm := bestM_min l 1 (r := s.ready) (by omega)
    generalize bestM l 1 s.ready = b at *
    have hab : ∀ x, x < s.ready.length → x ≠ b → Abv l (jbAt s.ready b) (jbAt s.ready x) := fun x hx hne => best_abv (htk _ (jbAt_mem hb)) (hm x hx) (h.at_ hb hx (Ne.symm hne))
    unfold runOne
    dsimp only
    split
    · exact h.sublist (List.eraseIdx_sublist _ _)
    · unfold AInv
      dsimp only
      rw [List.pairwise_iff_getElem]
      intro x y hx hy hxy
      rw [List.length_set] at hx hy
      have e : ∀ z (hz : z < s.ready.length), s.ready[z] = jbAt s.ready z := fun z hz => by simp [jbAt, List.getD, hz]
      rw [List.getElem_set, List.getElem_set]
      by_cases h1 : b = x
      · rw [if_pos h1, if_neg (by omega), e y hy]
        exact .inl (hab y hy (by omega))
      · rw [if_neg h1]
        by_cases h2 : b = y
        · rw [if_pos h2, e x hx]
          exact .inr (hab x hx (by omega))
        · rw [if_neg h2]
          exact List.pairwise_iff_getElem.mp h x y hx hy hxy
theorem upTo_A {l : List Tsk} (h0 : rchk l = 0) : ∀ n : Nat, AInv l (upTo l 1 n)
  | 0 => .nil
  | n + 1 => by
    rw [upTo_succ]
    refine ((upTo_A h0 n).rel h0).exe (fun j hj => ?_)
    have hT := (upTo_TI h0 1 n).rel h0
    have hJ := hT.rd j hj
    have := (hT.jr _ hJ.ps).tk
    rw [hJ.eq] at this
    exact this
theorem AInv.one {l : List Tsk} {s : St} (h : AInv l s) (htk : ∀ j ∈ s.ready, j.tk < l.length) {a b : Job} (ha : a ∈ s.ready) (hb : b ∈ s.ready) (hne : a.pos ≠ b.pos) {u v : Sec} (hu : InSec l a u) (hv : InSec l b v) : u.res ≠ v.res := by
  intro e
  obtain ⟨x, hx, rfl⟩ := mem_jbAt ha
  obtain ⟨y, hy, rfl⟩ := mem_jbAt hb
  rcases h.at_ hx hy (fun e => by subst e; exact hne rfl) with h1 | h1
  · have h2 := h1 v hv
    have h3 := ceil_own (htk _ ha) hu.1
    rw [e] at h3; omega
  · have h2 := h1 u hu
    have h3 := ceil_own (htk _ hb) hv.1
    rw [e] at h2; omega
/-! counting -/
def hitS (r d : Int) (s : Sec) : Bool := decide (s.res = r) && insideB s d
def manyS (r d : Int) : List Sec → Nat
  | [] => 0
  | s :: ss => (if hitS r d s then 1 else 0) + manyS r d ss
theorem manyS_zero {r d : Int} : ∀ {ss : List Sec}, (∀ s ∈ ss, hitS r d s = false) → manyS r d ss = 0
  | [], _ => rfl
  | s :: ss, h => by unfold manyS; rw [h s (by simp), manyS_zero (fun x hx => h x (by simp [hx]))]; rfl
theorem manyS_pos {r d : Int} : ∀ {ss : List Sec}, 0 < manyS r d ss → ∃ s ∈ ss, hitS r d s = true
  | [], h => by simp [manyS] at h
  | s :: ss, h => by
    cases hs : hitS r d s
    · unfold manyS at h
      rw [hs] at h
      obtain ⟨x, hx, e⟩ := manyS_pos (ss := ss) (by simpa using h)
      exact ⟨x, by simp [hx], e⟩
    · exact ⟨s, by simp, hs⟩
theorem clashAny_false {s : Sec} : ∀ {os : List Sec}, clashAny s os = false → ∀ o ∈ os, clash s o = false
  | [], _, o, h => by simp at h
  | x :: xs, h, o, ho => by
    unfold clashAny at h
    split at h
    · cases h
    · next hc =>
      rcases List.mem_cons.mp ho with rfl | ho
      · simpa using hc
      · exact clashAny_false h o ho
theorem noClash_pw : ∀ {ss pre : List Sec}, noClash pre ss = true → (∀ s ∈ ss, ∀ o ∈ pre, clash s o = false) ∧ ss.Pairwise (fun o s => clash s o = false)
  | [], pre, _ => ⟨by simp, .nil⟩
  | x :: xs, pre, h => by
    unfold noClash at h
    split at h
    · cases h
    · next hc =>
      obtain ⟨a1, a2⟩ := noClash_pw h
      refine ⟨fun s hs o ho => ?_, ?_⟩
      · rcases List.mem_cons.mp hs with rfl | hs
        · exact clashAny_false (by simpa using hc) o ho
        · exact a1 s hs o (by simp [ho])
      · exact .cons (fun s hs => a1 s hs x (by simp)) a2
theorem manyS_one {l : List Tsk} (h : rchk l = 0) {k : Nat} (hk : k < l.length) (r d : Int) : manyS r d (tskAt l k).secs ≤ 1 := by
  have hfit : ∀ s ∈ (tskAt l k).secs, SecFit (tskAt l k).cost s := fun s hs => sec_fit h hk hs
  obtain ⟨_, b2⟩ := (rchk_ok h).2 k hk
  unfold rsecsOk at b2
  simp only [Bool.and_eq_true] at b2
  have hpw := (noClash_pw b2.2).2
  clear b2
  generalize (tskAt l k).secs = ss at *
  induction ss with
  | nil => simp [manyS]
  | cons s ss ih =>
    rw [List.pairwise_cons] at hpw
    have ih' := ih (fun x hx => hfit x (by simp [hx])) hpw.2
    unfold manyS
    cases hs : hitS r d s
    · simpa using ih'
    · have : manyS r d ss = 0 := by
        refine manyS_zero (fun x hx => ?_)
        rw [← Bool.not_eq_true]
        intro hx1
        have hc := hpw.1 x hx
        have f1 := hfit s (by simp)
        have f2 := hfit x (by simp [hx])
        simp only [hitS, Bool.and_eq_true, decide_eq_true_eq, inside_iff] at hs hx1
        have w1 : wrap64 (s.frm + s.len) = s.frm + s.len := wrap_small _ (by have := f1.f0; have := f1.l1; omega) (by have := f1.fl; have := f1.c1; omega)
        have w2 : wrap64 (x.frm + x.len) = x.frm + x.len := wrap_small _ (by have := f2.f0; have := f2.l1; omega) (by have := f2.fl; have := f2.c1; omega)
        have : clash x s = true := by
          unfold clash secLap
          rw [w1, w2]
          simp only [Bool.and_eq_true, Bool.or_eq_true, decide_eq_true_eq, beq_iff_eq]
          exact ⟨⟨by omega, by omega⟩, .inr (by omega)⟩
        rw [this] at hc; cases hc
      rw [this]; simp
def manyJ (l : List Tsk) (r : Int) (g : Nat → Int) : Nat → List Don → Nat
  | _, [] => 0
  | k, d :: ds => manyS r (g k) (tskAt l d.tk).secs + manyJ l r g (k + 1) ds
theorem manyJ_le {l : List Tsk} (r : Int) (g : Nat → Int) : ∀ (ds : List Don) (k : Nat), (∀ i, i < ds.length → manyS r (g (k + i)) (tskAt l (dnAt ds i).tk).secs ≤ 1) →
    (∀ i j, i < ds.length → j < ds.length → 0 < manyS r (g (k + i)) (tskAt l (dnAt ds i).tk).secs → 0 < manyS r (g (k + j)) (tskAt l (dnAt ds j).tk).secs → i = j) → manyJ l r g k ds ≤ 1
  | [], k, _, _ => by simp [manyJ]
  | d :: ds, k, h1, h2 => by
    have e0 : dnAt (d :: ds) 0 = d := rfl
    have e1 : ∀ i, dnAt (d :: ds) (i + 1) = dnAt ds i := fun i => by simp [dnAt, List.getD]
    have ih := manyJ_le r g ds (k + 1) (fun i hi => by have := h1 (i + 1) (by simpa using hi); rwa [e1, show k + (i + 1) = k + 1 + i by omega] at this)
      (fun i j hi hj a b => by
        have := h2 (i + 1) (j + 1) (by simpa using hi) (by simpa using hj) (by rw [e1, show k + (i + 1) = k + 1 + i by omega]; exact a) (by rw [e1, show k + (j + 1) = k + 1 + j by omega]; exact b)
        omega)
    unfold manyJ
    have hd := h1 0 (by simp)
    rw [e0, Nat.add_zero] at hd
    by_cases hz : manyS r (g k) (tskAt l d.tk).secs = 0
    · omega
    · have : manyJ l r g (k + 1) ds = 0 := by
        have hall : ∀ i, i < ds.length → manyS r (g (k + 1 + i)) (tskAt l (dnAt ds i).tk).secs = 0 := by
          intro i hi
          rcases Nat.eq_zero_or_pos (manyS r (g (k + 1 + i)) (tskAt l (dnAt ds i).tk).secs) with h | h
          · exact h
          · have := h2 0 (i + 1) (by simp) (by simpa using hi) (by rw [e0, Nat.add_zero]; omega) (by rw [e1, show k + (i + 1) = k + 1 + i by omega]; exact h)
            omega
        clear h1 h2 ih hd hz e0 e1
        generalize k + 1 = m at *
        induction ds generalizing m with
        | nil => rfl
        | cons x xs ih =>
          unfold manyJ
          have h0 := hall 0 (by simp)
          have e0 : dnAt (x :: xs) 0 = x := rfl
          rw [e0, Nat.add_zero] at h0
          rw [h0, ih (m + 1) (fun i hi => by have := hall (i + 1) (by simpa using hi); rwa [show dnAt (x :: xs) (i + 1) = dnAt xs i by simp [dnAt, List.getD], show m + (i + 1) = m + 1 + i by omega] at this)]
      omega
/-! earlier and later states -/
def Pre (js js' : List Don) : Prop := js.length ≤ js'.length ∧ ∀ k, k < js.length → (dnAt js' k).tk = (dnAt js k).tk ∧ (dnAt js' k).job = (dnAt js k).job ∧ (dnAt js' k).rel = (dnAt js k).rel
theorem Pre.refl (js : List Don) : Pre js js := ⟨Nat.le_refl _, fun _ _ => ⟨rfl, rfl, rfl⟩⟩
theorem Pre.trans {a b c : List Don} (h1 : Pre a b) (h2 : Pre b c) : Pre a c :=
  ⟨Nat.le_trans h1.1 h2.1, fun k hk => by
    obtain ⟨a1, a2, a3⟩ := h1.2 k hk
    obtain ⟨b1, b2, b3⟩ := h2.2 k (Nat.lt_of_lt_of_le hk h1.1)
    exact ⟨b1.trans a1, b2.trans a2, b3.trans a3⟩⟩
theorem Alike.pre {a b : List Don} (h : Alike a b) : Pre a b := ⟨Nat.le_of_eq h.1.symm, fun k _ => h.2 k⟩
theorem pre_snoc (js : List Don) (d : Don) : Pre js (js ++ [d]) := ⟨by simp, fun k hk => by rw [dnAt_snoc_old hk]; exact ⟨rfl, rfl, rfl⟩⟩
theorem pre_rel (l : List Tsk) (t : Int) (s : St) : Pre s.jobs (relJ t 0 l s).jobs :=
  rel_ind0 (Q := fun _ q => Pre s.jobs q.jobs) (fun i q _ _ h => h.trans (pre_snoc _ _)) (fun i q _ _ h => h) (Pre.refl _)
theorem pre_exe {l : List Tsk} {pol t : Int} {s : St} (h : ∀ j ∈ s.ready, j.pos < s.jobs.length) : Pre s.jobs (exeM l pol t s).jobs := by
  unfold exeM runOne
  split
  · exact Pre.refl _
  · next hn =>
    dsimp only
    split
    · exact (Alike.set s.jobs (h _ (jbAt_mem (bestM_lt2 l pol (by omega)))) _).pre
    · exact Pre.refl _
theorem pre_upTo {l : List Tsk} (h0 : rchk l = 0) (pol : Int) {n : Nat} : ∀ k : Nat, Pre (upTo l pol n).jobs (upTo l pol (n + k)).jobs
  | 0 => Pre.refl _
  | k + 1 => by
    refine (pre_upTo h0 pol k).trans ?_
    rw [← Nat.add_assoc, upTo_succ]
    exact (pre_rel _ _ _).trans (pre_exe (fun j hj => (((upTo_TI h0 pol (n + k)).rel h0).rd j hj).ps))
def clip (n : Int) : List Stn → List Stn
  | [] => []
  | s :: ss => if s.frm < n then { s with to := if s.to < n then s.to else n } :: clip n ss else clip n ss
theorem clip_append (n : Int) : ∀ a b : List Stn, clip n (a ++ b) = clip n a ++ clip n b
  | [], b => rfl
  | s :: a, b => by simp only [List.cons_append, clip]; split <;> simp [clip_append n a b]
theorem clip_all {n : Int} : ∀ {ss : List Stn}, (∀ s ∈ ss, s.frm < n ∧ s.to ≤ n) → clip n ss = ss
  | [], _ => rfl
  | s :: ss, h => by
    obtain ⟨h1, h2⟩ := h s (by simp)
    unfold clip
    rw [if_pos h1, clip_all (fun x hx => h x (by simp [hx]))]
    have : (if s.to < n then s.to else n) = s.to := by split <;> omega
    rw [this]
theorem clip_none {n : Int} : ∀ {ss : List Stn}, (∀ s ∈ ss, n ≤ s.frm) → clip n ss = []
  | [], _ => rfl
  | s :: ss, h => by
    have h1 := h s (by simp)
    unfold clip
    rw [if_neg (by omega), clip_none (fun x hx => h x (by simp [hx]))]
theorem clip_stintsM {n t : Int} (h : n ≤ t) (j : Job) (ss : List Stn) : clip n (stintsM t j ss) = clip n ss := by
  rcases stintsM_cases t j ss with ⟨ss', z, e1, _, hz, e2⟩ | e2
  · rw [e2, e1, clip_append, clip_append]
    congr 1
    simp only [clip]
    rw [if_neg (show ¬ t + 1 < n by omega), if_neg (show ¬ z.to < n by omega)]
  · rw [e2, clip_append]
    simp only [clip]
    rw [if_neg (by omega), List.append_nil]
theorem to_le_last {l : List Tsk} {T : Int} {js : List Don} : ∀ (n : Nat) (ss : List Stn), ss.length = n → (∀ pre x post, ss = pre ++ x :: post → StnOk l T js pre x) → ∀ x ∈ ss, x.to ≤ lastTo ss
  | 0, ss, hn, _ => by
    have : ss = [] := List.length_eq_zero_iff.mp hn
    subst this; simp
  | n + 1, ss, hn, h => by
    rcases List.eq_nil_or_concat ss with e | ⟨q, z, e⟩
    · subst e; simp at hn
    · rw [List.concat_eq_append] at e
      subst e
      have hz := h q z [] rfl
      have ih := to_le_last n q (by simpa using hn) (fun pre x post e => h pre x (post ++ [z]) (by rw [e]; simp))
      intro x hx
      rw [lastTo_snoc]
      rcases List.mem_append.mp hx with hx | hx
      · have := ih x hx; have := hz.fr; have := hz.ft; omega
      · simp only [List.mem_singleton] at hx; subst hx; exact Int.le_refl _
theorem TI.all {l : List Tsk} {t : Int} {i : Nat} {s : St} (h : TI l t i s) : ∀ x ∈ s.stints, x.frm < t ∧ x.to ≤ t := by
  intro x hx
  obtain ⟨pre, post, e⟩ := List.append_of_mem hx
  have := h.st pre x post e
  have h1 := this.ft
  have h2 := this.tt
  omega
theorem clip_upTo {l : List Tsk} (h0 : rchk l = 0) (pol : Int) (n : Nat) : ∀ k : Nat, clip n (upTo l pol (n + k)).stints = (upTo l pol n).stints
  | 0 => clip_all (fun x hx => (upTo_TI h0 pol n).all x hx)
  | k + 1 => by
    rw [← clip_upTo h0 pol n k, ← Nat.add_assoc, upTo_succ]
    unfold tickM
    have hrs : (relJ ((n + k : Nat) : Int) 0 l (upTo l pol (n + k))).stints = (upTo l pol (n + k)).stints :=
      rel_ind0 (Q := fun _ s => s.stints = (upTo l pol (n + k)).stints) (fun i s _ _ h => h) (fun i s _ _ h => h) rfl
    unfold exeM runOne
    dsimp only
    split
    · rw [hrs]
    · split <;> dsimp only <;> rw [hrs, clip_stintsM (by omega)]
theorem clip_sum {l : List Tsk} {T : Int} {ss : List Stn} {js : List Don} (h : OrderOk l T ss js) {i : Nat} (hi : i < ss.length) {m : Int} (h1 : (stAt ss i).frm < m) (h2 : m ≤ (stAt ss i).to) (tk num : Int) :
    sumOf tk num (clip m ss) = sumOf tk num (ss.take i) + (if isJ tk num (stAt ss i) then m - (stAt ss i).frm else 0) := by
  have hs := stn_take_drop hi
  have hst := h.st i hi
  have e1 : clip m (ss.take i) = ss.take i := clip_all (fun x hx => by
    have hle := to_le_last _ _ rfl (fun pre y post e => h.split pre y (post ++ ss.drop i) ((List.take_append_drop i ss).symm.trans (by rw [e]; simp))) x hx
    obtain ⟨pre, post, e⟩ := List.append_of_mem hx
    have := (h.split pre x (post ++ ss.drop i) ((List.take_append_drop i ss).symm.trans (by rw [e]; simp))).ft
    have := hst.fr
    omega)
  have e2 : clip m (ss.drop (i + 1)) = [] := clip_none (fun x hx => by
    obtain ⟨pre, post, e⟩ := List.append_of_mem hx
    have hx2 := h.split (ss.take i ++ stAt ss i :: pre) x post (hs.trans (by rw [e]; simp))
    have hle := to_le_last _ _ rfl (fun p y q e2 => h.split p y (q ++ x :: post) (by rw [hs, e, show ss.take i ++ stAt ss i :: (pre ++ x :: post) = (ss.take i ++ stAt ss i :: pre) ++ x :: post by simp, e2]; simp)) (stAt ss i) (show stAt ss i ∈ ss.take i ++ stAt ss i :: pre by simp)
    have := hx2.fr
    omega)
  have e3 : clip m ss = ss.take i ++ [{ stAt ss i with to := m }] := by
    conv => lhs; rw [hs]
    rw [clip_append, e1]
    simp only [clip]
    rw [if_pos h1, e2]
    congr 2
    have : (if (stAt ss i).to < m then (stAt ss i).to else m) = m := by split <;> omega
    rw [this]
  rw [e3, sumOf_snoc]
  rfl
/-- P33.3 -/
theorem apart {l : List Tsk} (h0 : rchk l = 0) (n k : Nat) (r : Int) : manyJ l r (fun i => sumD (upTo l 1 n).stints (dnAt (upTo l 1 (n + k)).jobs i)) 0 (upTo l 1 (n + k)).jobs ≤ 1 := by
  have hT := upTo_TI h0 1 n
  have hN := upTo_TI h0 1 (n + k)
  have hP := pre_upTo h0 1 (n := n) k
  have hA := upTo_A h0 n
  have htk : ∀ j ∈ (upTo l 1 n).ready, j.tk < l.length := fun j hj => by
    have hJ := hT.rd j hj
    have := (hT.jr _ hJ.ps).tk
    rw [hJ.eq] at this
    exact this
  have key : ∀ i, i < (upTo l 1 (n + k)).jobs.length → 0 < manyS r (sumD (upTo l 1 n).stints (dnAt (upTo l 1 (n + k)).jobs i)) (tskAt l (dnAt (upTo l 1 (n + k)).jobs i).tk).secs →
      ∃ j ∈ (upTo l 1 n).ready, j.pos = i ∧ ∃ s, InSec l j s ∧ s.res = r := by
    intro i hi hpos
    obtain ⟨s, hs, hh⟩ := manyS_pos hpos
    simp only [hitS, Bool.and_eq_true, decide_eq_true_eq] at hh
    have hin := inside_iff.mp hh.2
    have hfit := sec_fit h0 (hN.jr i hi).tk hs
    have hlt : i < (upTo l 1 n).jobs.length := by
      rcases Nat.lt_or_ge i (upTo l 1 n).jobs.length with h | h
      · exact h
      · exfalso
        have : sumD (upTo l 1 n).stints (dnAt (upTo l 1 (n + k)).jobs i) = 0 := by
          refine sumOf_none _ _ _ (fun x hx => ?_)
          rw [← Bool.not_eq_true, isJ_iff]
          rintro ⟨e1, e2⟩
          obtain ⟨pre, post, e⟩ := List.append_of_mem hx
          obtain ⟨q, hq, ⟨f1, f2⟩, _⟩ := (hT.st pre x post e).fd
          obtain ⟨p1, p2, _⟩ := hP.2 q hq
          have := hN.un q i (Nat.lt_of_lt_of_le hq hP.1) hi (by rw [p1]; omega) (by rw [p2]; omega)
          omega
        have := hfit.f0
        omega
    obtain ⟨p1, p2, p3⟩ := hP.2 i hlt
    unfold sumD at hin hh
    rw [p1, p2] at hin hh
    rw [p1] at hs hfit
    rcases hT.dn i hlt with ⟨j, hj, e⟩ | ⟨hd, _⟩
    · have hJ := hT.rd j hj
      have he := hJ.eq
      rw [e] at he
      refine ⟨j, hj, e, s, ⟨?_, ?_⟩, hh.1⟩
      · rw [he] at hs; exact hs
      · rw [he] at hh
        have := hh.2
        dsimp only at this
        rwa [hJ.sm] at this
    · exfalso
      unfold sumD costD at hd
      have := hfit.fl
      omega
  refine manyJ_le r _ _ 0 (fun i hi => ?_) (fun i j hi hj h1 h2 => ?_)
  · exact manyS_one h0 (hN.jr i hi).tk _ _
  · rw [Nat.zero_add] at h1 h2
    obtain ⟨a, ha, ea, u, hu, eu⟩ := key i hi h1
    obtain ⟨b, hb, eb, v, hv, ev⟩ := key j hj h2
    rcases Nat.decEq i j with hne | he
    · exact absurd (eu.trans ev.symm) (hA.one htk ha hb (by omega) hu hv)
    · exact he
end Go.Proofs.Ythcdemmamggboaa
/- schedule: P33.3 in the words of the law (plain). -/
namespace Go.Proofs.Ythcdemmamggboaa
open Go.RowKit
theorem manyJ_map {l : List Tsk} (r : Int) (g : Nat → Int) (T : Int) : ∀ (ds : List Don) (k : Nat), manyJ l r g k (ds.map (missM l T)) = manyJ l r g k ds
  | [], k => rfl
  | d :: ds, k => by simp only [List.map_cons, manyJ, manyJ_map r g T ds (k + 1)]; rfl
theorem manyJ_congr {l : List Tsk} (r : Int) {g g' : Nat → Int} : ∀ (ds : List Don) (k : Nat), (∀ i, i < ds.length → g (k + i) = g' (k + i)) → manyJ l r g k ds = manyJ l r g' k ds
  | [], k, _ => rfl
  | d :: ds, k, h => by
    have h0 := h 0 (by simp)
    rw [Nat.add_zero] at h0
    simp only [manyJ]
    rw [h0, manyJ_congr (g' := g') r ds (k + 1) (fun i hi => by have := h (i + 1) (by simpa using hi); rwa [show k + (i + 1) = k + 1 + i by omega] at this)]
theorem apart_at {l : List Tsk} (h0 : rchk l = 0) {n : Nat} {ss : List Stn} {js : List Don} (hss : ss = (upTo l 1 n).stints) (hjs : js = (upTo l 1 n).jobs.map (missM l n)) {i k0 : Nat} (hi : i < ss.length) (hk : k0 < js.length)
    (hm : (stAt ss i).tk = (dnAt js k0).tk ∧ (stAt ss i).job = (dnAt js k0).job) {a : Nat} (ha : (stAt ss i).frm + a < (stAt ss i).to) (r : Int) :
    manyJ l r (fun q => sumD (ss.take i) (dnAt js q) + (if q = k0 then (a : Int) + 1 else 0)) 0 js ≤ 1 := by
  have hO : OrderOk l n ss js := by rw [hss, hjs]; exact (upTo_TI h0 1 n).order h0
  have hst := hO.st i hi
  have hf0 : 0 ≤ (stAt ss i).frm := by
    have := hst.fr
    have := (hO.bd (by omega) i (dnAt js 0)).2.2.1
    omega
  obtain ⟨m, hmm⟩ : ∃ m : Nat, (m : Int) = (stAt ss i).frm + a + 1 := ⟨((stAt ss i).frm + a + 1).toNat, by omega⟩
  have hmn : m ≤ n := by have := hst.tt; omega
  obtain ⟨k, rfl⟩ : ∃ k, n = m + k := ⟨n - m, by omega⟩
  have hA := apart h0 m k r
  rw [hjs, manyJ_map]
  rw [manyJ_congr (g' := fun q => sumD (upTo l 1 m).stints (dnAt (upTo l 1 (m + k)).jobs q))]
  · exact hA
  · intro q hq
    simp only [Nat.zero_add]
    have hal := alike_miss l ((m + k : Nat) : Int) (upTo l 1 (m + k)).jobs
    rw [← hjs] at hal ⊢
    rw [← hal.sum]
    have hcl := clip_upTo h0 1 m k
    rw [← hss] at hcl
    have hcs := clip_sum hO hi (m := (m : Int)) (by omega) (by omega) (dnAt js q).tk (dnAt js q).job
    rw [hcl] at hcs
    unfold sumD
    rw [hcs]
    congr 1
    by_cases e : q = k0
    · subst e
      rw [if_pos rfl, if_pos (isJ_iff.mpr hm)]
      omega
    · rw [if_neg e, if_neg]
      rw [isJ_iff]
      rintro ⟨e1, e2⟩
      have hql : q < js.length := by rw [hal.1]; exact hq
      exact e (hO.un q k0 hql hk (by have := hm.1; omega) (by rw [← e2, hm.2]))
end Go.Proofs.Ythcdemmamggboaa
