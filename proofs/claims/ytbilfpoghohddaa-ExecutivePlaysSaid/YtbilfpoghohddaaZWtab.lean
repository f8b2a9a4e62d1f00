/- tables: the table of a schedule without misses serves (plain). -/
import Derived.Test.YtbilfpoghohddaaG13
import Derived.Test.YtbilfpoghohddaaG3
import Derived.Test.YtbilfpoghohddaaZHap
import Derived.Test.YtbilfpoghohddaaZHwk
namespace Go.Proofs.Ytbilfpoghohddaa
open Go.RowKit
/-! painting tick by tick -/
theorem fill_snoc (tk : Int) : ∀ (n t : Nat) (xs : List Int), fillS tk (n + 1) t xs = (fillS tk n t xs).set (t + n) tk
  | 0, t, xs => by simp [fillS]
  | n + 1, t, xs => by
    have h1 : fillS tk (n + 1 + 1) t xs = fillS tk (n + 1) (t + 1) (xs.set t tk) := rfl
    have h2 : fillS tk (n + 1) t xs = fillS tk n (t + 1) (xs.set t tk) := rfl
    rw [h1, fill_snoc tk n (t + 1) _, h2, show t + 1 + n = t + (n + 1) by omega]
theorem paint_snoc (p : Stn) : ∀ (ss : List Stn) (xs : List Int), paintS (ss ++ [p]) xs = fillS p.tk (p.to - p.frm).toNat p.frm.toNat (paintS ss xs)
  | [], xs => rfl
  | s :: ss, xs => by simp only [List.cons_append, paintS, paint_snoc p ss]
theorem paint_stintsM {t : Nat} (j : Job) {ss : List Stn} (h : ∀ s ∈ ss, 0 ≤ s.frm ∧ s.frm < s.to) (xs : List Int) : paintS (stintsM t j ss) xs = (paintS ss xs).set t j.tk := by
  rcases stintsM_cases t j ss with ⟨ss', s, rfl, hs, ht, e⟩ | e
  · rw [e, paint_snoc, paint_snoc]
    have hb := h s (by simp)
    dsimp only
    rw [hs.1, show ((t : Int) + 1 - s.frm).toNat = (s.to - s.frm).toNat + 1 by omega, fill_snoc]
    congr 1
    omega
  · rw [e, paint_snoc]
    dsimp only
    rw [show ((t : Int) + 1 - (t : Int)).toNat = 0 + 1 by omega, fill_snoc, Int.toNat_natCast]
    rfl
/-! who is executed in a tick -/
def whoJ (l : List Tsk) (pol : Int) (t : Nat) : Option Job :=
  if (mid l pol t).ready.length = 0 then none else some (jbAt (mid l pol t).ready (bestM l pol (mid l pol t).ready))
theorem mid_stints (l : List Tsk) (pol : Int) (t : Nat) : (mid l pol t).stints = (upTo l pol t).stints :=
  rel_ind0 (Q := fun _ s => s.stints = (upTo l pol t).stints) (fun i s _ _ h => h) (fun i s _ _ h => h) rfl
theorem who_mem {l : List Tsk} {pol : Int} {t : Nat} {j : Job} (h : whoJ l pol t = some j) : j ∈ (mid l pol t).ready ∧ ∀ x ∈ (mid l pol t).ready, beforeM l pol x j = false := by
  unfold whoJ at h
  split at h
  · cases h
  · next hn =>
    injection h with h
    have hb := bestM_lt2 l pol (r := (mid l pol t).ready) (by omega)
    refine ⟨h ▸ jbAt_mem hb, fun x hx => ?_⟩
    obtain ⟨c, hc, rfl⟩ := mem_jbAt hx
    rw [← h]
    exact bestM_min l pol (by omega) c hc
theorem who_stints (l : List Tsk) (pol : Int) (t : Nat) : (upTo l pol (t + 1)).stints = match whoJ l pol t with | none => (upTo l pol t).stints | some j => stintsM t j (upTo l pol t).stints := by
  rw [upTo_mid]
  unfold whoJ exeM
  split
  · exact mid_stints l pol t
  · unfold runOne
    dsimp only
    rw [mid_stints]
    split <;> rfl
def whoK (l : List Tsk) (pol : Int) (t : Nat) : Int := match whoJ l pol t with | none => -1 | some j => j.tk
def tabN (l : List Tsk) (pol : Int) (H n : Nat) : List Int := paintS (upTo l pol n).stints (List.replicate H (-1))
theorem tabN_len (l : List Tsk) (pol : Int) (H n : Nat) : (tabN l pol H n).length = H := by unfold tabN; rw [paintS_len]; simp
theorem upTo_pos {l : List Tsk} (h0 : rchk l = 0) (pol : Int) (n : Nat) : ∀ s ∈ (upTo l pol n).stints, 0 ≤ s.frm ∧ s.frm < s.to := by
  intro s hs
  have hT := upTo_TI h0 pol n
  obtain ⟨pre, post, e⟩ := List.append_of_mem hs
  have hk := hT.st pre s post e
  have hl := (sum_bd 0 0 _ pre rfl (fun a x b q => hT.st a x (b ++ s :: post) (by rw [e, q]; simp))).2.2.1
  have := hk.fr
  have := hk.ft
  omega
theorem tab_at {l : List Tsk} (h0 : rchk l = 0) (pol : Int) (H : Nat) : ∀ n, n ≤ H → ∀ q, q < H → (tabN l pol H n).getD q 0 = if q < n then whoK l pol q else -1
  | 0, _, q, hq => by
    have : tabN l pol H 0 = List.replicate H (-1) := rfl
    rw [this, if_neg (by omega)]
    simp [List.getD, hq]
  | n + 1, hn, q, hq => by
    have ih := tab_at h0 pol H n (by omega) q hq
    have hl := tabN_len l pol H n
    unfold tabN at ih hl ⊢
    rw [who_stints]
    cases hw : whoJ l pol n with
    | none =>
      dsimp only
      rw [ih]
      by_cases h1 : q < n
      · rw [if_pos h1, if_pos (by omega)]
      · rw [if_neg h1]
        by_cases h2 : q = n
        · subst h2
          rw [if_pos (by omega)]
          unfold whoK; rw [hw]
        · rw [if_neg (by omega)]
    | some j =>
      dsimp only
      rw [paint_stintsM j (upTo_pos h0 pol n)]
      by_cases h2 : q = n
      · subst h2
        rw [if_pos (by omega)]
        unfold whoK; rw [hw]
        simp [List.getD, hl, hq]
      · have e : ((paintS (upTo l pol n).stints (List.replicate H (-1))).set n (j.tk : Int)).getD q 0 = (paintS (upTo l pol n).stints (List.replicate H (-1))).getD q 0 := by
          simp only [List.getD]
          rw [List.getElem?_set_ne (Ne.symm h2)]
        rw [e, ih]
        by_cases h1 : q < n
        · rw [if_pos h1, if_pos (by omega)]
        · rw [if_neg h1, if_neg (by omega)]
/-- is a job executed in a tick? -/
def isW (l : List Tsk) (pol tk num : Int) (t : Nat) : Bool := match whoJ l pol t with | none => false | some j => decide ((j.tk : Int) = tk) && decide (j.num = num)
theorem isW_iff {l : List Tsk} {pol tk num : Int} {t : Nat} : isW l pol tk num t = true ↔ ∃ j, whoJ l pol t = some j ∧ (j.tk : Int) = tk ∧ j.num = num := by
  unfold isW
  cases whoJ l pol t <;> simp
def cntR (f : Nat → Bool) (a : Nat) : Nat → Nat
  | 0 => 0
  | n + 1 => cntR f a n + (if f (a + n) then 1 else 0)
theorem cntR_add (f : Nat → Bool) (a m : Nat) : ∀ n, cntR f a (m + n) = cntR f a m + cntR f (a + m) n
  | 0 => rfl
  | n + 1 => by rw [← Nat.add_assoc]; simp only [cntR]; rw [cntR_add f a m n, Nat.add_assoc a m n, Nat.add_assoc]
theorem cntR_zero {f : Nat → Bool} {a : Nat} : ∀ {n : Nat}, (∀ q, q < n → f (a + q) = false) → cntR f a n = 0
  | 0, _ => rfl
  | n + 1, h => by simp only [cntR]; rw [cntR_zero (fun q hq => h q (by omega)), h n (by omega)]; rfl
theorem cntR_congr {f g : Nat → Bool} {a b : Nat} : ∀ {n : Nat}, (∀ q, q < n → f (a + q) = g (b + q)) → cntR f a n = cntR g b n
  | 0, _ => rfl
  | n + 1, h => by simp only [cntR]; rw [cntR_congr (fun q hq => h q (by omega)), h n (by omega)]
theorem who_sum (l : List Tsk) (pol tk num : Int) : ∀ n : Nat, sumOf tk num (upTo l pol n).stints = (cntR (isW l pol tk num) 0 n : Nat)
  | 0 => rfl
  | n + 1 => by
    rw [who_stints]
    simp only [cntR, Nat.zero_add]
    have ih := who_sum l pol tk num n
    cases hw : whoJ l pol n with
    | none =>
      have e : isW l pol tk num n = false := by unfold isW; rw [hw]
      dsimp only; rw [ih, e]; simp
    | some j =>
      have e : isW l pol tk num n = (decide ((j.tk : Int) = tk) && decide (j.num = num)) := by unfold isW; rw [hw]
      dsimp only
      rw [sum_stintsM, ih, e]
      simp only [Bool.and_eq_true, decide_eq_true_eq]
      split <;> push_cast <;> omega
theorem who_end {l : List Tsk} {pol tk num : Int} {t : Nat} (h : isW l pol tk num t = true) : ∀ n : Nat, t < n → (t : Int) + 1 ≤ endOf tk num (upTo l pol n).stints
  | 0, hn => by omega
  | n + 1, hn => by
    rw [who_stints]
    cases hw : whoJ l pol n with
    | none =>
      dsimp only
      refine who_end h n ?_
      rcases Nat.lt_or_ge t n with h1 | h1
      · exact h1
      · obtain rfl : t = n := by omega
        unfold isW at h; rw [hw] at h; cases h
    | some j =>
      dsimp only
      rw [end_stintsM]
      split
      · omega
      · next hne =>
        refine who_end h n ?_
        rcases Nat.lt_or_ge t n with h1 | h1
        · exact h1
        · obtain rfl : t = n := by omega
          rw [isW_iff] at h
          obtain ⟨j', e, h2⟩ := h
          rw [hw] at e; injection e with e
          subst e
          exact absurd h2 hne
/-! release -/
theorem released {l : List Tsk} {pol : Int} {t : Nat} {i : Nat} (hi : i < l.length) (hd : dueJ t (tskAt l i) = true) : ∃ q, q < (mid l pol t).jobs.length ∧ (dnAt (mid l pol t).jobs q).tk = i ∧ (dnAt (mid l pol t).jobs q).job = numJ t (tskAt l i) := by
  have := rel_ind0 (l := l) (t := (t : Int)) (s := upTo l pol t) (Q := fun m s => i < m → ∃ q, q < s.jobs.length ∧ (dnAt s.jobs q).tk = i ∧ (dnAt s.jobs q).job = numJ t (tskAt l i))
    (fun m s hm hd' h hlt => by
      dsimp only
      rcases Nat.lt_or_ge i m with h1 | h1
      · obtain ⟨q, a, b, c⟩ := h h1
        exact ⟨q, by simp; omega, by rw [dnAt_snoc_old a]; exact b, by rw [dnAt_snoc_old a]; exact c⟩
      · obtain rfl : i = m := by omega
        exact ⟨s.jobs.length, by simp, by rw [dnAt_snoc_new], by rw [dnAt_snoc_new]⟩)
    (fun m s hm hd' h hlt => by
      rcases Nat.lt_or_ge i m with h1 | h1
      · exact h h1
      · obtain rfl : i = m := by omega
        rw [hd] at hd'; cases hd') (fun h => by omega)
  exact this hi
theorem pre_mid {l : List Tsk} (h0 : rchk l = 0) (pol : Int) {t n : Nat} (h : t < n) : Pre (mid l pol t).jobs (upTo l pol n).jobs := by
  obtain ⟨k, rfl⟩ : ∃ k, n = t + 1 + k := ⟨n - (t + 1), by omega⟩
  refine Pre.trans ?_ (pre_upTo h0 pol k)
  rw [upTo_mid]
  exact pre_exe (fun j hj => ((mid_TI h0 pol t).rd j hj).ps)
theorem pre_mids {l : List Tsk} (h0 : rchk l = 0) (pol : Int) {t n : Nat} (h : t < n) : Pre (mid l pol t).jobs (mid l pol n).jobs :=
  (pre_mid h0 pol h).trans (pre_rel _ _ _)
end Go.Proofs.Ytbilfpoghohddaa
namespace Go.Proofs.Ytbilfpoghohddaa
open Go.RowKit
/-- no deadline is missed in a hyperperiod -/
structure Kept (l : List Tsk) (pol : Int) (H : Nat) : Prop where
  h0 : rchk l = 0
  of : ∀ i, i < l.length → (tskAt l i).off = 0
  dv : ∀ i, i < l.length → (tskAt l i).per ∣ (H : Int)
  nm : ∀ k, k < (upTo l pol H).jobs.length → (missM l H (dnAt (upTo l pol H).jobs k)).miss = false
theorem mul_in {p n H : Int} (hp : 1 ≤ p) (hd : p ∣ H) (h : n * p < H) : (n + 1) * p ≤ H := by
  obtain ⟨m, rfl⟩ := hd
  rw [Int.mul_comm p m] at h ⊢
  have : n < m := Int.lt_of_mul_lt_mul_right h (by omega)
  exact Int.mul_le_mul_of_nonneg_right (by omega) (by omega)
/-- each job of the hyperperiod is done in time -/
theorem Kept.done {l : List Tsk} {pol : Int} {H : Nat} (h : Kept l pol H) {k : Nat} (hk : k < (upTo l pol H).jobs.length) (hr : (dnAt (upTo l pol H).jobs k).rel < H) :
    let d := dnAt (upTo l pol H).jobs k
    d.tk < l.length ∧ 0 ≤ d.job ∧ d.rel = d.job * (tskAt l d.tk).per ∧ sumD (upTo l pol H).stints d = costD l d ∧ endD (upTo l pol H).stints d ≤ d.rel + (tskAt l d.tk).dl ∧ 0 < d.resp ∧ d.resp = endD (upTo l pol H).stints d - d.rel := by
  have hT := upTo_TI h.h0 pol H
  have hm := h.nm k hk
  have hD := hT.jr k hk
  have hdn := hT.dn k hk
  have hJr := hT.rd
  generalize hd : dnAt (upTo l pol H).jobs k = d at *
  dsimp only
  obtain ⟨d1, d2, d3, d4⟩ := hD
  rw [h.of _ d1, Int.zero_add] at d3
  have htk := tok_at h.h0 d1
  have hp1 := htk.p1
  have hin := mul_in hp1 (h.dv _ d1) (by rw [← d3]; exact hr)
  rw [Int.add_mul, Int.one_mul, ← d3] at hin
  have hdl := htk.d2
  unfold missM at hm
  dsimp only at hm
  have h1 : decide (d.rel + (tskAt l d.tk).dl ≤ H) = true := by simp; omega
  rw [h1, Bool.true_and] at hm
  simp only [Bool.or_eq_false_iff, decide_eq_false_iff_not] at hm
  rcases hdn with ⟨j, hj, e⟩ | ⟨e1, e2, e3⟩
  · exfalso
    have hJ := hJr j hj
    have := hJ.eq
    rw [e, hd] at this
    rw [this] at hm
    dsimp only at hm
    omega
  · exact ⟨d1, d2, d3, e1, by omega, e2, e3⟩
/-- a tick in which a job is executed lies between its release and its deadline -/
theorem Kept.tick {l : List Tsk} {pol : Int} {H : Nat} (h : Kept l pol H) {t : Nat} (ht : t < H) {j : Job} (hw : whoJ l pol t = some j) :
    j.tk < l.length ∧ 0 ≤ j.num ∧ j.rel = j.num * (tskAt l j.tk).per ∧ j.rel ≤ t ∧ (t : Int) < j.rel + (tskAt l j.tk).dl ∧ j.rel < H := by
  obtain ⟨hj, _⟩ := who_mem hw
  have hM := mid_TI h.h0 pol t
  have hJ := hM.rd j hj
  have hjr := hM.jr _ hJ.ps
  have hpre := pre_mid h.h0 pol ht
  obtain ⟨p1, p2, p3⟩ := hpre.2 _ hJ.ps
  rw [hJ.eq] at p1 p2 p3 hjr
  dsimp only at p1 p2 p3
  have hlt := hjr.lt
  dsimp only at hlt
  have hk := Nat.lt_of_lt_of_le hJ.ps hpre.1
  obtain ⟨a1, a2, a3, a4, a5, _⟩ := h.done hk (by rw [p3]; omega)
  rw [p1] at a1 a3 a5
  rw [p2] at a2 a3
  rw [p3] at a3 a5
  have he := who_end (isW_iff.mpr ⟨j, hw, rfl, rfl⟩) H ht
  unfold endD at a5
  rw [p1, p2] at a5
  exact ⟨a1, a2, a3, by omega, by omega, by omega⟩
theorem Kept.div {l : List Tsk} {pol : Int} {H : Nat} (h : Kept l pol H) {t : Nat} (ht : t < H) {j : Job} (hw : whoJ l pol t = some j) : j.num = (t : Int) / (tskAt l j.tk).per := by
  obtain ⟨a1, a2, a3, a4, a5, a6⟩ := h.tick ht hw
  have htk := tok_at h.h0 a1
  have hp1 := htk.p1
  have hd2 := htk.d2
  rw [a3] at a4 a5
  symm
  rw [Int.ediv_eq_iff_of_pos (by omega)]
  constructor
  · exact a4
  · omega
def perN (l : List Tsk) (i : Nat) : Nat := (tskAt l i).per.toNat
theorem Kept.per {l : List Tsk} {pol : Int} {H : Nat} (h : Kept l pol H) {i : Nat} (hi : i < l.length) : (perN l i : Int) = (tskAt l i).per ∧ 1 ≤ perN l i ∧ perN l i ∣ H := by
  have hp1 := (tok_at h.h0 hi).p1
  have hd := h.dv i hi
  have e : (perN l i : Int) = (tskAt l i).per := by unfold perN; omega
  rw [← e] at hd
  exact ⟨e, by omega, Int.ofNat_dvd.mp hd⟩
theorem whoK_iff {l : List Tsk} {pol : Int} {t i : Nat} : whoK l pol t = (i : Int) ↔ ∃ j, whoJ l pol t = some j ∧ j.tk = i := by
  unfold whoK
  cases whoJ l pol t with
  | none => simp
  | some j => simp; omega
theorem Kept.isw {l : List Tsk} {pol : Int} {H : Nat} (h : Kept l pol H) {i : Nat} (hi : i < l.length) {c q : Nat} (hq : q < perN l i) (hc : c * perN l i + q < H) :
    decide (whoK l pol (c * perN l i + q) = i) = isW l pol i c (c * perN l i + q) := by
  obtain ⟨e, hp, _⟩ := h.per hi
  have hdiv : ((c * perN l i + q : Nat) : Int) / (tskAt l i).per = c := by
    rw [← e, ← Int.natCast_ediv]
    congr 1
    rw [Nat.mul_comm, Nat.mul_add_div (by omega), Nat.div_eq_of_lt hq]; rfl
  rw [Bool.eq_iff_iff, decide_eq_true_eq, isW_iff, whoK_iff]
  constructor
  · rintro ⟨j, hw, rfl⟩
    have := h.div hc hw
    exact ⟨j, hw, rfl, by rw [this, hdiv]⟩
  · rintro ⟨j, hw, h1, h2⟩
    exact ⟨j, hw, by omega⟩
theorem Kept.cost {l : List Tsk} {pol : Int} {H : Nat} (h : Kept l pol H) {i : Nat} (hi : i < l.length) {c : Nat} (hc : (c + 1) * perN l i ≤ H) : (cntR (isW l pol i c) 0 H : Int) = (tskAt l i).cost := by
  obtain ⟨e, hp, _⟩ := h.per hi
  have hmul : (c + 1) * perN l i = c * perN l i + perN l i := by rw [Nat.add_mul, Nat.one_mul]
  have ht : c * perN l i < H := by omega
  have hcast : ((c * perN l i : Nat) : Int) = (c : Int) * (tskAt l i).per := by rw [← e]; push_cast; rfl
  have hp1 := (tok_at h.h0 hi).p1
  have hdue : dueJ ((c * perN l i : Nat) : Int) (tskAt l i) = true := by
    unfold dueJ
    rw [h.of i hi, Int.sub_zero, hcast, Int.mul_emod_left]
    have : 0 ≤ (c : Int) * (tskAt l i).per := Int.mul_nonneg (by omega) (by omega)
    simp [this]
  have hnum : numJ ((c * perN l i : Nat) : Int) (tskAt l i) = c := by
    unfold numJ
    rw [h.of i hi, Int.sub_zero, hcast, Int.mul_ediv_cancel _ (by omega)]
  obtain ⟨k, hk, k1, k2⟩ := released (pol := pol) hi hdue
  obtain ⟨p0, pp⟩ := pre_mid h.h0 pol ht
  obtain ⟨p1, p2, p3⟩ := pp k hk
  rw [k1] at p1
  rw [k2, hnum] at p2
  have hk2 := Nat.lt_of_lt_of_le hk p0
  have hT := upTo_TI h.h0 pol H
  have hrl := (hT.jr k hk2).rl
  rw [p1, p2, h.of i hi, Int.zero_add, ← hcast] at hrl
  obtain ⟨_, _, _, d4, _⟩ := h.done hk2 (by rw [hrl]; omega)
  unfold sumD costD at d4
  rw [p1, p2, who_sum] at d4
  exact d4
theorem Kept.out {l : List Tsk} {pol : Int} {H : Nat} (h : Kept l pol H) {i : Nat} (hi : i < l.length) {c t : Nat} (ht : t < H) (hw : isW l pol i c t = true) : c * perN l i ≤ t ∧ t < c * perN l i + perN l i ∧ (t : Int) < c * perN l i + (tskAt l i).dl := by
  obtain ⟨e, hp, _⟩ := h.per hi
  obtain ⟨j, hj, h1, h2⟩ := isW_iff.mp hw
  obtain ⟨a1, a2, a3, a4, a5, _⟩ := h.tick ht hj
  have hji : j.tk = i := by omega
  rw [hji] at a3 a5
  have hd2 := (tok_at h.h0 hi).d2
  rw [h2, ← e] at a3
  have : ((c * perN l i : Nat) : Int) = (c : Int) * (perN l i : Int) := by push_cast; rfl
  omega
/-- as many ticks of a task as it costs -/
theorem Kept.many {l : List Tsk} {pol : Int} {H : Nat} (h : Kept l pol H) {i : Nat} (hi : i < l.length) {c : Nat} (hc : (c + 1) * perN l i ≤ H) {q : Nat} (hq : q ≤ perN l i) :
    cntR (isW l pol i c) 0 (c * perN l i + q) = cntR (fun t => decide (whoK l pol t = i)) (c * perN l i) q := by
  have hmul : (c + 1) * perN l i = c * perN l i + perN l i := by rw [Nat.add_mul, Nat.one_mul]
  rw [cntR_add, cntR_zero (fun x hx => ?_), Nat.zero_add, Nat.zero_add]
  · exact cntR_congr (fun x hx => (h.isw hi (by omega) (by omega)).symm)
  · rw [Nat.zero_add, ← Bool.not_eq_true]
    intro hw
    have := h.out hi (by omega) hw
    omega
theorem Kept.chunk {l : List Tsk} {pol : Int} {H : Nat} (h : Kept l pol H) {i : Nat} (hi : i < l.length) {c : Nat} (hc : (c + 1) * perN l i ≤ H) :
    (cntR (fun t => decide (whoK l pol t = i)) (c * perN l i) (perN l i) : Int) = (tskAt l i).cost := by
  have hmul : (c + 1) * perN l i = c * perN l i + perN l i := by rw [Nat.add_mul, Nat.one_mul]
  rw [← h.many hi hc (Nat.le_refl _), ← h.cost hi hc]
  congr 1
  obtain ⟨r, hr⟩ : ∃ r, H = c * perN l i + perN l i + r := ⟨H - (c * perN l i + perN l i), by omega⟩
  rw [show cntR (isW l pol i c) 0 H = cntR (isW l pol i c) 0 (c * perN l i + perN l i + r) by rw [← hr], cntR_add _ _ (c * perN l i + perN l i)]
  have hz : cntR (isW l pol i c) (0 + (c * perN l i + perN l i)) r = 0 := cntR_zero (fun x hx => by
    rw [Nat.zero_add, ← Bool.not_eq_true]
    intro hw
    have := h.out hi (by omega) hw
    omega)
  rw [hz, Nat.add_zero]
/-! places in a list -/
theorem posL_cnt (i : Int) (xs : List Int) : ∀ q, q ≤ xs.length → (posL i 0 (xs.take q)).length = cntR (fun t => decide (xs.getD t 0 = i)) 0 q
  | 0, _ => by simp [posL, cntR]
  | q + 1, h => by
    have ih := posL_cnt i xs q (by omega)
    rw [posL_take (by omega)]
    simp only [cntR, Nat.zero_add, ← ih, decide_eq_true_eq]
    by_cases e : xs.getD q 0 = i
    · rw [if_pos e, if_pos e, List.length_append]; rfl
    · rw [if_neg e, if_neg e, List.append_nil]; rfl
theorem inAt_lt {i : Int} {xs : List Int} {q : Nat} (hq : q ≤ xs.length) {m : Int} (h0 : 0 ≤ m) (hm : m < (posL i 0 xs).length) : inAt (posL i 0 xs) m < q ↔ m < (posL i 0 (xs.take q)).length := by
  have e : posL i 0 xs = posL i 0 (xs.take q) ++ posL i q (xs.drop q) := by
    conv => lhs; rw [← List.take_append_drop q xs]
    rw [posL_append, List.length_take, Nat.min_eq_left hq, Int.zero_add]
  rw [e] at hm ⊢
  obtain ⟨k, rfl⟩ : ∃ k : Nat, m = k := ⟨m.toNat, by omega⟩
  unfold inAt
  rw [Int.toNat_natCast]
  rcases Nat.lt_or_ge k (posL i 0 (xs.take q)).length with h1 | h1
  · have hmem : ((posL i 0 (xs.take q)) ++ posL i q (xs.drop q)).getD k 0 ∈ posL i 0 (xs.take q) := by
      simp only [List.getD, List.getElem?_append_left h1, List.getElem?_eq_getElem h1, Option.getD_some]
      exact List.getElem_mem h1
    have := posL_bd i _ _ _ hmem
    rw [List.length_take, Nat.min_eq_left hq] at this
    constructor <;> intro <;> omega
  · have h2 : k - (posL i 0 (xs.take q)).length < (posL i q (xs.drop q)).length := by rw [List.length_append] at hm; omega
    have hmem : ((posL i 0 (xs.take q)) ++ posL i q (xs.drop q)).getD k 0 ∈ posL i q (xs.drop q) := by
      simp only [List.getD, List.getElem?_append_right h1, List.getElem?_eq_getElem h2, Option.getD_some]
      exact List.getElem_mem h2
    have := posL_bd i _ _ _ hmem
    constructor <;> intro <;> omega
/-- who may be executed while a job is inside a section -/
theorem best_not {l : List Tsk} {a c : Job} (hc : c.tk < l.length) (ha : a.tk < l.length) (hp : Abv l a c ∨ Abv l c a) {s : Sec} (hs : InSec l a s) (hu : ∃ z ∈ (tskAt l c.tk).secs, z.res = s.res) : beforeM l 1 a c = true := by
  obtain ⟨z, hz, hzr⟩ := hu
  have h1 := ceil_own hc hz
  rw [hzr] at h1
  obtain ⟨r1, r2⟩ := rank_ceil hs
  have hrp := rank_prio l a
  rcases hp with h | h
  · unfold beforeM
    rw [if_neg (by decide)]
    rcases rank_eq l c with e | ⟨s', hs', e⟩
    · by_cases eq : (rankM l a).1 = (rankM l c).1
      · rw [if_pos eq]
        cases hji : (rankM l c).2
        · rw [if_neg (by rw [r2]; simp)]; exact r2
        · exfalso
          obtain ⟨s', hs'⟩ := rank_in hji
          have h2 := h s' hs'
          have h3 := ceil_own hc hs'.1
          omega
      · rw [if_neg eq]; simp; omega
    · have h2 := h s' hs'
      rw [if_neg (by omega)]; simp; omega
  · have := h s hs
    omega
theorem mid_A {l : List Tsk} (h0 : rchk l = 0) (n : Nat) : AInv l (mid l 1 n) := (upTo_A h0 n).rel h0
theorem part_at2 {xs : List Int} {p c q : Nat} (hq : q < p) : (partN xs p c).getD q 0 = xs.getD (c * p + q) 0 := by
  unfold partN
  simp only [List.getD, List.getElem?_take, if_pos hq, List.getElem?_drop]
theorem Kept.part {l : List Tsk} {pol : Int} {H : Nat} (h : Kept l pol H) {i : Nat} {c : Nat} (hc : (c + 1) * perN l i ≤ H) {q : Nat} (hq : q < perN l i) :
    (partN (tabN l pol H H) (perN l i) c).getD q 0 = whoK l pol (c * perN l i + q) := by
  have hmul : (c + 1) * perN l i = c * perN l i + perN l i := by rw [Nat.add_mul, Nat.one_mul]
  rw [part_at2 hq, tab_at h.h0 pol H H (Nat.le_refl _) _ (by omega), if_pos (by omega)]
theorem Kept.plen {l : List Tsk} {pol : Int} {H : Nat} {i : Nat} {c : Nat} (hc : (c + 1) * perN l i ≤ H) : (partN (tabN l pol H H) (perN l i) c).length = perN l i := by
  have hmul : (c + 1) * perN l i = c * perN l i + perN l i := by rw [Nat.add_mul, Nat.one_mul]
  unfold partN
  rw [List.length_take, List.length_drop, tabN_len]; omega
theorem Kept.count {l : List Tsk} {pol : Int} {H : Nat} (h : Kept l pol H) {i : Nat} (hi : i < l.length) {c : Nat} (hc : (c + 1) * perN l i ≤ H) {q : Nat} (hq : q ≤ perN l i) :
    (posL i 0 ((partN (tabN l pol H H) (perN l i) c).take q)).length = cntR (isW l pol i c) 0 (c * perN l i + q) := by
  rw [posL_cnt _ _ q (by rw [Kept.plen hc]; exact hq), h.many hi hc hq]
  exact cntR_congr (fun x hx => by rw [Nat.zero_add, h.part hc (by omega)])
theorem Kept.whole {l : List Tsk} {pol : Int} {H : Nat} (h : Kept l pol H) {i : Nat} (hi : i < l.length) {c : Nat} (hc : (c + 1) * perN l i ≤ H) :
    ((posL i 0 (partN (tabN l pol H H) (perN l i) c)).length : Int) = (tskAt l i).cost := by
  have e := h.count hi hc (Nat.le_refl _)
  rw [List.take_of_length_le (by rw [Kept.plen hc]; exact Nat.le_refl _)] at e
  rw [e, h.many hi hc (Nat.le_refl _), h.chunk hi hc]
/-- a job that has begun and is not done waits -/
theorem who_ready {l : List Tsk} {pol : Int} (h0 : rchk l = 0) {t n : Nat} (htn : t < n) {j : Job} (hw : whoJ l pol t = some j) (hlt : (cntR (isW l pol j.tk j.num) 0 n : Int) < (tskAt l j.tk).cost) :
    ∃ x ∈ (mid l pol n).ready, x.tk = j.tk ∧ x.num = j.num ∧ x.dn = (cntR (isW l pol j.tk j.num) 0 n : Nat) := by
  obtain ⟨hj, _⟩ := who_mem hw
  have hM := mid_TI h0 pol t
  have hJ := hM.rd j hj
  obtain ⟨p0, pp⟩ := pre_mids h0 pol htn
  obtain ⟨p1, p2, _⟩ := pp _ hJ.ps
  rw [hJ.eq] at p1 p2
  dsimp only at p1 p2
  have hN := mid_TI h0 pol n
  rcases hN.dn j.pos (Nat.lt_of_lt_of_le hJ.ps p0) with ⟨x, hx, e⟩ | ⟨e, _⟩
  · have hX := hN.rd x hx
    have hq := hX.eq
    rw [e] at hq
    rw [hq] at p1 p2
    dsimp only at p1 p2
    refine ⟨x, hx, p1, p2, ?_⟩
    have := hX.sm
    rw [mid_stints, who_sum, p1, p2] at this
    exact this.symm
  · exfalso
    unfold sumD costD at e
    rw [p1, p2, mid_stints, who_sum] at e
    omega
theorem uses_mem {t : Tsk} {r : Int} (h : usesB t r = true) : ∃ z ∈ t.secs, z.res = r := by
  unfold usesB at h
  obtain ⟨z, hz, e⟩ := List.any_eq_true.mp h
  exact ⟨z, hz, by simpa using e⟩
theorem cut_mem {xs : List Int} {a b : Int} {x : Int} (h0 : 0 ≤ a) (hb : b ≤ xs.length) (h : x ∈ cutL xs a b) : ∃ q : Nat, a ≤ q ∧ (q : Int) < b ∧ xs.getD q 0 = x := by
  unfold cutL at h
  obtain ⟨k, hk, e⟩ := List.mem_iff_getElem.mp h
  rw [List.length_take, List.length_drop] at hk
  refine ⟨a.toNat + k, by omega, by omega, ?_⟩
  rw [List.getElem_take, List.getElem_drop] at e
  simp [List.getD, show a.toNat + k < xs.length by omega, e]
/-- no section is disturbed -/
theorem Kept.sec {l : List Tsk} {H : Nat} (h : Kept l 1 H) {i : Nat} (hi : i < l.length) {c : Nat} (hc : (c + 1) * perN l i ≤ H) {s : Sec} (hs : s ∈ (tskAt l i).secs) :
    secFree l i (partN (tabN l 1 H H) (perN l i) c) (posL i 0 (partN (tabN l 1 H H) (perN l i) c)) s = true := by
  have hmul : (c + 1) * perN l i = c * perN l i + perN l i := by rw [Nat.add_mul, Nat.one_mul]
  have hfit := sec_fit h.h0 hi hs
  have hf0 := hfit.f0
  have hl1 := hfit.l1
  have hfl := hfit.fl
  have hwh := h.whole hi hc
  have hpl := Kept.plen (pol := 1) hc
  have hct := fun q hq => h.count hi hc (q := q) hq
  have hpt := fun q hq => h.part (c := c) hc (q := q) hq
  generalize hX : partN (tabN l 1 H H) (perN l i) c = X at *
  have hin1 := posL_in i X (q := s.frm) hf0 (by omega)
  have hin2 := posL_in i X (q := s.frm + s.len - 1) (by omega) (by omega)
  unfold secFree
  rw [List.all_eq_true]
  intro x hx
  obtain ⟨q, q1, q2, rfl⟩ := cut_mem hin1.1 (by omega) hx
  unfold freeB
  have hqp : q < perN l i := by omega
  rw [hpt q hqp]
  by_cases hxi : whoK l 1 (c * perN l i + q) = i
  · simp [hxi]
  by_cases hx0 : 0 ≤ whoK l 1 (c * perN l i + q)
  case neg => simp [hx0]
  cases hu : usesB (tskAt l (whoK l 1 (c * perN l i + q)).toNat) s.res with
  | false => simp
  | true =>
    exfalso
    -- the tick's job
    obtain ⟨b, hb⟩ : ∃ b, whoJ l 1 (c * perN l i + q) = some b := by
      cases hw : whoJ l 1 (c * perN l i + q) with
      | none => unfold whoK at hx0; rw [hw] at hx0; exact absurd hx0 (by decide)
      | some b => exact ⟨b, rfl⟩
    have hbk : whoK l 1 (c * perN l i + q) = b.tk := by unfold whoK; rw [hb]
    rw [hbk] at hu hxi
    rw [Int.toNat_natCast] at hu
    -- places before
    have hne : inAt (posL i 0 X) s.frm ≠ q := by
      intro e
      have := hin1.2.2
      rw [e] at this
      unfold inAt at this
      rw [Int.toNat_natCast, hpt q hqp, hbk] at this
      exact hxi this
    have hl1' : s.frm < (posL i 0 (X.take q)).length := (inAt_lt (by omega) hf0 (by omega)).mp (by omega)
    have hl2' : ¬ (s.frm + s.len - 1 < (posL i 0 (X.take q)).length) := fun hh => by
      have := (inAt_lt (q := q) (by omega) (by omega) (by omega)).mpr hh
      omega
    rw [hct q (by omega)] at hl1' hl2'
    -- the first of them
    have hfst : inAt (posL i 0 X) s.frm < q := by omega
    have hw1 := hin1.2.2
    have hat : inAt (posL i 0 X) s.frm = ((inAt (posL i 0 X) s.frm).toNat : Nat) := by omega
    generalize (inAt (posL i 0 X) s.frm).toNat = a at *
    rw [hat] at hfst hw1
    unfold inAt at hw1
    rw [Int.toNat_natCast, hpt a (by omega)] at hw1
    have hisw := h.isw hi (c := c) (q := a) (by omega) (by omega)
    rw [hw1] at hisw
    simp only [decide_true] at hisw
    obtain ⟨j, hj, j1, j2⟩ := isW_iff.mp hisw.symm
    have hjt : j.tk = i := by omega
    obtain ⟨y, hy, y1, y2, y3⟩ := who_ready h.h0 (n := c * perN l i + q) (by omega) hj (by rw [hjt, j2]; omega)
    rw [hjt, j2] at y3
    rw [hjt] at y1
    have hins : InSec l y s := ⟨by rw [y1]; exact hs, by rw [inside_iff, y3]; omega⟩
    obtain ⟨hbm, hbmin⟩ := who_mem hb
    have hybt : y.tk < l.length := by rw [y1]; exact hi
    have hbt := mid_tk h.h0 hbm
    obtain ⟨c1, hc1, e1⟩ := mem_jbAt hy
    obtain ⟨c2, hc2, e2⟩ := mem_jbAt hbm
    have hpq := (mid_A h.h0 (c * perN l i + q)).at_ hc1 hc2 (fun e => by
      subst e
      rw [e1] at e2
      subst e2
      omega)
    rw [e1, e2] at hpq
    have := best_not hbt hybt hpq hins (uses_mem hu)
    rw [hbmin y hy] at this
    cases this
theorem svI_true {l : List Tsk} {xs : List Int} {i : Nat} : ∀ (f c0 : Nat), (∀ c, c0 ≤ c → c < c0 + f → serveB l i (partN xs (tskAt l i).per.toNat c) = true) → servesI l xs i f c0 = true
  | 0, _, _ => rfl
  | f + 1, c0, h => by
    unfold servesI
    rw [h c0 (Nat.le_refl _) (by omega), svI_true f (c0 + 1) (fun c a b => h c (by omega) (by omega))]
    rfl
theorem svI_false {l : List Tsk} {xs : List Int} {i : Nat} : ∀ (f c0 c : Nat), c0 ≤ c → c < c0 + f → serveB l i (partN xs (tskAt l i).per.toNat c) = false → servesI l xs i f c0 = false
  | 0, c0, c, h1, h2, _ => by omega
  | f + 1, c0, c, h1, h2, h => by
    unfold servesI
    rcases Nat.lt_or_eq_of_le h1 with h3 | rfl
    · rw [svI_false f (c0 + 1) c (by omega) (by omega) h]; split <;> rfl
    · rw [h]; rfl
theorem svL_true {l : List Tsk} {xs : List Int} : ∀ (ts : List Tsk) (k : Nat), ts = l.drop k → (∀ i, k ≤ i → i < l.length → ∀ c, c < xs.length / perN l i → serveB l i (partN xs (perN l i) c) = true) → servesL l xs k ts = true
  | [], _, _, _ => rfl
  | x :: ts, k, e, h => by
    have hlt : k < l.length := by
      rcases Nat.lt_or_ge k l.length with h | h
      · exact h
      · rw [List.drop_eq_nil_of_le h] at e; cases e
    rw [tsks_drop hlt] at e
    injection e with e1 e2
    subst e1
    unfold servesL
    rw [svI_true _ 0 (fun c _ hc => h k (Nat.le_refl _) hlt c (by rw [Nat.zero_add] at hc; exact hc)), svL_true ts (k + 1) e2 (fun i hi hl c hc => h i (by omega) hl c hc)]
    rfl
theorem svL_false {l : List Tsk} {xs : List Int} {i c : Nat} (hi : i < l.length) (hc : c < xs.length / perN l i) (hf : serveB l i (partN xs (perN l i) c) = false) : ∀ (ts : List Tsk) (k : Nat), ts = l.drop k → k ≤ i → servesL l xs k ts = false
  | [], k, e, h => by
    have := congrArg List.length e
    simp at this; omega
  | x :: ts, k, e, h => by
    have hlt : k < l.length := by omega
    rw [tsks_drop hlt] at e
    injection e with e1 e2
    subst e1
    unfold servesL
    rcases Nat.lt_or_eq_of_le h with h1 | rfl
    · rw [svL_false hi hc hf ts (k + 1) e2 h1]; split <;> rfl
    · rw [svI_false _ 0 c (Nat.zero_le _) (by rw [Nat.zero_add]; exact hc) hf]; rfl
theorem inAt_last {i : Int} {xs : List Int} {d m : Int} (h0 : 0 ≤ m) (hm : m < (posL i 0 xs).length) (h : ∀ q : Nat, q < xs.length → xs.getD q 0 = i → (q : Int) < d) : inAt (posL i 0 xs) m < d := by
  obtain ⟨a, b, c⟩ := posL_in i xs h0 hm
  have e : inAt (posL i 0 xs) m = ((inAt (posL i 0 xs) m).toNat : Nat) := by omega
  rw [e]
  refine h _ (by omega) ?_
  unfold inAt at c
  exact c
theorem chunk_le {H p c : Nat} (hp : 1 ≤ p) (hd : p ∣ H) (hc : c < H / p) : (c + 1) * p ≤ H := by
  have h1 : (c + 1) * p ≤ H / p * p := Nat.mul_le_mul_right _ hc
  rw [Nat.div_mul_cancel hd] at h1
  exact h1
theorem secs_none {l : List Tsk} (h : secsB l = false) {i : Nat} (hi : i < l.length) : (tskAt l i).secs = [] := by
  have := List.any_eq_false.mp h (tskAt l i) (by simp [tskAt, List.getD, hi])
  simpa using this
theorem Kept.serve {l : List Tsk} {pol : Int} {H : Nat} (h : Kept l pol H) (hp : pol = 1 ∨ secsB l = false) {i : Nat} (hi : i < l.length) {c : Nat} (hc : (c + 1) * perN l i ≤ H) : serveB l i (partN (tabN l pol H H) (perN l i) c) = true := by
  have hmul : (c + 1) * perN l i = c * perN l i + perN l i := by rw [Nat.add_mul, Nat.one_mul]
  have htk := tok_at h.h0 hi
  have hc1 := htk.c1
  have hwh := h.whole hi hc
  have hlate : inAt (posL i 0 (partN (tabN l pol H H) (perN l i) c)) ((tskAt l i).cost - 1) < (tskAt l i).dl := by
    refine inAt_last (by omega) (by omega) (fun q hq e => ?_)
    rw [Kept.plen hc] at hq
    rw [h.part hc hq] at e
    have hisw := h.isw hi (c := c) hq (by omega)
    rw [e] at hisw
    simp only [decide_true] at hisw
    have := (h.out hi (by omega) hisw.symm).2.2
    push_cast at this
    omega
  rw [serve_in hwh hlate, List.all_eq_true]
  intro s hs
  rcases hp with rfl | hp
  · exact h.sec hi hc hs
  · exfalso
    have := secs_none hp hi
    rw [this] at hs
    cases hs
/-- the table that is made serves -/
theorem Kept.table {l : List Tsk} {pol : Int} {H : Nat} (h : Kept l pol H) (hp : pol = 1 ∨ secsB l = false) : servesL l (tabN l pol H H) 0 l = true := by
  refine svL_true l 0 rfl (fun i _ hi c hc => ?_)
  rw [tabN_len] at hc
  obtain ⟨_, p1, p2⟩ := h.per hi
  exact h.serve hp hi (chunk_le p1 p2 hc)
theorem Kept.entries {l : List Tsk} {pol : Int} {H : Nat} (h : Kept l pol H) : (tabN l pol H H).any (badK l) = false := by
  rw [List.any_eq_false]
  intro x hx
  obtain ⟨q, hq, e⟩ := List.mem_iff_getElem.mp hx
  rw [tabN_len] at hq
  have := tab_at h.h0 pol H H (Nat.le_refl _) q hq
  rw [if_pos hq] at this
  have e2 : x = whoK l pol q := by
    rw [← this, ← e]
    simp [List.getD, tabN_len, hq]
  rw [e2]
  unfold badK whoK
  cases hw : whoJ l pol q with
  | none => simp; omega
  | some j =>
    have := mid_tk h.h0 (who_mem hw).1
    simp; omega
/-! a table in which a tick is missing, or one too many -/
theorem posL_set {i : Int} : ∀ (xs : List Int) (k : Nat) (v : Int) (a : Int), k < xs.length → ((posL i a (xs.set k v)).length : Int) = (posL i a xs).length - (if xs.getD k 0 = i then 1 else 0) + (if v = i then 1 else 0)
  | [], k, v, a, h => by simp at h
  | x :: xs, 0, v, a, _ => by
    simp only [List.set_cons_zero, posL, List.getD_cons_zero]
    by_cases h1 : x = i <;> by_cases h2 : v = i <;> simp [h1, h2] <;> omega
  | x :: xs, k + 1, v, a, h => by
    have ih := posL_set (i := i) xs k v (a + 1) (by simpa using h)
    simp only [List.set_cons_succ, posL, List.getD_cons_succ]
    by_cases h1 : x = i
    · simp only [h1, if_true, List.length_cons]; push_cast; omega
    · simp only [h1, if_false]; exact ih
theorem part_set {xs : List Int} {p c q : Nat} {v : Int} (hq : q < p) : partN (xs.set (c * p + q) v) p c = (partN xs p c).set q v := by
  unfold partN
  rw [List.drop_set]
  rw [if_neg (by omega), show c * p + q - c * p = q by omega]
  apply List.ext_getElem?
  intro n
  by_cases h1 : n < p
  · simp only [List.getElem?_take, List.getElem?_set, h1, if_true, List.getElem?_drop, List.length_take, List.length_drop]
    by_cases e : q = n
    · rw [if_pos e, if_pos e]
      by_cases e2 : q < xs.length - c * p
      · rw [if_pos e2, if_pos (by omega)]
      · rw [if_neg e2, if_neg (by omega)]
    · rw [if_neg e, if_neg e]
  · simp [List.getElem?_take, List.getElem?_set, h1]
    intro e; omega
end Go.Proofs.Ytbilfpoghohddaa
