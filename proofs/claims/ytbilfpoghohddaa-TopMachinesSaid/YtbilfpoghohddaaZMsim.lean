/- TopMachines: the responses of the simulation (plain). -/
import Derived.Test.YtbilfpoghohddaaZMwr
import Derived.Test.YtbilfpoghohddaaZWtab2
namespace Go.Proofs.Ytbilfpoghohddaa
open Go.RowKit
/-- the end of a job is behind a tick in which it is executed -/
theorem who_last (l : List Tsk) (pol tk num : Int) : ∀ n : Nat, endOf tk num (upTo l pol n).stints = 0 ∨ ∃ q, q < n ∧ isW l pol tk num q = true ∧ endOf tk num (upTo l pol n).stints = (q : Int) + 1
  | 0 => .inl rfl
  | n + 1 => by
    rw [who_stints]
    cases hw : whoJ l pol n with
    | none =>
      dsimp only
      rcases who_last l pol tk num n with h | ⟨q, a, b, c⟩
      · exact .inl h
      · exact .inr ⟨q, by omega, b, c⟩
    | some j =>
      dsimp only
      rw [end_stintsM]
      split
      · next h => exact .inr ⟨n, by omega, isW_iff.mpr ⟨j, hw, h⟩, rfl⟩
      · rcases who_last l pol tk num n with h | ⟨q, a, b, c⟩
        · exact .inl h
        · exact .inr ⟨q, by omega, b, c⟩
section
variable {l : List Tsk} {H : Nat}
theorem Kept.posB (h : Kept l 1 H) {i q : Nat} (hq : q < H) : posB (tabN l 1 H H) i q = decide (whoK l 1 q = i) := by
  unfold Proofs.Ytbilfpoghohddaa.posB
  rw [tabN_len, Nat.mod_eq_of_lt hq, tab_at h.h0 1 H H (Nat.le_refl _) q hq, if_pos hq]
/-- a job of the simulation is done as fast as an executive does it -/
theorem Kept.fin (h : Kept l 1 H) {k : Nat} (hk : k < (upTo l 1 H).jobs.length) (hr : (dnAt (upTo l 1 H).jobs k).rel < H) :
    let d := dnAt (upTo l 1 H).jobs k
    d.tk < l.length ∧ ∃ c x : Nat, d.job = c ∧ d.resp = x ∧ (c + 1) * perN l d.tk ≤ H ∧ FinAt l (tabN l 1 H H) d.tk c x := by
  have hd := h.done hk hr
  have hT := upTo_TI h.h0 1 H
  generalize dnAt (upTo l 1 H).jobs k = d at *
  dsimp only at hd ⊢
  obtain ⟨h1, h2, h3, h4, h5, h6, h7⟩ := hd
  obtain ⟨e, hp, hdv⟩ := h.per h1
  obtain ⟨c, hc⟩ : ∃ c : Nat, d.job = c := ⟨d.job.toNat, by omega⟩
  obtain ⟨x, hx⟩ : ∃ x : Nat, d.resp = x := ⟨d.resp.toNat, by omega⟩
  rw [hc, ← e] at h3
  have hcp : ((c * perN l d.tk : Nat) : Int) = (c : Int) * (perN l d.tk : Int) := by push_cast; rfl
  have hle : (c + 1) * perN l d.tk ≤ H := by
    have h8 : c * perN l d.tk < H := by omega
    obtain ⟨m, hm⟩ := hdv
    rw [hm, Nat.mul_comm] at h8
    have h10 := Nat.lt_of_mul_lt_mul_left h8
    have h9 := Nat.mul_le_mul_left (perN l d.tk) (show c + 1 ≤ m from h10)
    rw [Nat.mul_comm (c + 1), hm]
    exact h9
  refine ⟨h1, c, x, hc, hx, hle, ?_⟩
  have hmul : (c + 1) * perN l d.tk = c * perN l d.tk + perN l d.tk := by rw [Nat.add_mul, Nat.one_mul]
  have hdl := (tok_at h.h0 h1).d2
  unfold endD at h5 h7
  rw [hc] at h5 h7
  rcases who_last l 1 d.tk c H with h8 | ⟨q, h8, h9, h10⟩
  · omega
  have hqx : q = c * perN l d.tk + (x - 1) := by omega
  have hxp : x ≤ perN l d.tk := by omega
  have hx1 : 1 ≤ x := by omega
  have hwq : decide (whoK l 1 q = d.tk) = true := by
    rw [hqx] at h8 h9 ⊢
    rw [h.isw h1 (by omega) (by omega)]
    exact h9
  refine ⟨hx1, hxp, by rw [← hqx, h.posB (by omega)]; exact hwq, ?_⟩
  have hm := h.many h1 hle hxp
  rw [show cntR (Proofs.Ytbilfpoghohddaa.posB (tabN l 1 H H) d.tk) (c * perN l d.tk) x = cntR (fun t => decide (whoK l 1 t = d.tk)) (c * perN l d.tk) x from cntR_congr (fun y hy => h.posB (by omega)), ← hm, ← h.cost h1 hle]
  congr 1
  obtain ⟨r, hr2⟩ : ∃ r, H = c * perN l d.tk + x + r := ⟨H - (c * perN l d.tk + x), by omega⟩
  rw [show cntR (isW l 1 d.tk c) 0 H = cntR (isW l 1 d.tk c) 0 (c * perN l d.tk + x + r) by rw [← hr2], cntR_add _ _ (c * perN l d.tk + x)]
  rw [cntR_zero (n := r) (fun y hy => ?_), Nat.add_zero]
  rw [Nat.zero_add, ← Bool.not_eq_true]
  intro hw
  have := who_end hw H (by omega)
  omega
/-- and each period has its job -/
theorem Kept.has (h : Kept l 1 H) {i : Nat} (hi : i < l.length) {c : Nat} (hc : (c + 1) * perN l i ≤ H) : ∃ k, k < (upTo l 1 H).jobs.length ∧ (dnAt (upTo l 1 H).jobs k).tk = i ∧ (dnAt (upTo l 1 H).jobs k).job = c := by
  obtain ⟨e, hp, _⟩ := h.per hi
  have hmul : (c + 1) * perN l i = c * perN l i + perN l i := by rw [Nat.add_mul, Nat.one_mul]
  have ht : c * perN l i < H := by omega
  have hcast : ((c * perN l i : Nat) : Int) = (c : Int) * (tskAt l i).per := by rw [← e]; push_cast; rfl
  have hp1 := (tok_at h.h0 hi).p1
  have hdue : dueJ ((c * perN l i : Nat) : Int) (tskAt l i) = true := by
    unfold dueJ
    rw [h.of i hi, Int.sub_zero, hcast, Int.mul_emod_left]
    have : 0 ≤ (c : Int) * (tskAt l i).per := Int.mul_nonneg (by omega) (by omega)
    simp [this]
  have hnum : numJ ((c * perN l i : Nat) : Int) (tskAt l i) = c := by
    unfold numJ
    rw [h.of i hi, Int.sub_zero, hcast, Int.mul_ediv_cancel _ (by omega)]
  obtain ⟨k, hk, k1, k2⟩ := released (pol := 1) hi hdue
  obtain ⟨p0, pp⟩ := pre_mid h.h0 1 ht
  obtain ⟨p1, p2, _⟩ := pp k hk
  exact ⟨k, Nat.lt_of_lt_of_le hk p0, by rw [p1, k1], by rw [p2, k2, hnum]⟩
theorem Kept.rels (h : Kept l 1 H) {k : Nat} (hk : k < (upTo l 1 H).jobs.length) : (dnAt (upTo l 1 H).jobs k).rel < H := by
  have := ((upTo_TI h.h0 1 H).jr k hk).lt
  omega
theorem dn_mem {ds : List Don} {y : Don} (h : y ∈ ds) : ∃ k, k < ds.length ∧ y = dnAt ds k := by
  obtain ⟨k, hk, e⟩ := List.mem_iff_getElem.mp h
  exact ⟨k, hk, by rw [← e]; simp [dnAt, List.getD, hk]⟩
theorem dn_at_mem {ds : List Don} {k : Nat} (h : k < ds.length) : dnAt ds k ∈ ds := by
  simp [dnAt, List.getD, h]
/-- the executive does each job as fast as the simulation says -/
theorem Kept.full_sim (h : Kept l 1 H) (S : Srv l (tabN l 1 H H)) {n : Nat} (hn : H ≤ n) {w : List Int} (hw : FullW l (tabN l 1 H H) n w) {i : Nat} (hi : i < l.length) :
    w.getD i 0 = (worstL (List.replicate l.length 0) (upTo l 1 H).jobs).getD i 0 := by
  have hlt : ∀ y ∈ (upTo l 1 H).jobs, y.tk < (List.replicate l.length (0 : Int)).length := fun y hy => by
    obtain ⟨k, hk, rfl⟩ := dn_mem hy
    rw [List.length_replicate]
    exact (h.fin hk (h.rels hk)).1
  obtain ⟨a, b, c⟩ := worst_at (i := i) (upTo l 1 H).jobs (List.replicate l.length 0) (by rw [List.length_replicate]; exact hi) hlt
  rw [rep0_at] at a b
  have h1 : (worstL (List.replicate l.length 0) (upTo l 1 H).jobs).getD i 0 ≤ w.getD i 0 := by
    rcases b with b | ⟨y, hy, hyi, b⟩
    · rw [b]; exact hw.nn i hi
    · obtain ⟨k, hk, rfl⟩ := dn_mem hy
      obtain ⟨_, c', x, e1, e2, e3, e4⟩ := h.fin hk (h.rels hk)
      rw [hyi] at e3 e4
      have := hw.ge i hi c' x e4 (by
        have hmul : (c' + 1) * perN l i = c' * perN l i + perN l i := by rw [Nat.add_mul, Nat.one_mul]
        have := e4.xp
        omega)
      omega
  have h2 : w.getD i 0 ≤ (worstL (List.replicate l.length 0) (upTo l 1 H).jobs).getD i 0 := by
    rcases hw.is i hi with b2 | ⟨c', x, _, e2, e3⟩
    · omega
    · have hf := fin_mod S hi e3
      obtain ⟨_, hp, hd⟩ := S.per i hi
      rw [tabN_len] at hd
      have hH : 0 < H := by have := S.x1; rwa [tabN_len] at this
      have hM : 0 < H / perN l i := Nat.div_pos (Nat.le_of_dvd hH hd) hp
      rw [tabN_len] at hf
      obtain ⟨k, hk, k1, k2⟩ := h.has hi (chunk_le hp hd (Nat.mod_lt c' hM))
      obtain ⟨_, c2, x2, f1, f2, _, f4⟩ := h.fin hk (h.rels hk)
      have hcc : c2 = c' % (H / perN l i) := by rw [k2] at f1; omega
      rw [k1, hcc] at f4
      have := fin_unique S hi hf f4
      have := c _ (dn_at_mem hk) k1
      omega
  omega
end
/-! the response time of one task, whatever the others do -/
theorem fp_wait1 {l : List Tsk} (h0 : rchk l = 0) {i : Nat} (hi : 0 ≤ respM l (blocks l) i) (n : Nat) (j : Job) (hj : j ∈ (upTo l 1 n).ready) (hji : j.tk = i) : (n : Int) < j.rel + respM l (blocks l) i := by
  subst hji
  have hT := upTo_TI h0 1 n
  have hJ := hT.rd j hj
  have htk := (hT.jr _ hJ.ps).tk
  rw [hJ.eq] at htk
  dsimp only at htk
  obtain ⟨r1, r2, r3, _⟩ := resp_law h0 htk hi
  obtain ⟨R, hR⟩ : ∃ R : Nat, respM l (blocks l) j.tk = R := ⟨(respM l (blocks l) j.tk).toNat, by omega⟩
  rw [hR] at r1 r2 r3 ⊢
  obtain ⟨m, m1, m2, _⟩ := wait_lt h0 (fp_gap h0 htk (by omega) r2 r3) hj (by simp [lvl])
  omega
theorem keep_one {l : List Tsk} (h0 : rchk l = 0) {pol : Int} {i0 : Nat} {D : Int} (hD : 1 ≤ D) (hw : ∀ (n : Nat) (j : Job), j ∈ (upTo l pol n).ready → j.tk = i0 → (n : Int) < j.rel + D) (n : Nat) :
    ∀ k, k < (upTo l pol n).jobs.length → (dnAt (upTo l pol n).jobs k).tk = i0 → (dnAt (upTo l pol n).jobs k).resp ≤ D := by
  induction n with
  | zero => intro k hk; exact absurd hk (Nat.not_lt_zero _)
  | succ n ih =>
    have hT := mid_TI h0 pol n
    have hmid : ∀ k, k < (mid l pol n).jobs.length → (dnAt (mid l pol n).jobs k).tk = i0 → (dnAt (mid l pol n).jobs k).resp ≤ D := by
      refine rel_ind0 (Q := fun _ s => ∀ k, k < s.jobs.length → (dnAt s.jobs k).tk = i0 → (dnAt s.jobs k).resp ≤ D) (fun i s hi _ h k hk => ?_) (fun i s _ _ h => h) ih
      dsimp only at hk ⊢
      rcases Nat.lt_or_ge k s.jobs.length with hk2 | hk2
      · rw [dnAt_snoc_old hk2]; exact h k hk2
      · obtain rfl : k = s.jobs.length := by simp at hk; omega
        rw [dnAt_snoc_new]
        dsimp only
        omega
    rw [upTo_mid]
    unfold exeM
    split
    · exact hmid
    · next hn =>
      have hb := bestM_lt2 l pol (r := (mid l pol n).ready) (by omega)
      have hJ := hT.rd _ (jbAt_mem hb)
      have hlt : (jbAt (mid l pol n).ready (bestM l pol (mid l pol n).ready)).tk = i0 → (n : Int) < (jbAt (mid l pol n).ready (bestM l pol (mid l pol n).ready)).rel + D := by
        intro htk
        rcases rel_mem (jbAt_mem hb) with h | h
        · exact hw n _ h htk
        · have h1 : (jbAt (mid l pol n).ready (bestM l pol (mid l pol n).ready)).rel = n := h.1
          omega
      generalize bestM l pol (mid l pol n).ready = x at *
      unfold runOne
      dsimp only
      split
      · intro k hk
        rw [List.length_set] at hk
        rw [dnAt_set2 hJ.ps]
        split
        · rw [hJ.eq]; dsimp only; intro htk; have := hlt htk; omega
        · exact hmid k hk
      · exact hmid
theorem fp_one {l : List Tsk} (h0 : rchk l = 0) {i : Nat} (hi : i < l.length) (hr : 0 ≤ respM l (blocks l) i) (n : Nat) {k : Nat} (hk : k < (upTo l 1 n).jobs.length) (hki : (dnAt (upTo l 1 n).jobs k).tk = i) : (dnAt (upTo l 1 n).jobs k).resp ≤ respM l (blocks l) i :=
  keep_one h0 (resp_law h0 hi hr).1 (fun n j hj e => fp_wait1 h0 hr n j hj e) n k hk hki
end Go.Proofs.Ytbilfpoghohddaa
