/- TopMachines: what the law asks (plain). -/
import Derived.Test.YtbilfpoghohddaaZMshift
import Derived.Test.YtbilfpoghohddaaZMsim
import Derived.Test.YtbilfpoghohddaaZSpfix
import Derived.Test.YtbilfpoghohddaaG6
import Derived.Test.YtbilfpoghohddaaZWmake
namespace Go.Proofs.Ytbilfpoghohddaa
open Go.RowKit
theorem made_ints {base : Nat} {w : World} {v : Value} {xs : List Int} (h : MadeAt base w v xs) : IntsAt w w.heap.size v xs := by
  rcases h with ⟨rfl, rfl⟩ | ⟨b, rfl, _, hr⟩
  · exact ⟨none, 0, rfl, Nat.le_refl _, fun h => absurd h (by simp)⟩
  · refine ⟨_, _, rfl, Nat.le_refl _, fun _ => ⟨b, 0, rfl, hr.lt, fun i hi => ?_⟩⟩
    rw [Nat.zero_add]
    refine hr.cell ?_
    unfold intsC
    rw [List.getElem?_map, List.getElem?_eq_getElem hi]
    simp [List.getD, hi]
theorem worst_miss (l : List Tsk) (H : Int) : ∀ (ds : List Don) (w : List Int), worstL w (ds.map (missM l H)) = worstL w ds
  | [], _ => rfl
  | y :: ds, w => by
    have := worst_miss l H ds (wrS w y)
    exact this
structure TopF (l : List Tsk) (H : Nat) : Prop where
  h1 : 1 ≤ H
  ln : (makeT l 1).1.length = H
  ck : chkT l (makeT l 1).1 = 0
  js : ∀ k, k < (scheduleM l 1 H).2.1.length → (dnAt (scheduleM l 1 H).2.1 k).tk < l.length ∧ 1 ≤ (dnAt (scheduleM l 1 H).2.1 k).resp ∧ (dnAt (scheduleM l 1 H).2.1 k).miss = false
  en : ∀ full less, FullW l (makeT l 1).1 (2 * H) full → LessW l (makeT l 1).1 (2 * H) less → ∀ i, i < l.length →
    full.getD i 0 = (worstL (List.replicate l.length 0) (scheduleM l 1 H).2.1).getD i 0 ∧ less.getD i 0 ≤ full.getD i 0 ∧ (0 ≤ (fixedM l).1.getD i 0 → full.getD i 0 ≤ (fixedM l).1.getD i 0)
theorem topF {l : List Tsk} {H : Nat} (hH : (hyp l).1 = H) (hm : (makeT l 1).2 = 0) : TopF l H := by
  have hck := make_chk hm
  obtain ⟨H', he, hH', h1, _, ho, hk, _, ht, hsc⟩ := make_ok hm
  obtain rfl : H' = H := by omega
  have S := srv_of hck
  rw [ht] at hck S
  have hJ : ∀ k, k < (upTo l 1 H').jobs.length → (dnAt (upTo l 1 H').jobs k).tk < l.length ∧ 1 ≤ (dnAt (upTo l 1 H').jobs k).resp := fun k hkl => by
    obtain ⟨a, _, _, _, _, b, _⟩ := hk.done hkl (hk.rels hkl)
    exact ⟨a, by omega⟩
  refine ⟨h1, by rw [ht, tabN_len], by rw [ht]; exact hck, ?_, ?_⟩
  · rw [hsc]
    intro k hkl
    dsimp only at hkl ⊢
    rw [List.length_map] at hkl
    have e : dnAt ((upTo l 1 H').jobs.map (missM l H')) k = missM l H' (dnAt (upTo l 1 H').jobs k) := by simp [dnAt, List.getD, hkl]
    rw [e]
    exact ⟨(hJ k hkl).1, (hJ k hkl).2, hk.nm k hkl⟩
  · rw [ht, hsc]
    dsimp only
    intro full less hf hl i hi
    have e2 : 2 * H' = 2 * (tabN l 1 H' H').length := by rw [tabN_len]
    have h3 := hk.full_sim S (by omega) hf hi
    rw [worst_miss]
    refine ⟨h3, less_full S (by rw [← e2]; exact hf) (by rw [← e2]; exact hl) hi, ?_⟩
    rw [fixedM_ok hk.h0]
    dsimp only
    have hat : (respR l l.length).getD i 0 = respM l (blocks l) i := by simp [respR, List.getD, hi]
    rw [hat]
    intro hr
    rw [h3]
    obtain ⟨_, b, _⟩ := worst_at (i := i) (upTo l 1 H').jobs (List.replicate l.length 0) (by simpa using hi) (fun y hy => by
      obtain ⟨k, hkl, rfl⟩ := dn_mem hy
      rw [List.length_replicate]
      exact (hJ k hkl).1)
    rw [rep0_at] at b
    rcases b with b | ⟨y, hy, hyi, b⟩
    · rw [b]; exact hr
    · obtain ⟨k, hkl, rfl⟩ := dn_mem hy
      rw [b]
      exact fp_one hk.h0 hi hr H' hkl hyi
theorem top_no {l : List Tsk} (h0 : rchk l = 0) (he : (hyp l).2 = 0) (ho : offsB l = false) (h : (makeT l 1).2 ≠ 0) : (makeT l 1).2 = 370 ∧ (fixedM l).2.1 = false := by
  obtain ⟨_, h1, h2⟩ := hyp_dvd h0 he
  obtain ⟨H, hH⟩ : ∃ H : Nat, (hyp l).1 = H := ⟨(hyp l).1.toNat, by omega⟩
  constructor
  · rw [makeT_on he ho, hH] at h ⊢
    rw [if_pos (sched_good h0 (by simp [polB]) (by omega))] at h ⊢
    split
    · rfl
    · next hm => rw [if_neg hm] at h; exact absurd rfl h
  · cases hf : (fixedM l).2.1 with
    | false => rfl
    | true => exact absurd (make_fixed h0 he ho hf) h
theorem top_sched {l : List Tsk} (h0 : rchk l = 0) (he : (hyp l).2 = 0) : ∃ H : Nat, (hyp l).1 = H ∧ (scheduleM l 1 H).2.2 = 0 := by
  obtain ⟨_, h1, h2⟩ := hyp_dvd h0 he
  obtain ⟨H, hH⟩ : ∃ H : Nat, (hyp l).1 = H := ⟨(hyp l).1.toNat, by omega⟩
  exact ⟨H, hH, sched_good h0 (by simp [polB]) (by omega)⟩
end Go.Proofs.Ytbilfpoghohddaa
