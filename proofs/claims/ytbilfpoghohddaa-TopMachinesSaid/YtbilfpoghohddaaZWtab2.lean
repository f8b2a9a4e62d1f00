/- tables: what Make hands back, in the words of the law (plain). -/
import Derived.Test.YtbilfpoghohddaaZWtab
import Derived.Test.YtbilfpoghohddaaZWrmake
namespace Go.Proofs.Ytbilfpoghohddaa
open Go.RowKit
theorem hypT_err : ∀ (ts : List Tsk) (h : Int), (hypT ts h).2 = 0 ∨ (hypT ts h).2 = 7
  | [], h => .inl rfl
  | t :: ts, h => by
    unfold hypT
    split
    · exact .inr rfl
    · exact hypT_err ts _
theorem hyp_err {l : List Tsk} (h0 : rchk l = 0) (h : (hyp l).2 ≠ 0) : (hyp l).2 = 7 := by
  unfold hyp at h ⊢
  rw [if_pos h0] at h ⊢
  exact (hypT_err l 1).resolve_left h
/-- a table that is made -/
theorem make_ok {l : List Tsk} {pol : Int} (h : (makeT l pol).2 = 0) :
    ∃ H : Nat, (hyp l).2 = 0 ∧ (hyp l).1 = H ∧ 1 ≤ H ∧ H ≤ 20000 ∧ offsB l = false ∧ Kept l pol H ∧ (pol = 1 ∨ secsB l = false) ∧ (makeT l pol).1 = tabN l pol H H ∧ (scheduleM l pol H) = ((upTo l pol H).stints, (upTo l pol H).jobs.map (missM l H), 0) := by
  by_cases he : (hyp l).2 = 0
  case neg => rw [makeT_err he] at h; exact absurd h he
  cases ho : offsB l with
  | true => rw [makeT_off he ho] at h; exact absurd h (by decide)
  | false =>
    have h0 := rchk_pos_e he
    obtain ⟨hd, h1, h2⟩ := hyp_dvd h0 he
    obtain ⟨H, hH⟩ : ∃ H : Nat, (hyp l).1 = H := ⟨(hyp l).1.toNat, by omega⟩
    rw [makeT_on he ho, hH] at h ⊢
    rw [hH] at hd h1 h2
    cases hp : polB l pol with
    | false =>
      rw [sched_bad h0 hp] at h
      simp at h
    | true =>
      have hpp : ¬ (pol ≠ 1 ∧ (pol ≠ 2 ∨ secsB l = true)) := by
        intro q
        unfold polB at hp
        simp at hp
        rcases hp with hp | hp
        · exact q.1 hp
        · rcases q.2 with q | q
          · exact q hp.1
          · rw [q] at hp; cases hp.2
      have hs := sched_ok h0 hpp (n := H) (by omega)
      rw [hs] at h ⊢
      dsimp only at h ⊢
      rw [if_pos rfl] at h ⊢
      cases hm : ((upTo l pol H).jobs.map (missM l H)).any missD with
      | true => rw [hm] at h; simp at h
      | false =>
        refine ⟨H, he, rfl, by omega, by omega, rfl, ⟨h0, fun i hi => offs_at ho hi, fun i hi => hd i hi, fun k hk => ?_⟩, ?_, ?_, hs⟩
        · have := List.any_eq_false.mp hm (missM l H (dnAt (upTo l pol H).jobs k)) (List.mem_map.mpr ⟨_, by simp [dnAt, List.getD, hk], rfl⟩)
          simpa [missD] using this
        · unfold polB at hp
          simp at hp
          rcases hp with hp | hp
          · exact .inl hp
          · exact .inr hp.2
        · simp [tabN]
theorem make_chk {l : List Tsk} {pol : Int} (h : (makeT l pol).2 = 0) : chkT l (makeT l pol).1 = 0 := by
  obtain ⟨H, he, hH, _, _, ho, hk, hp, ht, _⟩ := make_ok h
  rw [ht, chkT_on he ho, if_neg (by rw [tabN_len, hH]; simp), hk.entries, hk.table hp]
  rfl
/-- a tick is missing, or one too many -/
theorem make_spoilt {l : List Tsk} {pol : Int} (h : (makeT l pol).2 = 0) {k : Nat} (hkl : k < (makeT l pol).1.length) :
    chkT l ((makeT l pol).1.set k (if (makeT l pol).1.getD k 0 < 0 then 0 else -1)) = 370 := by
  obtain ⟨H, he, hH, h1, _, ho, hk, hp, ht, _⟩ := make_ok h
  rw [ht] at hkl ⊢
  rw [tabN_len] at hkl
  have h0 := hk.h0
  have hl0 : 0 < l.length := by
    rcases Nat.eq_zero_or_pos l.length with e | e
    · exfalso
      have : l = [] := List.length_eq_zero_iff.mp e
      subst this
      exact absurd h0 (by decide)
    · exact e
  have hgen : ∀ (i : Nat) (v : Int), i < l.length → -1 ≤ v → v < l.length → (((tabN l pol H H).getD k 0 = i ∧ v ≠ i) ∨ ((tabN l pol H H).getD k 0 ≠ i ∧ v = i)) → chkT l ((tabN l pol H H).set k v) = 370 := by
    intro i v hi hv1 hv2 hd
    have hbad : ((tabN l pol H H).set k v).any (badK l) = false := by
      rw [List.any_eq_false]
      intro x hx
      rcases List.mem_or_eq_of_mem_set hx with hx | rfl
      · exact List.any_eq_false.mp hk.entries x hx
      · simp [badK]; omega
    obtain ⟨_, p1, p2⟩ := hk.per hi
    have hdm := Nat.div_add_mod k (perN l i)
    have hml := Nat.mod_lt k p1
    have hcd : k / perN l i < H / perN l i := by
      rw [Nat.div_lt_iff_lt_mul p1, Nat.div_mul_cancel p2]; exact hkl
    have hc := chunk_le p1 p2 hcd
    rw [Nat.mul_comm] at hdm
    have hsv : servesL l ((tabN l pol H H).set k v) 0 l = false := by
      refine svL_false hi (c := k / perN l i) (by rw [List.length_set, tabN_len]; exact hcd) ?_ l 0 rfl (Nat.zero_le _)
      refine serve_len ?_
      have e : (tabN l pol H H).set k v = (tabN l pol H H).set (k / perN l i * perN l i + k % perN l i) v := by rw [hdm]
      rw [e, part_set hml, posL_set _ _ _ _ (by rw [Kept.plen hc]; exact hml), hk.whole hi hc, part_at2 hml, hdm]
      rcases hd with ⟨d1, d2⟩ | ⟨d1, d2⟩
      · rw [if_pos d1, if_neg d2]; omega
      · rw [if_neg d1, if_pos d2]; omega
    rw [chkT_on he ho, if_neg (by rw [List.length_set, tabN_len, hH]; simp), hbad, hsv]
    rfl
  have hent := badK_false hk.entries ((tabN l pol H H).getD k 0) (by simp [List.getD, tabN_len, hkl])
  by_cases hneg : (tabN l pol H H).getD k 0 < 0
  · rw [if_pos hneg]
    exact hgen 0 0 hl0 (by omega) (by omega) (.inr ⟨by omega, rfl⟩)
  · rw [if_neg hneg]
    exact hgen ((tabN l pol H H).getD k 0).toNat (-1) (by omega) (by omega) (by omega) (.inl ⟨by omega, by omega⟩)
theorem make_no {l : List Tsk} {pol : Int} (h0 : rchk l = 0) (he : (hyp l).2 = 0) (h : (makeT l pol).2 ≠ 0) : (makeT l pol).1 = [] ∧ ((makeT l pol).2 = 370 ∨ (makeT l pol).2 = 2) := by
  cases ho : offsB l with
  | true => rw [makeT_off he ho]; exact ⟨rfl, .inr rfl⟩
  | false =>
    obtain ⟨_, h1, h2⟩ := hyp_dvd h0 he
    obtain ⟨H, hH⟩ : ∃ H : Nat, (hyp l).1 = H := ⟨(hyp l).1.toNat, by omega⟩
    rw [makeT_on he ho, hH] at h ⊢
    cases hp : polB l pol with
    | false => rw [sched_bad h0 hp]; exact ⟨rfl, .inr rfl⟩
    | true =>
      rw [if_pos (sched_good h0 hp (by omega))] at h ⊢
      split
      · exact ⟨rfl, .inl rfl⟩
      · next hm => rw [if_neg hm] at h; exact absurd rfl h
theorem make_range {l : List Tsk} {pol : Int} (h0 : rchk l = 0) (he : (hyp l).2 ≠ 0) : (makeT l pol).2 = 7 := by
  rw [makeT_err he]; exact hyp_err h0 he
theorem make_none {l : List Tsk} {pol : Int} (h0 : rchk l = 0) (he : (hyp l).2 = 0) (ho : offsB l = false) (hp : polB l pol = true)
    (hm : ∀ n k : Nat, k < ((upTo l pol n).jobs.map (missM l n)).length → (dnAt ((upTo l pol n).jobs.map (missM l n)) k).miss = false) : (makeT l pol).2 = 0 := by
  obtain ⟨_, h1, h2⟩ := hyp_dvd h0 he
  obtain ⟨H, hH⟩ : ∃ H : Nat, (hyp l).1 = H := ⟨(hyp l).1.toNat, by omega⟩
  rw [makeT_on he ho, hH]
  have hpp : ¬ (pol ≠ 1 ∧ (pol ≠ 2 ∨ secsB l = true)) := by
    intro q
    unfold polB at hp
    simp at hp
    rcases hp with hp | hp
    · exact q.1 hp
    · rcases q.2 with q | q
      · exact q hp.1
      · rw [q] at hp; cases hp.2
  rw [sched_ok h0 hpp (n := H) (by omega)]
  dsimp only
  rw [if_pos rfl]
  have : ((upTo l pol H).jobs.map (missM l H)).any missD = false := by
    rw [List.any_eq_false]
    intro d hd
    obtain ⟨k, hk, e⟩ := List.mem_iff_getElem.mp hd
    have := hm H k hk
    rw [show dnAt ((upTo l pol H).jobs.map (missM l H)) k = d by simp only [dnAt, List.getD, List.getElem?_eq_getElem hk, Option.getD_some, e]] at this
    simp [missD, this]
  rw [this]
  rfl
theorem make_fixed {l : List Tsk} (h0 : rchk l = 0) (he : (hyp l).2 = 0) (ho : offsB l = false) (hf : (fixedM l).2.1 = true) : (makeT l 1).2 = 0 := by
  refine make_none h0 he ho (by simp [polB]) (fun n k hk => ?_)
  unfold fixedM at hf
  rw [if_pos h0] at hf
  exact (fp_law h0 hf n hk).ms
theorem make_demand {l : List Tsk} (h0 : rchk l = 0) (he : (hyp l).2 = 0) (ho : offsB l = false) (hf : (demandM l).1 = true) : (makeT l 2).2 = 0 := by
  unfold demandM at hf
  rw [if_pos h0] at hf
  split at hf
  · cases hf
  · next hs =>
    split at hf
    · cases hf
    · next hd =>
      split at hf
      · cases hf
      · next hb =>
        have hs2 : secsB l = false := by simpa using hs
        refine make_none h0 he ho (by unfold polB; rw [hs2]; rfl) (fun n k hk => ?_)
        exact edf_keeps h0 (by simpa using hd) hb n hk
end Go.Proofs.Ytbilfpoghohddaa
