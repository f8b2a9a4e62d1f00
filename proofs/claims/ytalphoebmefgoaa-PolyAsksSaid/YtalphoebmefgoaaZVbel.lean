/- poly: Least and a point of the region, in plain words. -/
import Derived.Test.YtalphoebmefgoaaZVpnt2
import Derived.Test.YtalphoebmefgoaaZVlea
import Derived.Test.YtalphoebmefgoaaG45
namespace Go.Proofs.Ytalphoebmefgoaa
theorem leastM_err {n : Int} {l : List AL} {a : List Int} (h : (leastM n l a).2.2 ≠ 0) : leastM n l a = (⟨0, 0⟩, false, (leastM n l a).2.2) := by
  unfold leastM leastR leastE at h ⊢
  split
  · rfl
  · split
    · rfl
    · split
      · rfl
      · split
        · rfl
        · split
          · rfl
          · split
            · rfl
            · split
              · rfl
              · rename_i h1 h2 h3 h4 h5 h6 h7
                rw [if_neg h1, if_neg h2, if_neg h3, if_neg h4, if_neg h5, if_neg h6, if_neg h7] at h
                exact absurd rfl h
theorem leastM_ok {n : Int} {l : List AL} {a : List Int} {low : Rt} {at_ : Bool} (h : leastM n l a = (low, at_, 0)) :
    checkM n l = 0 ∧ (⟨a, 0, false⟩ : AL).fits n = true ∧ (downL 0 n.toNat (tidyL (padAll l ++ [goalL a, backL a]))).2 = 0 ∧ (endsM [] (downL 0 n.toNat (tidyL (padAll l ++ [goalL a, backL a]))).1).2.2 = 0 ∧
    (endsM [] (downL 0 n.toNat (tidyL (padAll l ++ [goalL a, backL a]))).1).1.is = true ∧ low = (endsM [] (downL 0 n.toNat (tidyL (padAll l ++ [goalL a, backL a]))).1).1.at_ ∧ at_ = !(endsM [] (downL 0 n.toNat (tidyL (padAll l ++ [goalL a, backL a]))).1).1.op := by
  unfold leastM at h
  split at h
  · rename_i h0; simp only [Prod.mk.injEq] at h; exact absurd h.2.2 h0
  · rename_i h0
    split at h
    · simp at h
    · rename_i h1
      unfold leastR at h
      generalize downL 0 n.toNat (tidyL (padAll l ++ [goalL a, backL a])) = D at *
      split at h
      · rename_i h2; simp only [Prod.mk.injEq] at h; exact absurd h.2.2 h2
      · rename_i h2
        split at h
        · simp at h
        · unfold leastE at h
          split at h
          · rename_i h3; simp only [Prod.mk.injEq] at h; exact absurd h.2.2 h3
          · rename_i h3
            split at h
            · simp at h
            · rename_i h4
              split at h
              · simp at h
              · simp only [Prod.mk.injEq] at h
                refine ⟨by simpa using h0, by simpa using h1, by simpa using h2, by simpa using h3, by simpa using h4, h.1.symm, h.2.1.symm⟩
theorem goal_vl {a : List Int} (ha : a.length ≤ 5) (X : Nat → Rat) (t : Rat) : vl (insX X a.length t) (goalL a) = vl X (padL ⟨a, 0, false⟩) - t := by
  rw [vl_at X _ ha t]
  match a, ha with
  | [], _ => simp [goalL, padL, shortL, ci, Ln.a, vl]; try grind
  | [_], _ => simp [goalL, padL, shortL, ci, Ln.a, vl]; try grind
  | [_, _], _ => simp [goalL, padL, shortL, ci, Ln.a, vl]; try grind
  | [_, _, _], _ => simp [goalL, padL, shortL, ci, Ln.a, vl]; try grind
  | [_, _, _, _], _ => simp [goalL, padL, shortL, ci, Ln.a, vl]; try grind
  | [_, _, _, _, _], _ => simp [goalL, padL, shortL, ci, Ln.a, vl]; try grind
theorem vl_opp (X : Nat → Rat) (x : Ln) (s : Bool) : vl X { oppL x with s := s } = - vl X x := by
  simp [vl, oppL]; grind
theorem zip_padB (a : List Int) (p : List Rt) (h : p.length = a.length) (h5 : a.length ≤ 5) : (padL ⟨a, 0, false⟩).a.zip p = a.zip p := by
  match a, h5 with
  | [], _ => rw [List.length_eq_zero_iff.1 h]; rfl
  | [_], _ => obtain ⟨p0, rfl⟩ := List.length_eq_one_iff.1 h; rfl
  | [_, _], _ => match p, h with | [_, _], _ => rfl
  | [_, _, _], _ => match p, h with | [_, _, _], _ => rfl
  | [_, _, _, _], _ => match p, h with | [_, _, _, _], _ => rfl
  | [_, _, _, _, _], _ => match p, h with | [_, _, _, _, _], _ => rfl
/-- no point of the region is below what Least names -/
theorem below_plain {n : Int} {l : List AL} {a : List Int} {p : List Rt} {low s : Rt} {at_ : Bool} (h : leastM n l a = (low, at_, 0)) (hh : hasM n l p = (true, 0)) (hs : totL a p = (s, 0)) :
    (rcmp s low).2 = 0 ∧ (0 < (rcmp s low).1 ∨ (rcmp s low).1 = 0 ∧ at_ = true) := by
  obtain ⟨hc, hf, hd, he, hi, rfl, rfl⟩ := leastM_ok h
  obtain ⟨_, hp1, hp2, hp3⟩ := has_q (l := l) (p := p) (n := n) (by rw [hh])
  rw [hh] at hp3
  have hm := hp3.1 rfl
  obtain ⟨⟨hn0, hn5⟩, _, _⟩ := check_fits hc
  have hal : a.length = n.toNat := by have := fits_len hf; simp only at this; omega
  have hpl : p.length = a.length := by omega
  have ha5 : a.length ≤ 5 := by omega
  have hai : ∀ c, c ∈ a → c.natAbs ≤ 2147483647 := fun c hc => by
    have := fits_inrA hf c (by simp [hc])
    exact this
  obtain ⟨hsv, hsq⟩ := totL_q hai hp2 (by rw [hs])
  rw [hs] at hsv hsq
  dsimp only at hsv hsq
  rw [← hal] at hd he hi ⊢
  -- the point with the sum above
  have hz := zb_pad (n := n.toNat) (l := l) (by omega) (check_lenA hc)
  have m1 : metAll (insX (ptX p) a.length s.q) (padAll l) := (metAll_agree hz (fun k hk => by unfold insX; rw [if_pos (by omega)])).1 hm
  have v1 : vl (insX (ptX p) a.length s.q) (goalL a) = 0 := by
    rw [goal_vl ha5, vl_pt _ (by omega), zip_padB a p hpl ha5, hsq]; grind
  have gb : (goalL a).b = 0 := rfl
  have m2 : met (insX (ptX p) a.length s.q) (goalL a) := .inr ⟨rfl, by rw [v1, gb]; rfl⟩
  have m3 : met (insX (ptX p) a.length s.q) (backL a) := .inr ⟨rfl, by
    unfold backL
    rw [vl_opp, v1]
    show -(0 : Rat) = ((-(goalL a).b : Int) : Rat)
    rw [gb]; rfl⟩
  have m4 : metAll (insX (ptX p) a.length s.q) (tidyL (padAll l ++ [goalL a, backL a])) := (met_tidy _ _).2 (fun x hx => by
    rcases List.mem_append.1 hx with q | q
    · exact m1 x q
    · rcases List.mem_cons.1 q with rfl | q
      · exact m2
      · rcases List.mem_cons.1 q with rfl | q
        · exact m3
        · cases q)
  have m5 := down_up_sound 0 a.length _ (by omega) hd m4
  have hgi : (goalL a).inr := goal_inr hf hn5
  have hin : ∀ x, x ∈ (downL 0 a.length (tidyL (padAll l ++ [goalL a, backL a]))).1 → x.inr := down_inr 0 _ (tidy_inr (fun x hx => by
    rcases List.mem_append.1 hx with q | q
    · exact pad_inr hc x q
    · rcases List.mem_cons.1 q with rfl | q
      · exact hgi
      · rcases List.mem_cons.1 q with rfl | q
        · exact back_inr (opp_inr hgi)
        · cases q))
  generalize (downL 0 a.length (tidyL (padAll l ++ [goalL a, backL a]))).1 = D at *
  obtain ⟨w1, _, w3⟩ := ends_q (p := []) (by decide) (by simp) hin he
  have hX : (fun j => if j < 0 then insX (ptX p) a.length s.q j else insX (ptX p) a.length s.q (j + a.length)) = insX (ptX []) 0 s.q := by
    funext j
    rw [if_neg (by omega)]
    unfold insX ptX
    rcases Nat.eq_zero_or_pos j with rfl | hj
    · simp
    · rw [if_neg (by omega), if_neg (by omega), if_neg (by omega), if_neg (by omega), if_neg (by omega)]
      simp
  rw [hX] at m5
  have hlo := ((w3 s.q).2 (fun x hx _ => m5 x hx)).1 hi
  have hlv := w1 hi
  unfold okLo at hlo
  dsimp only at hlo
  generalize (endsM [] D).1.at_ = R at *
  generalize (endsM [] D).1.op = o at *
  have he2 : (rcmp s R).2 = 0 := by rw [rcmp_q hsv hlv]
  refine ⟨he2, ?_⟩
  rcases cmp_q hsv hlv with ⟨q1, q2⟩ | ⟨q1, q2⟩ | ⟨q1, q2⟩
  · exfalso
    cases o
    · simp at hlo; grind
    · simp at hlo; grind
  · left; rw [q1]; decide
  · right
    refine ⟨q1, ?_⟩
    cases o
    · rfl
    · simp at hlo; grind
end Go.Proofs.Ytalphoebmefgoaa
