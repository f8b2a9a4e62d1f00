/- poly: what is left when coordinates are left out (plain); the numbers stay small. -/
import Derived.Test.YtalphoebmefgoaaZVlv
import Derived.Test.YtalphoebmefgoaaZVof
namespace Go.Proofs.Ytalphoebmefgoaa
theorem lowL_inr {x : Ln} (h : x.inr) : (lowL x).inr := by
  unfold lowL
  split
  · intro c hc
    simp only [dk, Ln.a, List.cons_append, List.nil_append, List.mem_cons, List.not_mem_nil, or_false] at hc
    have h0 := h x.a0 (by simp [Ln.a])
    have h1 := h x.a1 (by simp [Ln.a])
    have h2 := h x.a2 (by simp [Ln.a])
    have h3 := h x.a3 (by simp [Ln.a])
    have h4 := h x.a4 (by simp [Ln.a])
    have h5 := h x.a5 (by simp [Ln.a])
    have h6 := h x.b (by simp [Ln.a])
    rcases hc with rfl | rfl | rfl | rfl | rfl | rfl | rfl
    all_goals (try simp only [Nat.reduceLT, if_true]); exact tdiv_le (by assumption)
  · exact h
theorem falseLn_inr : falseLn.inr := by
  intro c hc
  simp [falseLn, Ln.a] at hc
  subst hc; decide
theorem colL_sub : ∀ (l out : List Ln) {c : List Ln}, colL out l = some c → (∀ z, z ∈ c → z ∈ out ∨ ∃ x, x ∈ l ∧ z = lowL x) ∧ c.length ≤ out.length + l.length
  | [], out, c, h => by
    simp only [colL, Option.some.injEq] at h
    subst h
    exact ⟨fun z hz => .inl hz, by simp⟩
  | x :: t, out, c, h => by
    unfold colL at h
    split at h
    · obtain ⟨h1, h2⟩ := colL_sub t _ h
      refine ⟨fun z hz => ?_, by simp at h2 ⊢; omega⟩
      rcases h1 z hz with k | ⟨y, hy, k⟩
      · rcases List.mem_append.1 k with k | k
        · exact .inl k
        · exact .inr ⟨x, by simp, by simpa using k⟩
      · exact .inr ⟨y, List.mem_cons_of_mem _ hy, k⟩
    · split at h
      · cases h
      · obtain ⟨h1, h2⟩ := colL_sub t _ h
        refine ⟨fun z hz => ?_, by simp at h2 ⊢; omega⟩
        rcases h1 z hz with k | ⟨y, hy, k⟩
        · exact .inl k
        · exact .inr ⟨y, List.mem_cons_of_mem _ hy, k⟩
theorem ins_len (x : Ln) : ∀ out : List Ln, (insL out x).length ≤ out.length + 1
  | [] => by simp [insL]
  | y :: t => by
    unfold insL
    split
    · have := ins_len x t; simp; omega
    · split <;> simp
theorem insAll_len : ∀ (c out : List Ln), (c.foldl insL out).length ≤ out.length + c.length
  | [], _ => by simp
  | x :: t, out => by
    have := insAll_len t (insL out x)
    have := ins_len x out
    simp only [List.foldl_cons, List.length_cons]; omega
theorem tidy_len (l : List Ln) : (tidyL l).length ≤ l.length := by
  unfold tidyL
  split
  · rename_i h
    cases l with
    | nil => simp [colL] at h
    | cons => simp
  · rename_i c h
    have h1 := (colL_sub l [] h).2
    have h2 := insAll_len c []
    simp at h1 h2; omega
theorem tidy_mem {l : List Ln} {z : Ln} (h : z ∈ tidyL l) : z = falseLn ∨ ∃ x, x ∈ l ∧ z = lowL x := by
  unfold tidyL at h
  split at h
  · exact .inl (by simpa using h)
  · rename_i c hc
    rcases (colL_sub l [] hc).1 z ((tdy_all c).sub z h) with k | k
    · simp at k
    · exact .inr k
theorem tidy_inr {l : List Ln} (h : ∀ x, x ∈ l → x.inr) : ∀ z, z ∈ tidyL l → z.inr := fun z hz => by
  rcases tidy_mem hz with rfl | ⟨x, hx, rfl⟩
  · exact falseLn_inr
  · exact lowL_inr (h x hx)
theorem leave_inr {l : List Ln} {i : Nat} (h : ∀ x, x ∈ l → x.inr) : ∀ z, z ∈ (leaveL l i).1 → z.inr := by
  unfold leaveL
  simp only
  split
  · simp
  · split
    · rename_i hok
      refine tidy_inr fun x hx => ?_
      rcases List.mem_append.1 hx with hx | hx
      · obtain ⟨y, hy, rfl⟩ := List.mem_map.1 hx
        exact short_inr (h y (List.mem_filter.1 hy).1) i
      · obtain ⟨p, hp, rfl⟩ := List.mem_map.1 hx
        exact okL_inr (List.all_eq_true.1 hok p hp)
    · simp
theorem leave_len (l : List Ln) (i : Nat) : (leaveL l i).1.length ≤ 1000 := by
  unfold leaveL
  simp only
  split
  · simp
  · rename_i hb
    split
    · refine Nat.le_trans (tidy_len _) ?_
      have e : ((PL l i).map (sumL i)).length = (posL l i).length * (negL l i).length := by rw [List.length_map, pl_len]
      rw [List.length_append, e]
      omega
    · exact Nat.zero_le _
theorem leave_errs (l : List Ln) (i : Nat) : (leaveL l i).2 = 0 ∨ (leaveL l i).2 = 3 ∨ (leaveL l i).2 = 7 := by
  unfold leaveL
  simp only
  split
  · exact .inr (.inl rfl)
  · split
    · exact .inl rfl
    · exact .inr (.inr rfl)
theorem leave_nil (l : List Ln) (i : Nat) (h : (leaveL l i).2 ≠ 0) : (leaveL l i).1 = [] := by
  unfold leaveL at *
  simp only at *
  split
  · rfl
  · split
    · rename_i h1 h2; rw [if_neg h1, if_pos h2] at h; exact absurd rfl h
    · rfl
/-- the coordinates k + m - 1 down to k are left out -/
def downL (k : Nat) : Nat → List Ln → List Ln × Int
  | 0, l => (l, 0)
  | m + 1, l => if (leaveL l (k + m)).2 = 0 then downL k m (leaveL l (k + m)).1 else leaveL l (k + m)
theorem down_inr (k : Nat) : ∀ (m : Nat) {l : List Ln}, (∀ x, x ∈ l → x.inr) → ∀ z, z ∈ (downL k m l).1 → z.inr
  | 0, _, h => h
  | m + 1, l, h => by
    unfold downL
    split
    · exact down_inr k m (leave_inr h)
    · exact leave_inr h
theorem down_len (k : Nat) : ∀ (m : Nat) {l : List Ln} {b : Nat}, 1000 ≤ b → l.length ≤ b → (downL k m l).1.length ≤ b
  | 0, _, _, _, h => h
  | m + 1, l, b, hb, h => by
    unfold downL
    split
    · exact down_len k m hb (Nat.le_trans (leave_len _ _) hb)
    · exact Nat.le_trans (leave_len _ _) hb
def emptyL (n : Nat) (l : List Ln) : Bool × Int := (decide ((downL 0 n (tidyL l)).2 = 0) && decide (0 < (downL 0 n (tidyL l)).1.length), (downL 0 n (tidyL l)).2)
def oppL (x : Ln) : Ln := ⟨-x.a0, -x.a1, -x.a2, -x.a3, -x.a4, -x.a5, -x.b, !x.s⟩
theorem opp_inr {x : Ln} (h : x.inr) : (oppL x).inr := by
  intro c hc
  have h0 := h x.a0 (by simp [Ln.a])
  have h1 := h x.a1 (by simp [Ln.a])
  have h2 := h x.a2 (by simp [Ln.a])
  have h3 := h x.a3 (by simp [Ln.a])
  have h4 := h x.a4 (by simp [Ln.a])
  have h5 := h x.a5 (by simp [Ln.a])
  have h6 := h x.b (by simp [Ln.a])
  simp only [oppL, Ln.a, List.cons_append, List.nil_append, List.mem_cons, List.not_mem_nil, or_false] at hc
  rcases hc with rfl | rfl | rfl | rfl | rfl | rfl | rfl <;> omega
/-- the numbers of a line that fits -/
theorem fits_inr {n : Int} {x : AL} (h : x.fits n = true) (_hn : n ≤ 6) : (padL x).inr := by
  unfold AL.fits at h
  simp only [Bool.and_eq_true, decide_eq_true_eq] at h
  obtain ⟨⟨⟨h1, h2⟩, h3⟩, h4⟩ := h
  have hc : ∀ i, (x.a.getD i 0).natAbs ≤ 2147483647 := fun i => by
    rw [List.getD_eq_getElem?_getD]
    cases e : x.a[i]? with
    | none => simp
    | some c =>
      have := List.all_eq_true.1 h1 c (List.mem_of_getElem? e)
      simp only [Bool.and_eq_true, decide_eq_true_eq] at this
      simp only [Option.getD_some]; omega
  intro c hc2
  simp only [padL, Ln.a, List.cons_append, List.nil_append, List.mem_cons, List.not_mem_nil, or_false] at hc2
  rcases hc2 with rfl | rfl | rfl | rfl | rfl | rfl | rfl
  · exact hc 0
  · exact hc 1
  · exact hc 2
  · exact hc 3
  · exact hc 4
  · exact hc 5
  · omega
theorem check_fits {n : Int} {l : List AL} (h : checkM n l = 0) : (0 ≤ n ∧ n ≤ 5) ∧ l.length ≤ 1000 ∧ ∀ x, x ∈ l → x.fits n = true := by
  unfold checkM at h
  split at h
  · cases h
  · split at h
    · cases h
    · split at h
      · rename_i h3; exact ⟨by omega, by omega, fun x hx => List.all_eq_true.1 h3 x hx⟩
      · cases h
theorem fits_len {n : Int} {x : AL} (h : x.fits n = true) : (x.a.length : Int) = n := by
  unfold AL.fits at h
  simp only [Bool.and_eq_true, decide_eq_true_eq] at h
  exact h.1.1.2
end Go.Proofs.Ytalphoebmefgoaa
