/- poly, the reference: Least, in plain words. -/
import Derived.Test.YtalphoebmefgoaaZVrop
import Derived.Test.YtalphoebmefgoaaZVlea
import Derived.Test.YtalphoebmefgoaaZVgeo
import Derived.Test.YtalphoebmefgoaaZVpcs
namespace Go.Proofs.Ytalphoebmefgoaa
def extA (x : AL) : AL := ⟨x.a ++ [0], x.b, x.s⟩
def goalA (a : List Int) : AL := ⟨a ++ [-1], 0, false⟩
def backA (a : List Int) : AL := ⟨(oppA (goalA a)).a, 0, false⟩
theorem extA_pad {x : AL} (h : x.a.length ≤ 5) : padL (extA x) = padL x := by
  obtain ⟨a, b, s⟩ := x
  dsimp only at h
  match a, h with
  | [], _ => rfl
  | [_], _ => rfl
  | [_, _], _ => rfl
  | [_, _, _], _ => rfl
  | [_, _, _, _], _ => rfl
  | [_, _, _, _, _], _ => rfl
theorem backA_pad {a : List Int} (h : a.length ≤ 5) : padL (backA a) = backL a := by
  match a, h with
  | [], _ => rfl
  | [_], _ => rfl
  | [_, _], _ => rfl
  | [_, _, _], _ => rfl
  | [_, _, _, _], _ => rfl
  | [_, _, _, _, _], _ => rfl
theorem ext_all {l : List AL} {a : List Int} (hl : ∀ x, x ∈ l → x.a.length ≤ 5) (ha : a.length ≤ 5) : padAll (l.map extA ++ [goalA a, backA a]) = padAll l ++ [goalL a, backL a] := by
  unfold padAll
  rw [List.map_append, List.map_map]
  congr 1
  · exact List.map_congr_left (fun x hx => extA_pad (hl x hx))
  · show [padL (goalA a), padL (backA a)] = _
    rw [backA_pad ha]; rfl
theorem goal_fits {n : Int} {a : List Int} : (goalA a).fits (n + 1) = (⟨a, 0, false⟩ : AL).fits n := by
  unfold AL.fits goalA
  simp only [List.all_append, List.all_cons, List.all_nil, List.length_append, List.length_cons, List.length_nil]
  have e : decide (((a.length + (0 + 1) : Nat) : Int) = n + 1) = decide ((a.length : Int) = n) := by
    rw [decide_eq_decide]; push_cast; omega
  rw [e]
  simp
theorem extA_inr {x : AL} (h : x.inr) : (extA x).inr := fun c hc => by
  unfold extA at hc
  simp only [List.mem_append, List.mem_cons, List.not_mem_nil, or_false] at hc
  rcases hc with (q | rfl) | rfl
  · exact h c (List.mem_append_left _ q)
  · decide
  · exact h x.b (by simp)
theorem goalA_inr {n : Int} {a : List Int} (h : (⟨a, 0, false⟩ : AL).fits n = true) : (goalA a).inr := fits_inrA (n := n + 1) (by rw [goal_fits]; exact h)
theorem backA_inr {n : Int} {a : List Int} (h : (⟨a, 0, false⟩ : AL).fits n = true) : (backA a).inr := fun c hc => by
  have := oppA_inr (goalA_inr h)
  unfold backA at hc
  rcases List.mem_append.1 hc with q | q
  · exact this c (List.mem_append_left _ q)
  · obtain rfl : c = 0 := by simpa using q
    decide
/-- the coordinates m - 1 down to 0 are left out of lines with one coordinate more -/
def downB : Nat → List AL → List AL × Int
  | 0, l => (l, 0)
  | m + 1, l => if (leaveA l (m + 2) m).2 = 0 then downB m (leaveA l (m + 2) m).1 else ([], (leaveA l (m + 2) m).2)
theorem downB_pad : ∀ (m : Nat) {l : List AL}, m ≤ 5 → (∀ x, x ∈ l → x.a.length = m + 1) →
    padAll (downB m l).1 = (downL 0 m (padAll l)).1 ∧ (downB m l).2 = (downL 0 m (padAll l)).2 ∧ ∀ x, x ∈ (downB m l).1 → x.a.length = 1
  | 0, l, _, hl => ⟨rfl, rfl, hl⟩
  | m + 1, l, hk, hl => by
    obtain ⟨h1, h2, h3⟩ := leave_pad (n := m + 2) (i := m) (by omega) (by omega) hl
    unfold downB downL
    rw [Nat.zero_add, h2]
    split
    · rw [← h1]
      exact downB_pad m (by omega) (fun x hx => by have := h3 x hx; omega)
    · rename_i h0
      refine ⟨?_, rfl, by simp⟩
      rw [leave_nil _ _ h0]; rfl
theorem tidy_zero {l : List Ln} {z : Ln} (h : z ∈ tidyL l) (hz : z.a = [0, 0, 0, 0, 0, 0]) : tidyL l = [falseLn] := by
  cases hc : colL [] l with
  | none => unfold tidyL; rw [hc]
  | some c =>
    exfalso
    have h2 : z ∈ c := by
      unfold tidyL at h
      rw [hc] at h
      exact (tdy_all c).sub z h
    rcases col_mem l [] c hc z h2 with q | q
    · cases q
    · exact q.1 hz
theorem down_tidy : ∀ (m : Nat) (X : List Ln), (downL 0 m (tidyL X)).2 = 0 → ∃ Y, (downL 0 m (tidyL X)).1 = tidyL Y
  | 0, X, _ => ⟨X, rfl⟩
  | m + 1, X, h => by
    unfold downL at h ⊢
    split at h
    · rename_i h0
      rw [if_pos h0]
      rw [leave_mem h0] at h ⊢
      exact down_tidy m _ h
    · rename_i h0; exact absurd h h0
theorem least_zero {m : Nat} {X : List Ln} {D : List AL} (he : (downL 0 m (tidyL X)).2 = 0) (hD : padAll D = (downL 0 m (tidyL X)).1) (hl : ∀ x, x ∈ D → x.a.length = 1) {x y : AL} (hx : x ∈ D) (h0 : cA x 0 = 0) (hy : y ∈ D) : cA y 0 = 0 := by
  obtain ⟨Y, hY⟩ := down_tidy m X he
  have hxl := hl x hx
  have hxa : x.a = [0] := by
    match hq : x.a, hxl with
    | [c], _ =>
      unfold cA at h0
      rw [hq] at h0
      simp at h0
      rw [h0]
  have hpx : (padL x).a = [0, 0, 0, 0, 0, 0] := by
    rw [pad_a (by omega), hxa]; rfl
  have hm : padL x ∈ tidyL Y := by rw [← hY, ← hD]; exact List.mem_map_of_mem hx
  have ht := tidy_zero hm hpx
  have hm2 : padL y ∈ tidyL Y := by rw [← hY, ← hD]; exact List.mem_map_of_mem hy
  rw [ht] at hm2
  have hyf : padL y = falseLn := by simpa using hm2
  have := ci_pad (x := y) (by have := hl y hy; omega) 0
  rw [← this, hyf]; rfl
theorem least_any_false {m : Nat} {X : List Ln} {D : List AL} (he : (downL 0 m (tidyL X)).2 = 0) (hD : padAll D = (downL 0 m (tidyL X)).1) (hl : ∀ x, x ∈ D → x.a.length = 1) {x : AL} (hx : x ∈ D) (h0 : cA x 0 ≠ 0) : (downL 0 m (tidyL X)).1.any (fun x => decide (ci x 0 = 0)) = false := by
  rw [← hD]
  apply Bool.eq_false_iff.2
  intro q
  obtain ⟨z, hz, hz0⟩ := List.any_eq_true.1 q
  obtain ⟨y, hy, rfl⟩ := List.mem_map.1 hz
  rw [decide_eq_true_eq, ci_pad (by have := hl y hy; omega)] at hz0
  exact h0 (least_zero he hD hl hy hz0 hx)
theorem least_any_nil {D : List Ln} (h : D = []) : D.any (fun x => decide (ci x 0 = 0)) = false := by subst h; rfl
theorem leastM_ok2 {n : Int} {l : List AL} {a : List Int} (h1 : checkM n l = 0) (h2 : (⟨a, 0, false⟩ : AL).fits n = true) : leastM n l a = leastR (downL 0 n.toNat (tidyL (padAll l ++ [goalL a, backL a]))) := by
  unfold leastM
  rw [if_neg (by simp [h1]), if_neg (by simp [h2])]
/-- does nothing lie between the ends, or is there no lower one? -/
def noneE (lo hi : En) : Bool := !lo.is || voidB lo hi
theorem leastE_none {lo hi : En} (h : noneE lo hi = true) : leastE (lo, hi, 0) = (⟨0, 0⟩, false, 4) := by
  unfold leastE noneE at *
  dsimp only
  rw [if_neg (by simp)]
  cases hl : lo.is
  · rw [if_pos rfl]
  · rw [hl] at h
    simp at h
    rw [if_neg (by simp), if_pos h]
theorem leastE_some {lo hi : En} (h : noneE lo hi = false) : leastE (lo, hi, 0) = (lo.at_, !lo.op, 0) := by
  unfold leastE noneE at *
  dsimp only
  rw [if_neg (by simp)]
  simp at h
  rw [if_neg (by simp [h.1]), if_neg (by simp [h.2])]
end Go.Proofs.Ytalphoebmefgoaa
