/- poly (plain): the ends of an interval, as rational numbers; a least sum is a lower bound. -/
import Derived.Test.YtalphoebmefgoaaZVpnt
import Derived.Test.YtalphoebmefgoaaZVlea
namespace Go.Proofs.Ytalphoebmefgoaa
def loE (t : Rat) (e : En) : Prop := e.is = true → okLo t (e.at_.q, e.op)
def hiE (t : Rat) (e : En) : Prop := e.is = true → okUp t (e.at_.q, e.op)
def EnV (e : En) : Prop := e.is = true → rval e.at_ = true
theorem cmp_q {a b : Rt} (ha : rval a = true) (hb : rval b = true) : ((rcmp a b).1 = -1 ∧ a.q < b.q) ∨ ((rcmp a b).1 = 1 ∧ b.q < a.q) ∨ ((rcmp a b).1 = 0 ∧ a.q = b.q) := by
  rw [rcmp_q ha hb]
  by_cases c1 : a.q < b.q
  · exact .inl ⟨by simp [c1], c1⟩
  · by_cases c2 : b.q < a.q
    · exact .inr (.inl ⟨by simp [c1, c2], c2⟩)
    · exact .inr (.inr ⟨by simp [c1, c2], by grind⟩)
theorem near_env {e : En} {r : Rt} (he : EnV e) (hr : rval r = true) (o : Bool) (s : Int) : EnV (nearM e r o s) := by
  unfold nearM
  split
  · exact fun _ => hr
  · split
    · exact he
    · exact he
theorem near_hi {e : En} {r : Rt} (he : EnV e) (hr : rval r = true) (o : Bool) (t : Rat) : hiE t (nearM e r o 1) ↔ okUp t (r.q, o) ∧ hiE t e := by
  obtain ⟨en, ed, ei, eo⟩ := e
  obtain ⟨rn, rd⟩ := r
  unfold nearM nearK hiE
  cases ei
  · simp [En.at_]
  · have hv : rval (En.at_ ⟨en, ed, true, eo⟩) = true := he rfl
    simp only [if_true, Int.mul_one]
    rcases cmp_q hr hv with ⟨e1, h⟩ | ⟨e1, h⟩ | ⟨e1, h⟩
    · rw [e1]
      simp only [En.at_] at *
      simp [okUp]
      cases o <;> cases eo <;> simp <;> grind
    · rw [e1]
      simp only [En.at_] at *
      simp [okUp]
      cases o <;> cases eo <;> simp <;> grind
    · rw [e1]
      simp only [En.at_] at *
      simp [okUp]
      cases o <;> cases eo <;> simp <;> grind
theorem near_lo {e : En} {r : Rt} (he : EnV e) (hr : rval r = true) (o : Bool) (t : Rat) : loE t (nearM e r o (-1)) ↔ okLo t (r.q, o) ∧ loE t e := by
  obtain ⟨en, ed, ei, eo⟩ := e
  obtain ⟨rn, rd⟩ := r
  unfold nearM nearK loE
  cases ei
  · simp [En.at_]
  · have hv : rval (En.at_ ⟨en, ed, true, eo⟩) = true := he rfl
    simp only [if_true]
    rcases cmp_q hr hv with ⟨e1, h⟩ | ⟨e1, h⟩ | ⟨e1, h⟩
    · rw [e1]
      simp only [En.at_] at *
      simp [okLo]
      cases o <;> cases eo <;> simp <;> grind
    · rw [e1]
      simp only [En.at_] at *
      simp [okLo]
      cases o <;> cases eo <;> simp <;> grind
    · rw [e1]
      simp only [En.at_] at *
      simp [okLo]
      cases o <;> cases eo <;> simp <;> grind
theorem zip_short (x : Ln) {p : List Rt} (hp : p.length ≤ 5) : (shortL x p.length).a.zip p = x.a.zip p := by
  match p, hp with
  | [], _ => simp
  | [_], _ => rfl
  | [_, _], _ => rfl
  | [_, _, _], _ => rfl
  | [_, _, _, _], _ => rfl
  | [_, _, _, _, _], _ => rfl
/-- the bound that a line gives -/
theorem val_q2 {x : Ln} {p : List Rt} {r : Rt} (hx : x.inr) (hp5 : p.length ≤ 5) (hp : ∀ r, r ∈ p → rval r = true) (hc : ci x p.length ≠ 0) (h : valE x p = some r) : rval r = true ∧ r.q = (bndL (ptX p) p.length x).1 := by
  unfold valE at h
  split at h
  · cases h
  · rename_i h1
    split at h
    · cases h
    · rename_i h2
      split at h
      · cases h
      · rename_i h3
        injection h with h
        subst h
        obtain ⟨t1, t2⟩ := totL_q (a := x.a) (p := p) (fun c hc => hx c (List.mem_append_left _ hc)) hp (by simpa using h1)
        obtain ⟨b1, b2⟩ := one_val hx.b
        obtain ⟨s1, s2⟩ := rsub_ok b1 t1 (by simpa using h2)
        obtain ⟨c1, c2⟩ := one_val (hx.ci p.length)
        obtain ⟨q1, q2⟩ := rquo_ok s1 c1 hc (by simpa using h3)
        refine ⟨q1, ?_⟩
        rw [q2, s2, b2, t2, c2]
        unfold bndL
        rw [vl_pt _ (by omega), zip_short x hp5]
theorem endsF_q {p : List Rt} (hp5 : p.length ≤ 5) (hp : ∀ r, r ∈ p → rval r = true) : ∀ (l : List Ln) (lo hi : En), (∀ x, x ∈ l → x.inr) → EnV lo → EnV hi → (endsF p l lo hi).2.2 = 0 →
    EnV (endsF p l lo hi).1 ∧ EnV (endsF p l lo hi).2.1 ∧ ∀ t, (loE t (endsF p l lo hi).1 ∧ hiE t (endsF p l lo hi).2.1 ↔ (loE t lo ∧ hiE t hi) ∧ ∀ x, x ∈ l → ci x p.length ≠ 0 → met (insX (ptX p) p.length t) x)
  | [], lo, hi, _, h1, h2, _ => ⟨h1, h2, fun t => by simp [endsF]⟩
  | x :: l, lo, hi, hl, h1, h2, h => by
    have hx := hl x (List.mem_cons_self ..)
    have hl2 : ∀ y, y ∈ l → y.inr := fun y hy => hl y (List.mem_cons_of_mem _ hy)
    unfold endsF at h ⊢
    by_cases hc : ci x p.length = 0
    · rw [if_pos hc] at h ⊢
      obtain ⟨r1, r2, r3⟩ := endsF_q hp5 hp l lo hi hl2 h1 h2 h
      refine ⟨r1, r2, fun t => ?_⟩
      rw [r3 t]
      constructor
      · rintro ⟨q1, q2⟩
        refine ⟨q1, fun y hy hcy => ?_⟩
        rcases List.mem_cons.1 hy with rfl | hy
        · exact absurd hc hcy
        · exact q2 y hy hcy
      · rintro ⟨q1, q2⟩
        exact ⟨q1, fun y hy => q2 y (List.mem_cons_of_mem _ hy)⟩
    · rw [if_neg hc] at h ⊢
      cases hv : valE x p with
      | none => rw [hv] at h; cases h
      | some r =>
        rw [hv] at h
        obtain ⟨v1, v2⟩ := val_q2 hx hp5 hp hc hv
        dsimp only at h ⊢
        by_cases hpos : 0 < ci x p.length
        · rw [if_pos hpos] at h ⊢
          obtain ⟨r1, r2, r3⟩ := endsF_q hp5 hp l lo _ hl2 h1 (near_env h2 v1 x.s 1) h
          refine ⟨r1, r2, fun t => ?_⟩
          have hm := met_up (ptX p) hp5 hpos t
          have hb : okUp t (bndL (ptX p) p.length x) ↔ okUp t (r.q, x.s) := by rw [v2]; exact Iff.rfl
          rw [r3 t, near_hi h2 v1, ← hb, ← hm]
          constructor
          · rintro ⟨⟨q1, q2, q3⟩, q4⟩
            refine ⟨⟨q1, q3⟩, fun y hy hcy => ?_⟩
            rcases List.mem_cons.1 hy with rfl | hy
            · exact q2
            · exact q4 y hy hcy
          · rintro ⟨⟨q1, q3⟩, q4⟩
            exact ⟨⟨q1, q4 x (List.mem_cons_self ..) hc, q3⟩, fun y hy => q4 y (List.mem_cons_of_mem _ hy)⟩
        · rw [if_neg hpos] at h ⊢
          obtain ⟨r1, r2, r3⟩ := endsF_q hp5 hp l _ hi hl2 (near_env h1 v1 x.s (-1)) h2 h
          refine ⟨r1, r2, fun t => ?_⟩
          have hm := met_lo (ptX p) hp5 (show ci x p.length < 0 by omega) t
          have hb : okLo t (bndL (ptX p) p.length x) ↔ okLo t (r.q, x.s) := by rw [v2]; exact Iff.rfl
          rw [r3 t, near_lo h1 v1, ← hb, ← hm]
          constructor
          · rintro ⟨⟨⟨q2, q1⟩, q3⟩, q4⟩
            refine ⟨⟨q1, q3⟩, fun y hy hcy => ?_⟩
            rcases List.mem_cons.1 hy with rfl | hy
            · exact q2
            · exact q4 y hy hcy
          · rintro ⟨⟨q1, q3⟩, q4⟩
            exact ⟨⟨⟨q4 x (List.mem_cons_self ..) hc, q1⟩, q3⟩, fun y hy => q4 y (List.mem_cons_of_mem _ hy)⟩
theorem ends_q {p : List Rt} (hp5 : p.length ≤ 5) (hp : ∀ r, r ∈ p → rval r = true) {l : List Ln} (hl : ∀ x, x ∈ l → x.inr) (h : (endsM p l).2.2 = 0) :
    EnV (endsM p l).1 ∧ EnV (endsM p l).2.1 ∧ ∀ t, (loE t (endsM p l).1 ∧ hiE t (endsM p l).2.1 ↔ ∀ x, x ∈ l → ci x p.length ≠ 0 → met (insX (ptX p) p.length t) x) := by
  obtain ⟨h1, h2, h3⟩ := endsF_q hp5 hp l zeroE zeroE hl (fun h => by cases h) (fun h => by cases h) h
  refine ⟨h1, h2, fun t => ?_⟩
  have := h3 t
  unfold endsM
  rw [this]
  exact ⟨fun q => q.2, fun q => ⟨⟨(fun h => by cases h), (fun h => by cases h)⟩, q⟩⟩
/-- what is left, with a coordinate above -/
theorem down_up_sound (k : Nat) : ∀ (m : Nat) (X : Nat → Rat) {l : List Ln}, k + m ≤ 6 → (downL k m l).2 = 0 → metAll X l → metAll (fun j => if j < k then X j else X (j + m)) (downL k m l).1
  | 0, X, l, _, _, h => by
    have : (fun j => if j < k then X j else X (j + 0)) = X := by funext j; split <;> rfl
    rw [this]; exact h
  | m + 1, X, l, hm, he, h => by
    unfold downL at he ⊢
    split at he
    · rename_i h0
      rw [if_pos h0]
      have h2 := down_up_sound k m (delX X (k + m)) (by omega) he (leave_sound X (by omega) h0 h)
      have e : (fun j => if j < k then delX X (k + m) j else delX X (k + m) (j + m)) = fun j => if j < k then X j else X (j + (m + 1)) := by
        funext j
        unfold delX
        by_cases hj : j < k
        · rw [if_pos hj, if_pos hj, if_pos (by omega)]
        · rw [if_neg hj, if_neg hj, if_neg (by omega)]; rfl
      rw [e] at h2; exact h2
    · rename_i h0; exact absurd he h0
end Go.Proofs.Ytalphoebmefgoaa
