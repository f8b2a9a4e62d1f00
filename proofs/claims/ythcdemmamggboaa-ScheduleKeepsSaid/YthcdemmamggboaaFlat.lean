import Derived.Test.YthcdemmamggboaaRow
import Derived.Test.YthcdemmamggboaaTake
import Derived.Laws.OwnMore
/- any seat: rows of structs of k cells. -/
namespace Go.Proofs.Ythcdemmamggboaa
open Go.RowKit
section
variable {α : Type} {f : α → List Value} {k : Nat}
theorem flat_len (hf : ∀ a, (f a).length = k) : ∀ l : List α, (l.flatMap f).length = l.length * k
  | [] => by simp
  | a :: l => by simp only [List.flatMap_cons, List.length_append, List.length_cons]; rw [hf, flat_len hf l, Nat.add_mul]; omega
theorem flat_at (hf : ∀ a, (f a).length = k) : ∀ (l : List α) (i r : Nat) (h : i < l.length), r < k → (l.flatMap f)[i * k + r]? = (f l[i])[r]?
  | [], _, _, h, _ => absurd h (by simp)
  | a :: l, 0, r, _, hr => by
    rw [List.flatMap_cons, List.getElem?_append_left (by rw [hf]; omega)]; simp
  | a :: l, i + 1, r, h, hr => by
    rw [List.flatMap_cons, List.getElem?_append_right (by rw [hf, Nat.add_mul]; omega), hf, show (i + 1) * k + r - k = i * k + r by rw [Nat.add_mul]; omega, flat_at hf l i r (by simpa using h) hr]
    simp
theorem flat_take (hf : ∀ a, (f a).length = k) : ∀ (l : List α) (i : Nat), (l.flatMap f).take (i * k) = (l.take i).flatMap f
  | [], i => by simp
  | a :: l, 0 => by simp
  | a :: l, i + 1 => by
    rw [List.flatMap_cons, List.take_succ_cons, List.flatMap_cons, ← flat_take hf l i, List.take_append, hf, List.take_of_length_le (by rw [hf, Nat.add_mul]; omega)]
    congr 2
    rw [Nat.add_mul]; omega
theorem flat_drop (hf : ∀ a, (f a).length = k) : ∀ (l : List α) (i : Nat), (l.flatMap f).drop (i * k) = (l.drop i).flatMap f
  | [], i => by simp
  | a :: l, 0 => by simp
  | a :: l, i + 1 => by
    rw [List.flatMap_cons, List.drop_succ_cons, ← flat_drop hf l i, List.drop_append, hf, List.drop_eq_nil_of_le (by rw [hf, Nat.add_mul]; omega), List.nil_append]
    congr 1
    rw [Nat.add_mul]; omega
theorem flat_set (hf : ∀ a, (f a).length = k) (l : List α) (i r : Nat) (a : α) (u : Value) (h : i < l.length) (hr : r < k) (ha : f a = (f l[i]).set r u) : (l.flatMap f).set (i * k + r) u = (l.set i a).flatMap f := by
  apply List.ext_getElem?
  intro j
  by_cases hj : j < l.length * k
  · have hk : 0 < k := by omega
    obtain ⟨q, s, rfl, hs⟩ : ∃ q s, j = q * k + s ∧ s < k := ⟨j / k, j % k, by rw [Nat.mul_comm]; exact (Nat.div_add_mod j k).symm, Nat.mod_lt _ hk⟩
    have hq : q < l.length := by
      rcases Nat.lt_or_ge q l.length with h | h
      · exact h
      · have := Nat.mul_le_mul_right k h; omega
    rw [flat_at hf _ q s (by simpa using hq) hs, List.getElem?_set]
    by_cases hqi : i = q
    · subst hqi
      simp only [List.getElem_set_self]
      rw [ha, List.getElem?_set]
      by_cases hrs : r = s
      · subst hrs; rw [if_pos rfl, if_pos rfl, flat_len hf, hf, if_pos (by omega), if_pos hs]
      · rw [if_neg (by omega), if_neg hrs, flat_at hf l i s h hs]
    · rw [List.getElem_set_ne hqi]
      rw [if_neg, flat_at hf l q s hq hs]
      intro e
      apply hqi
      rcases Nat.lt_or_ge i q with h1 | h1
      · have := Nat.mul_le_mul_right k (show i + 1 ≤ q from h1); rw [Nat.add_mul] at this; omega
      · rcases Nat.lt_or_ge q i with h2 | h2
        · have := Nat.mul_le_mul_right k (show q + 1 ≤ i from h2); rw [Nat.add_mul] at this; omega
        · omega
  · rw [List.getElem?_eq_none (by rw [List.length_set, flat_len hf]; omega), List.getElem?_eq_none (by rw [flat_len hf, List.length_set]; omega)]
end
section
variable {w w' : World} {base size n b : Nat} {e1 e2 : TypeId} {v : Value} {xs ys : List Value}
theorem own_box_ne (h1 : RowAt w b e1 xs) (h2 : w.ownsRow base e2 size v n ys) (hne : e1 ≠ e2) : v.ownBlock = none ∨ v.ownBlock ≠ some b := by
  rcases h2.2 with ⟨rfl, _⟩ | ⟨g, cap, cur, rfl, _, hg, _⟩
  · exact .inl rfl
  · right
    intro e
    simp only [Value.ownBlock, Option.some.injEq] at e
    subst e
    unfold RowAt at h1
    rw [h1] at hg
    simp at hg
    exact hne hg.2
theorem box_row_ne (h1 : RowAt w b e1 xs) (h2 : w.ownsRow base e2 size v n ys) (hne : e1 ≠ e2) : some b ≠ v.ownBlock := by
  rcases own_box_ne h1 h2 hne with h | h
  · rw [h]; simp
  · exact fun e => h e.symm
theorem RowAt.gro {row : Option Nat} (h : RowAt w b e1 xs) (hg : w.grownBy w' row) (hne : some b ≠ row) : RowAt w' b e1 xs := (hg.block b h.lt hne).trans h
theorem own_form (h : w.ownsRow base e2 size v n ys) (h0 : 0 < n) : ∃ g cap, v = .slice (some ⟨g, 0, none⟩) n cap ∧ n ≤ cap ∧ base ≤ g ∧ g < w.heap.size := by
  rcases h.2 with ⟨_, hn⟩ | ⟨g, cap, cur, hv, h2, h3, h4, _⟩
  · omega
  · exact ⟨g, cap, hv, h4, h2, Blk.lt h3⟩
theorem own_slice (h : w.ownsRow base e2 size v n ys) : ∃ A c, v = .slice A n c ∧ n ≤ c := by
  rcases h.2 with ⟨hv, hn⟩ | ⟨g, cap, cur, hv, h2, h3, h4, _⟩
  · exact ⟨none, 0, by rw [hn]; exact hv, by omega⟩
  · exact ⟨_, cap, hv, h4⟩
/-- a slice of the row's first m elements -/
theorem own_cut (m : Nat) {g cap : Nat} (h : w.ownsRow base e2 size (.slice (some ⟨g, 0, none⟩) n cap) n ys) (hm : m ≤ n) : w.ownsRow base e2 size (.slice (some ⟨g, 0, none⟩) m cap) m (ys.take (m * size)) := by
  have hl := h.1
  have hmul : m * size ≤ n * size := Nat.mul_le_mul_right _ hm
  refine ⟨by rw [List.length_take, hl]; omega, ?_⟩
  rcases h.2 with ⟨hv, _⟩ | ⟨g', cap', cur, hv, h2, h3, h4, h5, h6, h7⟩
  · cases hv
  · injection hv with hv _ hc
    injection hv with hv
    injection hv with hv _ _
    subst hv hc
    exact .inr ⟨g, cap, cur, rfl, h2, h3, by omega, h5, h6, by rw [← h7, List.take_take]; congr 1; omega⟩
end
section
variable {α : Type} {f : α → List Value} {k : Nat} {w : World} {base g n cap : Nat} {e : TypeId} {l : List α}
theorem rows_take (hf : ∀ a, (f a).length = k) (h : w.ownsRow base e k (.slice (some ⟨g, 0, none⟩) n cap) n (l.flatMap f)) (m : Nat) : ∀ j u, ((l.take m).flatMap f)[j]? = some u → w.cell? ((⟨g, 0, none⟩ : Addr).add j) = some u := by
  intro j u hu
  rw [← flat_take hf l m, List.getElem?_take] at hu
  split at hu
  · exact h.cells (g := g) rfl j u hu
  · cases hu
theorem rows_drop (hf : ∀ a, (f a).length = k) (h : w.ownsRow base e k (.slice (some ⟨g, 0, none⟩) n cap) n (l.flatMap f)) (hn : n = l.length) (m : Nat) (ad : Addr) (had : m < n → ad = ⟨g, m * k, none⟩) :
    ∀ j u, ((l.drop m).flatMap f)[j]? = some u → w.cell? (ad.add j) = some u := by
  intro j u hu
  subst hn
  by_cases hm : m < l.length
  · rw [had hm]
    have hj : j < ((l.drop m).flatMap f).length := (List.getElem?_eq_some_iff.1 hu).1
    rw [flat_len hf, List.length_drop, Nat.sub_mul] at hj
    rw [← flat_drop hf l m, List.getElem?_drop] at hu
    have hmul := Nat.mul_le_mul_right k (Nat.le_of_lt hm)
    have := h.cellAt (m * k + j) (by omega)
    rw [hu] at this
    rw [show (⟨g, m * k, none⟩ : Addr).add j = ⟨g, m * k + j, none⟩ by unfold Addr.add; split <;> simp_all]
    exact this
  · rw [List.drop_eq_nil_of_le (by omega)] at hu
    simp at hu
end
/-- a slice value reads as these structs, all below block B -/
def RdAt {α : Type} (w : World) (B : Nat) (v : Value) (k : Nat) (f : α → List Value) (l : List α) : Prop :=
  ∃ A c, v = .slice A l.length c ∧ l.length ≤ c ∧ (0 < l.length → ∃ b off, A = some ⟨b, off, none⟩ ∧ b < B ∧ ∀ i (h : i < l.length) r, r < k → w.cell? ⟨b, off + i * k + r, none⟩ = (f l[i])[r]?)
section
variable {α : Type} {f : α → List Value} {k : Nat} {w w' : World} {B B' : Nat} {v : Value} {l : List α}
theorem RdAt.nil : RdAt w B (.slice none 0 0) k f ([] : List α) := ⟨none, 0, rfl, Nat.le_refl _, fun h => absurd h (by simp)⟩
theorem RdAt.form (h : RdAt w B v k f l) : ∃ A c, v = .slice A l.length c ∧ l.length ≤ c := let ⟨A, c, e, hc, _⟩ := h; ⟨A, c, e, hc⟩
theorem RdAt.at_ {A : Option Addr} {n c : Nat} (h : RdAt w B (.slice A n c) k f l) (h0 : 0 < l.length) : ∃ b off, A = some ⟨b, off, none⟩ ∧ b < B ∧ ∀ i (h : i < l.length) r, r < k → w.cell? ⟨b, off + i * k + r, none⟩ = (f l[i])[r]? := by
  obtain ⟨A', c', e, _, h⟩ := h
  injection e with e
  subst e
  exact h h0
theorem RdAt.keep (h : RdAt w B v k f l) (hk : Keeps B w w') (hB : B ≤ B') : RdAt w' B' v k f l := by
  obtain ⟨A, c, rfl, hc, h⟩ := h
  refine ⟨A, c, rfl, hc, fun h0 => ?_⟩
  obtain ⟨b, off, rfl, hb, h⟩ := h h0
  exact ⟨b, off, rfl, by omega, fun i hi r hr => (hk _ _ hb).trans (h i hi r hr)⟩
theorem RdAt.of_own {base : Nat} {e : TypeId} {n : Nat} (hf : ∀ a, (f a).length = k) (hn : n = l.length) (h : w.ownsRow base e k v n (l.flatMap f)) : RdAt w w.heap.size v k f l := by
  subst hn
  rcases h.2 with ⟨hv, h0⟩ | ⟨g, cap, cur, hv, h2, h3, h4, _⟩
  · exact ⟨none, 0, by rw [h0]; exact hv, by omega, fun h => by omega⟩
  · refine ⟨_, cap, hv, h4, fun _ => ⟨g, 0, rfl, Blk.lt h3, fun i hi r hr => ?_⟩⟩
    subst hv
    have hm := Nat.mul_le_mul_right k (show i + 1 ≤ l.length from hi)
    rw [Nat.add_mul] at hm
    rw [Nat.zero_add, h.cellAt (i * k + r) (by omega), flat_at hf l i r hi hr]
end
end Go.Proofs.Ythcdemmamggboaa
