import Derived.Test.YtcnjojhbcijdmaaPbase
import Derived.Test.YtcnjojhbcijdmaaOwng
import Derived.Test.YtcnjojhbcijdmaaAppend
import Derived.Test.YtcnjojhbcijdmaaPspan
namespace Go.Proofs.Ytcnjojhbcijdmaa
open Go.RowKit
def stC (s : PS) : List Value := [.int .i64 s.at_, .int .i64 s.ev]
def stCs (l : List PS) : List Value := l.flatMap stC
theorem stCs_len (l : List PS) : (stCs l).length = l.length * 2 := by
  induction l with
  | nil => rfl
  | cons y L ih => simp only [stCs, List.flatMap_cons, List.length_append, List.length_cons] at ih ⊢; rw [ih]; simp [stC]; omega
theorem stCs_app (l m : List PS) : stCs (l ++ m) = stCs l ++ stCs m := by simp [stCs]
theorem stCs_at : ∀ (l : List PS) (i j : Nat), i < l.length → j < 2 → (stCs l)[i * 2 + j]? = (stC (psAt l i))[j]?
  | [], i, j, h, _ => by simp at h
  | s :: ss, 0, j, _, hj => by
    show (stC s ++ stCs ss)[0 * 2 + j]? = _
    rw [List.getElem?_append_left (by simp [stC]; omega)]; simp [psAt]
  | s :: ss, i + 1, j, h, hj => by
    show (stC s ++ stCs ss)[(i + 1) * 2 + j]? = _
    rw [List.getElem?_append_right (by simp [stC]; omega)]
    have := stCs_at ss i j (by simpa using h) hj
    rw [show (i + 1) * 2 + j - (stC s).length = i * 2 + j by simp [stC]; omega, this]
    simp [psAt]
theorem stCs_one (l : List PS) : ∀ u ∈ stCs l, u.oneCell' = true := fun u hu => by
  simp only [stCs, List.mem_flatMap] at hu
  obtain ⟨s, _, hs⟩ := hu
  simp [stC] at hs
  rcases hs with rfl | rfl <;> rfl
theorem addOf (b off k : Nat) : (⟨b, off, none⟩ : Addr).add k = ⟨b, off + k, none⟩ := by
  unfold Addr.add; split
  · subst_vars; rfl
  · rfl
theorem stamps_src {w w' : World} {l : List PS} {A : Option Addr} {n c : Nat} (h : StampsAt w w.heap.size (.slice A n c) l) (hb : Bel w w') :
    (A = none ∧ l.length = 0) ∨ ∃ ad, A = some ad ∧ ∀ j u, (stCs l)[j]? = some u → w'.cell? (ad.add j) = some u := by
  rcases Nat.eq_zero_or_pos l.length with h0 | h0
  · have hl := List.length_eq_zero_iff.1 h0
    cases A with
    | none => exact .inl ⟨rfl, h0⟩
    | some a => exact .inr ⟨a, rfl, fun j u hu => by rw [hl] at hu; simp [stCs] at hu⟩
  · obtain ⟨b, off, rfl, hbb, hc⟩ := h.at_ h0
    refine .inr ⟨_, rfl, fun j u hu => ?_⟩
    have hj : j < l.length * 2 := by rw [← stCs_len]; exact (List.getElem?_eq_some_iff.1 hu).1
    obtain ⟨q, r, rfl, hr⟩ : ∃ q r, j = q * 2 + r ∧ r < 2 := ⟨j / 2, j % 2, by omega, by omega⟩
    rw [stCs_at l q r (by omega) hr] at hu
    obtain ⟨c0, c1⟩ := hc q (by omega)
    rw [addOf, hb.cells _ _ hbb]
    match r, hr with
    | 0, _ => simp [stC] at hu; subst hu; exact c0
    | 1, _ => simp [stC] at hu; subst hu; exact c1
theorem StampsAt.of_own {w : World} {base : Nat} {v : Value} {l : List PS} {n : Nat} (hn : n = l.length) (ho : w.ownsRow base 39 2 v n (stCs l)) : StampsAt w w.heap.size v l := by
  subst hn
  rcases ho.2 with ⟨rfl, h0⟩ | ⟨g, cap, cur, rfl, h2, h3, h4, h5, h6, h7⟩
  · exact ⟨none, 0, by rw [h0], by omega, fun h => by omega⟩
  · refine ⟨_, cap, rfl, h4, fun _ => ⟨g, 0, rfl, (ho.lt g rfl).2, fun i hi => ?_⟩⟩
    have e0 := stCs_at l i 0 hi (by omega)
    have e1 := stCs_at l i 1 hi (by omega)
    have k0 := ho.cells (g := g) rfl (i * 2 + 0) (.int .i64 (psAt l i).at_) (by rw [e0]; rfl)
    have k1 := ho.cells (g := g) rfl (i * 2 + 1) (.int .i64 (psAt l i).ev) (by rw [e1]; rfl)
    rw [addOf] at k0 k1
    exact ⟨k0, k1⟩
theorem Try.infoStamp : (Try.prog.info? 39).map (fun i => (i.zero, i.size, i.bytes)) = some (some (.agg #[.int .i64 0, .int .i64 0]), 2, 16) := by kernel_rfl
/-- append of a word onto a slice of the call's own -/
theorem append_stamps {w w0 : World} {base : Nat} {v : Value} {n : Nat} {xs : List Value} (ho : w.ownsRow base 39 2 v n xs) {l : List PS} {A : Option Addr} {c : Nat} (hs : StampsAt w0 w0.heap.size (.slice A l.length c) l) (hb : Bel w0 w) (hn : n + l.length ≤ 1000000) (hbase : base ≤ w.heap.size) :
    ∃ v' w', (Builtin.append_ #[26, 26] 26 #[v, .slice A l.length c]).run Try.prog w = .ok v' w' ∧ w'.ownsRow base 39 2 v' (n + l.length) (xs ++ stCs l) ∧ w.grownBy w' v.ownBlock := by
  obtain ⟨j0, hj0, hy0, hy1, hy2⟩ := info_parts' Try.infoStamp
  exact append_row w base 26 26 39 j0 _ 2 16 Try.underlying26 hj0 hy0 hy1 hy2 rfl (by decide) v n xs ho A l.length c (stCs l) (stamps_src hs hb) (stCs_len l) (stCs_one l) (by unfold maxLen; omega) (by omega) hbase
end Go.Proofs.Ytcnjojhbcijdmaa
