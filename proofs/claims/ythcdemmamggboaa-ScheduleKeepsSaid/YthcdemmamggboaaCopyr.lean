import Derived.Test.YthcdemmamggboaaFlat
import Derived.Laws.CopyOwn
/- any seat: copy of structs into a row of the call's own. -/
namespace Go.Proofs.Ythcdemmamggboaa
open Go.RowKit
section
variable {P : Program}
theorem run_copy_rows {w : World} {base g n cap k : Nat} {e : TypeId} {xs : List Value} (h : w.ownsRow base e k (.slice (some ⟨g, 0, none⟩) n cap) n xs) {dT sT : TypeId} (hu : P.underlying dT = some (.slice e))
    (hi : (P.info? e).map (·.size) = some k) (o m dLen dCap sLen sCap : Nat) (ad : Addr) (cs : List Value) (hm : m = Nat.min sLen dLen) (hcs : cs.length = m * k)
    (hsrc : ∀ j v, cs[j]? = some v → w.cell? (ad.add j) = some v) (hfit : o + cs.length ≤ n * k) (h1 : ∀ u ∈ cs, u.oneCell' = true) :
    ∃ w', (∀ ty : TypeId, (Builtin.copy_ #[dT, sT] ty #[.slice (some ⟨g, o, none⟩) dLen dCap, .slice (some ad) sLen sCap]).run P w = .ok (.int .i64 m) w') ∧
      w'.ownsRow base e k (.slice (some ⟨g, 0, none⟩) n cap) n (xs.take o ++ cs ++ xs.drop (o + cs.length)) ∧ w.grownBy w' (some g) := by
  rcases h.2 with ⟨hv, _⟩ | ⟨g', cap', cur, hv, hb, hg, hnc, hcm, hcz, htk⟩
  · cases hv
  · injection hv with hv _ hc
    injection hv with hv
    injection hv with hv _ _
    subst hv hc
    have hle : n * k ≤ cap * k := Nat.mul_le_mul_right _ hnc
    have hl := run_loadCells_list (P := P) w ad cs hsrc
    have hst := run_storeCells_at P g o e cs 0 cur w hg (by simp; omega) h1
    simp only [Nat.add_zero] at hst
    refine ⟨w.setRow g (cur.toList.take o ++ cs ++ cur.toList.drop (o + cs.length)).toArray, ?_, ⟨?_, .inr ⟨g, cap, _, rfl, hb, setRow_heap w g cur _ e _ hg, hnc, hcm, ?_, ?_⟩⟩, ⟨rfl, rfl, rfl, by simp, fun q _ hq => setRow_other w g q _ (fun e => hq (by rw [e]))⟩⟩
    · intro ty
      cases hq : P.info? e with
      | none => simp [hq] at hi
      | some i =>
        have hi2 : i.size = k := by simpa [hq] using hi
        have hm2 : Nat.min sLen dLen = m := hm.symm
        simp [Builtin.copy_, run_underlying hu, Builtin.lenOf, Builtin.firstCells, sizeOf, typeInfo, hq, hi2, hm2, ← hcs, hl, hst, goInt]
    · rw [List.length_append, List.length_append, List.length_take, List.length_drop, h.1]; omega
    · simp only [List.size_toArray, List.length_append, List.length_take, List.length_drop, Array.length_toList]; omega
    · rw [← htk]
      apply List.ext_getElem?
      intro j
      simp only [List.getElem?_take, List.getElem?_append, List.length_append, List.length_take, List.getElem?_drop, Array.length_toList]
      by_cases hj : j < n * k
      · rw [if_pos hj]
        by_cases h2 : j < o
        · rw [if_pos (by omega), if_pos (by omega), if_pos (by omega), if_pos (by omega), if_pos (by omega), if_pos (by omega), if_pos (by omega)]
        · by_cases h3 : j < o + cs.length
          · rw [if_pos (by omega), if_neg (by omega), if_pos (by omega), if_neg (by omega)]
            congr 1; omega
          · rw [if_neg (by omega), if_neg (by omega), if_pos (by omega)]
            congr 1; omega
      · rw [if_neg hj, if_neg (by omega), if_neg (by omega)]
/-- a copy whose run is known -/
theorem wpList_copy_run {ops : Array Oper} {rest : List Oper} {o : Oper} {a : Act} {Q : Exit → Act → World → Prop} {w w' : World} (hgd : o.guard = none) (s x : Operand) (dT sT : TypeId)
    (ho : o.op = .call { callee := .builtin .copy, args := #[s, x], argTypes := #[dT, sT] }) (v v2 v' : Value) (hs : a.eval s = v) (hx : a.eval x = v2)
    (hr : (Builtin.copy_ #[dT, sT] o.type #[v, v2]).run P w = .ok v' w') (h : wpList P ops Q rest (a.put o.dst v') w') : wpList P ops Q (o :: rest) a w := by
  refine wpList_plain hgd fun K hK => ?_
  unfold Oper.wp execOp
  simp only [ho, resolve, invoke, builtin, Sem.run_bind, Sem.run_pure, Result.andThen_ok, List.map_toArray, List.map_cons, List.map_nil, hs, hx, hr]
  exact hK _ _ h
end
end Go.Proofs.Ythcdemmamggboaa
