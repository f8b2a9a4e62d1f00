import Derived.Test.YthcdemmamggboaaHurg
import Derived.Test.YthcdemmamggboaaCopyr
namespace Go.Proofs.Ythcdemmamggboaa
open Go.RowKit
theorem jbAt_eq {l : List Job} {k : Nat} (h : k < l.length) : jbAt l k = l[k] := by simp [jbAt, List.getD, h]
theorem stAt_eq {l : List Stn} {k : Nat} (h : k < l.length) : stAt l k = l[k] := by simp [stAt, List.getD, h]
theorem dnAt_eq {l : List Don} {k : Nat} (h : k < l.length) : dnAt l k = l[k] := by simp [dnAt, List.getD, h]
theorem jobs_drop {l : List Job} {i : Nat} (h : i < l.length) : l.drop i = jbAt l i :: l.drop (i + 1) := by
  rw [List.drop_eq_getElem_cons h]; simp [jbAt, List.getD, h]
theorem getE_set {α : Type} [Inhabited α] (l : List α) (k : Nat) (a : α) : (l.set k a).length = l.length := List.length_set
section
variable {w w' : World} {base b g n cap : Nat} {vl vc : Value} {pol : Int} {vr vs vj v' : Value} {s : St}
theorem SimAt.new_r (h : SimAt w base b vl vc pol vr vs vj s) {l' : List Job} (hg : w.grownBy w' vr.ownBlock) (ho : w'.ownsRow base 78 5 vr l'.length (l'.flatMap jobC)) :
    SimAt w' base b vl vc pol vr vs vj { s with ready := l' } :=
  ⟨h.box_r hg, ho, h.st.kept hg (own_types_ne h.st h.rd (by decide)), h.jb.kept hg (own_types_ne h.jb h.rd (by decide))⟩
theorem SimAt.new_s (h : SimAt w base b vl vc pol vr vs vj s) {l' : List Stn} (hg : w.grownBy w' vs.ownBlock) (ho : w'.ownsRow base 39 4 vs l'.length (l'.flatMap stnC)) :
    SimAt w' base b vl vc pol vr vs vj { s with stints := l' } :=
  ⟨h.box_s hg, h.rd.kept hg (own_types_ne h.rd h.st (by decide)), ho, h.jb.kept hg (own_types_ne h.jb h.st (by decide))⟩
theorem SimAt.new_j (h : SimAt w base b vl vc pol vr vs vj s) {l' : List Don} (hg : w.grownBy w' vj.ownBlock) (ho : w'.ownsRow base 42 5 vj l'.length (l'.flatMap donC)) :
    SimAt w' base b vl vc pol vr vs vj { s with jobs := l' } :=
  ⟨h.box_j hg, h.rd.kept hg (own_types_ne h.rd h.jb (by decide)), h.st.kept hg (own_types_ne h.st h.jb (by decide)), ho⟩
/-- a job's cells -/
theorem job_cell {l : List Job} (h : w.ownsRow base 78 5 (.slice (some ⟨g, 0, none⟩) n cap) n (l.flatMap jobC)) (hn : n = l.length) {k : Nat} (hk : k < l.length) (r : Nat) (hr : r < 5) :
    w.cell? ⟨g, k * 5 + r, none⟩ = (jobC (jbAt l k))[r]? := by
  subst hn
  rw [h.cellAt (k * 5 + r) (by omega), flat_at jobC_len l k r hk hr, jbAt_eq hk]
theorem stn_cell {l : List Stn} (h : w.ownsRow base 39 4 (.slice (some ⟨g, 0, none⟩) n cap) n (l.flatMap stnC)) (hn : n = l.length) {k : Nat} (hk : k < l.length) (r : Nat) (hr : r < 4) :
    w.cell? ⟨g, k * 4 + r, none⟩ = (stnC (stAt l k))[r]? := by
  subst hn
  rw [h.cellAt (k * 4 + r) (by omega), flat_at stnC_len l k r hk hr, stAt_eq hk]
theorem don_cell {l : List Don} (h : w.ownsRow base 42 5 (.slice (some ⟨g, 0, none⟩) n cap) n (l.flatMap donC)) (hn : n = l.length) {k : Nat} (hk : k < l.length) (r : Nat) (hr : r < 5) :
    w.cell? ⟨g, k * 5 + r, none⟩ = (donC (dnAt l k))[r]? := by
  subst hn
  rw [h.cellAt (k * 5 + r) (by omega), flat_at donC_len l k r hk hr, dnAt_eq hk]
theorem job_store {l : List Job} (h : w.ownsRow base 78 5 (.slice (some ⟨g, 0, none⟩) n cap) n (l.flatMap jobC)) (hn : n = l.length) {k : Nat} (hk : k < l.length) (d : Int) :
    (w.setCell ⟨g, k * 5 + 3, none⟩ (.int .i64 d)).ownsRow base 78 5 (.slice (some ⟨g, 0, none⟩) n cap) (l.set k { jbAt l k with dn := d }).length ((l.set k { jbAt l k with dn := d }).flatMap jobC) ∧ w.grownBy (w.setCell ⟨g, k * 5 + 3, none⟩ (.int .i64 d)) (some g) := by
  subst hn
  obtain ⟨h1, h2⟩ := h.stored (k * 5 + 3) (.int .i64 d)
  rw [List.length_set, ← flat_set jobC_len l k 3 { jbAt l k with dn := d } (.int .i64 d) hk (by omega) (by rw [jbAt_eq hk]; rfl)]
  exact ⟨h1, h2⟩
theorem stn_store {l : List Stn} (h : w.ownsRow base 39 4 (.slice (some ⟨g, 0, none⟩) n cap) n (l.flatMap stnC)) (hn : n = l.length) {k : Nat} (hk : k < l.length) (d : Int) :
    (w.setCell ⟨g, k * 4 + 3, none⟩ (.int .i64 d)).ownsRow base 39 4 (.slice (some ⟨g, 0, none⟩) n cap) (l.set k { stAt l k with to := d }).length ((l.set k { stAt l k with to := d }).flatMap stnC) ∧ w.grownBy (w.setCell ⟨g, k * 4 + 3, none⟩ (.int .i64 d)) (some g) := by
  subst hn
  obtain ⟨h1, h2⟩ := h.stored (k * 4 + 3) (.int .i64 d)
  rw [List.length_set, ← flat_set stnC_len l k 3 { stAt l k with to := d } (.int .i64 d) hk (by omega) (by rw [stAt_eq hk]; rfl)]
  exact ⟨h1, h2⟩
theorem don_resp {l : List Don} (h : w.ownsRow base 42 5 (.slice (some ⟨g, 0, none⟩) n cap) n (l.flatMap donC)) (hn : n = l.length) {k : Nat} (hk : k < l.length) (d : Int) :
    (w.setCell ⟨g, k * 5 + 3, none⟩ (.int .i64 d)).ownsRow base 42 5 (.slice (some ⟨g, 0, none⟩) n cap) (l.set k { dnAt l k with resp := d }).length ((l.set k { dnAt l k with resp := d }).flatMap donC) ∧ w.grownBy (w.setCell ⟨g, k * 5 + 3, none⟩ (.int .i64 d)) (some g) := by
  subst hn
  obtain ⟨h1, h2⟩ := h.stored (k * 5 + 3) (.int .i64 d)
  rw [List.length_set, ← flat_set donC_len l k 3 { dnAt l k with resp := d } (.int .i64 d) hk (by omega) (by rw [dnAt_eq hk]; rfl)]
  exact ⟨h1, h2⟩
theorem don_miss {l : List Don} (h : w.ownsRow base 42 5 (.slice (some ⟨g, 0, none⟩) n cap) n (l.flatMap donC)) (hn : n = l.length) {k : Nat} (hk : k < l.length) (d : Bool) :
    (w.setCell ⟨g, k * 5 + 4, none⟩ (.bool d)).ownsRow base 42 5 (.slice (some ⟨g, 0, none⟩) n cap) (l.set k { dnAt l k with miss := d }).length ((l.set k { dnAt l k with miss := d }).flatMap donC) ∧ w.grownBy (w.setCell ⟨g, k * 5 + 4, none⟩ (.bool d)) (some g) := by
  subst hn
  obtain ⟨h1, h2⟩ := h.stored (k * 5 + 4) (.bool d)
  rw [List.length_set, ← flat_set donC_len l k 4 { dnAt l k with miss := d } (.bool d) hk (by omega) (by rw [dnAt_eq hk]; rfl)]
  exact ⟨h1, h2⟩
theorem row_ne {w : World} {p q : Nat} {e1 e2 : TypeId} {xs ys : List Value} (h1 : RowAt w p e1 xs) (h2 : RowAt w q e2 ys) (hne : e1 ≠ e2) : p ≠ q := by
  intro e
  subst e
  unfold RowAt at h1 h2
  rw [h1] at h2
  simp at h2
  exact hne h2.2
theorem SimAt.other {n5 : Nat} {xs : List Value} (h : SimAt w base b vl vc pol vr vs vj s) (hr : RowAt w n5 79 xs) (i : Nat) (v : Value) : SimAt (w.setCell ⟨n5, i, none⟩ v) base b vl vc pol vr vs vj s := by
  have g := gro_set (gro_refl w (row := some n5)) i v
  exact ⟨h.box.far (row_ne h.box hr (by decide)) v, h.rd.kept g (own_box_ne hr h.rd (by decide)), h.st.kept g (own_box_ne hr h.st (by decide)), h.jb.kept g (own_box_ne hr h.jb (by decide))⟩
theorem erase_set {α : Type} (l : List α) (k : Nat) (a : α) : (l.set k a).eraseIdx k = l.eraseIdx k := by
  rw [List.eraseIdx_eq_take_drop_succ, List.eraseIdx_eq_take_drop_succ, List.take_set_of_le (Nat.le_refl _), List.drop_set_of_lt (Nat.lt_succ_self _)]
theorem jobC_one (j : Job) : ∀ u ∈ jobC j, u.oneCell' = true := by
  intro u hu; simp [jobC] at hu; rcases hu with h | h | h | h | h <;> subst h <;> rfl
theorem Try.infoJobSz : (Try.prog.info? 78).map (·.size) = some 5 := by kernel_rfl
theorem copy_jobs {l : List Job} {k : Nat} (h : w.ownsRow base 78 5 (.slice (some ⟨g, 0, none⟩) n cap) n (l.flatMap jobC)) (hn : n = l.length) (hk : k < n) (dCap sCap : Nat) (ad : Addr) (had : k + 1 < n → ad = ⟨g, (k + 1) * 5, none⟩) :
    ∃ w', (∀ ty : TypeId, (Builtin.copy_ #[59, 59] ty #[.slice (some ⟨g, k * 5, none⟩) (n - k) dCap, .slice (some ad) (n - (k + 1)) sCap]).run Try.prog w = .ok (.int .i64 (n - (k + 1) : Nat)) w') ∧
      w'.ownsRow base 78 5 (.slice (some ⟨g, 0, none⟩) n cap) n ((l.take k ++ l.drop (k + 1) ++ l.drop (n - 1)).flatMap jobC) ∧ w.grownBy w' (some g) := by
  subst hn
  have hcl : ((l.drop (k + 1)).flatMap jobC).length = (l.length - (k + 1)) * 5 := by rw [flat_len jobC_len, List.length_drop]
  obtain ⟨w', h1, h2, h3⟩ := run_copy_rows h Try.underlying59 Try.infoJobSz (k * 5) (l.length - (k + 1)) (l.length - k) dCap (l.length - (k + 1)) sCap ad ((l.drop (k + 1)).flatMap jobC)
    (by show _ = min _ _; omega) hcl (fun j v hj => by
      have hjl : j < (l.length - (k + 1)) * 5 := by rw [← hcl]; exact (List.getElem?_eq_some_iff.1 hj).1
      have hk1 : k + 1 < l.length := by omega
      rw [had hk1]
      rw [← flat_drop jobC_len, List.getElem?_drop] at hj
      have := h.cellAt ((k + 1) * 5 + j) (by omega)
      rw [hj] at this
      rw [show (⟨g, (k + 1) * 5, none⟩ : Addr).add j = ⟨g, (k + 1) * 5 + j, none⟩ by unfold Addr.add; split <;> simp_all]
      exact this) (by rw [hcl]; omega) (fun u hu => by
        obtain ⟨j, _, hj⟩ := List.mem_flatMap.mp hu
        exact jobC_one j u hj)
  refine ⟨w', h1, ?_, h3⟩
  rw [List.flatMap_append, List.flatMap_append, ← flat_take jobC_len, ← flat_drop jobC_len l (l.length - 1), show (l.length - 1) * 5 = k * 5 + ((l.drop (k + 1)).flatMap jobC).length by rw [hcl]; omega]
  exact h2
theorem cut_erase {l : List Job} {k : Nat} (hk : k < l.length) : (l.take k ++ l.drop (k + 1) ++ l.drop (l.length - 1)).take (l.length - 1) = l.eraseIdx k := by
  rw [List.take_append_of_le_length (by simp; omega), List.take_of_length_le (by simp; omega), List.eraseIdx_eq_take_drop_succ]
theorem SimAt.copied {wb : World} {r : List Job} {ss : List Stn} {js : List Don} {k : Nat} (h : SimAt w wb.heap.size b vl vc pol (.slice (some ⟨g, 0, none⟩) n cap) vs vj ⟨r, ss, js⟩) (hb : Bel wb w) (hn : n = r.length) (hk : k < n) (dCap sCap : Nat) (ad : Addr) (had : k + 1 < n → ad = ⟨g, (k + 1) * 5, none⟩) :
    ∃ w', (∀ ty : TypeId, (Builtin.copy_ #[59, 59] ty #[.slice (some ⟨g, k * 5, none⟩) (n - k) dCap, .slice (some ad) (n - (k + 1)) sCap]).run Try.prog w = .ok (.int .i64 (n - (k + 1) : Nat)) w') ∧
      SimAt w' wb.heap.size b vl vc pol (.slice (some ⟨g, 0, none⟩) n cap) vs vj ⟨r.take k ++ r.drop (k + 1) ++ r.drop (n - 1), ss, js⟩ ∧ Bel wb w' := by
  subst hn
  obtain ⟨w', h1, h2, h3⟩ := copy_jobs h.rd rfl hk dCap sCap ad had
  refine ⟨w', h1, h.new_r h3 ?_, bel_gro hb h3 (fun q hq => (h.rd.lt q hq).1)⟩
  have e : (r.take k ++ r.drop (k + 1) ++ r.drop (r.length - 1)).length = r.length := by simp; omega
  rw [e]
  exact h2
theorem SimAt.cut {r : List Job} {ss : List Stn} {js : List Don} {k : Nat} (h : SimAt w base b vl vc pol (.slice (some ⟨g, 0, none⟩) n cap) vs vj ⟨r.take k ++ r.drop (k + 1) ++ r.drop (n - 1), ss, js⟩) (hn : n = r.length) (hk : k < n) :
    SimAt (w.setCell ⟨b, 3, none⟩ (.slice (some ⟨g, 0, none⟩) (n - 1) cap)) base b vl vc pol (.slice (some ⟨g, 0, none⟩) (n - 1) cap) vs vj ⟨r.eraseIdx k, ss, js⟩ := by
  subst hn
  have e : (r.take k ++ r.drop (k + 1) ++ r.drop (r.length - 1)).length = r.length := by simp; omega
  have h2 := h.rd
  dsimp only at h2
  rw [e] at h2
  have h3 := own_cut (r.length - 1) h2 (by omega)
  rw [flat_take jobC_len, cut_erase hk] at h3
  refine h.put_r (l' := r.eraseIdx k) (gro_refl w) ?_
  rw [List.length_eraseIdx, if_pos hk]
  exact h3
/-- what copy leaves: the jobs behind k lie one place further ahead -/
theorem erase_rows {l : List Job} {k : Nat} (hk : k < l.length) :
    ((l.flatMap jobC).take (k * 5) ++ (l.drop (k + 1)).flatMap jobC ++ (l.flatMap jobC).drop (k * 5 + ((l.drop (k + 1)).flatMap jobC).length)).take ((l.length - 1) * 5) = (l.eraseIdx k).flatMap jobC := by
  have e1 : ((l.drop (k + 1)).flatMap jobC).length = (l.length - (k + 1)) * 5 := by rw [flat_len jobC_len, List.length_drop]
  have e2 := flat_take jobC_len l k
  rw [e2, List.take_append_of_le_length (by rw [List.length_append, e1, flat_len jobC_len, List.length_take]; omega), List.take_of_length_le (by rw [List.length_append, e1, flat_len jobC_len, List.length_take]; omega), List.eraseIdx_eq_take_drop_succ, List.flatMap_append]
end
end Go.Proofs.Ythcdemmamggboaa
