import Derived.Test.YthcdemmamggboaaHbef
import Derived.Test.YthcdemmamggboaaHexe0
namespace Go.Proofs.Ythcdemmamggboaa
open Go.RowKit
theorem Try.infoRJob : (Try.prog.info? 67).map (fun i => (i.zero, i.size, i.bytes)) = some (some (.agg #[.int .i64 0, .int .i64 0, .int .i64 0, .int .i64 0, .int .i64 0]), 5, 40) := by kernel_rfl
/-- the reference's memory -/
structure RefAt (w : World) (base b : Nat) (vr vs vj : Value) (s : St) : Prop where
  box : RowAt w b 29 [vs, vj]
  rd : w.ownsRow base 67 5 vr s.ready.length (s.ready.flatMap jobC)
  st : w.ownsRow base 39 4 vs s.stints.length (s.stints.flatMap stnC)
  jb : w.ownsRow base 42 5 vj s.jobs.length (s.jobs.flatMap donC)
section
variable {w w' : World} {base b g n cap : Nat} {vr vs vj v' : Value} {s : St}
theorem RefAt.bel (h : RefAt w base b vr vs vj s) (hb : Bel w w') : RefAt w' base b vr vs vj s :=
  ⟨h.box.bel hb, ownsRow_bel h.rd hb, ownsRow_bel h.st hb, ownsRow_bel h.jb hb⟩
theorem RefAt.box_r (h : RefAt w base b vr vs vj s) (hg : w.grownBy w' vr.ownBlock) : RowAt w' b 29 [vs, vj] := h.box.gro hg (box_row_ne h.box h.rd (by decide))
theorem RefAt.box_s (h : RefAt w base b vr vs vj s) (hg : w.grownBy w' vs.ownBlock) : RowAt w' b 29 [vs, vj] := h.box.gro hg (box_row_ne h.box h.st (by decide))
theorem RefAt.box_j (h : RefAt w base b vr vs vj s) (hg : w.grownBy w' vj.ownBlock) : RowAt w' b 29 [vs, vj] := h.box.gro hg (box_row_ne h.box h.jb (by decide))
theorem RefAt.new_r (h : RefAt w base b vr vs vj s) {l' : List Job} (hg : w.grownBy w' vr.ownBlock) (ho : w'.ownsRow base 67 5 v' l'.length (l'.flatMap jobC)) :
    RefAt w' base b v' vs vj { s with ready := l' } :=
  ⟨h.box_r hg, ho, h.st.kept hg (own_types_ne h.st h.rd (by decide)), h.jb.kept hg (own_types_ne h.jb h.rd (by decide))⟩
theorem RefAt.new_s (h : RefAt w base b vr vs vj s) {l' : List Stn} (hg : w.grownBy w' vs.ownBlock) (ho : w'.ownsRow base 39 4 vs l'.length (l'.flatMap stnC)) :
    RefAt w' base b vr vs vj { s with stints := l' } :=
  ⟨h.box_s hg, h.rd.kept hg (own_types_ne h.rd h.st (by decide)), ho, h.jb.kept hg (own_types_ne h.jb h.st (by decide))⟩
theorem RefAt.new_j (h : RefAt w base b vr vs vj s) {l' : List Don} (hg : w.grownBy w' vj.ownBlock) (ho : w'.ownsRow base 42 5 vj l'.length (l'.flatMap donC)) :
    RefAt w' base b vr vs vj { s with jobs := l' } :=
  ⟨h.box_j hg, h.rd.kept hg (own_types_ne h.rd h.jb (by decide)), h.st.kept hg (own_types_ne h.st h.jb (by decide)), ho⟩
theorem RefAt.put_s (h : RefAt w base b vr vs vj s) {l' : List Stn} (hg : w.grownBy w' vs.ownBlock) (ho : w'.ownsRow base 39 4 v' l'.length (l'.flatMap stnC)) :
    RefAt (w'.setCell ⟨b, 0, none⟩ v') base b vr v' vj { s with stints := l' } := by
  have hb := h.box_s hg
  have g := gro_set (gro_refl w' (row := some b)) 0 v'
  have s3 := h.rd.kept hg (own_types_ne h.rd h.st (by decide))
  have j3 := h.jb.kept hg (own_types_ne h.jb h.st (by decide))
  exact ⟨hb.set 0 v', s3.kept g (own_box_ne hb s3 (by decide)), ho.kept g (own_box_ne hb ho (by decide)), j3.kept g (own_box_ne hb j3 (by decide))⟩
theorem RefAt.put_j (h : RefAt w base b vr vs vj s) {l' : List Don} (hg : w.grownBy w' vj.ownBlock) (ho : w'.ownsRow base 42 5 v' l'.length (l'.flatMap donC)) :
    RefAt (w'.setCell ⟨b, 1, none⟩ v') base b vr vs v' { s with jobs := l' } := by
  have hb := h.box_j hg
  have g := gro_set (gro_refl w' (row := some b)) 1 v'
  have s3 := h.rd.kept hg (own_types_ne h.rd h.jb (by decide))
  have j3 := h.st.kept hg (own_types_ne h.st h.jb (by decide))
  exact ⟨hb.set 1 v', s3.kept g (own_box_ne hb s3 (by decide)), j3.kept g (own_box_ne hb j3 (by decide)), ho.kept g (own_box_ne hb ho (by decide))⟩
theorem rjob_cell {l : List Job} (h : w.ownsRow base 67 5 (.slice (some ⟨g, 0, none⟩) n cap) n (l.flatMap jobC)) (hn : n = l.length) {k : Nat} (hk : k < l.length) (r : Nat) (hr : r < 5) :
    w.cell? ⟨g, k * 5 + r, none⟩ = (jobC (jbAt l k))[r]? := by
  subst hn
  rw [h.cellAt (k * 5 + r) (by omega), flat_at jobC_len l k r hk hr, jbAt_eq hk]
theorem rjob_store {l : List Job} (h : w.ownsRow base 67 5 (.slice (some ⟨g, 0, none⟩) n cap) n (l.flatMap jobC)) (hn : n = l.length) {k : Nat} (hk : k < l.length) (d : Int) :
    (w.setCell ⟨g, k * 5 + 3, none⟩ (.int .i64 d)).ownsRow base 67 5 (.slice (some ⟨g, 0, none⟩) n cap) (l.set k { jbAt l k with dn := d }).length ((l.set k { jbAt l k with dn := d }).flatMap jobC) ∧ w.grownBy (w.setCell ⟨g, k * 5 + 3, none⟩ (.int .i64 d)) (some g) := by
  subst hn
  obtain ⟨h1, h2⟩ := h.stored (k * 5 + 3) (.int .i64 d)
  rw [List.length_set, ← flat_set jobC_len l k 3 { jbAt l k with dn := d } (.int .i64 d) hk (by omega) (by rw [jbAt_eq hk]; rfl)]
  exact ⟨h1, h2⟩
/-- one job more -/
theorem jobs_snoc (l : List Job) (j : Job) : l.flatMap jobC ++ jobC j = (l ++ [j]).flatMap jobC := by rw [List.flatMap_append]; simp
theorem dons_snoc (l : List Don) (j : Don) : l.flatMap donC ++ donC j = (l ++ [j]).flatMap donC := by rw [List.flatMap_append]; simp
theorem stns_snoc (l : List Stn) (j : Stn) : l.flatMap stnC ++ stnC j = (l ++ [j]).flatMap stnC := by rw [List.flatMap_append]; simp
end
set_option maxHeartbeats 1000000 in
theorem allowed_any (v : Value) (l : List Tsk) (pol : Int) (w : World) (h : TsksAt w w.heap.size v l) (hl : l.length ≤ 1000000) :
    Calls Try.prog 27 #[v, .int .i64 pol] w fun e w' => e = .returned (.bool (decide (pol = 1) || (decide (pol = 2) && !secsB l))) ∧ Bel w w' := by
  have HS := Lib.hid (rsecs_any v l w h hl)
  clear h
  go_enter Try.func27, Try.ntmps27
  by_cases p1 : pol = 1
  · subst p1
    go_wp2
    go_ret
    exact ⟨rfl, Bel.refl⟩
  · have q1 : (pol == 1) = false := by simpa using p1
    by_cases p2 : pol = 2
    · subst p2
      generalize secsB l = sb at *
      go_wp2_with (first | (go_at_call 17; (with_reducible refine (HS.out).mono ?_); rintro e w2 ⟨rfl, hb2⟩; obtain ⟨x, rfl⟩ : ∃ x : Ext w, w2 = x.w := ext_of (hb2.after (by (repeat (first | exact Ext.bel _ | exact Bel.refl | refine Bel.alloc ?_ _ | refine Bel.drew ?_ | refine Bel.drewN ?_ _)))); clear hb2))
      all_goals
        go_ret
        exact ⟨ret_bool (by cases sb <;> simp), x.bel⟩
    · have q2 : (pol == 2) = false := by simpa using p2
      go_wp2
      go_ret
      exact ⟨ret_bool (by simp [p1, p2]), Bel.refl⟩
end Go.Proofs.Ythcdemmamggboaa
