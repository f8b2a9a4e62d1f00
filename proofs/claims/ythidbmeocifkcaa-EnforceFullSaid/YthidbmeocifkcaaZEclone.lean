/- slices.Clone. -/
import Derived.Test.YthidbmeocifkcaaZPbase
import Derived.Test.YthidbmeocifkcaaG1
import Derived.Laws.MakeOwn
import Derived.Lib.SliceRun
namespace Go.Proofs.Ythidbmeocifkcaa
open Go.RowKit
theorem cell_block2 {w w' : World} {a : Addr} (h : w'.heap[a.block]? = w.heap[a.block]?) : w'.cell? a = w.cell? a := by
  unfold World.cell?
  rw [h]
/-- a slice value whose cells are these -/
def SrcOf (w : World) (v : Value) (n : Nat) (cs : List Value) : Prop :=
  ∃ A c, v = .slice A n c ∧ n ≤ c ∧ (A = none → n = 0) ∧ (0 < n → ∃ b off, A = some ⟨b, off, none⟩ ∧ b < w.heap.size ∧ ∀ j u, cs[j]? = some u → w.cell? ⟨b, off + j, none⟩ = some u)
def CloneP (w : World) (e : TypeId) (size n : Nat) (cs : List Value) (en : Ending) (w' : World) : Prop := ∃ u, en = .returned u ∧ w'.ownsRow w.heap.size e size u n cs ∧ Bel w w'
theorem clone_nil {w : World} {e : TypeId} {size n : Nat} {cs : List Value} (hn : n = 0) (hc : cs.length = n * size) : CloneP w e size n cs (.returned (.slice none 0 0)) w := by
  subst hn
  have : cs = [] := List.length_eq_zero_iff.mp (by omega)
  subst this
  exact ⟨_, rfl, World.ownsRow_nil _ _ _ _, Bel.refl⟩
theorem add_ofs2 (b off j : Nat) : (⟨b, off, none⟩ : Addr).add j = ⟨b, off + j, none⟩ := by
  unfold Addr.add; split
  · subst_vars; rfl
  · rfl
theorem Try.infoStamp : (Try.prog.info? 48).map (fun i => (i.zero, i.size, i.bytes)) = some (some (.agg #[.int .i64 0, .int .i64 0]), 2, 16) := by kernel_rfl
set_option maxRecDepth 100000 in
set_option maxHeartbeats 4000000 in
theorem cloneStamp_any (v : Value) (n : Nat) (cs : List Value) (w : World) (h : SrcOf w v n cs) (hl : cs.length = n * 2) (h1 : ∀ u ∈ cs, u.oneCell' = true) (hn : n ≤ 1000000) :
    Calls Try.prog 38 #[v] w (CloneP w 48 2 n cs) := by
  obtain ⟨A, c, rfl, hc, hA, h⟩ := h
  have HH := Lib.hid h
  have HL := Lib.hid hl
  have H1 := Lib.hid h1
  obtain ⟨i0, hi0, hy0, hy1, hy2⟩ := info_parts Try.infoStamp
  have hnil := fun (a : Option Addr) (W : World) => Lib.run_eql_slice_nil (P := Try.prog) W 26 48 a n c 0 0 Try.underlying26
  cases A with
  | none =>
    have HP := Lib.hid (clone_nil (w := w) (e := 48) (hA rfl) hl)
    have hnil := hnil none
    obtain rfl : n = 0 := hA rfl
    clear h hl h1 hA
    simp only [Option.isNone_none] at hnil
    go_enter Try.func38, Try.ntmps38
    go_wp2
    go_ret
    exact HP.out
  | some ad =>
    have hnil := hnil (some ad)
    clear h hl h1 hA
    simp only [Option.isNone_some] at hnil
    go_enter Try.func38, Try.ntmps38
    go_upto_region 3 with (fail)
    have HSRC : Hid (∀ j u, cs[j]? = some u → w.cell? (ad.add j) = some u ∧ (ad.add j).block < w.heap.size) := Lib.hid (fun j u hj => by
      have hn0 : 0 < n := by
        rcases Nat.eq_zero_or_pos n with e | e
        · exfalso
          have : j < cs.length := (List.getElem?_eq_some_iff.1 hj).1
          have := HL.out
          rw [e] at this
          omega
        · exact e
      obtain ⟨b, off, e, hb, hcell⟩ := HH.out hn0
      injection e with e
      subst e
      rw [add_ofs2]
      exact ⟨hcell j u hj, hb⟩)
    have m1 := World.ownsRow_made (base := w.heap.size) (e := 48) (size := 2) w #[] 0 (Nat.le_refl _) (by unfold maxLen; omega) (by simp)
    have HM := Lib.hid m1
    have HLT : Hid (w.heap.size ≤ (w.alloc (.cells #[] 48)).heap.size) := Lib.hid (by simp [go_sem])
    clear m1
    go_wp2_with (at_builtin; go_must (refine wpList_append_own _ rfl _ _ 26 rfl w.heap.size 48 i0 (.agg #[.int .i64 0, .int .i64 0]) 2 16 Try.underlying26 hi0 hy0 hy1 hy2 rfl (by decide) _ _ _ rfl HM.out ad n c cs rfl (by have := HL.out; omega) ?d1 ?d2 ?d3 ?d4 ?d5 ?_))
    case d1 => exact fun j u hj => (cell_block2 (Below.heap_alloc w _ _ (HSRC.out j u hj).2)).trans (HSRC.out j u hj).1
    case d2 => exact H1.out
    case d3 => unfold maxLen; omega
    case d4 => omega
    case d5 => exact HLT.out
    intro v' w5 hown1 hg1 _
    have HO : Hid (w5.ownsRow w.heap.size 48 2 v' n cs) := Lib.hid (by simpa using hown1)
    have HB := Lib.hid (bel_grown (Bel.refl.alloc _) HM.out hg1)
    clear hown1 hg1
    go_wp2
    go_ret
    exact ⟨_, rfl, HO.out, HB.out⟩
theorem Try.infoBool : (Try.prog.info? 4).map (fun i => (i.zero, i.size, i.bytes)) = some (some (.bool false), 1, 1) := by kernel_rfl
set_option maxRecDepth 100000 in
set_option maxHeartbeats 4000000 in
theorem cloneBool_any (v : Value) (n : Nat) (cs : List Value) (w : World) (h : SrcOf w v n cs) (hl : cs.length = n * 1) (h1 : ∀ u ∈ cs, u.oneCell' = true) (hn : n ≤ 1000000) :
    Calls Try.prog 43 #[v] w (CloneP w 4 1 n cs) := by
  obtain ⟨A, c, rfl, hc, hA, h⟩ := h
  have HH := Lib.hid h
  have HL := Lib.hid hl
  have H1 := Lib.hid h1
  obtain ⟨i0, hi0, hy0, hy1, hy2⟩ := info_parts Try.infoBool
  have hnil := fun (a : Option Addr) (W : World) => Lib.run_eql_slice_nil (P := Try.prog) W 22 4 a n c 0 0 Try.underlying22
  cases A with
  | none =>
    have HP := Lib.hid (clone_nil (w := w) (e := 4) (hA rfl) hl)
    have hnil := hnil none
    obtain rfl : n = 0 := hA rfl
    clear h hl h1 hA
    simp only [Option.isNone_none] at hnil
    go_enter Try.func43, Try.ntmps43
    go_wp2
    go_ret
    exact HP.out
  | some ad =>
    have hnil := hnil (some ad)
    clear h hl h1 hA
    simp only [Option.isNone_some] at hnil
    go_enter Try.func43, Try.ntmps43
    go_upto_region 3 with (fail)
    have HSRC : Hid (∀ j u, cs[j]? = some u → w.cell? (ad.add j) = some u ∧ (ad.add j).block < w.heap.size) := Lib.hid (fun j u hj => by
      have hn0 : 0 < n := by
        rcases Nat.eq_zero_or_pos n with e | e
        · exfalso
          have : j < cs.length := (List.getElem?_eq_some_iff.1 hj).1
          have := HL.out
          rw [e] at this
          omega
        · exact e
      obtain ⟨b, off, e, hb, hcell⟩ := HH.out hn0
      injection e with e
      subst e
      rw [add_ofs2]
      exact ⟨hcell j u hj, hb⟩)
    have m1 := World.ownsRow_made (base := w.heap.size) (e := 4) (size := 1) w #[] 0 (Nat.le_refl _) (by unfold maxLen; omega) (by simp)
    have HM := Lib.hid m1
    have HLT : Hid (w.heap.size ≤ (w.alloc (.cells #[] 4)).heap.size) := Lib.hid (by simp [go_sem])
    clear m1
    go_wp2_with (at_builtin; go_must (refine wpList_append_own _ rfl _ _ 22 rfl w.heap.size 4 i0 (.bool false) 1 1 Try.underlying22 hi0 hy0 hy1 hy2 rfl (by decide) _ _ _ rfl HM.out ad n c cs rfl (by have := HL.out; omega) ?d1 ?d2 ?d3 ?d4 ?d5 ?_))
    case d1 => exact fun j u hj => (cell_block2 (Below.heap_alloc w _ _ (HSRC.out j u hj).2)).trans (HSRC.out j u hj).1
    case d2 => exact H1.out
    case d3 => unfold maxLen; omega
    case d4 => omega
    case d5 => exact HLT.out
    intro v' w5 hown1 hg1 _
    have HO : Hid (w5.ownsRow w.heap.size 4 1 v' n cs) := Lib.hid (by simpa using hown1)
    have HB := Lib.hid (bel_grown (Bel.refl.alloc _) HM.out hg1)
    clear hown1 hg1
    go_wp2
    go_ret
    exact ⟨_, rfl, HO.out, HB.out⟩
theorem Try.infoIntK : (Try.prog.info? 3).map (fun i => (i.zero, i.size, i.bytes)) = some (some (.int .i64 0), 1, 8) := by kernel_rfl
set_option maxRecDepth 100000 in
set_option maxHeartbeats 4000000 in
theorem cloneIntK_any (v : Value) (n : Nat) (cs : List Value) (w : World) (h : SrcOf w v n cs) (hl : cs.length = n * 1) (h1 : ∀ u ∈ cs, u.oneCell' = true) (hn : n ≤ 1000000) :
    Calls Try.prog 44 #[v] w (CloneP w 3 1 n cs) := by
  obtain ⟨A, c, rfl, hc, hA, h⟩ := h
  have HH := Lib.hid h
  have HL := Lib.hid hl
  have H1 := Lib.hid h1
  obtain ⟨i0, hi0, hy0, hy1, hy2⟩ := info_parts Try.infoIntK
  have hnil := fun (a : Option Addr) (W : World) => Lib.run_eql_slice_nil (P := Try.prog) W 53 3 a n c 0 0 Try.underlying53
  cases A with
  | none =>
    have HP := Lib.hid (clone_nil (w := w) (e := 3) (hA rfl) hl)
    have hnil := hnil none
    obtain rfl : n = 0 := hA rfl
    clear h hl h1 hA
    simp only [Option.isNone_none] at hnil
    go_enter Try.func44, Try.ntmps44
    go_wp2
    go_ret
    exact HP.out
  | some ad =>
    have hnil := hnil (some ad)
    clear h hl h1 hA
    simp only [Option.isNone_some] at hnil
    go_enter Try.func44, Try.ntmps44
    go_upto_region 3 with (fail)
    have HSRC : Hid (∀ j u, cs[j]? = some u → w.cell? (ad.add j) = some u ∧ (ad.add j).block < w.heap.size) := Lib.hid (fun j u hj => by
      have hn0 : 0 < n := by
        rcases Nat.eq_zero_or_pos n with e | e
        · exfalso
          have : j < cs.length := (List.getElem?_eq_some_iff.1 hj).1
          have := HL.out
          rw [e] at this
          omega
        · exact e
      obtain ⟨b, off, e, hb, hcell⟩ := HH.out hn0
      injection e with e
      subst e
      rw [add_ofs2]
      exact ⟨hcell j u hj, hb⟩)
    have m1 := World.ownsRow_made (base := w.heap.size) (e := 3) (size := 1) w #[] 0 (Nat.le_refl _) (by unfold maxLen; omega) (by simp)
    have HM := Lib.hid m1
    have HLT : Hid (w.heap.size ≤ (w.alloc (.cells #[] 3)).heap.size) := Lib.hid (by simp [go_sem])
    clear m1
    go_wp2_with (at_builtin; go_must (refine wpList_append_own _ rfl _ _ 53 rfl w.heap.size 3 i0 (.int .i64 0) 1 8 Try.underlying53 hi0 hy0 hy1 hy2 rfl (by decide) _ _ _ rfl HM.out ad n c cs rfl (by have := HL.out; omega) ?d1 ?d2 ?d3 ?d4 ?d5 ?_))
    case d1 => exact fun j u hj => (cell_block2 (Below.heap_alloc w _ _ (HSRC.out j u hj).2)).trans (HSRC.out j u hj).1
    case d2 => exact H1.out
    case d3 => unfold maxLen; omega
    case d4 => omega
    case d5 => exact HLT.out
    intro v' w5 hown1 hg1 _
    have HO : Hid (w5.ownsRow w.heap.size 3 1 v' n cs) := Lib.hid (by simpa using hown1)
    have HB := Lib.hid (bel_grown (Bel.refl.alloc _) HM.out hg1)
    clear hown1 hg1
    go_wp2
    go_ret
    exact ⟨_, rfl, HO.out, HB.out⟩
end Go.Proofs.Ythidbmeocifkcaa
