import Derived.Test.YthidbmeocifkcaaZPclo
import Derived.Test.YthidbmeocifkcaaG1
namespace Go.Proofs.Ythidbmeocifkcaa
open Go.RowKit
def spCells (s : Int × Int) : List Value := [.int .i64 s.1, .int .i64 s.2]
def spFlat (l : List (Int × Int)) : List Value := l.flatMap spCells
set_option maxRecDepth 100000 in
theorem spFlat_cons (s : Int × Int) (l : List (Int × Int)) : spFlat (s :: l) = .int .i64 s.1 :: .int .i64 s.2 :: spFlat l := rfl
set_option maxRecDepth 100000 in
theorem spFlat_0 : ∀ (l : List (Int × Int)) (i : Nat), i < l.length → (spFlat l)[i * 2]? = some (.int .i64 (l.getD i (0, 0)).1)
  | [], i, h => by simp at h
  | s :: l, 0, _ => by simp [spFlat_cons]
  | s :: l, i + 1, h => by
    rw [spFlat_cons, show (i + 1) * 2 = i * 2 + 1 + 1 by omega, List.getElem?_cons_succ, List.getElem?_cons_succ, spFlat_0 l i (by simpa using h)]
    simp
set_option maxRecDepth 100000 in
theorem spFlat_1 : ∀ (l : List (Int × Int)) (i : Nat), i < l.length → (spFlat l)[i * 2 + 1]? = some (.int .i64 (l.getD i (0, 0)).2)
  | [], i, h => by simp at h
  | s :: l, 0, _ => by simp [spFlat_cons]
  | s :: l, i + 1, h => by
    rw [spFlat_cons, show (i + 1) * 2 + 1 = i * 2 + 1 + 1 + 1 by omega, List.getElem?_cons_succ, List.getElem?_cons_succ, spFlat_1 l i (by simpa using h)]
    simp
set_option maxRecDepth 100000 in
theorem spFlat_set0 : ∀ (l : List (Int × Int)) (i : Nat) (a : Int), (spFlat l).set (i * 2) (.int .i64 a) = spFlat (l.set i (a, (l.getD i (0, 0)).2))
  | [], i, a => rfl
  | s :: l, 0, a => by simp [spFlat_cons]
  | s :: l, i + 1, a => by
    rw [spFlat_cons, show (i + 1) * 2 = i * 2 + 1 + 1 by omega, List.set_cons_succ, List.set_cons_succ, spFlat_set0 l i a, List.set_cons_succ, spFlat_cons]
    simp
set_option maxRecDepth 100000 in
theorem spFlat_set1 : ∀ (l : List (Int × Int)) (i : Nat) (b : Int), (spFlat l).set (i * 2 + 1) (.int .i64 b) = spFlat (l.set i ((l.getD i (0, 0)).1, b))
  | [], i, a => rfl
  | s :: l, 0, a => by simp [spFlat_cons]
  | s :: l, i + 1, a => by
    rw [spFlat_cons, show (i + 1) * 2 + 1 = i * 2 + 1 + 1 + 1 by omega, List.set_cons_succ, List.set_cons_succ, spFlat_set1 l i a, List.set_cons_succ, spFlat_cons]
    simp
set_option maxRecDepth 100000 in
theorem spFlat_rep : ∀ n, spFlat (List.replicate n (0, 0)) = List.replicate (n * 2) (.int .i64 0)
  | 0 => rfl
  | n + 1 => by rw [List.replicate_succ, spFlat_cons, spFlat_rep n, show (n + 1) * 2 = n * 2 + 1 + 1 by omega, List.replicate_succ, List.replicate_succ]
set_option maxRecDepth 100000 in
theorem row_congr {w : World} {p : Nat} {e : TypeId} {xs ys : List Value} (h : RowAt w p e xs) (he : xs = ys) : RowAt w p e ys := he ▸ h
set_option maxRecDepth 100000 in
theorem info_parts' {P : Program} {t : TypeId} {z : Value} {s b : Nat} (h : (P.info? t).map (fun i => (i.zero, i.size, i.bytes)) = some (some z, s, b)) : ∃ i, P.info? t = some i ∧ i.zero = some z ∧ i.size = s ∧ i.bytes = b := by
  obtain ⟨i, hi, e⟩ := Option.map_eq_some_iff.1 h
  simp only [Prod.mk.injEq] at e
  exact ⟨i, hi, e.1, e.2.1, e.2.2⟩
set_option maxRecDepth 100000 in
theorem Try.infoSpan : (Try.prog.info? 117).map (fun i => (i.zero, i.size, i.bytes)) = some (some (.agg #[.int .i64 0, .int .i64 0]), 2, 16) := by kernel_rfl
set_option maxRecDepth 100000 in
theorem make_spans (n : Nat) (hn : n ≤ 1000000) (W : World) : (Instr.makeSlice 114 (.int .i64 (n : Int)) (.int .i64 (n : Int))).run Try.prog W =
      .ok (.slice (some ⟨W.heap.size, 0, none⟩) n n) (W.alloc (.cells (Array.replicate (n * 2) (Value.int .i64 0)) 117)) := by
  obtain ⟨i0, hi, hz0, hz1, hz2⟩ := info_parts' Try.infoSpan
  have h := run_make (P := Try.prog) W 114 117 i0 _ Try.underlying114 hi hz0 .i64 .i64 (n : Int) (n : Int) (by omega) (by omega) (by rw [hz2]; omega) (by omega)
  rw [hz1, Int.toNat_natCast] at h
  rw [h]
  congr 2
  have : madeCells (Value.agg #[.int .i64 0, .int .i64 0]).cells (n * 2) = (Array.replicate (n * 2) (Value.int .i64 0)) := by
    apply Array.ext
    · simp [madeCells]
    · intro i h1 h2
      have : i % 2 = 0 ∨ i % 2 = 1 := by omega
      rcases this with h | h <;> simp [madeCells, Value.cells, h]
  rw [this]
set_option maxRecDepth 100000 in
theorem rep_step {n j : Nat} (h : j < n) : (List.replicate j ((0 : Int), (31 : Int)) ++ List.replicate (n - j) (0, 0)).set j (0, 31) = List.replicate (j + 1) (0, 31) ++ List.replicate (n - (j + 1)) (0, 0) := by
  rw [List.set_append_right _ _ (by simp)]
  simp only [List.length_replicate, Nat.sub_self]
  rw [show n - j = (n - (j + 1)) + 1 by omega, List.replicate_succ, List.set_cons_zero, List.replicate_succ' (n := j)]
  simp
set_option maxRecDepth 100000 in
theorem rep_at {n j : Nat} (h : j < n) : (List.replicate j ((0 : Int), (31 : Int)) ++ List.replicate (n - j) (0, 0)).getD j (0, 0) = (0, 0) := by
  simp [List.getD, List.getElem?_append_right, List.getElem?_replicate, show 0 < n - j by omega]
/-- what spans hands back -/
def SpansPost (n : Nat) (g : List PC) (w : World) (e : Ending) (w' : World) : Prop :=
  ∃ p, e = .returned (.slice (some ⟨p, 0, none⟩) n n) ∧ RowAt w' p 117 (spFlat (spansM n g)) ∧ w.heap.size ≤ p ∧ Bel w w'
set_option maxRecDepth 100000 in
set_option maxHeartbeats 8000000 in
theorem spans_any (evs ini : Int) (n : Nat) (bv ev sv : Value) (g : List PC) (w : World) (hn : n ≤ 3) (h : ConsAt w w.heap.size sv g) (hl : g.length ≤ 1000000) (hg : ∀ c ∈ g, pcBad n c = false) :
    Calls Try.prog 55 #[.agg #[.int .i64 evs, .int .i64 n, .int .i64 ini, bv, ev], sv] w (SpansPost n g w) := by
  obtain ⟨A, c, rfl, hc, hA⟩ := h
  have HA := Lib.hid hA
  have HG := Lib.hid hg
  clear hA hg
  have hmk := make_spans n (by omega)
  go_enter Try.func55, Try.ntmps55
  go_upto_region 2 with (fail)
  have hp0 : w.heap.size ≤ w.heap.size + 1 := by omega
  have AR0 : RowAt (((w.alloc (.cells #[.int .i64 evs, .int .i64 n, .int .i64 ini, bv, ev] 25)).alloc (.cells (Array.replicate (n * 2) (Value.int .i64 0)) 117))) (w.heap.size + 1) 117 (spFlat (List.replicate 0 (0, 31) ++ List.replicate (n - 0) (0, 0))) := by
    have := RowAt.newRep (w.alloc (.cells #[.int .i64 evs, .int .i64 n, .int .i64 ini, bv, ev] 25)) 117 (n * 2) (.int .i64 0)
    simp [go_sem] at this
    simpa [spFlat_rep] using this
  generalize hW : World.alloc _ _ = W1 at *
  obtain ⟨x1, rfl⟩ : ∃ y : Ext w, W1 = y.w := ext_of (by rw [← hW]; exact (Bel.refl.alloc _).alloc _)
  clear hW hmk
  generalize w.heap.size + 1 = p at *
  go_wp2
  go_loopw [16] (fun si wr => ∃ (j : Nat) (z : Ext w), j ≤ n ∧ si = .int .i64 j ∧ wr = z.w ∧ RowAt z.w p 117 (spFlat (List.replicate j (0, 31) ++ List.replicate (n - j) (0, 0)))) (fun si _ => n - (intOf si).toNat)
  case atStart => exact ⟨0, x1, by omega, rfl, rfl, AR0⟩
  case round =>
    clear AR0
    obtain ⟨j, x, hj, rfl, rfl, AR⟩ := hrel
    by_cases hlt : j < n
    · have hll : j < (List.replicate j ((0 : Int), (31 : Int)) ++ List.replicate (n - j) (0, 0)).length := by simp; omega
      have c1 := AR.cell (spFlat_1 _ j hll)
      have f1 := AR.frozen (j * 2 + 1)
      have AR2 := row_congr (AR.set (j * 2 + 1) (.int .i64 31)) (by rw [spFlat_set1, rep_at hlt, rep_step hlt])
      rw [rep_at hlt] at c1
      simp only at c1
      replace AR2 := Lib.hid AR2
      have hb := x.bel
      replace hb := Lib.hid hb
      clear AR hll
      go_wp2
      go_roundw
      case rel => exact ⟨j + 1, ⟨_, hb.out.set (p := ⟨p, j * 2 + 1, none⟩) hp0 _⟩, by omega, by go_num, rfl, AR2.out⟩
      case measure => simp [intOf]; omega
    · obtain rfl : j = n := by omega
      have AR1 : RowAt x.w p 117 (spFlat (([] : List PC).foldl spansU (List.replicate j (0, 31)))) := row_congr AR (by simp)
      clear AR
      go_wp2
      go_loopw [26] (fun si wr => ∃ (k : Nat) (z : Ext w), k ≤ g.length ∧ si = .int .i64 k ∧ wr = z.w ∧ RowAt z.w p 117 (spFlat ((g.take k).foldl spansU (List.replicate j (0, 31))))) (fun si _ => g.length - (intOf si).toNat)
      case atStart => exact ⟨0, x, by omega, rfl, rfl, AR1⟩
      case round =>
        clear AR1
        obtain ⟨k, y, hk, rfl, rfl, AR⟩ := hrel
        by_cases hlk : k < g.length
        · have hbad := pcBad_false.mp (HG.out _ (pc_mem hlk))
          obtain ⟨b, off, rfl, hb, hA⟩ := HA.out (by omega)
          have hC := hA k hlk
          have HS : Hid ((g.take (k + 1)).foldl spansU (List.replicate j (0, 31)) = spansU ((g.take k).foldl spansU (List.replicate j (0, 31))) (pcAt g k)) := Lib.hid (by
            rw [List.take_succ_eq_append_getElem hlk, List.foldl_append]; simp [pcAt, List.getD, hlk])
          have hlen : ((g.take k).foldl spansU (List.replicate j (0, 31))).length = j := by rw [spansF_len]; simp
          generalize (g.take k).foldl spansU (List.replicate j (0, 31)) = L at *
          generalize pcAt g k = cc at *
          obtain ⟨ck, cl, cs, cv⟩ := cc
          obtain ⟨c0, c1, c2, c3⟩ := hC
          simp only at c0 c1 c2 c3 hbad
          obtain ⟨h1, h2, h3, h4⟩ := hbad
          obtain ⟨m, rfl⟩ : ∃ m : Nat, ck = (m : Int) + 1 := ⟨(ck - 1).toNat, by omega⟩
          have hm : m < j := by omega
          have r0 := AR.cell (spFlat_0 L m (by omega))
          have r1 := AR.cell (spFlat_1 L m (by omega))
          have f0 := AR.frozen (m * 2)
          have f1 := AR.frozen (m * 2 + 1)
          have hpy := AR.lt
          have HAR := Lib.hid AR
          have hu : spansU L ⟨(m : Int) + 1, cl, cs, cv⟩ = L.set m (spanU (L.getD m (0, 0)) ⟨(m : Int) + 1, cl, cs, cv⟩) := by
            unfold spansU
            simp only
            rw [show ((m : Int) + 1 - 1).toNat = m by omega]
          rw [hu] at HS
          obtain ⟨⟨lo, hi⟩, hLm⟩ : ∃ s, L.getD m (0, 0) = s := ⟨_, rfl⟩
          rw [hLm] at r0 r1 HS
          simp only at r0 r1
          have hby := Lib.hid y.bel
          replace HS := Lib.hid HS
          clear AR hu
          have hset0 : ∀ a, (spFlat L).set (m * 2) (.int .i64 a) = spFlat (L.set m (a, hi)) := fun a => by rw [spFlat_set0, hLm]
          have hset1 : ∀ a, (spFlat L).set (m * 2 + 1) (.int .i64 a) = spFlat (L.set m (lo, a)) := fun a => by rw [spFlat_set1, hLm]
          replace hset0 := Lib.hid hset0
          replace hset1 := Lib.hid hset1
          clear hLm hlen
          cases cl
          · cases cs
            all_goals
              go_upto_region 16 with (fail)
              go_region
              all_goals go_wp2
              all_goals go_roundw
              case rel =>
                refine ⟨k + 1, ⟨_, ((hby.out.set (p := ⟨p, m * 2 + 1, none⟩) hp0 _).alloc _).drew⟩, by omega, by go_num, rfl, row_congr (((HAR.out.set (m * 2 + 1) _).alloc _).drew) ?_⟩
                rw [hset1.out, HS.out.out]
                simp only [spanU]
                simp
              case measure => simp [intOf]; omega
          · cases cs
            all_goals
              go_upto_region 15 with (fail)
              go_region
              all_goals go_wp2
              all_goals go_roundw
              case rel =>
                refine ⟨k + 1, ⟨_, ((hby.out.set (p := ⟨p, m * 2, none⟩) hp0 _).alloc _).drew⟩, by omega, by go_num, rfl, row_congr (((HAR.out.set (m * 2) _).alloc _).drew) ?_⟩
                rw [hset0.out, HS.out.out]
                simp only [spanU]
                simp
              case measure => simp [intOf]; omega
        · obtain rfl : k = g.length := by omega
          rw [List.take_length] at AR
          have AR2 : RowAt y.w p 117 (spFlat (spansM j g)) := row_congr AR (by unfold spansM; simp)
          replace AR2 := Lib.hid AR2
          clear AR
          go_wp2
          go_ret
          exact ⟨p, rfl, AR2.out, hp0, y.bel⟩
end Go.Proofs.Ythidbmeocifkcaa
