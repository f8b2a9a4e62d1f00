/- enforce: machineOf. -/
import Derived.Test.YthidbmeocifkcaaZEkr
import Derived.Test.YthidbmeocifkcaaZEclone
import Derived.Test.YthidbmeocifkcaaG1
import Derived.Test.YthidbmeocifkcaaG15
import Derived.Test.YthidbmeocifkcaaZPspan
import Derived.Test.YthidbmeocifkcaaZTakes
import Derived.Deep.CutRange
import Derived.WalkMore
namespace Go.Proofs.Ythidbmeocifkcaa
open Go.RowKit
theorem srcOf_bools {w : World} {v : Value} {l : List Bool} (h : BoolsAt w w.heap.size v l) : SrcOf w v l.length (l.map Value.bool) := by
  obtain ⟨A, c, rfl, hc, h⟩ := h
  refine ⟨A, c, rfl, hc, fun hA => ?_, fun h0 => ?_⟩
  · rcases Nat.eq_zero_or_pos l.length with h0 | h0
    · exact h0
    · obtain ⟨b, off, e, _⟩ := h h0
      rw [hA] at e; cases e
  · obtain ⟨b, off, e, hb, hat⟩ := h h0
    refine ⟨b, off, e, hb, fun j u hj => ?_⟩
    obtain ⟨hl, he⟩ := List.getElem?_eq_some_iff.1 hj
    have hl' : j < l.length := by simpa using hl
    have := hat j hl'
    simp only [Nat.mul_one] at this
    rw [this, ← he]
    simp [List.getD, hl']
theorem srcOf_ints {w : World} {v : Value} {l : List Int} (h : IntsAt w w.heap.size v l) : SrcOf w v l.length (l.map (Value.int .i64)) := by
  obtain ⟨A, c, rfl, hc, h⟩ := h
  refine ⟨A, c, rfl, hc, fun hA => ?_, fun h0 => ?_⟩
  · rcases Nat.eq_zero_or_pos l.length with h0 | h0
    · exact h0
    · obtain ⟨b, off, e, _⟩ := h h0
      rw [hA] at e; cases e
  · obtain ⟨b, off, e, hb, hat⟩ := h h0
    refine ⟨b, off, e, hb, fun j u hj => ?_⟩
    obtain ⟨hl, he⟩ := List.getElem?_eq_some_iff.1 hj
    have hl' : j < l.length := by simpa using hl
    rw [hat j hl', ← he]
    simp [List.getD, hl']
theorem boolsAt_own {w : World} {base : Nat} {v : Value} {l : List Bool} {e : TypeId} (ho : w.ownsRow base e 1 v l.length (l.map Value.bool)) : BoolsAt w w.heap.size v l := by
  rcases Nat.eq_zero_or_pos l.length with h0 | h0
  · rcases ho.2 with ⟨rfl, _⟩ | ⟨g, cap, cur, rfl, h2, h3, h4, _⟩
    · exact ⟨none, 0, by rw [h0], by omega, fun h => by omega⟩
    · exact ⟨_, cap, rfl, h4, fun h => by omega⟩
  · rcases ho.2 with ⟨_, h⟩ | ⟨g, cap, cur, rfl, h2, h3, h4, _⟩
    · omega
    · refine ⟨_, cap, rfl, h4, fun _ => ⟨g, 0, rfl, Blk1.lt h3, fun i hi => ?_⟩⟩
      have := ho.cells (g := g) rfl i (.bool (l.getD i false)) (by simp [List.getD, hi])
      rw [add_ofs] at this
      simpa using this
theorem own_mono {w : World} {B B' size n : Nat} {e : TypeId} {v : Value} {xs : List Value} (h : w.ownsRow B e size v n xs) (hb : B' ≤ B) : w.ownsRow B' e size v n xs := by
  refine ⟨h.1, ?_⟩
  rcases h.2 with h1 | ⟨g, cap, cur, hv, h2, h3⟩
  · exact .inl h1
  · exact .inr ⟨g, cap, cur, hv, Nat.le_trans hb h2, h3⟩
theorem cell_far {w : World} {b o : Nat} {u : Value} (h : w.cell? ⟨b, o, none⟩ = some u) {c : Nat} (hne : b ≠ c) (j : Nat) (v : Value) : (w.setCell ⟨c, j, none⟩ v).cell? ⟨b, o, none⟩ = some u :=
  (cell_block2 (Below.heap_setCell w ⟨c, j, none⟩ v b hne)).trans h
/-- the machine while its constants are looked at -/
structure Mo1 (B : Nat) (W : World) (bm bq : Nat) (gr : Value) (gs : List Bool) (M : Int) : Prop where
  om : B ≤ bm
  oq : B ≤ bq
  row : RowAt W bm 92 [gr, .map (some bq), .int .i64 M]
  gd : W.ownsRow B 4 1 gr gs.length (gs.map Value.bool)
theorem Mo1.blk {B : Nat} {W W' : World} {bm bq : Nat} {gr : Value} {gs : List Bool} {M : Int} (h : Mo1 B W bm bq gr gs M) (hm : W'.heap[bm]? = W.heap[bm]?) (hg : ∀ (g : Nat) (c : Array Value), W.heap[g]? = some (Obj.cells c 4 (0, 0)) → W'.heap[g]? = W.heap[g]?) : Mo1 B W' bm bq gr gs M :=
  ⟨h.om, h.oq, hm.trans h.row, own_blk h.gd (fun g hb => by obtain ⟨c, hc⟩ := own_cells h.gd hb; exact hg g c hc)⟩
theorem Mo1.bel {B : Nat} {W W' : World} {bm bq : Nat} {gr : Value} {gs : List Bool} {M : Int} (h : Mo1 B W bm bq gr gs M) (hb : Bel W W') : Mo1 B W' bm bq gr gs M :=
  h.blk (Below.block hb _ h.row.lt) (fun g _ hc => Below.block hb g (Blk.lt hc))
theorem Mo1.set {B : Nat} {W : World} {bm bq : Nat} {gr : Value} {gs : List Bool} {M : Int} (h : Mo1 B W bm bq gr gs M) (M' : Int) : Mo1 B (W.setCell ⟨bm, 2, none⟩ (.int .i64 M')) bm bq gr gs M' :=
  ⟨h.om, h.oq, h.row.set 2 (.int .i64 M'), own_blk h.gd (fun g hb => by
    obtain ⟨c, hc⟩ := own_cells h.gd hb
    refine Below.heap_setCell W ⟨bm, 2, none⟩ _ g (fun e => ?_)
    have hr := h.row
    unfold RowAt at hr
    rw [← show g = bm from e, hc] at hr
    simp at hr)⟩
theorem VMap.far {P : Program} {k : TypeId} {W : World} {b n bm : Nat} {z : Value} {m : Lit → Value} {e : TypeId} {xs : List Value} (h : VMap W P k b n z m) (hr : RowAt W bm e xs) (j : Nat) (v : Value) : VMap (W.setCell ⟨bm, j, none⟩ v) P k b n z m :=
  h.block (by
    obtain ⟨es, c, hb⟩ := vmap_blk h
    refine Below.heap_setCell W ⟨bm, j, none⟩ v b (fun e => ?_)
    unfold RowAt at hr
    rw [← show b = bm from e, hb] at hr
    cases hr)
theorem mostG_snoc {m : Int} {g : List PC} {k : Nat} (hk : k < g.length) : mostG m (g.take (k + 1)) = mx (mostG m (g.take k)) (pcAt g k).c := by
  unfold mostG
  rw [List.take_succ_eq_append_getElem hk, List.foldl_append]
  simp [pcAt, List.getD, hk]
theorem mostE_snoc {m : Int} {g : List PE} {k : Nat} (hk : k < g.length) : mostE m (g.take (k + 1)) = mostG (mostE m (g.take k)) (peAt g k).grd := by
  unfold mostE
  rw [List.take_succ_eq_append_getElem hk, List.foldl_append]
  simp [peAt, List.getD, hk]
/-- the cells of a move -/
def mvL (L : List (Int × Int)) (rv : Value) (tz : Int) : List Value := spFlat L ++ [rv, .int .i64 tz]
theorem spFlat_len : ∀ (l : List (Int × Int)), (spFlat l).length = l.length * 2
  | [] => rfl
  | s :: l => by rw [spFlat_cons]; simp only [List.length_cons]; rw [spFlat_len l]; omega
section
variable {L : List (Int × Int)} {rv : Value} {tz : Int} {i : Nat}
set_option maxRecDepth 100000 in
theorem mvL_0 (h : i < L.length) : (mvL L rv tz)[i * 2]? = some (.int .i64 (L.getD i (0, 0)).1) := by
  unfold mvL; rw [List.getElem?_append_left (by rw [spFlat_len]; omega), spFlat_0 L i h]
set_option maxRecDepth 100000 in
theorem mvL_1 (h : i < L.length) : (mvL L rv tz)[i * 2 + 1]? = some (.int .i64 (L.getD i (0, 0)).2) := by
  unfold mvL; rw [List.getElem?_append_left (by rw [spFlat_len]; omega), spFlat_1 L i h]
set_option maxRecDepth 100000 in
theorem mvL_set0 (h : i < L.length) (a : Int) : (mvL L rv tz).set (i * 2) (.int .i64 a) = mvL (L.set i (a, (L.getD i (0, 0)).2)) rv tz := by
  unfold mvL; rw [List.set_append_left _ _ (by rw [spFlat_len]; omega), spFlat_set0]
set_option maxRecDepth 100000 in
theorem mvL_set1 (h : i < L.length) (a : Int) : (mvL L rv tz).set (i * 2 + 1) (.int .i64 a) = mvL (L.set i ((L.getD i (0, 0)).1, a)) rv tz := by
  unfold mvL; rw [List.set_append_left _ _ (by rw [spFlat_len]; omega), spFlat_set1]
end
theorem repT_step {n j : Nat} {T : Int} (h : j < n) : (List.replicate j ((0 : Int), T) ++ List.replicate (n - j) (0, 0)).set j (0, T) = List.replicate (j + 1) (0, T) ++ List.replicate (n - (j + 1)) (0, 0) := by
  rw [List.set_append_right _ _ (by simp)]
  simp only [List.length_replicate, Nat.sub_self]
  rw [show n - j = (n - (j + 1)) + 1 by omega, List.replicate_succ, List.set_cons_zero, List.replicate_succ' (n := j)]
  simp
theorem repT_at {n j : Nat} {T : Int} (h : j < n) : (List.replicate j ((0 : Int), T) ++ List.replicate (n - j) (0, 0)).getD j (0, 0) = (0, 0) := by
  simp [List.getD, List.getElem?_append_right, List.getElem?_replicate, show 0 < n - j by omega]
theorem repT_len {n j : Nat} {T : Int} (h : j ≤ n) : (List.replicate j ((0 : Int), T) ++ List.replicate (n - j) (0, 0)).length = n := by simp; omega
theorem mvL_mvC {M : Int} {y : PE} {rv : Value} : mvL (spans3 M y.grd) rv (PE.to y) = mvC M (y, rv) := by
  unfold mvC
  have h : (spans3 M y.grd).length = 3 := by unfold spans3; rw [spansF_len]; simp
  generalize spans3 M y.grd = sp at *
  match sp, h with
  | [a, b, c], _ => rfl
theorem two_set {W : World} {b B size n : Nat} {e e2 : TypeId} {v : Value} {xs ys : List Value} (hne : e2 ≠ e) (h : RowAt W b e2 xs ∧ W.ownsRow B e size v n ys ∧ B ≤ b) (j : Nat) (u : Value) : RowAt (W.setCell ⟨b, j, none⟩ u) b e2 (xs.set j u) ∧ (W.setCell ⟨b, j, none⟩ u).ownsRow B e size v n ys ∧ B ≤ b :=
  ⟨h.1.set j u, own_blk h.2.1 (fun g hg => by
    obtain ⟨c, hc⟩ := own_cells h.2.1 hg
    refine Below.heap_setCell W ⟨b, j, none⟩ u g (fun e => ?_)
    have hr := h.1
    unfold RowAt at hr
    rw [← show g = b from e, hc] at hr
    simp at hr
    exact hne hr.2.symm), h.2.2⟩
theorem not_map {W : World} {B size n bq : Nat} {e : TypeId} {v : Value} {xs : List Value} {es : Array MapEntry} {c : Nat} (h : W.ownsRow B e size v n xs) (hb : W.heap[bq]? = some (.map es c)) : some bq ≠ v.ownBlock := fun e => by
  obtain ⟨cur, hc⟩ := own_cells h e.symm
  rw [hb] at hc
  cases hc
theorem mo_fin {w w4 w1 w5 w6 : World} {bm bq i g cap nl : Nat} {gr rv : Value} {gs : List Bool} {M : Int} {m m' : Lit → Value} {es : List PE} {y : PE} {ql : List (PE × Value)} (hB : Bel w w4) (HM : Mo1 w.heap.size w4 bm bq gr gs M) (HK : MoK w.heap.size w4 bq i m es M) (hnl : (movesOf es y.frm y.ev).length = nl) (hf : i64 y.frm) (he : i64 y.ev)
    (hg1 : w4.grownBy w1 (some bq)) (hgr : w1.grownBy w5 (m (klit 100 [y.frm, y.ev])).ownBlock) (hg6 : w5.grownBy w6 (some bq))
    (hq1 : ql.map (·.1) = movesOf es y.frm y.ev) (hq3 : ∀ x ∈ ql, RstOwn w4 w.heap.size x) (hmv : (∃ es c, w5.heap[bq]? = some (.map es c)))
    (hown : w5.ownsRow w.heap.size 98 8 (.slice (some ⟨g, 0, none⟩) (nl + 1) cap) (nl + 1) (ql.flatMap (mvC M) ++ mvC M (y, rv)))
    (hl : (m (klit 100 [y.frm, y.ev])).ownBlock = some g ∨ g = w1.heap.size) (hr : RstOwn w4 w.heap.size (y, rv))
    (hV : VMap w6 Try.prog 100 bq (i + 1) (.slice none 0 0) m') (hmk : m' (klit 100 [y.frm, y.ev]) = .slice (some ⟨g, 0, none⟩) (nl + 1) cap) (hmo : ∀ x, x ≠ klit 100 [y.frm, y.ev] → m' x = m x) :
    Bel w w6 ∧ Mo1 w.heap.size w6 bm bq gr gs M ∧ MoK w.heap.size w6 bq (i + 1) m' (es ++ [y]) M := by
  subst hnl
  obtain ⟨xs, hxs⟩ := (HK.row y.frm y.ev hf he).own
  have hk : ∀ b, b < w4.heap.size → b ≠ bq → some b ≠ (m (klit 100 [y.frm, y.ev])).ownBlock → w6.heap[b]? = w4.heap[b]? := fun b h1 h2 h3 =>
    (hg6.block b (Nat.lt_of_lt_of_le h1 (Nat.le_trans hg1.size hgr.size)) (fun e => h2 (by injection e))).trans
      ((hgr.block b (Nat.lt_of_lt_of_le h1 hg1.size) h3).trans (hg1.block b h1 (fun e => h2 (by injection e))))
  obtain ⟨es0, c0, hbq⟩ := vmap_blk HK.mp
  have hty : ∀ (b : Nat) (c : Array Value) (e : TypeId), w4.heap[b]? = some (Obj.cells c e (0, 0)) → e ≠ 98 → w6.heap[b]? = w4.heap[b]? := fun b c e hb hne =>
    hk b (Blk.lt hb) (fun e2 => by subst e2; rw [hbq] at hb; cases hb) (fun e2 => by
      obtain ⟨cur, hc⟩ := own_cells hxs e2.symm
      rw [hb] at hc
      simp at hc
      exact hne hc.2)
  have hb5 : Bel w w5 := bel_gro (bel_gro hB hg1 (fun k hk => by injection hk with hk; subst hk; exact HK.ob)) hgr (fun k hk => (hxs.lt k hk).1)
  refine ⟨bel_gro hb5 hg6 (fun k hk => by injection hk with hk; subst hk; exact HK.ob), HM.blk (hty bm _ _ HM.row (by decide)) (fun g c hg => hty g c _ hg (by decide)), ?_⟩
  obtain ⟨es5, c5, hb5q⟩ := hmv
  have hgq : g ≠ bq := fun e => by subst e; exact not_map hown hb5q rfl
  have hglt : g < w5.heap.size := (hown.lt g rfl).2
  exact HK.done (g := g) hf he hk ⟨ql, hq1, hq3, own_blk hown (fun b hb => by
    obtain rfl : g = b := by simpa [Value.ownBlock] using hb
    exact hg6.block g hglt (fun e => hgq (by injection e)))⟩ hr rfl (hl.imp id (fun e => by have := hg1.size; omega)) hV hmk hmo
def MachPost (p : PP) (w : World) (en : Ending) (w' : World) : Prop := ∃ bm, en = .returned (.pointer (some ⟨bm, 0, none⟩)) ∧ w.heap.size ≤ bm ∧ MachAt w' bm p ∧ Bel w w'
theorem Try.infoMove : (Try.prog.info? 98).map (fun i => (i.zero, i.size, i.bytes)) = some (some (.agg #[.int .i64 0, .int .i64 0, .int .i64 0, .int .i64 0, .int .i64 0, .int .i64 0, .slice none 0 0, .int .i64 0]), 8, 80) := by kernel_rfl
set_option maxRecDepth 100000 in
set_option maxHeartbeats 16000000 in
theorem mach_any (p : PP) (gv ev : Value) (w : World) (h : PropAt w w.heap.size gv ev p) (hs : PSized p) (hn : p.clks ≤ 3) (hv : ∀ y ∈ p.edges, edgeBad p y = false) :
    Calls Try.prog 28 #[propV p gv ev] w (MachPost p w) := by
  obtain ⟨A1, k1, rfl, hk1⟩ := h.e.form
  have HE := Lib.hid h.e
  have HG := Lib.hid h.g
  have HV := Lib.hid hv
  have HCL := Lib.hid (fun w1 (hB : Bel w w1) => cloneBool_any gv p.good.length (p.good.map Value.bool) w1 (srcOf_bools (h.g.keep hB.keeps hB.le)) (by simp) (by intro u hu; obtain ⟨b, _, rfl⟩ := List.mem_map.mp hu; rfl) hs.g)
  have hes := hs.e
  have HS := Lib.hid hs
  clear h hv hs
  unfold propV
  go_enter Try.func28, Try.ntmps28
  go_upto_region 1 with (fail)
  generalize hW : World.alloc _ _ = W1 at *
  obtain ⟨x1, rfl⟩ : ∃ y : Ext w, W1 = y.w := ext_of (by rw [← hW]; exact Bel.refl.alloc _)
  have pb : RowAt x1.w w.heap.size 25 [.int .i64 p.evs, .int .i64 p.clks, .int .i64 p.ini, gv, .slice A1 p.edges.length k1] := by rw [← hW]; exact RowAt.new _ _ _
  clear hW
  obtain ⟨bp, hbp⟩ : ∃ b, b = w.heap.size := ⟨_, rfl⟩
  rw [← hbp] at pb ⊢
  have b3 := pb.cell (i := 3) rfl
  have b4 := pb.cell (i := 4) rfl
  have bz := pb.lt
  clear pb hbp
  go_wp2_with fail
  refine (HCL.out x1.w x1.bel).mono ?_
  rintro _ w2 ⟨gr, rfl, hown, hB⟩
  replace b4 := (hB.cells _ _ bz).trans b4
  replace bz := Nat.lt_of_lt_of_le bz hB.le
  replace hown := own_mono hown x1.bel.le
  obtain ⟨Ag, cg, rfl, _⟩ := own_slice hown
  obtain ⟨x2, rfl⟩ := ext_of (x1.bel.trans hB)
  clear hB b3 x1 HCL
  have hmk : (Instr.makeMap 90 none).run Try.prog x2.w = .ok (.map (some x2.w.heap.size)) (x2.w.alloc (.map #[] 0)) := rfl
  go_upto_region 2 with (fail)
  clear hmk
  have M0 : Mo1 w.heap.size ((x2.w.alloc (.map #[] 0)).alloc (.cells #[.slice Ag p.good.length cg, .map (some x2.w.heap.size), .int .i64 0] 92)) (x2.w.heap.size + 1) x2.w.heap.size (.slice Ag p.good.length cg) p.good (mostE 0 (p.edges.take 0)) := by
    refine ⟨Nat.le_succ_of_le x2.bel.le, x2.bel.le, ?_, (hown.alloc _).alloc _⟩
    have := RowAt.new (x2.w.alloc (.map #[] 0)) 92 [.slice Ag p.good.length cg, .map (some x2.w.heap.size), .int .i64 0]
    simpa [go_sem, mostE] using this
  have V0 : VMap ((x2.w.alloc (.map #[] 0)).alloc (.cells #[.slice Ag p.good.length cg, .map (some x2.w.heap.size), .int .i64 0] 92)) Try.prog 100 x2.w.heap.size 0 (.slice none 0 0) (fun _ => .slice none 0 0) :=
    (VMap.made x2.w Try.prog 100 (.slice none 0 0)).bel (Bel.refl.alloc _)
  have hbz2 := bz
  have hB2 : Bel x2.w ((x2.w.alloc (.map #[] 0)).alloc (.cells #[.slice Ag p.good.length cg, .map (some x2.w.heap.size), .int .i64 0] 92)) := (Bel.refl.alloc _).alloc _
  generalize hW : World.alloc (World.alloc _ _) _ = W3 at *
  clear hW hown
  replace b4 := (hB2.cells _ _ bz).trans b4
  replace bz := Nat.lt_of_lt_of_le bz hB2.le
  have hBW := x2.bel.trans hB2
  have HNB : Hid (bp ≠ x2.w.heap.size + 1) := Lib.hid (by omega)
  clear hbz2
  generalize x2.w.heap.size + 1 = bm at *
  generalize x2.w.heap.size = bq at *
  clear hB2 x2
  obtain ⟨x3, rfl⟩ := ext_of hBW
  clear hBW
  go_wp2
  go_loopw [26] (fun si wr => ∃ (i : Nat) (z : Ext w), i ≤ p.edges.length ∧ si = .int .i64 i ∧ wr = z.w ∧ Mo1 w.heap.size z.w bm bq (.slice Ag p.good.length cg) p.good (mostE 0 (p.edges.take i)) ∧ VMap z.w Try.prog 100 bq 0 (.slice none 0 0) (fun _ => .slice none 0 0) ∧ z.w.cell? ⟨bp, 4, none⟩ = some (.slice A1 p.edges.length k1) ∧ bp < z.w.heap.size) (fun si _ => p.edges.length - (intOf si).toNat)
  case atStart => exact ⟨0, x3, by omega, rfl, rfl, M0, V0, b4, bz⟩
  case round =>
    clear M0 V0 b4 bz x3
    obtain ⟨i, x, hi, rfl, rfl, M1, V1, b4, bz⟩ := hrel
    by_cases hli : i < p.edges.length
    · have hild : decide ((i : Int) < (p.edges.length : Int)) = true := by simp; omega
      have hiL : (i : Int) < (p.edges.length : Int) := by omega
      obtain ⟨b, off, rfl, hb, hA⟩ := HE.out.at_ (by omega)
      obtain ⟨cv, rv, ⟨c0, c1, c2, c3, c4⟩, hcv, hrv⟩ := hA i hli
      obtain ⟨B2, m2, rfl, _⟩ := hcv.form
      obtain ⟨B5, m5, rfl, _⟩ := hrv.form
      have hgl := (HS.out.x _ (pe_mem hli)).1
      have HCV := Lib.hid hcv
      have HMS := Lib.hid (mostE_snoc (m := 0) hli)
      have hbz := ext_lt x hb
      clear hA hrv hcv
      go_upto_region 5 with (fail)
      generalize hW : World.alloc x.w _ = wd at *
      have hB : Bel x.w wd := by rw [← hW]; exact Bel.refl.alloc _
      have rb : RowAt wd x.w.heap.size 55 [.int .i64 (peAt p.edges i).frm, .int .i64 (PE.to (peAt p.edges i)), .int .i64 (peAt p.edges i).ev, .slice B2 (peAt p.edges i).grd.length m2, .slice B5 (peAt p.edges i).rst.length m5] := by rw [← hW]; exact RowAt.new _ _ _
      have HM := Lib.hid (M1.bel hB)
      have HVM := Lib.hid (V1.bel hB)
      have HB4 := Lib.hid ((hB.cells _ _ bz).trans b4)
      have HBZ := Lib.hid (Nat.lt_of_lt_of_le bz hB.le)
      have HBD := Lib.hid (x.bel.trans hB)
      clear hW hB M1 V1 b4 bz
      have r3 := rb.cell (i := 3) rfl
      have rz := rb.lt
      generalize x.w.heap.size = be at *
      clear rb x c0 c1 c2 c3 c4 hbz
      go_wp2
      clear r3 rz
      generalize (peAt p.edges i).grd = gd at *
      go_loopw [33] (fun sk wr => ∃ (k : Nat) (z : Ext w), k ≤ gd.length ∧ sk = .int .i64 k ∧ wr = z.w ∧ Mo1 w.heap.size z.w bm bq (.slice Ag p.good.length cg) p.good (mostG (mostE 0 (p.edges.take i)) (gd.take k)) ∧ VMap z.w Try.prog 100 bq 0 (.slice none 0 0) (fun _ => .slice none 0 0) ∧ z.w.cell? ⟨bp, 4, none⟩ = some (.slice (some ⟨b, off, none⟩) p.edges.length k1) ∧ bp < z.w.heap.size) (fun sk _ => gd.length - (intOf sk).toNat)
      case atStart => exact ⟨0, ⟨wd, HBD.out⟩, by omega, rfl, rfl, HM.out, HVM.out, HB4.out, HBZ.out⟩
      case round =>
        clear HM HVM HB4 HBZ HBD
        obtain ⟨k, z, hk, rfl, rfl, M1, V1, b4, bz⟩ := hrel
        by_cases hlk : k < gd.length
        · have hkld : decide ((k : Int) < (gd.length : Int)) = true := by simp; omega
          have hkL : (k : Int) < (gd.length : Int) := by omega
          obtain ⟨b3, off3, rfl, hb3, hA3⟩ := HCV.out.at_ (by omega)
          obtain ⟨d0, d1, d2, d3⟩ := hA3 k hlk
          have hbz3 := ext_lt z hb3
          have HGS := Lib.hid (mostG_snoc (m := mostE 0 (p.edges.take i)) hlk)
          clear hA3
          go_upto_region 8 with (fail)
          generalize hW : World.alloc z.w _ = wx at *
          have hB : Bel z.w wx := by rw [← hW]; exact Bel.refl.alloc _
          have rb : RowAt wx z.w.heap.size 68 [.int .i64 (pcAt gd k).clk, .bool (pcAt gd k).low, .bool (pcAt gd k).str, .int .i64 (pcAt gd k).c] := by rw [← hW]; exact RowAt.new _ _ _
          have HM := Lib.hid (M1.bel hB)
          have HVM := Lib.hid (V1.bel hB)
          have HB4 := Lib.hid ((hB.cells _ _ bz).trans b4)
          have HBZ := Lib.hid (Nat.lt_of_lt_of_le bz hB.le)
          have HBD := Lib.hid (z.bel.trans hB)
          clear hW hB M1 V1 b4 bz d0 d1 d2 d3 hbz3
          have r3 := rb.cell (i := 3) rfl
          have rz := rb.lt
          have m2 := HM.out.row.cell (i := 2) rfl
          have mz := HM.out.row.lt
          generalize z.w.heap.size = bc at *
          clear rb z
          generalize mostG (mostE 0 (p.edges.take i)) (gd.take k) = M at *
          generalize (pcAt gd k).c = cc at *
          (refine wp_region_qtail 10 (wb := wx) (by (repeat (first | exact Ext.bel _ | exact Bel.refl | refine Bel.alloc ?_ _ | refine Bel.drew ?_ | refine Bel.drewN ?_ _))) (by kernel_rfl) (by kernel_rfl) ?_; simp only [List.take_succ_cons, List.take_zero, List.drop_succ_cons, List.drop_zero]; (repeat (any_goals (first | go_big_quiet_step (fail) | quiet_step (fail) | (refine wpQuiet_step (fun K hK => ?_); go_simp; split <;> (refine hK _ ?_; clear hK K))))); all_goals (refine wpQuiet_nil ?_; intro _ hw'; obtain ⟨y, hw''⟩ := hw'; subst hw''))
          have f2 := (HM.out.bel y.bel).row.frozen 2
          have fz := (HM.out.bel y.bel).row.lt
          have HM2 := Lib.hid ((HM.out.bel y.bel).set (if M < cc then cc else M))
          have HVM2 := Lib.hid ((HVM.out.bel y.bel).far (HM.out.bel y.bel).row 2 (.int .i64 (if M < cc then cc else M)))
          have HB42 := Lib.hid (cell_far (y.bel.cells _ _ HBZ.out |>.trans HB4.out) HNB.out 2 (.int .i64 (if M < cc then cc else M)))
          have HBD2 := Lib.hid ((HBD.out.trans y.bel).set (p := ⟨bm, 2, none⟩) HM.out.om (.int .i64 (if M < cc then cc else M)))
          have HBZ2 : Hid (bp < (y.w.setCell ⟨bm, 2, none⟩ (.int .i64 (if M < cc then cc else M))).heap.size) := Lib.hid (by have := Nat.lt_of_lt_of_le HBZ.out y.bel.le; simpa [World.setCell] using this)
          clear r3 rz
          go_wp2
          go_roundw
          case rel => exact ⟨k + 1, ⟨_, HBD2.out⟩, by omega, by go_num, rfl, by rw [HGS.out]; exact HM2.out, HVM2.out, HB42.out, HBZ2.out⟩
          case measure => simp [intOf]; omega
        · obtain rfl : k = gd.length := by omega
          have hkld : decide ((gd.length : Int) < (gd.length : Int)) = false := by simp
          rw [List.take_length, ← HMS.out] at M1
          go_wp2
          go_roundw
          case rel => exact ⟨i + 1, z, by omega, by go_num, rfl, M1, V1, b4, bz⟩
          case measure => simp [intOf]; omega
    · obtain rfl : i = p.edges.length := by omega
      have hild : decide ((p.edges.length : Int) < (p.edges.length : Int)) = false := by simp
      rw [List.take_length] at M1
      go_wp2
      have HMM : mostE 0 p.edges = mostM p := rfl
      rw [HMM] at M1
      have K0 : MoK w.heap.size x.w bq 0 (fun _ => .slice none 0 0) (p.edges.take 0) (mostM p) := MoK.start M1.oq V1
      have hM0 : 0 ≤ mostM p := (mostE_le p.edges 0).1
      have hM1 : mostM p ≤ 30 := (mostE_le p.edges 0).2.2 30 (by omega) (fun e he c hc => by have := pcBad_false.mp (edge_cons (HV.out e he) c hc); omega)
      clear V1 b4 bz HMM
      generalize hMM : mostM p = M at *
      have HMQ := Lib.hid hMM
      clear hMM
      go_loopw [52] (fun si wr => ∃ (i : Nat) (z : Ext w) (m : Lit → Value), i ≤ p.edges.length ∧ si = .int .i64 i ∧ wr = z.w ∧ Mo1 w.heap.size z.w bm bq (.slice Ag p.good.length cg) p.good M ∧ MoK w.heap.size z.w bq i m (p.edges.take i) M) (fun si _ => p.edges.length - (intOf si).toNat)
      case atStart => exact ⟨0, x, _, by omega, rfl, rfl, M1, K0⟩
      case round =>
        clear M1 K0 x
        obtain ⟨i, x, mp, hi, rfl, rfl, M1, K1⟩ := hrel
        by_cases hli : i < p.edges.length
        · have hild : decide ((i : Int) < (p.edges.length : Int)) = true := by simp; omega
          have hiL : (i : Int) < (p.edges.length : Int) := by omega
          obtain ⟨b, off, rfl, hb, hA⟩ := HE.out.at_ (by omega)
          obtain ⟨cv, rv, ⟨c0, c1, c2, c3, c4⟩, hcv, hrv⟩ := hA i hli
          obtain ⟨B2, m2, rfl, _⟩ := hcv.form
          obtain ⟨B5, m5, rfl, _⟩ := hrv.form
          have hgl := (HS.out.x _ (pe_mem hli)).1
          have HRL := Lib.hid (HS.out.x _ (pe_mem hli)).2
          have HCV := Lib.hid hcv
          have HWF := Lib.hid (HS.out.wf.l _ (pe_mem hli))
          have HEC := Lib.hid (edge_cons (HV.out _ (pe_mem hli)))
          have HSN := Lib.hid (pe_snoc hli)
          have HCLI := Lib.hid (fun w1 (hB : Bel w w1) => cloneIntK_any (.slice B5 (peAt p.edges i).rst.length m5) (peAt p.edges i).rst.length ((peAt p.edges i).rst.map (Value.int .i64)) w1 (srcOf_ints (hrv.keep hB.keeps hB.le)) (by simp) (by intro u hu; obtain ⟨b, _, rfl⟩ := List.mem_map.mp hu; rfl) HRL.out)
          have hbz := ext_lt x hb
          clear hA hcv hrv
          generalize hye : peAt p.edges i = y at *
          go_upto_region 14 with (fail)
          generalize hW : World.alloc x.w _ = wd at *
          have hB : Bel x.w wd := by rw [← hW]; exact Bel.refl.alloc _
          have rb : RowAt wd x.w.heap.size 55 [.int .i64 y.frm, .int .i64 (PE.to y), .int .i64 y.ev, .slice B2 y.grd.length m2, .slice B5 y.rst.length m5] := by rw [← hW]; exact RowAt.new _ _ _
          have HXW := Lib.hid hB
          have HBD := Lib.hid (x.bel.trans hB)
          have HK1 := Lib.hid K1
          have HM1 := Lib.hid M1
          clear hW hB M1 K1 c0 c1 c2 c3 c4 hbz
          have r1 := rb.cell (i := 1) rfl
          have r4 := rb.cell (i := 4) rfl
          have rz := rb.lt
          have HRB := Lib.hid rb
          have hlt0 : x.w.heap.size < wd.heap.size := rz
          generalize x.w.heap.size = be at *
          clear rb
          go_cut [10] from 56 to 157 (fun s10 wx => ∃ (q : Nat) (z : Ext wd) (A9 : Option Addr) (c9 : Nat), s10 = .pointer (some ⟨q, 0, none⟩) ∧ wx = z.w ∧ wd.heap.size ≤ q ∧ RowAt z.w q 98 (mvL (List.replicate 3 (0, 0)) (.slice A9 y.rst.length c9) (PE.to y)) ∧ RstOwn z.w wd.heap.size (y, .slice A9 y.rst.length c9))
          case first =>
            (refine wp_region_E 7 none (by kernel_rfl) ?_; refine anyE_takes [0, 1, 2, 3] (fun _ _ _ _ _ h => h) ⟨⟨_, gro_drew (gro_refl _)⟩, rfl⟩ (by kernel_rfl) (by rfl) ?_; simp only [opsOf, List.filterMap_cons, List.filterMap_nil, List.getElem?_toArray, List.getElem?_cons_succ, List.getElem?_cons_zero, List.foldl_cons, List.foldl_nil]; (repeat (any_goals (first | go_big_quiet_step (fail) | quiet_step (fail)))); refine wpQuiet_nil ?_)
            have G0 : Hid (wd.grownBy wd.drew none) := Lib.hid (gro_drew (gro_refl _))
            generalize wd.drew = wc at *
            refine anyE_two 4 6 _ _ (by kernel_rfl) (by rfl) (by rfl) ?_ ?_
            · intro K hK
              rw [if_pos (by rfl)]
              go_simp
              refine (HCLI.out wc (HBD.out.trans (gro_bel G0.out))).mono ?_
              rintro _ w4 ⟨rv, rfl, hown, hB⟩
              obtain ⟨A9, c9, rfl, _⟩ := own_slice hown
              have G1 : Hid (wd.grownBy w4 none) := Lib.hid (G0.out.trans ⟨hB.os, hB.tape, hB.output, hB.size, fun k hk _ => hB.block k hk⟩)
              refine hK _ _ (fun _ => ⟨⟨_, G1.out⟩, rfl⟩) ?_
              clear hK K
              have HO := Lib.hid (own_mono hown G0.out.size)
              clear hown hB
              (refine anyE_takes [5] (fun _ _ _ _ _ h => h) ⟨⟨_, G1.out⟩, rfl⟩ (by kernel_rfl) (by rfl) ?_; simp only [opsOf, List.filterMap_cons, List.filterMap_nil, List.getElem?_toArray, List.getElem?_cons_succ, List.getElem?_cons_zero, List.foldl_cons, List.foldl_nil]; (repeat (any_goals (first | go_big_quiet_step (fail) | quiet_step (fail)))); refine wpQuiet_nil ?_)
              (refine anyE_one 6 _ (by kernel_rfl) (by rfl) (fun K hK => ?_))
              go_simp
              have hal : w4.heap.size < (w4.alloc (.cells #[.int .i64 0, .int .i64 0, .int .i64 0, .int .i64 0, .int .i64 0, .int .i64 0, .slice none 0 0, .int .i64 0] 98)).heap.size := by simp [go_sem]
              refine hK _ _ (fun _ => ⟨⟨_, gro_alloc G1.out _⟩, rfl⟩) ?_
              clear hK K
              have HR := Lib.hid (RowAt.new w4 98 [.int .i64 0, .int .i64 0, .int .i64 0, .int .i64 0, .int .i64 0, .int .i64 0, .slice none 0 0, .int .i64 0])
              have G2 : Hid (wd.grownBy (w4.alloc (.cells #[.int .i64 0, .int .i64 0, .int .i64 0, .int .i64 0, .int .i64 0, .int .i64 0, .slice none 0 0, .int .i64 0] 98)) none) := Lib.hid (gro_alloc G1.out _)
              have HO2 := Lib.hid (HO.out.alloc (.cells #[.int .i64 0, .int .i64 0, .int .i64 0, .int .i64 0, .int .i64 0, .int .i64 0, .slice none 0 0, .int .i64 0] 98))
              have hq0 : wd.heap.size ≤ w4.heap.size := G1.out.size
              generalize World.alloc w4 _ = w5 at *
              generalize w4.heap.size = q at *
              have HR1 := HR.out
              have c0 := HR1.cell (i := 0) rfl
              have c1 := HR1.cell (i := 1) rfl
              have c2 := HR1.cell (i := 2) rfl
              have c3 := HR1.cell (i := 3) rfl
              have c4 := HR1.cell (i := 4) rfl
              have c5 := HR1.cell (i := 5) rfl
              have c6 := HR1.cell (i := 6) rfl
              have c7 := HR1.cell (i := 7) rfl
              have k0 := HR1.frozen 0
              have k1 := HR1.frozen 1
              have k2 := HR1.frozen 2
              have k3 := HR1.frozen 3
              have k4 := HR1.frozen 4
              have k5 := HR1.frozen 5
              have k6 := HR1.frozen 6
              have k7 := HR1.frozen 7
              have kz := HR1.lt
              clear HR1
              (refine anyE_tail 7 (by decide) (by rfl) (by kernel_rfl) ?_; simp only [List.drop_succ_cons, List.drop_zero])
              go_wp2
              have h2 := two_set (by decide) (two_set (by decide) (two_set (by decide) (two_set (by decide) (two_set (by decide) (two_set (by decide) (two_set (by decide) (two_set (by decide) ⟨HR.out, HO2.out, hq0⟩ 0 (.int .i64 0)) 1 (.int .i64 0)) 2 (.int .i64 0)) 3 (.int .i64 0)) 4 (.int .i64 0)) 5 (.int .i64 0)) 6 (.slice A9 y.rst.length c9)) 7 (.int .i64 (PE.to y))
              refine NoPanic.normal ?_
              go_wp2
              go_meet
              case rel => exact ⟨q, ⟨_, ((((((((gro_bel G2.out).set (p := ⟨q, 0, none⟩) hq0 _).set (p := ⟨q, 1, none⟩) hq0 _).set (p := ⟨q, 2, none⟩) hq0 _).set (p := ⟨q, 3, none⟩) hq0 _).set (p := ⟨q, 4, none⟩) hq0 _).set (p := ⟨q, 5, none⟩) hq0 _).set (p := ⟨q, 6, none⟩) hq0 _).set (p := ⟨q, 7, none⟩) hq0 _⟩, A9, c9, rfl, rfl, hq0, h2.1, h2.2.1⟩
            · intro K hK
              rw [if_pos (by rfl)]
              go_simp
              refine hK _ _ (fun _ => ⟨⟨_, gro_alloc G0.out _⟩, rfl⟩) ?_
              clear hK K
              have HR0 := Lib.hid (RowAt.new wc 98 [.int .i64 0, .int .i64 0, .int .i64 0, .int .i64 0, .int .i64 0, .int .i64 0, .slice none 0 0, .int .i64 0])
              have G1 : Hid (wd.grownBy (wc.alloc (.cells #[.int .i64 0, .int .i64 0, .int .i64 0, .int .i64 0, .int .i64 0, .int .i64 0, .slice none 0 0, .int .i64 0] 98)) none) := Lib.hid (gro_alloc G0.out _)
              have hq0 : wd.heap.size ≤ wc.heap.size := G0.out.size
              generalize World.alloc wc _ = w4 at *
              generalize wc.heap.size = q at *
              (refine anyE_one 4 _ (by kernel_rfl) (by rfl) (fun K hK => ?_))
              rw [if_pos (by rfl)]
              go_simp
              refine (HCLI.out w4 (HBD.out.trans (gro_bel G1.out))).mono ?_
              rintro _ w5 ⟨rv, rfl, hown, hB⟩
              obtain ⟨A9, c9, rfl, _⟩ := own_slice hown
              have G2 : Hid (wd.grownBy w5 none) := Lib.hid (G1.out.trans ⟨hB.os, hB.tape, hB.output, hB.size, fun k hk _ => hB.block k hk⟩)
              refine hK _ _ (fun _ => ⟨⟨_, G2.out⟩, rfl⟩) ?_
              clear hK K
              have HO2 := Lib.hid (own_mono hown G1.out.size)
              have HR := Lib.hid (HR0.out.bel hB)
              clear hown hB HR0
              (refine anyE_takes [5] (fun _ _ _ _ _ h => h) ⟨⟨_, G2.out⟩, rfl⟩ (by kernel_rfl) (by rfl) ?_; simp only [opsOf, List.filterMap_cons, List.filterMap_nil, List.getElem?_toArray, List.getElem?_cons_succ, List.getElem?_cons_zero, List.foldl_cons, List.foldl_nil]; (repeat (any_goals (first | go_big_quiet_step (fail) | quiet_step (fail)))); refine wpQuiet_nil ?_)
              have HR1 := HR.out
              have c0 := HR1.cell (i := 0) rfl
              have c1 := HR1.cell (i := 1) rfl
              have c2 := HR1.cell (i := 2) rfl
              have c3 := HR1.cell (i := 3) rfl
              have c4 := HR1.cell (i := 4) rfl
              have c5 := HR1.cell (i := 5) rfl
              have c6 := HR1.cell (i := 6) rfl
              have c7 := HR1.cell (i := 7) rfl
              have k0 := HR1.frozen 0
              have k1 := HR1.frozen 1
              have k2 := HR1.frozen 2
              have k3 := HR1.frozen 3
              have k4 := HR1.frozen 4
              have k5 := HR1.frozen 5
              have k6 := HR1.frozen 6
              have k7 := HR1.frozen 7
              have kz := HR1.lt
              clear HR1
              (refine anyE_tail 7 (by decide) (by rfl) (by kernel_rfl) ?_; simp only [List.drop_succ_cons, List.drop_zero])
              go_wp2
              have h2 := two_set (by decide) (two_set (by decide) (two_set (by decide) (two_set (by decide) (two_set (by decide) (two_set (by decide) (two_set (by decide) (two_set (by decide) ⟨HR.out, HO2.out, hq0⟩ 0 (.int .i64 0)) 1 (.int .i64 0)) 2 (.int .i64 0)) 3 (.int .i64 0)) 4 (.int .i64 0)) 5 (.int .i64 0)) 6 (.slice A9 y.rst.length c9)) 7 (.int .i64 (PE.to y))
              refine NoPanic.normal ?_
              go_wp2
              go_meet
              case rel => exact ⟨q, ⟨_, ((((((((gro_bel G2.out).set (p := ⟨q, 0, none⟩) hq0 _).set (p := ⟨q, 1, none⟩) hq0 _).set (p := ⟨q, 2, none⟩) hq0 _).set (p := ⟨q, 3, none⟩) hq0 _).set (p := ⟨q, 4, none⟩) hq0 _).set (p := ⟨q, 5, none⟩) hq0 _).set (p := ⟨q, 6, none⟩) hq0 _).set (p := ⟨q, 7, none⟩) hq0 _⟩, A9, c9, rfl, rfl, hq0, h2.1, h2.2.1⟩
          case rest =>
            obtain ⟨q, z, A9, c9, rfl, rfl, hq, QR, QO⟩ := hcut
            clear HCLI r1 r4
            have HQO := Lib.hid (own_mono QO HBD.out.le)
            have HRQ := Lib.hid HBD.out.le
            clear QO
            have hqw : w.heap.size ≤ q := Nat.le_trans HBD.out.le hq
            have hmb2 := (HM1.out.bel HXW.out).row.cell (i := 2) rfl
            have hmbz := (HM1.out.bel HXW.out).row.lt
            go_wp2
            go_loopw [62] (fun si wr => ∃ (j : Nat) (z : Ext wd), j ≤ 3 ∧ si = .int .i64 j ∧ wr = z.w ∧ RowAt z.w q 98 (mvL (List.replicate j (0, M + 1) ++ List.replicate (3 - j) (0, 0)) (.slice A9 y.rst.length c9) (PE.to y)) ∧ RstOwn z.w w.heap.size (y, .slice A9 y.rst.length c9)) (fun si _ => 3 - (intOf si).toNat)
            case atStart => exact ⟨0, z, by omega, rfl, rfl, QR, HQO.out⟩
            case round =>
              clear QR HQO z
              obtain ⟨j, z, hj, rfl, rfl, QR, QO⟩ := hrel
              by_cases hlt : j < 3
              · have hjd : decide ((j : Int) < 3) = true := by simp; omega
                have hj3 : (j : Int) < 3 := by omega
                have hw2 : IntKind.i64.wrap (M + 1) = M + 1 := IntWalk.i64_in _ (by omega)
                have hlen := repT_len (n := 3) (j := j) (T := M + 1) hj
                have c1 := QR.cell (mvL_1 (by rw [hlen]; exact hlt))
                rw [repT_at hlt] at c1
                simp only at c1
                have f1 := QR.frozen (j * 2 + 1)
                have fz := QR.lt
                have h2 := two_set (by decide) ⟨QR, QO, hqw⟩ (j * 2 + 1) (.int .i64 (M + 1))
                have QR2 := Lib.hid (row_congr h2.1 (by rw [mvL_set1 (by rw [hlen]; exact hlt), repT_at hlt, repT_step hlt]))
                have QO2 := Lib.hid h2.2.1
                have QB2 := Lib.hid (z.bel.set (p := ⟨q, j * 2 + 1, none⟩) hq (.int .i64 (M + 1)))
                clear QR QO h2 hlen
                go_wp2
                go_roundw
                case rel => exact ⟨j + 1, ⟨_, QB2.out⟩, by omega, by go_num, rfl, QR2.out, QO2.out⟩
                case measure => simp [intOf]; omega
              · obtain rfl : j = 3 := by omega
                have QR1 : RowAt z.w q 98 (mvL (([] : List PC).foldl spansU (List.replicate 3 (0, M + 1))) (.slice A9 y.rst.length c9) (PE.to y)) := QR
                clear QR hmb2 hmbz
                have r3 := (HRB.out.bel z.bel).cell (i := 3) rfl
                have r3z := (HRB.out.bel z.bel).lt
                go_wp2
                clear r3 r3z
                have QO1 := QO
                clear QO
                go_loopw [78] (fun sk wr => ∃ (k : Nat) (z : Ext wd), k ≤ y.grd.length ∧ sk = .int .i64 k ∧ wr = z.w ∧ RowAt z.w q 98 (mvL ((y.grd.take k).foldl spansU (List.replicate 3 (0, M + 1))) (.slice A9 y.rst.length c9) (PE.to y)) ∧ RstOwn z.w w.heap.size (y, .slice A9 y.rst.length c9)) (fun sk _ => y.grd.length - (intOf sk).toNat)
                case atStart => exact ⟨0, z, by omega, rfl, rfl, QR1, QO1⟩
                case round =>
                  clear QR1 QO1 z
                  obtain ⟨k, z, hk, rfl, rfl, QR, QO⟩ := hrel
                  by_cases hlk : k < y.grd.length
                  · have hkld : decide ((k : Int) < (y.grd.length : Int)) = true := by simp; omega
                    have hkL : (k : Int) < (y.grd.length : Int) := by omega
                    have hbad := pcBad_false.mp (HEC.out _ (pc_mem hlk))
                    obtain ⟨b3, off3, rfl, hb3, hA3⟩ := HCV.out.at_ (by omega)
                    have hC := hA3 k hlk
                    have HSP : Hid ((y.grd.take (k + 1)).foldl spansU (List.replicate 3 (0, M + 1)) = spansU ((y.grd.take k).foldl spansU (List.replicate 3 (0, M + 1))) (pcAt y.grd k)) := Lib.hid (by
                      rw [List.take_succ_eq_append_getElem hlk, List.foldl_append]; simp [pcAt, List.getD, hlk])
                    have hlen : ((y.grd.take k).foldl spansU (List.replicate 3 (0, M + 1))).length = 3 := by rw [spansF_len]; simp
                    generalize (y.grd.take k).foldl spansU (List.replicate 3 (0, M + 1)) = L at *
                    generalize pcAt y.grd k = cc at *
                    obtain ⟨ck, cl, cs, cv⟩ := cc
                    obtain ⟨c0, c1, c2, c3⟩ := hC
                    simp only at c0 c1 c2 c3 hbad
                    obtain ⟨h1, h2, h3, h4⟩ := hbad
                    obtain ⟨m, rfl⟩ : ∃ m : Nat, ck = (m : Int) + 1 := ⟨(ck - 1).toNat, by omega⟩
                    have hm : m < 3 := by omega
                    have hm3 : (m : Int) < 3 := by omega
                    have hw1 : IntKind.i64.wrap (cv + 1) = cv + 1 := IntWalk.i64_in _ (by omega)
                    have hw2 : IntKind.i64.wrap (cv - 1) = cv - 1 := IntWalk.i64_in _ (by omega)
                    have HBE := Lib.hid (HBD.out.trans z.bel)
                    replace c0 := (HBE.out.cells _ _ hb3).trans c0
                    replace c1 := (HBE.out.cells _ _ hb3).trans c1
                    replace c2 := (HBE.out.cells _ _ hb3).trans c2
                    replace c3 := (HBE.out.cells _ _ hb3).trans c3
                    have cz : b3 < z.w.heap.size := Nat.lt_of_lt_of_le hb3 HBE.out.le
                    have hu : spansU L ⟨(m : Int) + 1, cl, cs, cv⟩ = L.set m (spanU (L.getD m (0, 0)) ⟨(m : Int) + 1, cl, cs, cv⟩) := by
                      unfold spansU
                      simp only
                      rw [show ((m : Int) + 1 - 1).toNat = m by omega]
                    rw [hu] at HSP
                    have HZB := Lib.hid z.bel
                    clear hu hA3 h1 h2
                    go_upto_region 23 with (fail)
                    generalize hW : World.alloc z.w _ = wx at *
                    have hB : Bel z.w wx := by rw [← hW]; exact Bel.refl.alloc _
                    have rb : RowAt wx z.w.heap.size 68 [.int .i64 ((m : Int) + 1), .bool cl, .bool cs, .int .i64 cv] := by rw [← hW]; exact RowAt.new _ _ _
                    have HQR := Lib.hid (QR.bel hB)
                    have HQO : Hid (RstOwn wx w.heap.size (y, .slice A9 y.rst.length c9)) := Lib.hid (ownsRow_bel QO hB)
                    have HXB := Lib.hid (HZB.out.trans hB)
                    clear hW hB QR QO c0 c1 c2 c3 cz HZB HBE
                    have d0 := rb.cell (i := 0) rfl
                    have d1 := rb.cell (i := 1) rfl
                    have d2 := rb.cell (i := 2) rfl
                    have d3 := rb.cell (i := 3) rfl
                    have dz := rb.lt
                    generalize z.w.heap.size = bc at *
                    clear rb z
                    have r0 := HQR.out.cell (mvL_0 (by rw [hlen]; exact hm))
                    have r1 := HQR.out.cell (mvL_1 (by rw [hlen]; exact hm))
                    have f0 := HQR.out.frozen (m * 2)
                    have f1 := HQR.out.frozen (m * 2 + 1)
                    have fz := HQR.out.lt
                    obtain ⟨⟨lo, hi⟩, hLm⟩ : ∃ s, L.getD m (0, 0) = s := ⟨_, rfl⟩
                    rw [hLm] at r0 r1 HSP
                    simp only at r0 r1
                    have hset0 := fun a => two_set (by decide) ⟨HQR.out, HQO.out, hqw⟩ (m * 2) (.int .i64 a)
                    have hset1 := fun a => two_set (by decide) ⟨HQR.out, HQO.out, hqw⟩ (m * 2 + 1) (.int .i64 a)
                    have hst0 : ∀ a, (mvL L (.slice A9 y.rst.length c9) (PE.to y)).set (m * 2) (.int .i64 a) = mvL (L.set m (a, hi)) (.slice A9 y.rst.length c9) (PE.to y) := fun a => by rw [mvL_set0 (by rw [hlen]; exact hm), hLm]
                    have hst1 : ∀ a, (mvL L (.slice A9 y.rst.length c9) (PE.to y)).set (m * 2 + 1) (.int .i64 a) = mvL (L.set m (lo, a)) (.slice A9 y.rst.length c9) (PE.to y) := fun a => by rw [mvL_set1 (by rw [hlen]; exact hm), hLm]
                    replace hset0 := Lib.hid hset0
                    replace hset1 := Lib.hid hset1
                    replace hst0 := Lib.hid hst0
                    replace hst1 := Lib.hid hst1
                    clear hLm hlen
                    cases cl
                    · cases cs
                      all_goals
                        go_wp2
                        all_goals go_roundw
                        case rel =>
                          refine ⟨k + 1, ⟨_, HXB.out.set (p := ⟨q, m * 2 + 1, none⟩) hq _⟩, by omega, by go_num, rfl, row_congr (hset1.out _).1 ?_, (hset1.out _).2.1⟩
                          rw [hst1.out, HSP.out]
                          simp only [spanU]
                          simp
                        case measure => simp [intOf]; omega
                    · cases cs
                      all_goals
                        go_wp2
                        all_goals go_roundw
                        case rel =>
                          refine ⟨k + 1, ⟨_, HXB.out.set (p := ⟨q, m * 2, none⟩) hq _⟩, by omega, by go_num, rfl, row_congr (hset0.out _).1 ?_, (hset0.out _).2.1⟩
                          rw [hst0.out, HSP.out]
                          simp only [spanU]
                          simp
                        case measure => simp [intOf]; omega
                  · obtain rfl : k = y.grd.length := by omega
                    have hkld : decide ((y.grd.length : Int) < (y.grd.length : Int)) = false := by simp
                    rw [List.take_length] at QR
                    have e0 := (HRB.out.bel z.bel).cell (i := 0) rfl
                    have e2 := (HRB.out.bel z.bel).cell (i := 2) rfl
                    have ez := (HRB.out.bel z.bel).lt
                    have HZW := Lib.hid (HBD.out.trans z.bel)
                    have HMZ := Lib.hid ((HM1.out.bel HXW.out).bel z.bel)
                    have HKZ := Lib.hid ((HK1.out.bel HXW.out).bel z.bel)
                    have HGL : Hid (∀ g, (mp (klit 100 [y.frm, y.ev])).ownBlock = some g → g < wd.heap.size) := by
                      obtain ⟨xs, hxs⟩ := ((HK1.out.bel HXW.out).row _ _ HWF.out.f HWF.out.v).own
                      exact Lib.hid (fun g hg => (hxs.lt g hg).2)
                    obtain ⟨l0, h0, l1, h1, l2, h2, HMC⟩ : ∃ l0 h0 l1 h1 l2 h2, Hid (mvC M (y, .slice A9 y.rst.length c9) = [.int .i64 l0, .int .i64 h0, .int .i64 l1, .int .i64 h1, .int .i64 l2, .int .i64 h2, .slice A9 y.rst.length c9, .int .i64 (PE.to y)]) := ⟨_, _, _, _, _, _, Lib.hid rfl⟩
                    have hqr := Lib.hid (row_congr QR (mvL_mvC.trans HMC.out))
                    have hqo := Lib.hid QO
                    clear QR QO HM1 HK1 HXW HCV HEC HRB
                    go_upto_region 34 with (fail)
                    generalize hW : World.alloc z.w _ = wk at *
                    have hB : Bel z.w wk := by rw [← hW]; exact Bel.refl.alloc _
                    have rb : RowAt wk z.w.heap.size 100 [.int .i64 y.frm, .int .i64 y.ev] := by rw [← hW]; exact RowAt.new _ _ _
                    have HB9 := Lib.hid (HZW.out.trans hB)
                    have HM9 := Lib.hid (HMZ.out.bel hB)
                    have HK9 := Lib.hid (HKZ.out.bel hB)
                    have HQR := Lib.hid (hqr.out.bel hB)
                    have HQO : Hid (RstOwn wk w.heap.size (y, .slice A9 y.rst.length c9)) := Lib.hid (ownsRow_bel hqo.out hB)
                    clear hW hB e0 e2 ez HZW HMZ HKZ hqr hqo
                    have k0 := rb.cell (i := 0) rfl
                    have k1 := rb.cell (i := 1) rfl
                    have kz := rb.lt
                    have HRB2 := Lib.hid rb
                    generalize z.w.heap.size = kb at *
                    clear rb z
                    have m1 := HM9.out.row.cell (i := 1) rfl
                    have mz := HM9.out.row.lt
                    have q0 := HQR.out.cell (i := 0) rfl
                    have q1 := HQR.out.cell (i := 1) rfl
                    have q2 := HQR.out.cell (i := 2) rfl
                    have q3 := HQR.out.cell (i := 3) rfl
                    have q4 := HQR.out.cell (i := 4) rfl
                    have q5 := HQR.out.cell (i := 5) rfl
                    have q6 := HQR.out.cell (i := 6) rfl
                    have q7 := HQR.out.cell (i := 7) rfl
                    have qz := HQR.out.lt
                    have hfi : i64 y.frm := HWF.out.f
                    have hei : i64 y.ev := HWF.out.v
                    have hkl : keyOf Try.prog 100 (.agg #[.int .i64 y.frm, .int .i64 y.ev]) = some (klit 100 [y.frm, y.ev]) := ikey_mv.of (ns := [y.frm, y.ev]) rfl (by intro q hq; simp at hq; rcases hq with rfl | rfl <;> assumption)
                    have HKL := Lib.hid hkl
                    obtain ⟨v0, hv0⟩ : ∃ v, v = mp (klit 100 [y.frm, y.ev]) := ⟨_, rfl⟩
                    obtain ⟨rs, hrs⟩ : ∃ rs : List Nat, rs = bq :: (match v0.ownBlock with | some g => [g] | none => []) := ⟨_, rfl⟩
                    have HRS1 : Hid (bq ∈ rs) := Lib.hid (by rw [hrs]; simp)
                    have HRS2 : Hid (∀ g, v0.ownBlock = some g → g ∈ rs) := Lib.hid (fun g hg => by rw [hrs, hg]; simp)
                    have HV0 := Lib.hid hv0
                    obtain ⟨eb0, cb0, hbq⟩ := vmap_blk HK9.out.mp
                    obtain ⟨xs0, hxs0⟩ := (HK9.out.row _ _ hfi hei).own
                    rw [← hv0] at hxs0
                    have hmem : ∀ b, b ∈ rs → b = bq ∨ v0.ownBlock = some b := fun b hb => by
                      rw [hrs] at hb
                      rcases List.mem_cons.mp hb with h | h
                      · exact .inl h
                      · revert h
                        cases v0.ownBlock with
                        | none => intro h; simp at h
                        | some g => intro h; simp at h; exact .inr (by rw [h])
                    have n1 : bm ∉ rs := fun hb => by
                      rcases hmem _ hb with rfl | h
                      · have hr := HM9.out.row; unfold RowAt at hr; rw [hbq] at hr; cases hr
                      · exact box_row_ne HM9.out.row hxs0 (by decide) h.symm
                    have n2 : kb ∉ rs := fun hb => by
                      rcases hmem _ hb with rfl | h
                      · have hr := HRB2.out; unfold RowAt at hr; rw [hbq] at hr; cases hr
                      · exact box_row_ne HRB2.out hxs0 (by decide) h.symm
                    have n3 : q ∉ rs := fun hb => by
                      rcases hmem _ hb with rfl | h
                      · have hr := HQR.out; unfold RowAt at hr; rw [hbq] at hr; cases hr
                      · have := HGL.out q (by rw [← hv0]; exact h)
                        omega
                    clear hkl hrs hfi hei hxs0 hbq hmem HRB2 hv0
                    (refine wp_region_ES 11 (rs) (by kernel_rfl) ?_; refine anyE_takes [0, 1, 2, 3, 4, 5] (fun _ _ _ _ _ h => h) ⟨⟨_, grs_drew _ _⟩, rfl⟩ (by kernel_rfl) (by rfl) ?_; simp only [opsOf, List.filterMap_cons, List.filterMap_nil, List.getElem?_toArray, List.getElem?_cons_succ, List.getElem?_cons_zero, List.foldl_cons, List.foldl_nil]; (repeat (any_goals (first | go_big_quiet_step (fail) | quiet_step (fail)))); refine wpQuiet_nil ?_)
                    have G0 : Hid (Bel wk wk.drew) := Lib.hid (gro_bel (gro_drew (gro_refl _)))
                    have S0 : Hid (GrsOk wk rs wk.drew) := Lib.hid (grs_drew _ _)
                    generalize wk.drew = wc at *
                    obtain ⟨iv, hiv, hy0, hy1, hy2⟩ := info_parts Try.infoMove
                    (refine anyE_one 6 _ (by kernel_rfl) (by rfl) (fun K hK => ?_))
                    rw [if_pos (by rfl)]
                    go_simp
                    refine hK _ _ (fun _ => ⟨⟨_, grs_alloc S0.out _⟩, rfl⟩) ?_
                    clear hK K
                    have HNB2 := Lib.hid (RowAt.new wc 98 [.int .i64 l0, .int .i64 h0, .int .i64 l1, .int .i64 h1, .int .i64 l2, .int .i64 h2, .slice A9 y.rst.length c9, .int .i64 (PE.to y)])
                    have S4 : Hid (GrsOk wk rs (wc.alloc (.cells #[.int .i64 l0, .int .i64 h0, .int .i64 l1, .int .i64 h1, .int .i64 l2, .int .i64 h2, .slice A9 y.rst.length c9, .int .i64 (PE.to y)] 98))) := Lib.hid (grs_alloc S0.out _)
                    have B4 : Hid (Bel wk (wc.alloc (.cells #[.int .i64 l0, .int .i64 h0, .int .i64 l1, .int .i64 h1, .int .i64 l2, .int .i64 h2, .slice A9 y.rst.length c9, .int .i64 (PE.to y)] 98))) := Lib.hid (G0.out.alloc _)
                    generalize World.alloc wc _ = w4 at *
                    generalize wc.heap.size = nb at *
                    clear k0 k1 kz m1 mz q0 q1 q2 q3 q4 q5 q6 q7 qz n1 n2 n3
                    have HK4 := Lib.hid (HK9.out.bel B4.out)
                    have HQ4 : Hid (RstOwn w4 w.heap.size (y, .slice A9 y.rst.length c9)) := Lib.hid (ownsRow_bel HQO.out B4.out)
                    have HM4 := Lib.hid (HM9.out.bel B4.out)
                    have HBW := Lib.hid (HB9.out.trans B4.out)
                    obtain ⟨st, w1, hent, hg1, hgm, hth⟩ := HK4.out.mp.entry ikey_mv.law Try.underlying90 zero_moves (by unfold maxLen; omega) HKL.out
                    obtain ⟨ql, hq1, hq2, hq3⟩ := HK4.out.row _ _ HWF.out.f HWF.out.v
                    rw [← HV0.out] at hent hq2
                    obtain ⟨eb4, cb4, hb4⟩ := vmap_blk HK4.out.mp
                    have HO1 : Hid (w1.ownsRow w.heap.size 98 8 v0 (movesOf (p.edges.take i) y.frm y.ev).length (ql.flatMap (mvC M))) := Lib.hid (own_blk hq2 (fun g hg => hg1.block g (hq2.lt g hg).2 (fun e => not_map hq2 hb4 (by rw [hg]; exact e.symm))))
                    have HNW : Hid (∀ j u, [Value.int .i64 l0, .int .i64 h0, .int .i64 l1, .int .i64 h1, .int .i64 l2, .int .i64 h2, .slice A9 y.rst.length c9, .int .i64 (PE.to y)][j]? = some u → w1.cell? ((⟨nb, 0, none⟩ : Addr).add j) = some u) := Lib.hid (fun j u hj => by
                      rw [add_ofs]
                      refine (cell_block2 (hg1.block nb HNB2.out.lt (fun e => ?_))).trans (HNB2.out.cell hj)
                      injection e with e
                      have hr := HNB2.out
                      unfold RowAt at hr
                      rw [e, hb4] at hr
                      cases hr)
                    have HQ1 := Lib.hid hq1
                    have HQ3 := Lib.hid hq3
                    have HG1 := Lib.hid hg1
                    have HTH := Lib.hid hth
                    have HML : Hid ((movesOf (p.edges.take i) y.frm y.ev).length ≤ 1000000) := Lib.hid (by
                      have := List.length_filter_le (keyed y.frm y.ev) (p.edges.take i)
                      unfold movesOf
                      rw [List.length_take] at this
                      omega)
                    have HGM := Lib.hid hgm
                    clear hq1 hq2 hq3 hth hb4 hiL hild hgm
                    (refine anyE_one 7 _ (by kernel_rfl) (by rfl) (fun K hK => ?_))
                    rw [if_pos (by rfl)]
                    go_simp
                    refine hK _ _ (fun _ => ⟨⟨_, grs_grown S4.out HG1.out (fun k hk _ => by injection hk with hk; subst hk; exact HRS1.out)⟩, rfl⟩) ?_
                    clear hK K hent
                    have S1 : Hid (GrsOk wk rs w1) := Lib.hid (grs_grown S4.out HG1.out (fun k hk _ => by injection hk with hk; subst hk; exact HRS1.out))
                    generalize hnl : (movesOf (p.edges.take i) y.frm y.ev).length = nl at *
                    have HNL := Lib.hid hnl
                    clear hnl
                    refine anyE_two 8 10 _ _ (by kernel_rfl) (by rfl) (by rfl) ?_ ?_
                    · intro K hK
                      rw [if_pos (by rfl)]
                      go_simp
                      refine hK _ _ (fun _ => ⟨⟨_, S1.out⟩, rfl⟩) ?_
                      clear hK K
                      refine anyE_two 9 10 _ _ (by kernel_rfl) (by rfl) (by rfl) ?_ ?_
                      · intro K hK
                        rw [if_pos (by rfl)]
                        refine wp_append_lies _ _ _ 101 rfl w.heap.size 98 iv _ 8 80 Try.underlying101 hiv hy0 hy1 hy2 rfl (by decide) _ _ _ rfl HO1.out ⟨nb, 0, none⟩ 1 1 [.int .i64 l0, .int .i64 h0, .int .i64 l1, .int .i64 h1, .int .i64 l2, .int .i64 h2, .slice A9 y.rst.length c9, .int .i64 (PE.to y)] rfl rfl HNW.out (by intro u hu; simp at hu; rcases hu with rfl | rfl | rfl | rfl | rfl | rfl | rfl | rfl <;> rfl) (by decide) (by unfold maxLen; have := HML.out; omega) (by have := HML.out; omega) (Nat.le_trans HBW.out.le HG1.out.size) _ rfl ?_
                        intro g cap w5 hown5 hgr hl hglt
                        have S5 : Hid (GrsOk wk rs w5) := Lib.hid (grs_grown S1.out hgr (fun k hk _ => HRS2.out k hk))
                        refine hK _ _ (fun _ => ⟨⟨_, S5.out⟩, rfl⟩) ?_
                        clear hK K
                        obtain ⟨em, cm, hmap⟩ := HGM.out
                        have hqs : w5.heap[bq]? = w1.heap[bq]? := hgr.block bq (Blk.lt hmap) (not_map HO1.out hmap)
                        obtain ⟨w6, m', hes', hV, hg6, hmk, hmo⟩ := HTH.out w5 (.slice (some ⟨g, 0, none⟩) (nl + 1) cap) hqs
                        replace hes' : (Instr.entryStore 90 (.map (some bq)) (.int .i64 (st : Int)) (.slice (some ⟨g, 0, none⟩) (nl + 1) cap)).run Try.prog w5 = .ok () w6 := hes'
                        have HFIN := Lib.hid (mo_fin HBW.out HM4.out HK4.out HNL.out HWF.out.f HWF.out.v HG1.out (by rw [← HV0.out]; exact hgr) hg6 HQ1.out HQ3.out ⟨em, cm, hqs.trans hmap⟩ (by rw [HMC.out]; exact hown5) (by rw [← HV0.out]; exact hl) HQ4.out hV hmk hmo)
                        clear hown5 hgr hl hglt hqs hmap hV hg6 hmk hmo
                        (refine anyE_one 10 _ (by kernel_rfl) (by rfl) (fun K hK => ?_))
                        rw [if_pos (by rfl)]
                        go_simp
                        refine hK _ _ (fun _ => ⟨⟨_, S5.out⟩, rfl⟩) ?_
                        clear hK K
                        (refine anyE_tail 11 (by decide) (by rfl) (by kernel_rfl) ?_; simp only [List.drop_succ_cons, List.drop_zero])
                        go_wp2
                        refine NoPanic.normal ?_
                        go_wp2
                        go_roundw
                        case rel => exact ⟨i + 1, ⟨_, HFIN.out.1⟩, m', by omega, by go_num, rfl, HFIN.out.2.1, by rw [HSN.out]; exact HFIN.out.2.2⟩
                        case measure => simp [intOf]; omega
                      · intro K hK
                        rw [if_pos (by rfl)]
                        go_simp
                        refine hK _ _ (fun _ => ⟨⟨_, S1.out⟩, rfl⟩) ?_
                        clear hK K
                        (refine anyE_one 9 _ (by kernel_rfl) (by rfl) (fun K hK => ?_))
                        rw [if_pos (by rfl)]
                        refine wp_append_lies _ _ _ 101 rfl w.heap.size 98 iv _ 8 80 Try.underlying101 hiv hy0 hy1 hy2 rfl (by decide) _ _ _ rfl HO1.out ⟨nb, 0, none⟩ 1 1 [.int .i64 l0, .int .i64 h0, .int .i64 l1, .int .i64 h1, .int .i64 l2, .int .i64 h2, .slice A9 y.rst.length c9, .int .i64 (PE.to y)] rfl rfl HNW.out (by intro u hu; simp at hu; rcases hu with rfl | rfl | rfl | rfl | rfl | rfl | rfl | rfl <;> rfl) (by decide) (by unfold maxLen; have := HML.out; omega) (by have := HML.out; omega) (Nat.le_trans HBW.out.le HG1.out.size) _ rfl ?_
                        intro g cap w5 hown5 hgr hl hglt
                        have S5 : Hid (GrsOk wk rs w5) := Lib.hid (grs_grown S1.out hgr (fun k hk _ => HRS2.out k hk))
                        refine hK _ _ (fun _ => ⟨⟨_, S5.out⟩, rfl⟩) ?_
                        clear hK K
                        obtain ⟨em, cm, hmap⟩ := HGM.out
                        have hqs : w5.heap[bq]? = w1.heap[bq]? := hgr.block bq (Blk.lt hmap) (not_map HO1.out hmap)
                        obtain ⟨w6, m', hes', hV, hg6, hmk, hmo⟩ := HTH.out w5 (.slice (some ⟨g, 0, none⟩) (nl + 1) cap) hqs
                        replace hes' : (Instr.entryStore 90 (.map (some bq)) (.int .i64 (st : Int)) (.slice (some ⟨g, 0, none⟩) (nl + 1) cap)).run Try.prog w5 = .ok () w6 := hes'
                        have HFIN := Lib.hid (mo_fin HBW.out HM4.out HK4.out HNL.out HWF.out.f HWF.out.v HG1.out (by rw [← HV0.out]; exact hgr) hg6 HQ1.out HQ3.out ⟨em, cm, hqs.trans hmap⟩ (by rw [HMC.out]; exact hown5) (by rw [← HV0.out]; exact hl) HQ4.out hV hmk hmo)
                        clear hown5 hgr hl hglt hqs hmap hV hg6 hmk hmo
                        (refine anyE_tail 11 (by decide) (by rfl) (by kernel_rfl) ?_; simp only [List.drop_succ_cons, List.drop_zero])
                        go_wp2
                        refine NoPanic.normal ?_
                        go_wp2
                        go_roundw
                        case rel => exact ⟨i + 1, ⟨_, HFIN.out.1⟩, m', by omega, by go_num, rfl, HFIN.out.2.1, by rw [HSN.out]; exact HFIN.out.2.2⟩
                        case measure => simp [intOf]; omega
                    · intro K hK
                      rw [if_pos (by rfl)]
                      go_simp
                      refine hK _ _ (fun _ => ⟨⟨_, S1.out⟩, rfl⟩) ?_
                      clear hK K
                      (refine anyE_one 8 _ (by kernel_rfl) (by rfl) (fun K hK => ?_))
                      rw [if_pos (by rfl)]
                      go_simp
                      refine hK _ _ (fun _ => ⟨⟨_, S1.out⟩, rfl⟩) ?_
                      clear hK K
                      (refine anyE_one 9 _ (by kernel_rfl) (by rfl) (fun K hK => ?_))
                      rw [if_pos (by rfl)]
                      refine wp_append_lies _ _ _ 101 rfl w.heap.size 98 iv _ 8 80 Try.underlying101 hiv hy0 hy1 hy2 rfl (by decide) _ _ _ rfl HO1.out ⟨nb, 0, none⟩ 1 1 [.int .i64 l0, .int .i64 h0, .int .i64 l1, .int .i64 h1, .int .i64 l2, .int .i64 h2, .slice A9 y.rst.length c9, .int .i64 (PE.to y)] rfl rfl HNW.out (by intro u hu; simp at hu; rcases hu with rfl | rfl | rfl | rfl | rfl | rfl | rfl | rfl <;> rfl) (by decide) (by unfold maxLen; have := HML.out; omega) (by have := HML.out; omega) (Nat.le_trans HBW.out.le HG1.out.size) _ rfl ?_
                      intro g cap w5 hown5 hgr hl hglt
                      have S5 : Hid (GrsOk wk rs w5) := Lib.hid (grs_grown S1.out hgr (fun k hk _ => HRS2.out k hk))
                      refine hK _ _ (fun _ => ⟨⟨_, S5.out⟩, rfl⟩) ?_
                      clear hK K
                      obtain ⟨em, cm, hmap⟩ := HGM.out
                      have hqs : w5.heap[bq]? = w1.heap[bq]? := hgr.block bq (Blk.lt hmap) (not_map HO1.out hmap)
                      obtain ⟨w6, m', hes', hV, hg6, hmk, hmo⟩ := HTH.out w5 (.slice (some ⟨g, 0, none⟩) (nl + 1) cap) hqs
                      replace hes' : (Instr.entryStore 90 (.map (some bq)) (.int .i64 (st : Int)) (.slice (some ⟨g, 0, none⟩) (nl + 1) cap)).run Try.prog w5 = .ok () w6 := hes'
                      have HFIN := Lib.hid (mo_fin HBW.out HM4.out HK4.out HNL.out HWF.out.f HWF.out.v HG1.out (by rw [← HV0.out]; exact hgr) hg6 HQ1.out HQ3.out ⟨em, cm, hqs.trans hmap⟩ (by rw [HMC.out]; exact hown5) (by rw [← HV0.out]; exact hl) HQ4.out hV hmk hmo)
                      clear hown5 hgr hl hglt hqs hmap hV hg6 hmk hmo
                      (refine anyE_tail 11 (by decide) (by rfl) (by kernel_rfl) ?_; simp only [List.drop_succ_cons, List.drop_zero])
                      go_wp2
                      refine NoPanic.normal ?_
                      go_wp2
                      go_roundw
                      case rel => exact ⟨i + 1, ⟨_, HFIN.out.1⟩, m', by omega, by go_num, rfl, HFIN.out.2.1, by rw [HSN.out]; exact HFIN.out.2.2⟩
                      case measure => simp [intOf]; omega
        · obtain rfl : i = p.edges.length := by omega
          have hild : decide ((p.edges.length : Int) < (p.edges.length : Int)) = false := by simp
          rw [List.take_length] at K1
          have HFI : Hid (MachPost p w (.returned (.pointer (some ⟨bm, 0, none⟩))) x.w) := Lib.hid ⟨bm, rfl, M1.om, ⟨_, bq, _, mp, by rw [HMQ.out]; exact M1.row, boolsAt_own M1.gd, K1.mp, fun loc ev h1 h2 => by rw [HMQ.out]; exact (K1.row loc ev h1 h2).mvs⟩, x.bel⟩
          go_wp2
          go_ret
          exact HFI.out
end Go.Proofs.Ythidbmeocifkcaa
