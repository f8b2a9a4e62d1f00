/- EnforceFull: two enforcers of the program side by side: the second one's base world follows the first one's changes. -/
import Derived.Test.YthidbmeocifkcaaZEfulp
import Derived.Test.YthidbmeocifkcaaZElaw2
namespace Go.Proofs.Ythidbmeocifkcaa
open Go.RowKit
/-- the first N blocks of a world -/
def cutW (W : World) (N : Nat) : World := { W with heap := W.heap.extract 0 N }
theorem cutW_size {W : World} {N : Nat} (h : N ≤ W.heap.size) : (cutW W N).heap.size = N := by
  unfold cutW; simp; omega
theorem cutW_at {W : World} {N k : Nat} (h : N ≤ W.heap.size) (hk : k < N) : (cutW W N).heap[k]? = W.heap[k]? := by
  unfold cutW
  simp only [Array.getElem?_extract]
  rw [if_pos (by omega), Nat.zero_add]
theorem cutW_bel {W : World} {N : Nat} (h : N ≤ W.heap.size) : Bel (cutW W N) W :=
  ⟨rfl, rfl, rfl, by rw [cutW_size h]; exact h, fun k hk => by rw [cutW_size h] at hk; exact (cutW_at h hk).symm⟩
/-- the cells of an enforcer's box, of whatever kind -/
theorem enC_not (bm : Nat) (p : PP) (s : EnS) (A1 A2 : Option Addr) (n1 c1 n2 c2 : Nat) :
    (∀ (o : Nat) (b : Bool), (enC bm p s (Value.slice A1 n1 c1) (Value.slice A2 n2 c2))[o]? ≠ some (Value.bool b)) ∧
    (∀ (o : Nat) (t : Int) (A : Option Addr) (n c : Nat), (enC bm p s (Value.slice A1 n1 c1) (Value.slice A2 n2 c2))[o]? = some (Value.slice A n c) → (enC bm p s (Value.slice A1 n1 c1) (Value.slice A2 n2 c2))[o + 1]? ≠ some (Value.int .i64 t)) := by
  unfold enC
  refine ⟨fun o b h => ?_, fun o t A n c h h2 => ?_⟩
  · have ho : o = 0 ∨ o = 1 ∨ o = 2 ∨ o = 3 ∨ o = 4 ∨ o = 5 ∨ o = 6 ∨ o = 7 ∨ o = 8 ∨ o = 9 ∨ o = 10 ∨ 11 ≤ o := by omega
    rcases ho with rfl | rfl | rfl | rfl | rfl | rfl | rfl | rfl | rfl | rfl | rfl | ho
    all_goals first | (simp at h; done) | (rw [List.getElem?_eq_none (by simp; omega)] at h; cases h)
  · have ho : o = 0 ∨ o = 1 ∨ o = 2 ∨ o = 3 ∨ o = 4 ∨ o = 5 ∨ o = 6 ∨ o = 7 ∨ o = 8 ∨ o = 9 ∨ o = 10 ∨ 11 ≤ o := by omega
    rcases ho with rfl | rfl | rfl | rfl | rfl | rfl | rfl | rfl | rfl | rfl | rfl | ho
    all_goals first | (simp at h; done) | (simp at h2; done) | (rw [List.getElem?_eq_none (by simp; omega)] at h; cases h)
set_option maxRecDepth 100000 in
/-- a machine does not feel that an enforcer's box is turned -/
theorem MachAt.box {V V' : World} {bm bf bm' : Nat} {p p' : PP} {s : EnS} {A1 A2 : Option Addr} {n1 c1 n2 c2 : Nat} (h : MachAt V bm p) (hz : ∀ e ∈ p.edges, e.rst = []) (hr : RowAt V bf 61 (enC bm' p' s (.slice A1 n1 c1) (.slice A2 n2 c2)))
    (hs : V'.heap.size = V.heap.size) (hk : ∀ k, k < V.heap.size → k ≠ bf → V'.heap[k]? = V.heap[k]?) : MachAt V' bm p := by
  obtain ⟨hn1, hn2⟩ := enC_not bm' p' s A1 A2 n1 c1 n2 c2
  obtain ⟨gv, bq, nq, m, a, b, c, d⟩ := h.ex
  have hcell : ∀ k o, k < V.heap.size → k ≠ bf → V'.cell? ⟨k, o, none⟩ = V.cell? ⟨k, o, none⟩ := fun k o h1 h2 => cell_block2 (a := ⟨k, o, none⟩) (hk k h1 h2)
  have hbm : bm ≠ bf := fun e => by
    subst e
    unfold RowAt at a hr
    rw [a] at hr
    simp at hr
  refine ⟨gv, bq, nq, m, a.block (hk bm a.lt hbm), ?_, c.block (hk bq c.lt (fun e => ?_)), fun loc ev h1 h2 => ?_⟩
  · obtain ⟨A, cc, e, hc, hb⟩ := b
    refine ⟨A, cc, e, hc, fun h0 => ?_⟩
    obtain ⟨bb, off, e2, hlt, hx⟩ := hb h0
    have hne : bb ≠ bf := fun e3 => by
      subst e3
      have := hx 0 h0
      rw [Nat.zero_mul, Nat.add_zero, hr.cell?] at this
      exact hn1 _ _ this
    exact ⟨bb, off, e2, by rw [hs]; exact hlt, fun i hi => (hcell _ _ hlt hne).trans (hx i hi)⟩
  · subst e
    obtain ⟨es, c0, hbq⟩ := vmap_blk c
    unfold RowAt at hr
    rw [hbq] at hr
    cases hr
  · obtain ⟨A, cc, e, hc, hb⟩ := d loc ev h1 h2
    refine ⟨A, cc, e, hc, fun h0 => ?_⟩
    obtain ⟨bb, off, e2, hlt, hx⟩ := hb h0
    have hne : bb ≠ bf := fun e3 => by
      subst e3
      obtain ⟨rv, hc8, hi⟩ := hx 0 h0
      obtain ⟨A9, c9, rfl, _⟩ := hi.form
      have h6 := hc8.c6
      have h7 := hc8.c7
      rw [hr.cell?] at h6 h7
      exact hn2 _ _ _ _ _ h6 h7
    refine ⟨bb, off, e2, by rw [hs]; exact hlt, fun i hi => ?_⟩
    obtain ⟨rv, hc8, hi9⟩ := hx i hi
    refine ⟨rv, ⟨(hcell _ _ hlt hne).trans hc8.c0, (hcell _ _ hlt hne).trans hc8.c1, (hcell _ _ hlt hne).trans hc8.c2, (hcell _ _ hlt hne).trans hc8.c3, (hcell _ _ hlt hne).trans hc8.c4, (hcell _ _ hlt hne).trans hc8.c5, (hcell _ _ hlt hne).trans hc8.c6, (hcell _ _ hlt hne).trans hc8.c7⟩, ?_⟩
    obtain ⟨A9, c9, e9, hc9, _⟩ := hi9
    have hm : peAt (movesOf p.edges loc ev) i ∈ p.edges := (List.mem_filter.mp (pe_mem (l := movesOf p.edges loc ev) hi)).1
    exact ⟨A9, c9, e9, hc9, fun h0 => absurd h0 (by rw [hz _ hm]; simp)⟩
theorem EfAt.shift {V W W' : World} {bg bm bf bm' : Nat} {q p' : PP} {s s' : EnS} {hv ov : Value} {A1 A2 : Option Addr} {n1 c1 n2 c2 : Nat} {rs : List Nat} (h : EfAt V W bg bm q s hv ov) (hz : ∀ e ∈ q.edges, e.rst = [])
    (hg : GrsOk W rs W') (hr : RowAt W bf 61 (enC bm' p' s' (.slice A1 n1 c1) (.slice A2 n2 c2))) (hrs : ∀ k ∈ rs, k = bf ∨ V.heap.size ≤ k) (hbf : bf < V.heap.size) (hd : ∀ k ∈ ownL bg hv ov, k ∉ rs) :
    ∃ V' : World, V'.heap.size = V.heap.size ∧ EfAt V' W' bg bm q s hv ov := by
  have hle : V.heap.size ≤ W'.heap.size := Nat.le_trans h.b.bel.size hg.size
  have hsz := cutW_size hle
  have hrV : RowAt V bf 61 (enC bm' p' s' (.slice A1 n1 c1) (.slice A2 n2 c2)) := hr.block (h.b.bel.block bf hbf).symm
  refine ⟨cutW W' V.heap.size, hsz, ⟨⟨cutW_bel hle, by rw [hsz]; exact h.b.nb, row_grs h.b.row hg (hd _ (mem_ownL.mpr (.inl rfl))), ?_, ?_, h.b.ne, h.b.ty⟩, ?_, h.loc, h.cl⟩⟩
  · rw [hsz]; exact ownsRow_far h.b.held hg (fun k e => hd k (mem_ownL.mpr (.inr (.inl e))))
  · rw [hsz]; exact ownsRow_far h.b.out hg (fun k e => hd k (mem_ownL.mpr (.inr (.inr e))))
  · refine h.mach.box hz hrV hsz (fun k hk hne => ?_)
    have hnr : k ∉ rs := fun hm => by
      rcases hrs k hm with e | e
      · exact hne e
      · omega
    rw [cutW_at hle hk, hg.block k (Nat.lt_of_lt_of_le hk h.b.bel.size) hnr, h.b.bel.block k hk]
/-- two enforcers of the program, side by side -/
structure F2 (wm V W : World) (bf bmf bg bmg : Nat) (sf sg : EnS) (hv ov hv' ov' : Value) : Prop where
  f : EfAt wm W bf bmf fP sf hv ov
  g : EfAt V W bg bmg fQ sg hv' ov'
  d : ∀ k ∈ ownL bf hv ov, k ∉ ownL bg hv' ov'
  lo : bf < V.heap.size
  hi : ∀ k ∈ ownL bf hv ov, k = bf ∨ V.heap.size ≤ k
  le : wm.heap.size ≤ V.heap.size
theorem F2.after {wm V W W' : World} {bf bmf bg bmg : Nat} {sf sg : EnS} {hv ov hv' ov' : Value} (h : F2 wm V W bf bmf bg bmg sf sg hv ov hv' ov') (hb : Bel W W') : F2 wm V W' bf bmf bg bmg sf sg hv ov hv' ov' :=
  ⟨h.f.after hb, h.g.after hb, h.d, h.lo, h.hi, h.le⟩
theorem F2.first {wm V W W' : World} {bf bmf bg bmg : Nat} {sf sg sf2 : EnS} {hv ov hv' ov' hv2 ov2 : Value} (h : F2 wm V W bf bmf bg bmg sf sg hv ov hv' ov') (he : EfAt wm W' bf bmf fP sf2 hv2 ov2) (hg : GrsOk W (ownL bf hv ov) W')
    (hn : ∀ k ∈ ownL bf hv2 ov2, k ∈ ownL bf hv ov ∨ W.heap.size ≤ k) : ∃ V', F2 wm V' W' bf bmf bg bmg sf2 sg hv2 ov2 hv' ov' := by
  obtain ⟨A1, c1, rfl, _⟩ := own_slice h.f.b.held
  obtain ⟨A2, c2, rfl, _⟩ := own_slice h.f.b.out
  obtain ⟨V', h1, h2⟩ := h.g.shift (by intro e he; simp [fQ] at he; subst he; rfl) hg h.f.b.row h.hi h.lo (fun k hk hm => h.d k hm hk)
  refine ⟨V', he, h2, fun k hk hm => ?_, by rw [h1]; exact h.lo, fun k hk => ?_, by rw [h1]; exact h.le⟩
  · rcases hn k hk with q | q
    · exact h.d k q hm
    · have := (h.g.b.big k hm).2; omega
  · rw [h1]
    rcases hn k hk with q | q
    · exact h.hi k q
    · exact .inr (Nat.le_trans h.g.b.bel.size q)
theorem F2.second {wm V W W' : World} {bf bmf bg bmg : Nat} {sf sg sg2 : EnS} {hv ov hv' ov' hv2 ov2 : Value} (h : F2 wm V W bf bmf bg bmg sf sg hv ov hv' ov') (he : EfAt V W' bg bmg fQ sg2 hv2 ov2) (hg : GrsOk W (ownL bg hv' ov') W')
    (hn : ∀ k ∈ ownL bg hv2 ov2, k ∈ ownL bg hv' ov' ∨ W.heap.size ≤ k) : F2 wm V W' bf bmf bg bmg sf sg2 hv ov hv2 ov2 := by
  refine ⟨h.f.other hg (fun k hk => Nat.le_trans h.le (h.g.b.big k hk).1) (fun k hk hm => h.d k hk hm), he, fun k hk hm => ?_, h.lo, h.hi, h.le⟩
  rcases hn k hm with q | q
  · exact h.d k hk q
  · have := (h.f.b.big k hk).2; omega
theorem bools1 {w : World} {b : Nat} {e : TypeId} {v : Bool} (h : RowAt w b e [.bool v]) : BoolsAt w w.heap.size (.slice (some ⟨b, 0, none⟩) 1 1) [v] :=
  ⟨_, 1, rfl, Nat.le_refl _, fun _ => ⟨b, 0, rfl, h.lt, fun i hi => by
    obtain rfl : i = 0 := by simp at hi; omega
    exact h.cell (i := 0) rfl⟩⟩
theorem edges1 {w : World} {b : Nat} {e : TypeId} (h : RowAt w b e [.int .i64 0, .int .i64 0, .int .i64 0, .slice none 0 0, .slice none 0 0]) : EdgesAt w w.heap.size (.slice (some ⟨b, 0, none⟩) 1 1) [⟨0, 0, 0, [], []⟩] :=
  ⟨_, 1, rfl, Nat.le_refl _, fun _ => ⟨b, 0, rfl, h.lt, fun i hi => by
    obtain rfl : i = 0 := by simp at hi; omega
    exact ⟨.slice none 0 0, .slice none 0 0, ⟨h.cell (i := 0) rfl, h.cell (i := 1) rfl, h.cell (i := 2) rfl, h.cell (i := 3) rfl, h.cell (i := 4) rfl⟩, ⟨none, 0, rfl, Nat.le_refl _, fun h => absurd h (by simp [peAt])⟩, ⟨none, 0, rfl, Nat.le_refl _, fun h => absurd h (by simp [peAt])⟩⟩⟩⟩
theorem bools_up {w w' : World} {v : Value} {l : List Bool} (h : BoolsAt w w.heap.size v l) (hb : Bel w w') : BoolsAt w' w'.heap.size v l := h.keep hb.keeps hb.le
theorem edges0 (w : World) (B : Nat) : EdgesAt w B (.slice none 0 0) [] := ⟨none, 0, rfl, Nat.le_refl _, fun h => absurd h (by simp)⟩
end Go.Proofs.Ythidbmeocifkcaa
