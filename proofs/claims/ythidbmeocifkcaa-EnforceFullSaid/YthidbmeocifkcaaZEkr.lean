/- enforce: the map of moves while the machine is made. -/
import Derived.Test.YthidbmeocifkcaaG20
import Derived.Test.YthidbmeocifkcaaG1
namespace Go.Proofs.Ythidbmeocifkcaa
open Go.RowKit
theorem own_blk {w w' : World} {B size n : Nat} {e : TypeId} {v : Value} {xs : List Value} (h : w.ownsRow B e size v n xs) (hb : ∀ g, v.ownBlock = some g → w'.heap[g]? = w.heap[g]?) : w'.ownsRow B e size v n xs := by
  refine ⟨h.1, ?_⟩
  rcases h.2 with h1 | ⟨g, cap, cur, hv, h2, h3, h4⟩
  · exact .inl h1
  · exact .inr ⟨g, cap, cur, hv, h2, (hb g (by rw [hv]; rfl)).trans h3, h4⟩
theorem own_cells {w : World} {B size n : Nat} {e : TypeId} {v : Value} {xs : List Value} (h : w.ownsRow B e size v n xs) {g : Nat} (hg : v.ownBlock = some g) : ∃ cur, w.heap[g]? = some (.cells cur e (0, 0)) := by
  rcases h.2 with ⟨rfl, _⟩ | ⟨g', cap, cur, rfl, h2, h3, h4⟩
  · cases hg
  · simp only [Value.ownBlock, Option.some.injEq] at hg
    subst hg
    exact ⟨cur, h3⟩
def mvC (M : Int) (x : PE × Value) : List Value := [.int .i64 ((spans3 M x.1.grd).getD 0 (0, 0)).1, .int .i64 ((spans3 M x.1.grd).getD 0 (0, 0)).2, .int .i64 ((spans3 M x.1.grd).getD 1 (0, 0)).1, .int .i64 ((spans3 M x.1.grd).getD 1 (0, 0)).2, .int .i64 ((spans3 M x.1.grd).getD 2 (0, 0)).1, .int .i64 ((spans3 M x.1.grd).getD 2 (0, 0)).2, x.2, .int .i64 (PE.to x.1)]
theorem mvC_len (M : Int) (x : PE × Value) : (mvC M x).length = 8 := rfl
def RstOwn (w : World) (B : Nat) (x : PE × Value) : Prop := w.ownsRow B 3 1 x.2 x.1.rst.length (x.1.rst.map (Value.int .i64))
def KeyRow (w : World) (B : Nat) (v : Value) (l : List PE) (M : Int) : Prop :=
  ∃ q : List (PE × Value), q.map (·.1) = l ∧ w.ownsRow B 98 8 v l.length (q.flatMap (mvC M)) ∧ ∀ x ∈ q, RstOwn w B x
theorem KeyRow.nil (w : World) (B : Nat) (M : Int) : KeyRow w B (.slice none 0 0) [] M := ⟨[], rfl, World.ownsRow_nil _ _ _ _, by simp⟩
theorem KeyRow.mvs {w : World} {B : Nat} {v : Value} {l : List PE} {M : Int} (h : KeyRow w B v l M) : MvsAt w w.heap.size v l M := by
  obtain ⟨q, rfl, ho, hr⟩ := h
  obtain ⟨A, c, rfl, hc⟩ := own_slice ho
  refine ⟨A, c, rfl, hc, fun h0 => ?_⟩
  obtain ⟨g, cap, hv, _, _, hg⟩ := own_form ho h0
  injection hv with hA _ hc2
  subst hA hc2
  refine ⟨g, 0, rfl, hg, fun i hi => ?_⟩
  have hi' : i < q.length := by simpa using hi
  have hp : peAt (q.map (·.1)) i = q[i].1 := by simp [peAt, List.getD, hi']
  have hat : ∀ r u, (mvC M q[i])[r]? = some u → r < 8 → w.cell? ⟨g, 0 + i * 8 + r, none⟩ = some u := fun r u hu hr8 => by
    have := ho.cells (g := g) rfl (i * 8 + r) u (by rw [flat_at (mvC_len M) q i r hi' hr8]; exact hu)
    rw [add_ofs] at this
    rw [Nat.zero_add]; exact this
  show ∃ rv, MvCells w g (0 + i * 8) (spans3 M (peAt (List.map (fun x => x.fst) q) i).grd) rv (PE.to (peAt (List.map (fun x => x.fst) q) i)) ∧ IntsAt w w.heap.size rv (peAt (List.map (fun x => x.fst) q) i).rst
  rw [hp]
  exact ⟨q[i].2, ⟨hat 0 _ rfl (by omega), hat 1 _ rfl (by omega), hat 2 _ rfl (by omega), hat 3 _ rfl (by omega), hat 4 _ rfl (by omega), hat 5 _ rfl (by omega), hat 6 _ rfl (by omega), hat 7 _ rfl (by omega)⟩, IntsAt.of_own (hr _ (List.getElem_mem hi'))⟩
theorem KeyRow.blk {w w' : World} {B : Nat} {v : Value} {l : List PE} {M : Int} (h : KeyRow w B v l M) (hb : ∀ g, v.ownBlock = some g → w'.heap[g]? = w.heap[g]?) (hr : ∀ (g : Nat) (c : Array Value), w.heap[g]? = some (Obj.cells c 3 (0, 0)) → w'.heap[g]? = w.heap[g]?) : KeyRow w' B v l M := by
  obtain ⟨q, hq, ho, hrs⟩ := h
  exact ⟨q, hq, own_blk ho hb, fun x hx => own_blk (hrs x hx) (fun g hg => by obtain ⟨c, hc⟩ := own_cells (hrs x hx) hg; exact hr g c hc)⟩
theorem KeyRow.bel {w w' : World} {B : Nat} {v : Value} {l : List PE} {M : Int} (h : KeyRow w B v l M) (hb : Bel w w') : KeyRow w' B v l M := by
  obtain ⟨q, hq, ho, hrs⟩ := h
  exact ⟨q, hq, ownsRow_bel ho hb, fun x hx => ownsRow_bel (hrs x hx) hb⟩
theorem KeyRow.own {w : World} {B : Nat} {v : Value} {l : List PE} {M : Int} (h : KeyRow w B v l M) : ∃ xs, w.ownsRow B 98 8 v l.length xs := let ⟨_, _, h, _⟩ := h; ⟨_, h⟩
theorem vmap_blk {W : World} {P : Program} {k : TypeId} {b n : Nat} {z : Value} {m : Lit → Value} (h : VMap W P k b n z m) : ∃ es c, W.heap[b]? = some (.map es c) := by
  obtain ⟨D, ⟨es, c, hb, _⟩, _⟩ := h
  exact ⟨es, c, hb⟩
/-- the moves of the edges es, by their keys -/
structure MoK (B : Nat) (W : World) (bq n : Nat) (m : Lit → Value) (es : List PE) (M : Int) : Prop where
  ob : B ≤ bq
  mp : VMap W Try.prog 100 bq n (.slice none 0 0) m
  row : ∀ loc ev, i64 loc → i64 ev → KeyRow W B (m (klit 100 [loc, ev])) (movesOf es loc ev) M
  ap : ∀ loc ev loc2 ev2, i64 loc → i64 ev → i64 loc2 → i64 ev2 → ¬ (loc = loc2 ∧ ev = ev2) → ∀ g, (m (klit 100 [loc, ev])).ownBlock = some g → (m (klit 100 [loc2, ev2])).ownBlock ≠ some g
theorem MoK.bel {B : Nat} {W W' : World} {bq n : Nat} {m : Lit → Value} {es : List PE} {M : Int} (h : MoK B W bq n m es M) (hb : Bel W W') : MoK B W' bq n m es M :=
  ⟨h.ob, h.mp.bel hb, fun loc ev h1 h2 => (h.row loc ev h1 h2).bel hb, h.ap⟩
theorem MoK.start {B : Nat} {W : World} {bq : Nat} {M : Int} (hb : B ≤ bq) (h : VMap W Try.prog 100 bq 0 (.slice none 0 0) (fun _ => .slice none 0 0)) : MoK B W bq 0 (fun _ => .slice none 0 0) [] M :=
  ⟨hb, h, fun _ _ _ _ => KeyRow.nil _ _ _, fun _ _ _ _ _ _ _ _ _ g hg => by cases hg⟩
theorem moves_snoc (es : List PE) (y : PE) (loc ev : Int) : movesOf (es ++ [y]) loc ev = movesOf es loc ev ++ (if y.frm = loc ∧ y.ev = ev then [y] else []) := by
  unfold movesOf
  rw [List.filter_append]
  congr 1
  by_cases h : y.frm = loc ∧ y.ev = ev
  · rw [if_pos h]; simp [keyed, h.1, h.2]
  · rw [if_neg h]
    have : keyed loc ev y = false := by
      unfold keyed
      rw [Bool.eq_false_iff]
      simpa using h
    simp [this]
theorem MoK.done {B : Nat} {W W3 : World} {bq n : Nat} {m m' : Lit → Value} {es : List PE} {y : PE} {rv v' : Value} {g : Nat} {M : Int} (h : MoK B W bq n m es M) (hf : i64 y.frm) (he : i64 y.ev)
    (hk : ∀ b, b < W.heap.size → b ≠ bq → some b ≠ (m (klit 100 [y.frm, y.ev])).ownBlock → W3.heap[b]? = W.heap[b]?)
    (hq : ∃ q : List (PE × Value), q.map (·.1) = movesOf es y.frm y.ev ∧ (∀ x ∈ q, RstOwn W B x) ∧ W3.ownsRow B 98 8 v' ((movesOf es y.frm y.ev).length + 1) (q.flatMap (mvC M) ++ mvC M (y, rv)))
    (hr : RstOwn W B (y, rv)) (hg : v'.ownBlock = some g) (hg2 : (m (klit 100 [y.frm, y.ev])).ownBlock = some g ∨ W.heap.size ≤ g)
    (hm : VMap W3 Try.prog 100 bq (n + 1) (.slice none 0 0) m') (hmk : m' (klit 100 [y.frm, y.ev]) = v') (hmo : ∀ x, x ≠ klit 100 [y.frm, y.ev] → m' x = m x) : MoK B W3 bq (n + 1) m' (es ++ [y]) M := by
  obtain ⟨es0, c0, hbq⟩ := vmap_blk h.mp
  have hne : ∀ loc ev, i64 loc → i64 ev → ¬ (y.frm = loc ∧ y.ev = ev) → m' (klit 100 [loc, ev]) = m (klit 100 [loc, ev]) := fun loc ev h1 h2 hn => hmo _ (fun e => hn (by
    have := ikey_mv.inj rfl rfl (by intro x hx; simp at hx; rcases hx with rfl | rfl <;> assumption) (by intro x hx; simp at hx; rcases hx with rfl | rfl <;> assumption) e
    simp at this
    exact ⟨this.1.symm, this.2.symm⟩))
  have hrst : ∀ (x : PE × Value), RstOwn W B x → RstOwn W3 B x := fun x hx => own_blk hx (fun b hb => by
    obtain ⟨c, hc⟩ := own_cells hx hb
    refine hk b (Blk.lt hc) (fun e => by subst e; rw [hbq] at hc; cases hc) (fun e => ?_)
    obtain ⟨xs, hxs⟩ := (h.row y.frm y.ev hf he).own
    obtain ⟨c2, hc2⟩ := own_cells hxs e.symm
    rw [hc] at hc2
    simp at hc2)
  refine ⟨h.ob, hm, fun loc ev h1 h2 => ?_, fun loc ev loc2 ev2 h1 h2 h3 h4 hn b hb => ?_⟩
  · rw [moves_snoc]
    by_cases hc : y.frm = loc ∧ y.ev = ev
    · obtain ⟨rfl, rfl⟩ := hc
      obtain ⟨q, hq1, hq2, hq3⟩ := hq
      rw [if_pos ⟨rfl, rfl⟩, hmk]
      refine ⟨q ++ [(y, rv)], by rw [List.map_append, hq1]; rfl, by rw [List.length_append, List.flatMap_append]; simpa using hq3, fun x hx => ?_⟩
      rcases List.mem_append.mp hx with hx | hx
      · exact hrst x (hq2 x hx)
      · simp at hx; subst hx; exact hrst _ hr
    · rw [if_neg hc, List.append_nil, hne loc ev h1 h2 hc]
      obtain ⟨q, hq1, hq2, hq3⟩ := h.row loc ev h1 h2
      refine ⟨q, hq1, own_blk hq2 (fun b hb => ?_), fun x hx => hrst x (hq3 x hx)⟩
      obtain ⟨c, hcc⟩ := own_cells hq2 hb
      exact hk b (Blk.lt hcc) (fun e => by subst e; rw [hbq] at hcc; cases hcc) (fun e => h.ap loc ev y.frm y.ev h1 h2 hf he (fun hh => hc ⟨hh.1.symm, hh.2.symm⟩) b hb e.symm)
  · have hlt : ∀ loc ev, i64 loc → i64 ev → ∀ b, (m (klit 100 [loc, ev])).ownBlock = some b → b < W.heap.size := fun loc ev h1 h2 b hb => by
      obtain ⟨xs, hxs⟩ := (h.row loc ev h1 h2).own
      obtain ⟨c, hc⟩ := own_cells hxs hb
      exact Blk.lt hc
    by_cases hc : y.frm = loc ∧ y.ev = ev
    · obtain ⟨rfl, rfl⟩ := hc
      rw [hmk, hg] at hb
      injection hb with hb
      subst hb
      rw [hne loc2 ev2 h3 h4 hn]
      rcases hg2 with hg2 | hg2
      · exact h.ap _ _ _ _ h1 h2 h3 h4 hn _ hg2
      · intro e
        have := hlt _ _ h3 h4 _ e
        omega
    · rw [hne loc ev h1 h2 hc] at hb
      by_cases hc2 : y.frm = loc2 ∧ y.ev = ev2
      · obtain ⟨rfl, rfl⟩ := hc2
        rw [hmk, hg]
        intro e
        injection e with e
        subst e
        rcases hg2 with hg2 | hg2
        · exact h.ap _ _ _ _ h1 h2 hf he hn _ hb hg2
        · have := hlt _ _ h1 h2 _ hb
          omega
      · rw [hne loc2 ev2 h3 h4 hc2]
        exact h.ap _ _ _ _ h1 h2 h3 h4 hn b hb
end Go.Proofs.Ythidbmeocifkcaa
