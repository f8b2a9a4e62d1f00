import Derived.Test.YthidbmeocifkcaaZPset
import Derived.Test.YthidbmeocifkcaaG25
import Derived.Test.YthidbmeocifkcaaG1
import Derived.Test.YthidbmeocifkcaaZTaket
/- enforce: keys of maps: arrays and structs of integers. -/
namespace Go.Proofs.Ythidbmeocifkcaa
open Go.RowKit Go.Maps Go.WideMaps
/-- a type whose cells are all integers -/
def intTy (P : Program) : Nat → TypeId → Bool
  | 0, _ => false
  | d + 1, t => match P.underlying t with
    | some (.int q) => decide (q = .i64) && decide (P.cellsOf t = 1)
    | some (.array n e) => intTy P d e && decide (P.cellsOf t = n * P.cellsOf e)
    | some (.struct fs) => fs.all (·.name != "_") && fs.toList.all (fun f => intTy P d f.type && decide (f.offset + P.cellsOf f.type ≤ P.cellsOf t))
    | _ => false
theorem mapM_some {α β : Type} {f : α → Option β} : ∀ (l : List α), (∀ a ∈ l, ∃ x, f a = some x) → ∃ xs, l.mapM f = some xs
  | [], _ => ⟨[], rfl⟩
  | a :: l, h => by
    obtain ⟨x, hx⟩ := h a (by simp)
    obtain ⟨xs, hxs⟩ := mapM_some l (fun b hb => h b (by simp [hb]))
    exact ⟨x :: xs, by simp [List.mapM_cons, hx, hxs]⟩
theorem keyLits_int {P : Program} : ∀ (d : Nat) (t : TypeId) (ns : List Int), intTy P d t = true → ns.length = P.cellsOf t → (∀ n ∈ ns, i64 n) → ∃ x, P.keyLits d t (ns.map (Value.int .i64)) = some x
  | 0, _, _, h, _, _ => by cases h
  | d + 1, t, ns, h, hl, hn => by
    have sub : ∀ (o c : Nat), ((ns.map (Value.int .i64)).drop o).take c = ((ns.drop o).take c).map (Value.int .i64) := fun o c => by rw [List.map_take, List.map_drop]
    have subn : ∀ (o c : Nat), ∀ n ∈ (ns.drop o).take c, i64 n := fun o c n hm => hn n (List.mem_of_mem_drop (List.mem_of_mem_take hm))
    unfold intTy at h
    unfold Program.keyLits
    split at h
    · rename_i q hu
      simp only [Bool.and_eq_true, decide_eq_true_eq] at h
      obtain ⟨rfl, hc⟩ := h
      rw [hc] at hl
      match ns, hl, hn with
      | [n], _, hn =>
        have := litwf (hn n (by simp))
        exact ⟨[.int .i64 n], by simp [hu, this]⟩
    · rename_i m e hu
      simp only [Bool.and_eq_true, decide_eq_true_eq] at h
      obtain ⟨he, hc⟩ := h
      have hx : ∀ i ∈ List.range m, ∃ x, P.keyLits d e (((ns.map (Value.int .i64)).drop (i * P.cellsOf e)).take (P.cellsOf e)) = some x := fun i hi => by
        rw [sub]
        refine keyLits_int d e _ he ?_ (subn _ _)
        have hi' : i < m := by simpa using hi
        have h1 : (i + 1) * P.cellsOf e ≤ m * P.cellsOf e := Nat.mul_le_mul_right _ hi'
        rw [Nat.add_mul, Nat.one_mul] at h1
        rw [List.length_take, List.length_drop, hl, hc]
        omega
      obtain ⟨xs, hxs⟩ := mapM_some _ hx
      refine ⟨xs.flatten, ?_⟩
      rw [hu]
      simp only [List.length_map]
      rw [if_pos hl, hxs]
      rfl
    · rename_i fs hu
      simp only [Bool.and_eq_true] at h
      obtain ⟨hb, hf⟩ := h
      have hx : ∀ f ∈ fs.toList, ∃ x, P.keyLits d f.type (((ns.map (Value.int .i64)).drop f.offset).take (P.cellsOf f.type)) = some x := fun f hm => by
        have := List.all_eq_true.1 hf f hm
        simp only [Bool.and_eq_true, decide_eq_true_eq] at this
        rw [sub]
        refine keyLits_int d f.type _ this.1 ?_ (subn _ _)
        rw [List.length_take, List.length_drop, hl]
        have := this.2
        omega
      obtain ⟨xs, hxs⟩ := mapM_some _ hx
      refine ⟨xs.flatten, ?_⟩
      rw [hu]
      simp only [List.length_map]
      rw [if_pos ⟨hl, hb⟩, hxs]
      rfl
    · cases h
/-- what a type of keys needs -/
structure IKey (k : TypeId) (n : Nat) : Prop where
  law : KeyLaw Try.prog k
  lit : ∀ {ns : List Int}, ns.length = n → (∀ x ∈ ns, i64 x) → ∃ x, keyOf Try.prog k (.agg (ns.map (Value.int .i64)).toArray) = some x
noncomputable def klit (k : TypeId) (ns : List Int) : Lit := (keyOf Try.prog k (.agg (ns.map (Value.int .i64)).toArray)).getD (.bool false)
section
variable {k : TypeId} {n : Nat}
theorem IKey.key (K : IKey k n) : Keyed Try.prog k := Keyed.of_law K.law
set_option maxRecDepth 100000 in
theorem IKey.of (K : IKey k n) {ns : List Int} (hl : ns.length = n) (hn : ∀ x ∈ ns, i64 x) : keyOf Try.prog k (.agg (ns.map (Value.int .i64)).toArray) = some (klit k ns) := by
  obtain ⟨x, hx⟩ := K.lit hl hn
  unfold klit
  rw [hx]
  rfl
set_option maxRecDepth 100000 in
theorem IKey.isKey (K : IKey k n) {ns : List Int} (hl : ns.length = n) (hn : ∀ x ∈ ns, i64 x) : WideAt.IsKeyLit (klit k ns) := K.key.key (K.of hl hn)
theorem map_int_inj : ∀ {a b : List Int}, a.map (Value.int .i64) = b.map (Value.int .i64) → a = b
  | [], [], _ => rfl
  | [], _ :: _, h => by cases h
  | _ :: _, [], h => by cases h
  | x :: a, y :: b, h => by
    simp only [List.map_cons, List.cons.injEq, Value.int.injEq, true_and] at h
    rw [h.1, map_int_inj h.2]
set_option maxRecDepth 100000 in
theorem IKey.inj (K : IKey k n) {a b : List Int} (ha : a.length = n) (hb : b.length = n) (hna : ∀ x ∈ a, i64 x) (hnb : ∀ x ∈ b, i64 x) (h : klit k a = klit k b) : a = b := by
  have h1 := K.of ha hna
  have h2 := K.of hb hnb
  rw [h] at h1
  have := K.law.inj h1 h2
  injection this with this
  exact map_int_inj (by simpa using congrArg Array.toList this)
end
set_option maxRecDepth 100000 in
theorem keyOf_int {k : TypeId} {ns : List Int} (hsh : (match Try.prog.underlying k with | some (.array _ _) | some (.struct _) => true | _ => false) = true) (hkt : Try.prog.keyType k = true) (hi : intTy Try.prog (Try.prog.types.size + 1) k = true) (hl : ns.length = Try.prog.cellsOf k) (hn : ∀ x ∈ ns, i64 x) :
    ∃ x, keyOf Try.prog k (.agg (ns.map (Value.int .i64)).toArray) = some x := by
  obtain ⟨x, hx⟩ := keyLits_int _ k ns hi hl hn
  refine ⟨.string (keyBytes x), ?_⟩
  unfold keyOf
  split at hsh
  · rename_i m e hu
    rw [hu]
    have hf : (Value.agg (ns.map (Value.int .i64)).toArray).formed Try.prog k = true := by simp [Value.formed, hu, hl]
    rw [show (Value.agg (ns.map (Value.int .i64)).toArray).cells = (ns.map (Value.int .i64)).toArray from rfl]
    simp only [hkt, hf, hx]
    rfl
  · rename_i fs hu
    rw [hu]
    have hf : (Value.agg (ns.map (Value.int .i64)).toArray).formed Try.prog k = true := by simp [Value.formed, hu, hl]
    rw [show (Value.agg (ns.map (Value.int .i64)).toArray).cells = (ns.map (Value.int .i64)).toArray from rfl]
    simp only [hkt, hf, hx]
    rfl
  · cases hsh
set_option maxRecDepth 100000 in
set_option maxHeartbeats 4000000 in
theorem ikey_mv : IKey 100 2 where
  law := deep_law_laid laidOut35 (m := 6) (by omega) (of_decide_eq_true (by kernel_rfl)) (by kernel_rfl) (by kernel_rfl)
  lit := fun {ns} hl hn => keyOf_int (by kernel_rfl) (by kernel_rfl) (by kernel_rfl) (hl.trans (by kernel_rfl)) hn
set_option maxRecDepth 100000 in
set_option maxHeartbeats 4000000 in
theorem ikey_ps : IKey 105 6 where
  law := deep_law_laid laidOut35 (m := 6) (by omega) (of_decide_eq_true (by kernel_rfl)) (by kernel_rfl) (by kernel_rfl)
  lit := fun {ns} hl hn => keyOf_int (by kernel_rfl) (by kernel_rfl) (by kernel_rfl) (hl.trans (by kernel_rfl)) hn
set_option maxRecDepth 100000 in
set_option maxHeartbeats 4000000 in
theorem ikey_rs : IKey 81 6 where
  law := deep_law_laid laidOut35 (m := 6) (by omega) (of_decide_eq_true (by kernel_rfl)) (by kernel_rfl) (by kernel_rfl)
  lit := fun {ns} hl hn => keyOf_int (by kernel_rfl) (by kernel_rfl) (by kernel_rfl) (hl.trans (by kernel_rfl)) hn
end Go.Proofs.Ythidbmeocifkcaa
/- enforce: the machine in memory. -/
namespace Go.Proofs.Ythidbmeocifkcaa
open Go.RowKit
structure MvCells (w : World) (b o : Nat) (sp : List (Int × Int)) (rv : Value) (tz : Int) : Prop where
  c0 : w.cell? ⟨b, o, none⟩ = some (.int .i64 (sp.getD 0 (0, 0)).1)
  c1 : w.cell? ⟨b, o + 1, none⟩ = some (.int .i64 (sp.getD 0 (0, 0)).2)
  c2 : w.cell? ⟨b, o + 2, none⟩ = some (.int .i64 (sp.getD 1 (0, 0)).1)
  c3 : w.cell? ⟨b, o + 3, none⟩ = some (.int .i64 (sp.getD 1 (0, 0)).2)
  c4 : w.cell? ⟨b, o + 4, none⟩ = some (.int .i64 (sp.getD 2 (0, 0)).1)
  c5 : w.cell? ⟨b, o + 5, none⟩ = some (.int .i64 (sp.getD 2 (0, 0)).2)
  c6 : w.cell? ⟨b, o + 6, none⟩ = some rv
  c7 : w.cell? ⟨b, o + 7, none⟩ = some (.int .i64 tz)
def MvsAt (w : World) (B : Nat) (v : Value) (l : List PE) (M : Int) : Prop :=
  RowOf B v l.length 8 fun b o i => ∃ rv, MvCells w b o (spans3 M (peAt l i).grd) rv (PE.to (peAt l i)) ∧ IntsAt w B rv (peAt l i).rst
theorem MvsAt.keep {w w' : World} {B B' : Nat} {v : Value} {l : List PE} {M : Int} (h : MvsAt w B v l M) (hk : Keeps B w w') (hB : B ≤ B') : MvsAt w' B' v l M :=
  RowOf.mono h hB fun _ _ _ hb _ ⟨rv, c, hr⟩ => ⟨rv, ⟨(hk _ _ hb).trans c.c0, (hk _ _ hb).trans c.c1, (hk _ _ hb).trans c.c2, (hk _ _ hb).trans c.c3, (hk _ _ hb).trans c.c4, (hk _ _ hb).trans c.c5, (hk _ _ hb).trans c.c6, (hk _ _ hb).trans c.c7⟩, hr.keep hk hB⟩
/-- the machine of a property -/
structure MachAt (w : World) (bm : Nat) (p : PP) : Prop where
  ex : ∃ (gv : Value) (bq nq : Nat) (m : Lit → Value), RowAt w bm 92 [gv, .map (some bq), .int .i64 (mostM p)] ∧ BoolsAt w w.heap.size gv p.good ∧ VMap w Try.prog 100 bq nq (.slice none 0 0) m ∧
    ∀ loc ev, i64 loc → i64 ev → MvsAt w w.heap.size (m (klit 100 [loc, ev])) (movesOf p.edges loc ev) (mostM p)
set_option maxRecDepth 100000 in
theorem MachAt.bel {w w' : World} {bm : Nat} {p : PP} (h : MachAt w bm p) (hb : Bel w w') : MachAt w' bm p := by
  obtain ⟨gv, bq, nq, m, a, b, c, d⟩ := h.ex
  exact ⟨gv, bq, nq, m, a.bel hb, b.keep hb.keeps hb.le, c.bel hb, fun loc ev h1 h2 => (d loc ev h1 h2).keep hb.keeps hb.le⟩
set_option maxRecDepth 100000 in
theorem MachAt.lt {w : World} {bm : Nat} {p : PP} (h : MachAt w bm p) : bm < w.heap.size := let ⟨_, _, _, _, a, _⟩ := h.ex; a.lt
set_option maxRecDepth 100000 in
theorem zero_moves (u : World) : (zeroValue 101).run Try.prog u = .ok (.slice none 0 0) u := rfl
end Go.Proofs.Ythidbmeocifkcaa
/- enforce: the search: how often it writes into its map (plain), and its memory. -/
namespace Go.Proofs.Ythidbmeocifkcaa
open Go.RowKit
def putsT (f : Int → Nat) : Int → Nat → Nat
  | _, 0 => 0
  | t, k + 1 => f t + putsT f (t + 1) k
def putsM (stp : Pt → Int → Int → Pt) (M E : Int) : List PS → Pt → Int → Nat
  | [], _, _ => 0
  | s :: ss, x, last => if x.loc < 0 then 0 else 1 + putsT (fun t => putsM stp M E ss (stp x (t - last) s.ev) t) (mx last s.at_) (spanT M E (mx last s.at_))
theorem putsT_le {f : Int → Nat} {B : Nat} : ∀ (k : Nat) (t : Int), (∀ u, t ≤ u → f u ≤ B) → putsT f t k ≤ k * B
  | 0, _, _ => by simp [putsT]
  | k + 1, t, h => by
    have h1 := h t (Int.le_refl _)
    have h2 := putsT_le k (t + 1) (fun u hu => h u (by omega))
    simp only [putsT]
    rw [Nat.add_mul]
    omega
/-- a bound: S times at most at each stamp -/
def cntB (S : Nat) : Nat → Nat
  | 0 => 0
  | n + 1 => 1 + S * cntB S n
theorem puts_le {stp : Pt → Int → Int → Pt} {M E : Int} {S : Nat} (hM : 0 ≤ M) : ∀ (ss : List PS) (x : Pt) (last : Int), mx last E + M + 2 - last ≤ S → putsM stp M E ss x last ≤ cntB S ss.length
  | [], _, _, _ => Nat.le_refl _
  | s :: ss, x, last, h => by
    simp only [putsM]
    by_cases hx : x.loc < 0
    · rw [if_pos hx]; exact Nat.zero_le _
    · rw [if_neg hx]
      have h1 := putsT_le (f := fun t => putsM stp M E ss (stp x (t - last) s.ev) t) (B := cntB S ss.length) (spanT M E (mx last s.at_)) (mx last s.at_) (fun u hu => puts_le hM ss _ u (by
        have := mx_l last s.at_
        have := mx_l last E
        have := mx_r last E
        rcases mx_or u E with h | h <;> omega))
      have h2 : spanT M E (mx last s.at_) ≤ S := by
        unfold spanT
        have := mx_l last s.at_
        have := mx_l last E
        have := mx_r last E
        rcases mx_or (mx last s.at_) E with h | h <;> omega
      have h3 := Nat.mul_le_mul_right (cntB S ss.length) h2
      simp only [List.length_cons, cntB]
      omega
theorem step3_loc {p : PP} {n : Nat} (hv : PValid p n) (M : Int) {x : Pt} (a ev : Int) : LocOk p (step3 M p.edges x a ev) := by
  unfold step3
  have key : ∀ (l : List PE) (cl : List Int) (y : PE), find3 M cl l = some y → y ∈ l := by
    intro l
    induction l with
    | nil => intro cl y h; cases h
    | cons z l ih =>
      intro cl y h
      simp only [find3] at h
      split at h
      · injection h with h; subst h; simp
      · exact List.mem_cons_of_mem _ (ih cl y h)
  cases hf : find3 M (tick3 M a x.cl 3) (movesOf p.edges x.loc ev) with
  | none =>
    have := hv.gd
    exact ⟨Int.le_refl _, by show (-1 : Int) < _; omega⟩
  | some y =>
    have hy := (List.mem_filter.mp (key _ _ _ hf)).1
    have hh : edgeHead p y = false := by
      have := hv.ed y hy
      unfold edgeBad at this; cases hh : edgeHead p y <;> simp [hh] at this ⊢
    unfold edgeHead at hh
    simp only [Bool.or_eq_false_iff, decide_eq_false_iff_not] at hh
    show -1 ≤ y.to ∧ y.to < _
    omega
def keyL (x : Pt) (last : Int) (j : Nat) : List Int := [x.loc, x.cl.getD 0 0, x.cl.getD 1 0, x.cl.getD 2 0, last, j]
/-- what the map says is true -/
def LostOk (sr : List PS → Pt → Int → Option (List Int)) (w : List PS) (m : Lit → Bool) : Prop :=
  ∀ (x : Pt) (last : Int) (j : Nat), x.cl.length = 3 → (∀ v ∈ keyL x last j, i64 v) → m (klit 105 (keyL x last j)) = true → sr (w.drop j) x last = none
theorem keyL_inj {x y : Pt} {a b : Int} {i j : Nat} (hx : x.cl.length = 3) (hy : y.cl.length = 3) (h : keyL x a i = keyL y b j) : x = y ∧ a = b ∧ i = j := by
  obtain ⟨lx, cx⟩ := x
  obtain ⟨ly, cy⟩ := y
  match cx, cy, hx, hy with
  | [a0, a1, a2], [b0, b1, b2], _, _ =>
    simp [keyL] at h
    obtain ⟨h1, h2, h3, h4, h5, h6⟩ := h
    subst h1 h2 h3 h4 h5
    obtain rfl : i = j := by omega
    exact ⟨rfl, rfl, rfl⟩
theorem LostOk.put {sr : List PS → Pt → Int → Option (List Int)} {w : List PS} {m m' : Lit → Bool} {x : Pt} {last : Int} {j : Nat} (h : LostOk sr w m) (hx : x.cl.length = 3) (hk : ∀ v ∈ keyL x last j, i64 v) (hs : sr (w.drop j) x last = none)
    (hmo : ∀ q, q ≠ klit 105 (keyL x last j) → m' q = m q) : LostOk sr w m' := by
  intro y l i hy hky hm
  by_cases e : klit 105 (keyL y l i) = klit 105 (keyL x last j)
  · obtain ⟨rfl, rfl, rfl⟩ := keyL_inj hy hx (ikey_ps.inj rfl rfl hky hk e)
    exact hs
  · rw [hmo _ e] at hm
    exact h y l i hy hky hm
/-- the memory of a search -/
structure TmAt (ws W : World) (bm bl bw bv be bo bt bq g : Nat) (A : Option Addr) (c : Nat) (E : Int) (w : List PS) (sr : List PS → Pt → Int → Option (List Int)) (outs : List Int) (m : Lit → Bool) (N : Nat) : Prop where
  bel : Bel ws W
  lost : RowAt W bl 102 [.map (some bq)]
  wv : RowAt W bw 26 [.slice A w.length c]
  mv : RowAt W bv 57 [.pointer (some ⟨bm, 0, none⟩)]
  ev : RowAt W be 2 [.int .i64 E]
  ov : RowAt W bo 70 [.slice (some ⟨g, 0, none⟩) w.length w.length]
  tv : RowAt W bt 103 [.func (.func 45) #[] #[.pointer (some ⟨bl, 0, none⟩), .pointer (some ⟨bw, 0, none⟩), .pointer (some ⟨bv, 0, none⟩), .pointer (some ⟨be, 0, none⟩), .pointer (some ⟨bo, 0, none⟩), .pointer (some ⟨bt, 0, none⟩)]]
  row : RowAt W g 2 (outs.map (Value.int .i64))
  ol : outs.length = w.length
  mp : BSet W Try.prog 105 4 bq N m
  ok : LostOk sr w m
  og : ws.heap.size ≤ g
  oq : ws.heap.size ≤ bq
  ne : be ≠ g
section
variable {ws W W' : World} {bm bl bw bv be bo bt bq g N N' c : Nat} {A : Option Addr} {E : Int} {w : List PS} {sr : List PS → Pt → Int → Option (List Int)} {outs outs' : List Int} {m m' : Lit → Bool}
theorem bset_blk {P : Program} {k e : TypeId} (h : BSet W P k e bq N m) : ∃ es c, W.heap[bq]? = some (.map es c) := by
  obtain ⟨D, ⟨es, c, hb, _⟩, _⟩ := h
  exact ⟨es, c, hb⟩
theorem TmAt.bel' (h : TmAt ws W bm bl bw bv be bo bt bq g A c E w sr outs m N) (hb : Bel W W') : TmAt ws W' bm bl bw bv be bo bt bq g A c E w sr outs m N :=
  ⟨h.bel.trans hb, h.lost.bel hb, h.wv.bel hb, h.mv.bel hb, h.ev.bel hb, h.ov.bel hb, h.tv.bel hb, h.row.bel hb, h.ol, h.mp.bel hb, h.ok, h.og, h.oq, h.ne⟩
/-- out[j] = t -/
theorem TmAt.set (h : TmAt ws W bm bl bw bv be bo bt bq g A c E w sr outs m N) (j : Nat) (t : Int) : TmAt ws (W.setCell ⟨g, j, none⟩ (.int .i64 t)) bm bl bw bv be bo bt bq g A c E w sr (outs.set j t) m N := by
  have hne : ∀ {b : Nat} {e : TypeId} {xs : List Value}, RowAt W b e xs → e ≠ 2 → b ≠ g := fun {b e xs} hb he e2 => by
    subst e2
    have hr := h.row
    unfold RowAt at hb hr
    rw [hb] at hr
    simp at hr
    exact he hr.2
  obtain ⟨es, c0, hbq⟩ := bset_blk h.mp
  have hq : bq ≠ g := fun e => by
    subst e
    have hr := h.row
    unfold RowAt at hr
    rw [hbq] at hr
    cases hr
  refine ⟨h.bel.set (p := ⟨g, j, none⟩) h.og _, h.lost.far (hne h.lost (by decide)) _, h.wv.far (hne h.wv (by decide)) _, h.mv.far (hne h.mv (by decide)) _, h.ev.far h.ne _, h.ov.far (hne h.ov (by decide)) _, h.tv.far (hne h.tv (by decide)) _, row_congr (h.row.set j _) (by rw [List.map_set]), by rw [List.length_set]; exact h.ol, h.mp.block (Below.heap_setCell W ⟨g, j, none⟩ _ bq hq), h.ok, h.og, h.oq, h.ne⟩
/-- lost[s] = true -/
theorem TmAt.put (h : TmAt ws W bm bl bw bv be bo bt bq g A c E w sr outs m N) (hg : W.grownBy W' (some bq)) (hm : BSet W' Try.prog 105 4 bq N' m') (hl : LostOk sr w m') : TmAt ws W' bm bl bw bv be bo bt bq g A c E w sr outs m' N' := by
  obtain ⟨es, c0, hbq⟩ := bset_blk h.mp
  have hne : ∀ {b : Nat} {e : TypeId} {xs : List Value}, RowAt W b e xs → some b ≠ some bq := fun {b e xs} hb e2 => by
    injection e2 with e2
    subst e2
    unfold RowAt at hb
    rw [hbq] at hb
    cases hb
  exact ⟨bel_gro h.bel hg (fun k hk => by injection hk with hk; subst hk; exact h.oq), h.lost.gro hg (hne h.lost), h.wv.gro hg (hne h.wv), h.mv.gro hg (hne h.mv), h.ev.gro hg (hne h.ev), h.ov.gro hg (hne h.ov), h.tv.gro hg (hne h.tv), h.row.gro hg (hne h.row), h.ol, hm, hl, h.og, h.oq, h.ne⟩
end
end Go.Proofs.Ythidbmeocifkcaa
