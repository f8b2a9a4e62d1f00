import Derived.Test.YtalphoebmefgoaaG43
import Derived.Test.YtalphoebmefgoaaG1
import Derived.Test.YtalphoebmefgoaaG38
import Derived.Test.YtalphoebmefgoaaG42
import Derived.Deep.CutBlock
/- poly, the reference: a sum of two lines, without a coordinate, in lowest terms. -/
namespace Go.Proofs.Ytalphoebmefgoaa
open Go.RowKit
/-- the numbers of a valid line -/
def AL.inr (x : AL) : Prop := ∀ c, c ∈ x.a ++ [x.b] → c.natAbs ≤ 2147483647
theorem AL.inr.at_ {x : AL} (h : x.inr) (i : Nat) : (x.a.getD i 0).natAbs ≤ 2147483647 := by
  rw [List.getD_eq_getElem?_getD]
  cases e : x.a[i]? with
  | none => simp
  | some c => exact h c (List.mem_append_left _ (List.mem_of_getElem? e))
theorem AL.inr.b {x : AL} (h : x.inr) : x.b.natAbs ≤ 2147483647 := h _ (by simp)
theorem AL.inr.wf {x : AL} (h : x.inr) : x.wf := fun c hc => Nat.lt_of_le_of_lt (h c hc) (by decide)
def linF (a : Int) (xa : List Int) (b : Int) (ya : List Int) (k : Nat) : Int := a * xa.getD k 0 + b * ya.getD k 0
def linK (a : Int) (xa : List Int) (b : Int) (ya : List Int) (n k : Nat) : List Int := (List.range n).map fun j => if j < k then linF a xa b ya j else 0
theorem linK_len (a : Int) (xa : List Int) (b : Int) (ya : List Int) (n k : Nat) : (linK a xa b ya n k).length = n := by simp [linK]
theorem linK_set (a : Int) (xa : List Int) (b : Int) (ya : List Int) (n k : Nat) : (linK a xa b ya n k).set k (linF a xa b ya k) = linK a xa b ya n (k + 1) := by
  apply List.ext_getElem
  · simp [linK]
  · intro j h1 h2
    simp only [linK, List.getElem_set, List.getElem_map, List.getElem_range]
    by_cases h : k = j
    · subst h; simp
    · rw [if_neg h]
      by_cases q : j < k
      · rw [if_pos q, if_pos (by omega)]
      · rw [if_neg q, if_neg (by omega)]
theorem linK_zero (a : Int) (xa : List Int) (b : Int) (ya : List Int) (n : Nat) : linK a xa b ya n 0 = List.replicate n 0 := by
  unfold linK
  apply List.ext_getElem
  · simp
  · intro j h1 h2; simp
def linA (a : Int) (x : AL) (b : Int) (y : AL) : AL := ⟨linK a x.a b y.a x.a.length x.a.length, a * x.b + b * y.b, x.s || y.s⟩
def sumA (a : Int) (x : AL) (b : Int) (y : AL) (i : Nat) : AL := lowA (shortA (linA a x b y) i)
theorem lin_wf {a b : Int} {x y : AL} (ha : a.natAbs ≤ 2147483647) (hb : b.natAbs ≤ 2147483647) (hx : x.inr) (hy : y.inr) (i : Nat) : (shortA (linA a x b y) i).wf := by
  intro c hc
  have hm : c ∈ linK a x.a b y.a x.a.length x.a.length ∨ c = a * x.b + b * y.b := by
    rcases List.mem_append.1 hc with hc | hc
    · refine .inl ?_
      rcases List.mem_append.1 hc with hc | hc
      · exact List.mem_of_mem_take hc
      · exact List.mem_of_mem_drop hc
    · exact .inr (by simpa [shortA, linA] using hc)
  rcases hm with hm | rfl
  · unfold linK at hm
    obtain ⟨j, _, rfl⟩ := List.mem_map.1 hm
    have := (lin_in ha (hx.at_ j) hb (hy.at_ j)).2.2.2
    split
    · unfold linF; omega
    · decide
  · have := (lin_in ha hx.b hb hy.b).2.2.2
    omega
set_option maxRecDepth 100000 in
theorem made64 (n : Nat) (hn : n ≤ 1000000) (W : World) : (Instr.makeSlice 23 (.int .i64 (n : Int)) (.int .i64 (n : Int))).run Try.prog W =
      .ok (.slice (some ⟨W.heap.size, 0, none⟩) n n) (W.alloc (.cells (intsV (List.replicate n 0)).toArray 2)) := by
  obtain ⟨i0, hi, hz0, hz1, hz2⟩ := info_parts3 Try.infoI64a
  rw [make_ints (P := Try.prog) (t := 23) (e := 2) Try.underlying23 hi hz0 hz1 hz2 n hn W]
  congr 3
  apply Array.ext
  · simp [madeCells, intsV]
  · intro i h1 h2; simp [madeCells, intsV, Value.cells, Nat.mod_one]
theorem own_made64 {W : World} {B n : Nat} (hb : B ≤ W.heap.size) (hn : n ≤ 1000000) (l : List Int) (hl : l.length = n) : (W.alloc (.cells (intsV l).toArray 2)).ownsRow B 2 1 (.slice (some ⟨W.heap.size, 0, none⟩) n n) l.length (intsV l) := by
  subst hl
  exact ⟨by rw [intsV_len, Nat.mul_one], .inr ⟨W.heap.size, l.length, (intsV l).toArray, rfl, hb, heap_alloc_new W _, Nat.le_refl _, by unfold maxLen; omega, by simp [intsV_len], by simp [intsV_len, List.take_of_length_le]⟩⟩
set_option maxRecDepth 100000 in
theorem rsum_res {W : World} {tmps : Array Value} {p : Nat} {rv : Value} {b : Int} {s : Bool} (h : RowAt W p 25 [rv, .int .i64 b, .bool s]) (t : tmps[10]? = some (.pointer (some ⟨p, 0, none⟩))) :
    (results Try.f76 tmps).run Try.prog W = .ok (.agg #[rv, .int .i64 b, .bool s]) W := by
  have q0 := h.cell (i := 0) rfl
  have q1 := h.cell (i := 1) rfl
  have q2 := h.cell (i := 2) rfl
  simp [results, Try.f76, go_sem, q0, q1, q2, t]
set_option maxRecDepth 100000 in
set_option maxHeartbeats 8000000 in
theorem rsum_any (a b : Int) (x y : AL) (xv yv : Value) (i : Nat) (w : World) (hx : IntsAt w w.heap.size xv x.a) (hy : IntsAt w w.heap.size yv y.a) (hl : x.a.length ≤ 1000000) (hyl : y.a.length = x.a.length) (hi : i < x.a.length)
    (ha : a.natAbs ≤ 2147483647) (hb : b.natAbs ≤ 2147483647) (hxr : x.inr) (hyr : y.inr) :
    Calls Try.prog 76 #[.int .i64 a, .agg #[xv, .int .i64 x.b, .bool x.s], .int .i64 b, .agg #[yv, .int .i64 y.b, .bool y.s], .int .i64 i] w (AlPost (sumA a x b y i) w) := by
  have HX := Lib.hid hx
  have HY := Lib.hid hy
  have HWF := Lib.hid (lin_wf ha hb hxr hyr i)
  obtain ⟨wb1, wb2, wb3, _⟩ := lin_in ha hxr.b hb hyr.b
  have HLK := Lib.hid (fun k => lin_in ha (hxr.at_ k) hb (hyr.at_ k))
  have HS : Hid (sumA a x b y i = lowA (shortA ⟨linK a x.a b y.a x.a.length x.a.length, a * x.b + b * y.b, x.s || y.s⟩ i)) := Lib.hid rfl
  change Hid ((shortA ⟨linK a x.a b y.a x.a.length x.a.length, a * x.b + b * y.b, x.s || y.s⟩ i).wf) at HWF
  obtain ⟨A1, c1, rfl, hc1⟩ := hx.form
  obtain ⟨A2, c2, rfl, hc2⟩ := hy.form
  have HYL := Lib.hid hyl
  clear hx hy hxr hyr ha hb hyl
  generalize sumA a x b y i = R at *
  obtain ⟨xa, xb, xs⟩ := x
  obtain ⟨ya, yb, ys⟩ := y
  dsimp only at *
  go_enter Try.func76, Try.ntmps76
  go_upto_region 1 with (fail)
  generalize hW : World.alloc (World.alloc (World.alloc w _) _) _ = w1 at *
  have hb : Bel w w1 := by rw [← hW]; exact ((Bel.refl.alloc _).alloc _).alloc _
  have r1 : RowAt w1 w.heap.size 25 [.slice A1 xa.length c1, .int .i64 xb, .bool xs] := by rw [← hW]; exact ((RowAt.new _ _ _).alloc _).alloc _
  have r2 : RowAt w1 (w.heap.size + 1) 25 [.slice A2 ya.length c2, .int .i64 yb, .bool ys] := by
    rw [← hW, ← size_alV w (.cells #[.slice A1 xa.length c1, .int .i64 xb, .bool xs] 25)]; exact (RowAt.new _ _ _).alloc _
  have r3 : RowAt w1 (w.heap.size + 2) 25 [.slice none 0 0, .int .i64 0, .bool false] := by
    have e : w.heap.size + 2 = ((w.alloc (.cells #[.slice A1 xa.length c1, .int .i64 xb, .bool xs] 25)).alloc (.cells #[.slice A2 ya.length c2, .int .i64 yb, .bool ys] 25)).heap.size := by simp
    rw [← hW, e]; exact RowAt.new _ _ _
  clear hW
  obtain ⟨p10, hp3⟩ : ∃ p, p = w.heap.size + 2 := ⟨_, rfl⟩
  rw [← hp3] at r3 ⊢
  obtain ⟨p8, hp2⟩ : ∃ p, p = w.heap.size + 1 := ⟨_, rfl⟩
  rw [← hp2] at r2 ⊢
  obtain ⟨p6, hp1⟩ : ∃ p, p = w.heap.size := ⟨_, rfl⟩
  rw [← hp1] at r1 ⊢
  have HN : Hid (w.heap.size ≤ p6 ∧ w.heap.size ≤ p8 ∧ w.heap.size ≤ p10) := Lib.hid (by omega)
  clear hp1 hp2 hp3
  have HB := Lib.hid hb
  have HR6 := Lib.hid r1
  have HR8 := Lib.hid r2
  have HR10 := Lib.hid r3
  have HIX := Lib.hid (HX.out.keep hb.keeps hb.le)
  have HIY := Lib.hid (HY.out.keep hb.keeps hb.le)
  clear hb
  have x0 := r1.cell (i := 0) rfl
  have x1 := r1.cell (i := 1) rfl
  have x2 := r1.cell (i := 2) rfl
  have l1 := r1.lt
  have y1 := r2.cell (i := 1) rfl
  have y2 := r2.cell (i := 2) rfl
  have l2 := r2.lt
  clear r1 r2 r3
  go_cut [11] from 13 to 58 (fun s11 wx => ∃ (z : Ext w1) (p11 : Nat) (rv : Value), wx = z.w ∧ s11 = .pointer (some ⟨p11, 0, none⟩) ∧ w1.heap.size ≤ p11 ∧ RowAt z.w p11 25 [rv, .int .i64 (a * xb + b * yb), .bool (xs || ys)] ∧ z.w.ownsRow w1.heap.size 2 1 rv (linK a xa b ya xa.length 0).length (intsV (linK a xa b ya xa.length 0)))
  case first =>
    have hmk := fun W' => made64 xa.length hl W'
    have HLZ := Lib.hid (linK_zero a xa b ya xa.length)
    cases xs
    all_goals
      (refine wp_region_E 21 none (by kernel_rfl) ?_; refine anyE_takes [0, 1, 2, 4, 5, 6, 7, 8, 9, 10, 11, 12, 13, 14, 15, 16, 17, 18] (fun _ _ _ _ _ h => h) ⟨⟨_, gro_drew (gro_refl _)⟩, rfl⟩ (by kernel_rfl) (by rfl) ?_; simp only [opsOf, List.filterMap_cons, List.filterMap_nil, List.getElem?_toArray, List.getElem?_cons_succ, List.getElem?_cons_zero, List.foldl_cons, List.foldl_nil]; (repeat (any_goals (first | go_big_quiet_step (fail) | quiet_step (fail)))); refine wpQuiet_nil ?_)
      have G0 : Hid (w1.grownBy w1.drew none) := Lib.hid (gro_drew (gro_refl _))
      have B0 := Lib.hid ((Bel.refl (w := w1)).drew)
      clear x0 x1 x2 l1 y1 y2 l2
      generalize w1.drew = W0 at *
      refine anyE_two 3 20 _ _ (by kernel_rfl) (by rfl) (by rfl) ?_ ?_
      · intro K hK
        rw [if_pos (by rfl)]
        go_simp
        refine hK _ _ (fun _ => ⟨⟨_, gro_alloc G0.out _⟩, rfl⟩) ?_
        clear hK K
        have G1 := Lib.hid (gro_alloc G0.out (.cells (intsV (List.replicate xa.length 0)).toArray 2))
        have B1 := Lib.hid (B0.out.alloc (.cells (intsV (List.replicate xa.length 0)).toArray 2))
        have O1 : Hid ((W0.alloc (.cells (intsV (List.replicate xa.length 0)).toArray 2)).ownsRow w1.heap.size 2 1 (.slice (some ⟨W0.heap.size, 0, none⟩) xa.length xa.length) (List.replicate xa.length (0 : Int)).length (intsV (List.replicate xa.length 0))) := Lib.hid (own_made64 B0.out.le hl _ (by simp))
        generalize World.alloc W0 _ = W1 at *
        generalize W0.heap.size = b1 at *
        refine anyE_two 19 20 _ _ (by kernel_rfl) (by rfl) (by rfl) ?_ ?_
        · intro K hK
          rw [if_pos (by rfl)]
          go_simp
          refine hK _ _ (fun _ => ⟨⟨_, G1.out⟩, rfl⟩) ?_
          clear hK K
          (refine anyE_one 20 _ (by kernel_rfl) (by rfl) (fun K hK => ?_))
          rw [if_pos (by rfl)]
          go_simp
          refine hK _ _ (fun _ => ⟨⟨_, gro_alloc G1.out _⟩, rfl⟩) ?_
          clear hK K
          have G3 := Lib.hid (gro_alloc G1.out (.cells #[.slice none 0 0, .int .i64 0, .bool false] 25))
          have B3 := Lib.hid (B1.out.alloc (.cells #[.slice none 0 0, .int .i64 0, .bool false] 25))
          have O_L3 := Lib.hid (ownsRow_bel O1.out (Bel.refl.alloc (.cells #[.slice none 0 0, .int .i64 0, .bool false] 25)))
          have R3 : Hid (RowAt (W1.alloc (.cells #[.slice none 0 0, .int .i64 0, .bool false] 25)) W1.heap.size 25 [.slice none 0 0, .int .i64 0, .bool false]) := Lib.hid (RowAt.new W1 25 [.slice none 0 0, .int .i64 0, .bool false])
          have N3 : Hid (w1.heap.size ≤ W1.heap.size) := Lib.hid B1.out.le
          generalize World.alloc W1 _ = W3 at *
          generalize W1.heap.size = b3 at *
          (refine anyE_tail 21 (by decide) (by rfl) (by kernel_rfl) ?_; simp only [List.drop_succ_cons, List.drop_zero])
          have q0 := R3.out.cell (i := 0) rfl
          have q1 := R3.out.cell (i := 1) rfl
          have q2 := R3.out.cell (i := 2) rfl
          have fq := fun k => R3.out.frozen k
          have lq := R3.out.lt
          go_wp2
          refine NoPanic.normal ?_
          go_wp2
          go_meet
          case rel => exact ⟨⟨_, ((B3.out.set (p := ⟨b3, 0, none⟩) N3.out _).set (p := ⟨b3, 1, none⟩) N3.out _).set (p := ⟨b3, 2, none⟩) N3.out _⟩, b3, _, rfl, rfl, N3.out, ((R3.out.set 0 _).set 1 _).set 2 _, by rw [HLZ.out]; exact own_farB (own_farB (own_farB O_L3.out R3.out line_ne_i64) (R3.out.set 0 _) line_ne_i64) ((R3.out.set 0 _).set 1 _) line_ne_i64⟩
        · intro K hK
          rw [if_pos (by rfl)]
          go_simp
          refine hK _ _ (fun _ => ⟨⟨_, gro_alloc G1.out _⟩, rfl⟩) ?_
          clear hK K
          have G4 := Lib.hid (gro_alloc G1.out (.cells #[.slice none 0 0, .int .i64 0, .bool false] 25))
          have B4 := Lib.hid (B1.out.alloc (.cells #[.slice none 0 0, .int .i64 0, .bool false] 25))
          have O_L4 := Lib.hid (ownsRow_bel O1.out (Bel.refl.alloc (.cells #[.slice none 0 0, .int .i64 0, .bool false] 25)))
          have R4 : Hid (RowAt (W1.alloc (.cells #[.slice none 0 0, .int .i64 0, .bool false] 25)) W1.heap.size 25 [.slice none 0 0, .int .i64 0, .bool false]) := Lib.hid (RowAt.new W1 25 [.slice none 0 0, .int .i64 0, .bool false])
          have N4 : Hid (w1.heap.size ≤ W1.heap.size) := Lib.hid B1.out.le
          generalize World.alloc W1 _ = W4 at *
          generalize W1.heap.size = b4 at *
          (refine anyE_one 19 _ (by kernel_rfl) (by rfl) (fun K hK => ?_))
          rw [if_pos (by rfl)]
          go_simp
          refine hK _ _ (fun _ => ⟨⟨_, G4.out⟩, rfl⟩) ?_
          clear hK K
          (refine anyE_tail 21 (by decide) (by rfl) (by kernel_rfl) ?_; simp only [List.drop_succ_cons, List.drop_zero])
          have q0 := R4.out.cell (i := 0) rfl
          have q1 := R4.out.cell (i := 1) rfl
          have q2 := R4.out.cell (i := 2) rfl
          have fq := fun k => R4.out.frozen k
          have lq := R4.out.lt
          go_wp2
          refine NoPanic.normal ?_
          go_wp2
          go_meet
          case rel => exact ⟨⟨_, ((B4.out.set (p := ⟨b4, 0, none⟩) N4.out _).set (p := ⟨b4, 1, none⟩) N4.out _).set (p := ⟨b4, 2, none⟩) N4.out _⟩, b4, _, rfl, rfl, N4.out, ((R4.out.set 0 _).set 1 _).set 2 _, by rw [HLZ.out]; exact own_farB (own_farB (own_farB O_L4.out R4.out line_ne_i64) (R4.out.set 0 _) line_ne_i64) ((R4.out.set 0 _).set 1 _) line_ne_i64⟩
      · intro K hK
        rw [if_pos (by rfl)]
        go_simp
        refine hK _ _ (fun _ => ⟨⟨_, gro_alloc G0.out _⟩, rfl⟩) ?_
        clear hK K
        have G6 := Lib.hid (gro_alloc G0.out (.cells #[.slice none 0 0, .int .i64 0, .bool false] 25))
        have B6 := Lib.hid (B0.out.alloc (.cells #[.slice none 0 0, .int .i64 0, .bool false] 25))
        have R6 : Hid (RowAt (W0.alloc (.cells #[.slice none 0 0, .int .i64 0, .bool false] 25)) W0.heap.size 25 [.slice none 0 0, .int .i64 0, .bool false]) := Lib.hid (RowAt.new W0 25 [.slice none 0 0, .int .i64 0, .bool false])
        have N6 : Hid (w1.heap.size ≤ W0.heap.size) := Lib.hid B0.out.le
        generalize World.alloc W0 _ = W6 at *
        generalize W0.heap.size = b6 at *
        (refine anyE_one 3 _ (by kernel_rfl) (by rfl) (fun K hK => ?_))
        rw [if_pos (by rfl)]
        go_simp
        refine hK _ _ (fun _ => ⟨⟨_, gro_alloc G6.out _⟩, rfl⟩) ?_
        clear hK K
        have G7 := Lib.hid (gro_alloc G6.out (.cells (intsV (List.replicate xa.length 0)).toArray 2))
        have B7 := Lib.hid (B6.out.alloc (.cells (intsV (List.replicate xa.length 0)).toArray 2))
        have P_L7 := Lib.hid (R6.out.alloc (.cells (intsV (List.replicate xa.length 0)).toArray 2))
        have O7 : Hid ((W6.alloc (.cells (intsV (List.replicate xa.length 0)).toArray 2)).ownsRow w1.heap.size 2 1 (.slice (some ⟨W6.heap.size, 0, none⟩) xa.length xa.length) (List.replicate xa.length (0 : Int)).length (intsV (List.replicate xa.length 0))) := Lib.hid (own_made64 B6.out.le hl _ (by simp))
        generalize World.alloc W6 _ = W7 at *
        generalize W6.heap.size = b7 at *
        (refine anyE_one 19 _ (by kernel_rfl) (by rfl) (fun K hK => ?_))
        rw [if_pos (by rfl)]
        go_simp
        refine hK _ _ (fun _ => ⟨⟨_, G7.out⟩, rfl⟩) ?_
        clear hK K
        (refine anyE_tail 21 (by decide) (by rfl) (by kernel_rfl) ?_; simp only [List.drop_succ_cons, List.drop_zero])
        have q0 := P_L7.out.cell (i := 0) rfl
        have q1 := P_L7.out.cell (i := 1) rfl
        have q2 := P_L7.out.cell (i := 2) rfl
        have fq := fun k => P_L7.out.frozen k
        have lq := P_L7.out.lt
        go_wp2
        refine NoPanic.normal ?_
        go_wp2
        go_meet
        case rel => exact ⟨⟨_, ((B7.out.set (p := ⟨b6, 0, none⟩) N6.out _).set (p := ⟨b6, 1, none⟩) N6.out _).set (p := ⟨b6, 2, none⟩) N6.out _⟩, b6, _, rfl, rfl, N6.out, ((P_L7.out.set 0 _).set 1 _).set 2 _, by rw [HLZ.out]; exact own_farB (own_farB (own_farB O7.out P_L7.out line_ne_i64) (P_L7.out.set 0 _) line_ne_i64) ((P_L7.out.set 0 _).set 1 _) line_ne_i64⟩
  case rest =>
  obtain ⟨z, p11, rv, rfl, rfl, hp11, hr11, ho11⟩ := hcut
  have HR11 := Lib.hid hr11
  have HO := Lib.hid (own_base ho11 HB.out.le)
  have HRA := Lib.hid (HR6.out.bel z.bel)
  have HRB := Lib.hid (HR8.out.bel z.bel)
  have HRC := Lib.hid (HR10.out.bel z.bel)
  have HBZ := Lib.hid (HB.out.trans z.bel)
  have HP11 : Hid (w.heap.size ≤ p11 ∧ p11 ≠ p10) := Lib.hid (by have := HB.out.le; have := HR10.out.lt; omega)
  clear hp11 hr11 ho11 x0 x1 x2 l1 y1 y2 l2 wb1 wb2 wb3
  obtain ⟨A5, c5, rfl, _⟩ := own_slice HO.out
  rw [linK_len] at HR11 HO
  generalize hXB : a * xb + b * yb = rb at *
  generalize hXS : (xs || ys) = rs at *
  clear hXB hXS
  have HO0 : Hid (z.w.ownsRow w.heap.size 2 1 (.slice A5 xa.length c5) (linK a xa b ya xa.length 0).length (intsV (linK a xa b ya xa.length 0))) := Lib.hid (by rw [linK_len]; exact HO.out)
  clear HO
  go_wp2
  go_loopw [12] (fun s12 wq => ∃ (k : Nat) (U : World), k ≤ xa.length ∧ s12 = .int .i64 k ∧ U = wq ∧ RowAt U p11 25 [.slice A5 xa.length c5, .int .i64 rb, .bool rs] ∧ RowAt U p6 25 [.slice A1 xa.length c1, .int .i64 xb, .bool xs] ∧ RowAt U p8 25 [.slice A2 ya.length c2, .int .i64 yb, .bool ys] ∧ RowAt U p10 25 [.slice none 0 0, .int .i64 0, .bool false] ∧ U.ownsRow w.heap.size 2 1 (.slice A5 xa.length c5) (linK a xa b ya xa.length k).length (intsV (linK a xa b ya xa.length k)) ∧ Bel w U) (fun s12 _ => xa.length - (intOf s12).toNat)
  case atStart => exact ⟨0, _, Nat.zero_le _, rfl, rfl, HR11.out, HRA.out, HRB.out, HRC.out, HO0.out, HBZ.out⟩
  case round =>
    clear HR11 HO0 HRA HRB HRC HBZ
    obtain ⟨k, U, hk, rfl, rfl, hr11, hr6, hr8, hr10, ho, hbu⟩ := hrel
    have HR11 := Lib.hid hr11
    have HRA := Lib.hid hr6
    have HRB := Lib.hid hr8
    have HRC := Lib.hid hr10
    have HO := Lib.hid ho
    have HBU := Lib.hid hbu
    clear hr11 hr6 hr8 hr10 ho hbu
    have a0 := HRA.out.cell (i := 0) rfl
    have la := HRA.out.lt
    by_cases hlt : k < xa.length
    · have hd : decide ((k : Int) < (xa.length : Int)) = true := by simp; omega
      have hkl : (k : Int) < (xa.length : Int) := by omega
      have hlty : k < ya.length := by rw [HYL.out]; exact hlt
      have hky : (k : Int) < (ya.length : Int) := by omega
      have hw : IntKind.i64.wrap ((k : Int) + 1) = (k : Int) + 1 := IntWalk.i64_in _ (by omega)
      obtain ⟨gb, gc, ee, hgb, hgl, hcl, hfz, _⟩ := ints_at HO.out (show k < (linK a xa b ya xa.length k).length by rw [linK_len]; exact hlt)
      injection ee with ee1 ee2 ee3
      clear ee2
      subst ee1 ee3
      obtain ⟨q1, o1, rfl, hb1, hA1⟩ := (HX.out.keep HBU.out.keeps HBU.out.le).at_ (by omega)
      obtain ⟨q2, o2, rfl, hb2, hA2⟩ := (HY.out.keep HBU.out.keeps HBU.out.le).at_ (by omega)
      have g1 := hA1 k hlt
      have g2 := hA2 k hlty
      obtain ⟨wk1, wk2, wk3, _⟩ := HLK.out k
      have hLF : linF a xa b ya k = a * xa.getD k 0 + b * ya.getD k 0 := rfl
      have HDS : Hid ((linK a xa b ya xa.length k).set k (linF a xa b ya k) = linK a xa b ya xa.length (k + 1)) := Lib.hid (linK_set _ _ _ _ _ _)
      rw [hLF] at HDS
      have HKL : Hid (k < (linK a xa b ya xa.length k).length) := Lib.hid (by rw [linK_len]; exact hlt)
      clear hLF hA1 hA2
      generalize hOV : (linK a xa b ya xa.length k).getD k 0 = ov at hcl
      clear hOV
      generalize xa.getD k 0 = t1 at *
      generalize ya.getD k 0 = t2 at *
      have b0 := HRB.out.cell (i := 0) rfl
      have lb := HRB.out.lt
      have e0 := HR11.out.cell (i := 0) rfl
      have le := HR11.out.lt
      go_wp2
      (refine wp_region_qtail 19 (wb := U) (by (repeat (first | exact Ext.bel _ | exact Bel.refl | refine Bel.alloc ?_ _ | refine Bel.drew ?_ | refine Bel.drewN ?_ _))) (by kernel_rfl) (by kernel_rfl) ?_; simp only [List.take_succ_cons, List.take_zero, List.drop_succ_cons, List.drop_zero]; (repeat (any_goals (first | go_big_quiet_step (fail) | quiet_step (fail) | (refine wpQuiet_step (fun K hK => ?_); go_simp; split <;> (refine hK _ ?_; clear hK K))))); all_goals (refine wpQuiet_nil ?_; intro _ hw'; obtain ⟨y, hw''⟩ := hw'; subst hw''))
      have HS1 := Lib.hid (rlow_st (HR11.out.bel y.bel) (HRA.out.bel y.bel) (ownsRow_bel HO.out y.bel) (HBU.out.trans y.bel) HKL.out (a * t1 + b * t2))
      have HS2 := Lib.hid (rlow_st (HRB.out.bel y.bel) (HRC.out.bel y.bel) (ownsRow_bel HO.out y.bel) (HBU.out.trans y.bel) HKL.out (a * t1 + b * t2))
      rw [HDS.out] at HS1 HS2
      go_wp2
      go_roundw
      case rel => exact ⟨k + 1, _, by omega, by go_num, rfl, HS1.out.1, HS1.out.2.1, HS2.out.1, HS2.out.2.1, HS1.out.2.2.1, HS1.out.2.2.2⟩
      case measure => simp [intOf]; omega
    · obtain rfl : k = xa.length := by omega
      have hd : decide ((xa.length : Int) < (xa.length : Int)) = false := by simp
      have HLL := Lib.hid (linK_len a xa b ya xa.length xa.length)
      clear HLK HYL
      generalize linK a xa b ya xa.length xa.length = L at *
      have e0 := HR11.out.cell (i := 0) rfl
      have e1 := HR11.out.cell (i := 1) rfl
      have e2 := HR11.out.cell (i := 2) rfl
      have le := HR11.out.lt
      have HSH := Lib.hid (rshort_any ⟨L, rb, rs⟩ _ i U (IntsAt.of_own HO.out) (by dsimp only; rw [HLL.out]; exact hl) (by dsimp only; rw [HLL.out]; exact hi))
      unfold AlPost at HSH
      dsimp only at HSH
      have HSL : Hid ((shortA ⟨L, rb, rs⟩ i).a.length ≤ 1000000) := Lib.hid (by have := HLL.out; simp [shortA]; omega)
      go_wp2_with fail
      refine HSH.out.mono ?_
      rintro e w3 ⟨rv3, rfl, ho3, hB3⟩
      have HLW := Lib.hid (rlowest_any (shortA ⟨L, rb, rs⟩ i) rv3 w3 (IntsAt.of_own ho3) HSL.out HWF.out)
      unfold AlPost at HLW
      rw [← HS.out] at HLW
      have HB3 := Lib.hid (HBU.out.trans hB3)
      have HRC3 := Lib.hid (HRC.out.bel hB3)
      clear ho3 hB3 HSH HSL HWF HS a0 la e0 e1 e2 le
      go_wp2_with fail
      refine HLW.out.mono ?_
      rintro e w4 ⟨rv4, rfl, ho4, hB4⟩
      have HB4 := Lib.hid (HB3.out.trans hB4)
      have HR2 := Lib.hid (HRC3.out.bel hB4)
      have HO2 := Lib.hid (own_base ho4 HB3.out.le)
      obtain ⟨A9, c9, rfl, _⟩ := own_slice ho4
      clear ho4 hB4 HLW HRC3 HB3
      obtain ⟨Ra, Rb, Rs⟩ := R
      dsimp only at *
      have z0 := HR2.out.cell (i := 0) rfl
      have z1 := HR2.out.cell (i := 1) rfl
      have z3 := HR2.out.cell (i := 2) rfl
      have fz := fun k => HR2.out.frozen k
      have lz := HR2.out.lt
      go_wp2
      have r9 : RowAt (((w4.setCell ⟨p10, 0, none⟩ (.slice A9 Ra.length c9)).setCell ⟨p10, 1, none⟩ (.int .i64 Rb)).setCell ⟨p10, 2, none⟩ (.bool Rs)) p10 25 [.slice A9 Ra.length c9, .int .i64 Rb, .bool Rs] := ((HR2.out.set 0 _).set 1 _).set 2 _
      have o9 : (((w4.setCell ⟨p10, 0, none⟩ (.slice A9 Ra.length c9)).setCell ⟨p10, 1, none⟩ (.int .i64 Rb)).setCell ⟨p10, 2, none⟩ (.bool Rs)).ownsRow w.heap.size 2 1 (.slice A9 Ra.length c9) Ra.length (intsV Ra) := own_farB (own_farB (own_farB HO2.out HR2.out line_ne_i64) (HR2.out.set 0 _) line_ne_i64) ((HR2.out.set 0 _).set 1 _) line_ne_i64
      have b9 : Bel w (((w4.setCell ⟨p10, 0, none⟩ (.slice A9 Ra.length c9)).setCell ⟨p10, 1, none⟩ (.int .i64 Rb)).setCell ⟨p10, 2, none⟩ (.bool Rs)) := ((HB4.out.set HN.out.2.2 _).set HN.out.2.2 _).set HN.out.2.2 _
      generalize World.setCell (World.setCell _ _ _) _ _ = W9 at *
      exact bodyPost_ret (rsum_res r9 rfl) rfl (al_post rfl o9 b9)
end Go.Proofs.Ytalphoebmefgoaa
/- poly, the reference: the tidy list (plain), and an append that says where the row lies. -/
namespace Go.Proofs.Ytalphoebmefgoaa
open Go.RowKit
/-- one line is inserted where it belongs -/
def insA : List AL → AL → List AL
  | [], x => [x]
  | y :: t, x => if lexL y.a x.a < 0 then y :: insA t x else if lexL y.a x.a = 0 then (if x.b < y.b ∨ x.b = y.b ∧ x.s = true then x else y) :: t else x :: y :: t
def falseA (n : Nat) : AL := ⟨List.replicate n 0, 0, true⟩
def noneA (x : AL) : Prop := x.b < 0 ∨ x.b = 0 ∧ x.s = true
instance (x : AL) : Decidable (noneA x) := inferInstanceAs (Decidable (_ ∨ _))
def tidyF (n : Nat) : List AL → List AL → List AL
  | out, [] => out
  | out, x :: t => if zeroB (lowA x).a = true then (if noneA (lowA x) then [falseA n] else tidyF n out t) else tidyF n (insA out (lowA x)) t
def tidyA (n : Nat) (l : List AL) : List AL := tidyF n [] l
theorem insA_eq {X : AL} : ∀ {M : List AL} {k : Nat} (_ : ∀ j (h : j < M.length), j < k → lexL M[j].a X.a < 0) (hk : k < M.length) (_ : lexL M[k].a X.a = 0), insA M X = M.set k (if X.b < M[k].b ∨ X.b = M[k].b ∧ X.s = true then X else M[k])
  | y :: t, 0, _, _, h0 => by
    unfold insA
    simp only [List.getElem_cons_zero] at h0 ⊢
    rw [if_neg (by omega), if_pos h0]; rfl
  | y :: t, k + 1, hl, hk, h0 => by
    unfold insA
    have h1 := hl 0 (by simp) (by omega)
    simp only [List.getElem_cons_zero] at h1
    rw [if_pos h1]
    simp only [List.getElem_cons_succ] at h0 ⊢
    rw [insA_eq (k := k) (fun j hj hjk => by have := hl (j + 1) (by simpa using hj) (by omega); simpa using this) (by simpa using hk) h0]
    rfl
theorem insA_lt {X : AL} : ∀ {M : List AL} {k : Nat} (_ : ∀ j (h : j < M.length), j < k → lexL M[j].a X.a < 0) (_ : k ≤ M.length) (_ : ∀ h : k < M.length, 0 < lexL M[k].a X.a), insA M X = M.take k ++ X :: M.drop k
  | [], k, _, hk, _ => by
    obtain rfl : k = 0 := by simpa using hk
    rfl
  | y :: t, 0, _, _, h0 => by
    unfold insA
    have := h0 (by simp)
    simp only [List.getElem_cons_zero] at this
    rw [if_neg (by omega), if_neg (by omega)]; rfl
  | y :: t, k + 1, hl, hk, h0 => by
    unfold insA
    have h1 := hl 0 (by simp) (by omega)
    simp only [List.getElem_cons_zero] at h1
    rw [if_pos h1, insA_lt (k := k) (fun j hj hjk => by have := hl (j + 1) (by simpa using hj) (by omega); simpa using this) (by simpa using hk) (fun h => by have := h0 (by simpa using h); simpa using this)]
    rfl
theorem insA_len (X : AL) : ∀ M : List AL, (insA M X).length ≤ M.length + 1
  | [] => by simp [insA]
  | y :: t => by
    have := insA_len X t
    unfold insA
    split
    · simp; omega
    · split <;> simp
/-- a step of the shift -/
theorem shift_set {α : Type} {L : List α} {j : Nat} {e : α} (h : j + 1 ≤ L.length) : (L.take (j + 1) ++ e :: L.drop (j + 1)).set (j + 1) (L[j]'(by omega)) = L.take j ++ (L[j]'(by omega)) :: L.drop j := by
  rw [List.set_append_right _ _ (by simp; omega)]
  rw [show j + 1 - (L.take (j + 1)).length = 0 by simp; omega, List.set_cons_zero, List.take_succ_eq_append_getElem (by omega), List.append_assoc, List.singleton_append]
  conv => rhs; rw [List.drop_eq_getElem_cons (by omega)]
theorem shift_end {α : Type} {L : List α} {j : Nat} {e X : α} (h : j ≤ L.length) : (L.take j ++ e :: L.drop j).set j X = L.take j ++ X :: L.drop j := by
  rw [List.set_append_right _ _ (by simp; omega)]
  rw [show j - (L.take j).length = 0 by simp; omega, List.set_cons_zero]
theorem shift_get {α : Type} {L : List α} {j : Nat} {e : α} (h : j + 1 ≤ L.length) : (L.take (j + 1) ++ e :: L.drop (j + 1))[j]'(by simp; omega) = L[j]'(by omega) := by
  rw [List.getElem_append_left (by simp; omega), List.getElem_take]
theorem shift_len {α : Type} {L : List α} {j : Nat} {e : α} (h : j ≤ L.length) : (L.take j ++ e :: L.drop j).length = L.length + 1 := by simp; omega
/-- one line is appended; where the row lies -/
theorem ar_lies {w0 W : World} {v : Value} {L : List (Value × AL)} {p : Value × AL} {q : Nat} {e2 : TypeId} (hb : Bel w0 W) (h : AR W w0.heap.size v L) (hl : L.length ≤ 1000000) (r : RowAt W q e2 (arC p)) (hp : IntsK W w0.heap.size p.1 p.2.a) (h1 : p.1.oneCell' = true) :
    ∃ g c W', (∀ ty, (Builtin.append_ #[22, 22] ty #[v, .slice (some ⟨q, 0, none⟩) 1 1]).run Try.prog W = .ok (.slice (some ⟨g, 0, none⟩) (L.length + 1) c) W') ∧ AR W' w0.heap.size (.slice (some ⟨g, 0, none⟩) (L.length + 1) c) (L ++ [p]) ∧ Bel w0 W' ∧ W.grownBy W' v.ownBlock ∧ (v.ownBlock = some g ∨ g = W.heap.size) := by
  obtain ⟨i0, hi, hz0, hz1, hz2⟩ := info_parts3 Try.infoALine
  obtain ⟨g, c, W', hrn, ho, hg, hl, _⟩ := run_append_lies (P := Try.prog) W 22 22 w0.heap.size 25 i0 (.agg #[.slice none 0 0, .int .i64 0, .bool false]) 3 40 Try.underlying22 hi hz0 hz1 hz2 rfl (by decide) v L.length (L.flatMap arC) h.own
    ⟨q, 0, none⟩ 1 1 (arC p) rfl (fun j u hj => by rw [add_ofs, r.cell?, hj]) (arC_one h1) (by decide) (by unfold maxLen; omega) (by omega) hb.le _ rfl
  refine ⟨g, c, W', fun ty => hrn, ⟨?_, fun x hx => ?_⟩, bel_grown hb h.own hg, hg, hl⟩
  · rw [List.length_append, List.flatMap_append]
    simpa using ho
  · rcases List.mem_append.1 hx with hx | hx
    · exact (h.at_ x hx).gro h.own (Nat.le_refl _) hb.le hg
    · obtain rfl : x = p := by simpa using hx
      exact hp.gro h.own (Nat.le_refl _) hb.le hg
theorem AR.lt {W : World} {base : Nat} {v : Value} {L : List (Value × AL)} (h : AR W base v L) : ∀ g, v.ownBlock = some g → base ≤ g ∧ g < W.heap.size := h.own.lt
/-- the lines of a list, as a function's arguments -/
structure Lens (l : List AL) : Prop where
  at_ : ∀ x, x ∈ l → x.a.length ≤ 1000000
end Go.Proofs.Ytalphoebmefgoaa
/- poly, the reference: Tidy. -/
namespace Go.Proofs.Ytalphoebmefgoaa
open Go.RowKit
def LinPost (l : List AL) (w : World) (e : Ending) (w' : World) : Prop := ∃ v', e = .returned v' ∧ LinesAt w' w'.heap.size v' l ∧ Bel w w'
theorem zeroB_iff (a : List Int) : zeroB a = true ↔ ∀ c, c ∈ a → c = 0 := by simp [zeroB]
theorem lines_one {W : World} {b : Nat} {rv : Value} {x : AL} (r : RowAt W b 25 [rv, .int .i64 x.b, .bool x.s]) (h : IntsAt W W.heap.size rv x.a) : LinesAt W W.heap.size (.slice (some ⟨b, 0, none⟩) 1 1) [x] :=
  ⟨_, 1, rfl, Nat.le_refl _, fun _ => ⟨b, 0, rfl, r.lt, fun i hi => by
    obtain rfl : i = 0 := by simpa using hi
    exact ⟨rv, ⟨r.cell (i := 0) rfl, r.cell (i := 1) rfl, r.cell (i := 2) rfl⟩, h⟩⟩⟩
set_option maxRecDepth 100000 in
set_option maxHeartbeats 8000000 in
theorem rtidy_any (n : Nat) (v : Value) (l : List AL) (w : World) (h : LinesAt w w.heap.size v l) (hn : n ≤ 6) (hl : l.length ≤ 100000) (hls : ∀ x, x ∈ l → x.a.length ≤ 1000000) (hwf : ∀ x, x ∈ l → x.wf) :
    Calls Try.prog 53 #[.int .i64 n, v] w (LinPost (tidyA n l) w) := by
  have H := Lib.hid h
  have HLS := Lib.hid hls
  have HWF := Lib.hid hwf
  obtain ⟨A, c, rfl, hc⟩ := h.form
  clear h hls hwf
  go_enter Try.func53, Try.ntmps53
  go_wp2
  go_loopw [5, 6] (fun s5 s6 wq => ∃ (i : Nat) (y : Ext w) (L : List (Value × AL)), i ≤ l.length ∧ s6 = .int .i64 i ∧ wq = y.w ∧ AR y.w w.heap.size s5 L ∧ L.length ≤ i ∧ (∀ p, p ∈ L → p.2.a.length ≤ 1000000) ∧ tidyF n (L.map Prod.snd) (l.drop i) = tidyA n l) (fun _ s6 _ => l.length - (intOf s6).toNat)
  case atStart => exact ⟨0, ⟨_, Bel.refl⟩, [], Nat.zero_le _, rfl, rfl, AR.nil, Nat.le_refl _, by simp, rfl⟩
  case round =>
    obtain ⟨i, y, L, hi, rfl, rfl, har, hLi, hLl, hf⟩ := hrel
    have HAR := Lib.hid har
    have HLL := Lib.hid hLl
    have HF := Lib.hid hf
    clear har hLl hf
    by_cases hlt : i < l.length
    · have hd : decide ((i : Int) < (l.length : Int)) = true := by simp; omega
      have hil : (i : Int) < (l.length : Int) := by omega
      have hw : IntKind.i64.wrap ((i : Int) + 1) = (i : Int) + 1 := IntWalk.i64_in _ (by omega)
      obtain ⟨b, off, rfl, hbb, hA⟩ := (H.out.keep y.bel.keeps y.bel.le).at_ (by omega)
      obtain ⟨rv0, ⟨c0, c1, c2⟩, hrv⟩ := hA i hlt
      have hxl := HLS.out _ (alAt_mem hlt)
      have HLO := Lib.hid (rlowest_any (alAt l i) rv0 y.w hrv hxl (HWF.out _ (alAt_mem hlt)))
      have HXL : Hid ((lowA (alAt l i)).a.length ≤ 1000000) := Lib.hid (by unfold lowA; split <;> simpa using hxl)
      have HFX : Hid (tidyF n (L.map Prod.snd) (l.drop i) = if zeroB (lowA (alAt l i)).a = true then (if noneA (lowA (alAt l i)) then [falseA n] else tidyF n (L.map Prod.snd) (l.drop (i + 1))) else tidyF n (insA (L.map Prod.snd) (lowA (alAt l i))) (l.drop (i + 1))) := Lib.hid (by rw [al_drop hlt]; rfl)
      rw [HF.out] at HFX
      obtain ⟨A0, k0, rfl, _⟩ := hrv.form
      unfold AlPost at HLO
      clear hrv hA hxl HF
      generalize lowA (alAt l i) = X at *
      go_wp2_with fail
      refine HLO.out.mono ?_
      rintro e w3 ⟨rvx, rfl, hox, hB3⟩
      obtain ⟨Ax, kx, rfl, _⟩ := own_slice hox
      have HAR3 := Lib.hid (HAR.out.bel hB3 y.bel.le)
      have HB3 := Lib.hid (y.bel.trans hB3)
      have HOX := Lib.hid (own_base hox y.bel.le)
      have HVL : Hid (∀ g, u5.ownBlock = some g → g < w3.heap.size) := Lib.hid (fun g hg => Nat.lt_of_lt_of_le (HAR.out.lt g hg).2 hB3.le)
      clear hox hB3 HLO c0 c1 c2 HAR
      obtain ⟨Xa, Xb, Xs⟩ := X
      dsimp only at *
      go_upto_region 6 with (fail)
      generalize hW : World.alloc w3 _ = w4 at *
      have r7 : RowAt w4 w3.heap.size 25 [.slice Ax Xa.length kx, .int .i64 Xb, .bool Xs] := by rw [← hW]; exact RowAt.new w3 25 [.slice Ax Xa.length kx, .int .i64 Xb, .bool Xs]
      have hb34 : Bel w3 w4 := by rw [← hW]; exact Bel.refl.alloc _
      clear hW
      obtain ⟨p7, hp7⟩ : ∃ p, p = w3.heap.size := ⟨_, rfl⟩
      rw [← hp7] at r7 HVL ⊢
      have HP7 : Hid (w.heap.size ≤ p7) := Lib.hid (by have := HB3.out.le; omega)
      clear hp7
      have HR7 := Lib.hid r7
      have HAR4 := Lib.hid (HAR3.out.bel hb34 HB3.out.le)
      have HOX4 := Lib.hid (ownsRow_bel HOX.out hb34)
      have HB4 := Lib.hid (HB3.out.trans hb34)
      have HZE := Lib.hid (rzero_any _ Xa w4 (IntsAt.of_own HOX4.out) HXL.out)
      have x0 := r7.cell (i := 0) rfl
      have l7 := r7.lt
      clear hb34 HAR3 HOX HB3 r7
      go_wp2_with fail
      refine HZE.out.mono ?_
      rintro e w5 ⟨rfl, hB⟩
      have HR := Lib.hid (HR7.out.bel hB)
      have HAR := Lib.hid (HAR4.out.bel hB HB4.out.le)
      have HOX := Lib.hid (ownsRow_bel HOX4.out hB)
      have HB := Lib.hid (HB4.out.trans hB)
      clear hB HZE x0 l7 HR7 HAR4 HOX4 HB4
      have x0 := HR.out.cell (i := 0) rfl
      have x1 := HR.out.cell (i := 1) rfl
      have x2 := HR.out.cell (i := 2) rfl
      have l7 := HR.out.lt
      cases hz : zeroB Xa
      · rw [hz] at HFX
        have HFY : Hid (tidyA n l = tidyF n (insA (L.map Prod.snd) ⟨Xa, Xb, Xs⟩) (l.drop (i + 1))) := Lib.hid HFX.out
        have HPX : Hid (IntsK w5 w.heap.size (.slice Ax Xa.length kx) Xa) := Lib.hid (.inr HOX.out)
        clear hz HFX
        go_upto_block 2 with (fail)
        go_cut [8] from 40 to 56 (fun s8 wx => ∃ (k : Nat) (z : Ext w5), wx = z.w ∧ s8 = .int .i64 k ∧ k ≤ L.length ∧ (∀ j (h : j < L.length), j < k → lexL L[j].2.a Xa < 0) ∧ (∀ h : k < L.length, ¬ lexL L[k].2.a Xa < 0))
        case first =>
          go_wp2
          go_loopw [8] (fun s8 wq => ∃ (k : Nat) (z : Ext w5), k ≤ L.length ∧ s8 = .int .i64 k ∧ wq = z.w ∧ (∀ j (h : j < L.length), j < k → lexL L[j].2.a Xa < 0)) (fun s8 _ => L.length - (intOf s8).toNat)
          case atStart => exact ⟨0, ⟨_, Bel.refl⟩, Nat.zero_le _, rfl, rfl, fun j _ h => absurd h (by omega)⟩
          case round =>
            obtain ⟨k, z, hk, rfl, rfl, hlow⟩ := hrel
            have HLOW := Lib.hid hlow
            clear hlow
            by_cases hkl : k < L.length
            · have hkd : decide ((k : Int) < (L.length : Int)) = true := by simp; omega
              have hki : (k : Int) < (L.length : Int) := by omega
              have hwk : IntKind.i64.wrap ((k : Int) + 1) = (k : Int) + 1 := IntWalk.i64_in _ (by omega)
              obtain ⟨g, cg, rfl, hbg, hgl, c0, c1, c2, fz⟩ := HAR.out.get hkl
              have hik := (HAR.out.at_ _ (List.getElem_mem hkl)).ints HB.out.le
              have hkn := HLL.out _ (List.getElem_mem hkl)
              have HNX : Hid (lexL L[k].2.a Xa < 0 → ∀ j (h : j < L.length), j < k + 1 → lexL L[j].2.a Xa < 0) := Lib.hid (fun h0 j hj hjk => by
                rcases Nat.lt_or_ge j k with q | q
                · exact HLOW.out j hj q
                · obtain rfl : j = k := by omega
                  exact h0)
              have HNY : Hid (¬ lexL L[k].2.a Xa < 0 → ∀ h : k < L.length, ¬ lexL L[k].2.a Xa < 0) := Lib.hid (fun h0 _ => h0)
              have HPX0 : Hid (IntsAt w5 w5.heap.size (.slice Ax Xa.length kx) Xa) := Lib.hid (HPX.out.ints HB.out.le)
              generalize hpk : L[k] = pk at c0 c1 c2 hik hkn HNX
              obtain ⟨rvk, ⟨ya, yb, ys⟩⟩ := pk
              dsimp only at c0 c1 c2 hik hkn HNX
              obtain ⟨Ak, kk, rfl, _⟩ := hik.form
              have HPK := Lib.hid hpk
              have HOR := Lib.hid (fun W (hW : Bel w5 W) => rorder_any _ _ ya Xa W (hik.keep hW.keeps hW.le) (HPX0.out.keep hW.keeps hW.le) hkn HXL.out)
              clear hik hkn hpk HPX0
              by_cases hcmp : lexL ya Xa < 0
              · have d3 : decide (lexL ya Xa < 0) = true := decide_eq_true hcmp
                have HLOW2 := Lib.hid (HNX.out hcmp)
                clear hcmp HNX HNY HPK HLOW
                generalize lexL ya Xa = cm at *
                go_wp2
                (refine wp_region_ext (wb := w5) (by (repeat (first | exact Ext.bel _ | exact Bel.refl | refine Bel.alloc ?_ _ | refine Bel.drew ?_ | refine Bel.drewN ?_ _))) (by kernel_rfl) (by kernel_rfl) ?_; (repeat (any_goals (first | go_big_quiet_step ((go_at_call 91; with_reducible exact ext_call (HOR.out _ (by (repeat (first | exact Ext.bel _ | exact Bel.refl | refine Bel.alloc ?_ _ | refine Bel.drew ?_ | refine Bel.drewN ?_ _)))))) | quiet_step ((go_at_call 91; with_reducible exact ext_call (HOR.out _ (by (repeat (first | exact Ext.bel _ | exact Bel.refl | refine Bel.alloc ?_ _ | refine Bel.drew ?_ | refine Bel.drewN ?_ _)))))) | (refine wpQuiet_step (fun K hK => ?_); go_simp; split <;> (refine hK _ ?_; clear hK K))))); all_goals (refine wpQuiet_nil ?_; intro _ hw'; obtain ⟨y, hw''⟩ := hw'; subst hw''))
                go_wp2
                go_roundw
                case rel => exact ⟨k + 1, y, by omega, by go_num, rfl, HLOW2.out⟩
                case measure => simp [intOf]; omega
              · have d3 : decide (lexL ya Xa < 0) = false := decide_eq_false hcmp
                have HEN : Hid (∀ h : k < L.length, ¬ lexL L[k].2.a Xa < 0) := Lib.hid (HNY.out (by rw [HPK.out]; exact hcmp))
                clear hcmp HNX HNY HPK
                generalize lexL ya Xa = cm at *
                go_wp2
                (refine wp_region_ext (wb := w5) (by (repeat (first | exact Ext.bel _ | exact Bel.refl | refine Bel.alloc ?_ _ | refine Bel.drew ?_ | refine Bel.drewN ?_ _))) (by kernel_rfl) (by kernel_rfl) ?_; (repeat (any_goals (first | go_big_quiet_step ((go_at_call 91; with_reducible exact ext_call (HOR.out _ (by (repeat (first | exact Ext.bel _ | exact Bel.refl | refine Bel.alloc ?_ _ | refine Bel.drew ?_ | refine Bel.drewN ?_ _)))))) | quiet_step ((go_at_call 91; with_reducible exact ext_call (HOR.out _ (by (repeat (first | exact Ext.bel _ | exact Bel.refl | refine Bel.alloc ?_ _ | refine Bel.drew ?_ | refine Bel.drewN ?_ _)))))) | (refine wpQuiet_step (fun K hK => ?_); go_simp; split <;> (refine hK _ ?_; clear hK K))))); all_goals (refine wpQuiet_nil ?_; intro _ hw'; obtain ⟨y, hw''⟩ := hw'; subst hw''))
                go_wp2
                go_meet
                case rel => exact ⟨k, y, rfl, rfl, hk, HLOW.out, HEN.out⟩
            · have hkd : decide ((k : Int) < (L.length : Int)) = false := by simp; omega
              obtain ⟨A5, c5, rfl, _⟩ := HAR.out.form
              go_wp2
              (refine wp_region_ext (wb := w5) (by (repeat (first | exact Ext.bel _ | exact Bel.refl | refine Bel.alloc ?_ _ | refine Bel.drew ?_ | refine Bel.drewN ?_ _))) (by kernel_rfl) (by kernel_rfl) ?_; (repeat (any_goals (first | go_big_quiet_step (fail) | quiet_step (fail) | (refine wpQuiet_step (fun K hK => ?_); go_simp; split <;> (refine hK _ ?_; clear hK K))))); all_goals (refine wpQuiet_nil ?_; intro _ hw'; obtain ⟨y, hw''⟩ := hw'; subst hw''))
              go_wp2
              go_meet
              case rel => exact ⟨k, y, rfl, rfl, hk, HLOW.out, fun h => absurd h hkl⟩
        case rest =>
          obtain ⟨k, z, rfl, rfl, hk, hlow, hen⟩ := hcut
          have HRZ := Lib.hid (HR.out.bel z.bel)
          have HAZ := Lib.hid (HAR.out.bel z.bel HB.out.le)
          have HPZ := Lib.hid (HPX.out.bel z.bel HB.out.le)
          have HBZ := Lib.hid (HB.out.trans z.bel)
          have HLOW : Hid (∀ j (h : j < (L.map Prod.snd).length), j < k → lexL (L.map Prod.snd)[j].a (⟨Xa, Xb, Xs⟩ : AL).a < 0) := Lib.hid (fun j h hj => by rw [List.getElem_map]; exact hlow j (by simpa using h) hj)
          have HEN := Lib.hid hen
          clear hlow hen HR HAR HPX HB HOX x0 x1 x2 l7
          generalize z.w = wz at *
          have x0 := HRZ.out.cell (i := 0) rfl
          have x1 := HRZ.out.cell (i := 1) rfl
          have x2 := HRZ.out.cell (i := 2) rfl
          have l7 := HRZ.out.lt
          obtain ⟨bt, hbt⟩ : ∃ bt : Bool, bt = true ↔ ∃ h : k < L.length, lexL L[k].2.a Xa = 0 := by
            by_cases q : ∃ h : k < L.length, lexL L[k].2.a Xa = 0
            · exact ⟨true, by simpa using q⟩
            · exact ⟨false, by simpa using q⟩
          have HBT := Lib.hid hbt
          clear hbt
          go_upto_region 12 with (fail)
          go_cut [71] from 57 to 71 (fun s71 wx => ∃ (y : Ext wz), wx = y.w ∧ s71 = .bool bt)
          case first =>
            by_cases hkl : k < L.length
            · have hkd : decide ((k : Int) < (L.length : Int)) = true := by simp; omega
              have hki : (k : Int) < (L.length : Int) := by omega
              obtain ⟨g, cg, rfl, hbg, hgl, c0, c1, c2, fz⟩ := HAZ.out.get hkl
              have hik := (HAZ.out.at_ _ (List.getElem_mem hkl)).ints HBZ.out.le
              have hkn := HLL.out _ (List.getElem_mem hkl)
              have hbq : bt = decide (lexL L[k].2.a Xa = 0) := by
                cases bt
                · symm; rw [decide_eq_false_iff_not]
                  intro q; have := HBT.out.2 ⟨hkl, q⟩; cases this
                · symm; rw [decide_eq_true_iff]
                  exact (HBT.out.1 rfl).2
              have HPX0 : Hid (IntsAt wz wz.heap.size (.slice Ax Xa.length kx) Xa) := Lib.hid (HPZ.out.ints HBZ.out.le)
              clear HBT
              generalize L[k] = pk at c0 c1 c2 hik hkn hbq
              obtain ⟨rvk, ⟨ya, yb, ys⟩⟩ := pk
              dsimp only at c0 c1 c2 hik hkn hbq
              obtain ⟨Ak, kk, rfl, _⟩ := hik.form
              have HOR := Lib.hid (fun W (hW : Bel wz W) => rorder_any _ _ ya Xa W (hik.keep hW.keeps hW.le) (HPX0.out.keep hW.keeps hW.le) hkn HXL.out)
              clear hik hkn HPX0
              generalize lexL ya Xa = cm at *
              have d3 : (cm == 0) = bt := by rw [hbq]; rfl
              clear hbq
              (refine wp_region_ext (wb := wz) (by (repeat (first | exact Ext.bel _ | exact Bel.refl | refine Bel.alloc ?_ _ | refine Bel.drew ?_ | refine Bel.drewN ?_ _))) (by kernel_rfl) (by kernel_rfl) ?_; (repeat (any_goals (first | go_big_quiet_step ((go_at_call 91; with_reducible exact ext_call (HOR.out _ (by (repeat (first | exact Ext.bel _ | exact Bel.refl | refine Bel.alloc ?_ _ | refine Bel.drew ?_ | refine Bel.drewN ?_ _)))))) | quiet_step ((go_at_call 91; with_reducible exact ext_call (HOR.out _ (by (repeat (first | exact Ext.bel _ | exact Bel.refl | refine Bel.alloc ?_ _ | refine Bel.drew ?_ | refine Bel.drewN ?_ _)))))) | (refine wpQuiet_step (fun K hK => ?_); go_simp; split <;> (refine hK _ ?_; clear hK K))))); all_goals (refine wpQuiet_nil ?_; intro _ hw'; obtain ⟨y, hw''⟩ := hw'; subst hw''))
              go_wp2
              go_meet
              case rel => exact ⟨y, rfl, rfl⟩
            · have hkd : decide ((k : Int) < (L.length : Int)) = false := by simp; omega
              obtain rfl : bt = false := by
                cases bt
                · rfl
                · obtain ⟨h, _⟩ := HBT.out.1 rfl; exact absurd h hkl
              obtain ⟨A5, c5, rfl, _⟩ := HAZ.out.form
              (refine wp_region_ext (wb := wz) (by (repeat (first | exact Ext.bel _ | exact Bel.refl | refine Bel.alloc ?_ _ | refine Bel.drew ?_ | refine Bel.drewN ?_ _))) (by kernel_rfl) (by kernel_rfl) ?_; (repeat (any_goals (first | go_big_quiet_step (fail) | quiet_step (fail) | (refine wpQuiet_step (fun K hK => ?_); go_simp; split <;> (refine hK _ ?_; clear hK K))))); all_goals (refine wpQuiet_nil ?_; intro _ hw'; obtain ⟨y, hw''⟩ := hw'; subst hw''))
              go_wp2
              go_meet
              case rel => exact ⟨y, rfl, rfl⟩
          case rest =>
          obtain ⟨y2, rfl, rfl⟩ := hcut
          have HRY := Lib.hid (HRZ.out.bel y2.bel)
          have HAY := Lib.hid (HAZ.out.bel y2.bel HBZ.out.le)
          have HPY := Lib.hid (HPZ.out.bel y2.bel HBZ.out.le)
          have HBY := Lib.hid (HBZ.out.trans y2.bel)
          clear HRZ HAZ HPZ HBZ x0 x1 x2 l7
          generalize y2.w = wy at *
          have x0 := HRY.out.cell (i := 0) rfl
          have x1 := HRY.out.cell (i := 1) rfl
          have x2 := HRY.out.cell (i := 2) rfl
          have l7 := HRY.out.lt
          cases bt
          · have HINS : Hid (insA (L.map Prod.snd) ⟨Xa, Xb, Xs⟩ = (L.map Prod.snd).take k ++ ⟨Xa, Xb, Xs⟩ :: (L.map Prod.snd).drop k) := Lib.hid (insA_lt HLOW.out (by simpa using hk) (fun h => by
              have hL : k < L.length := by simpa using h
              have h1 := HEN.out hL
              have h2 : lexL L[k].2.a Xa ≠ 0 := fun q => by have := HBT.out.2 ⟨hL, q⟩; cases this
              rw [List.getElem_map]
              show 0 < lexL L[k].2.a Xa
              omega))
            clear HBT HLOW HEN
            obtain ⟨g, cg, W1, hap, har1, hb1, hg1, hlie⟩ := ar_lies (w0 := w) (W := wy.alloc (.cells (arC (.slice none 0 0, ⟨[], 0, false⟩)).toArray 25)) (HBY.out.alloc _) (HAY.out.bel (Bel.refl.alloc _) HBY.out.le) (by omega) (RowAt.new wy 25 (arC (.slice none 0 0, ⟨[], 0, false⟩))) (.inl ⟨none, 0, rfl, Nat.le_refl _, fun h => absurd h (by simp)⟩) rfl
            have HR1 : Hid (RowAt W1 p7 25 [.slice Ax Xa.length kx, .int .i64 Xb, .bool Xs]) := Lib.hid ((HRY.out.alloc _).gro hg1 (fun e => by have := HVL.out p7 e.symm; omega))
            have HN1 : Hid (p7 ≠ g) := Lib.hid (by
              rcases hlie with h | h
              · have := HVL.out g h; omega
              · have := HRY.out.lt; rw [h, size_alV]; omega)
            have HP1 : Hid (IntsK W1 w.heap.size (.slice Ax Xa.length kx) Xa) := Lib.hid ((HPY.out.bel (Bel.refl.alloc _) HBY.out.le).gro (HAY.out.bel (Bel.refl.alloc _) HBY.out.le).own (Nat.le_refl _) (HBY.out.alloc (.cells (arC (.slice none 0 0, ⟨[], 0, false⟩)).toArray 25)).le hg1)
            have HA1 := Lib.hid har1
            have HB1 := Lib.hid hb1
            unfold arC at hap
            obtain ⟨A5, c5, rfl, _⟩ := HAY.out.form
            clear har1 hb1 hg1 hlie HVL
            go_upto_region 16 with (at_builtin; go_must (refine wpList_append_run rfl _ _ 22 rfl _ _ _ rfl rfl (hap _) ?_))
            clear hap x0 x1 x2 l7 HRY HAY HPY HBY
            have hwj : IntKind.i64.wrap ((L.length : Int) + 1 - 1) = (L.length : Int) := by rw [show (L.length : Int) + 1 - 1 = L.length by omega]; exact IntWalk.i64_in _ (by omega)
            go_upto_block 4 with (fail)
            have hkL := hk
            have HS0 : Hid (AR W1 w.heap.size (.slice (some ⟨g, 0, none⟩) (L.length + 1) cg) (L.take L.length ++ ((.slice none 0 0, ⟨[], 0, false⟩) : Value × AL) :: L.drop L.length)) := Lib.hid (by rw [List.take_length, List.drop_length]; exact HA1.out)
            clear HA1
            go_cut [9] from 105 to 117 (fun s9 wx => ∃ (U : World) (e : Value × AL), wx = U ∧ AR U w.heap.size (.slice (some ⟨g, 0, none⟩) (L.length + 1) cg) (L.take k ++ e :: L.drop k) ∧ RowAt U p7 25 [.slice Ax Xa.length kx, .int .i64 Xb, .bool Xs] ∧ Bel w U ∧ IntsK U w.heap.size (.slice Ax Xa.length kx) Xa)
            case first =>
              go_wp2
              go_loopw [9] (fun s9 wq => ∃ (j : Nat) (U : World) (e : Value × AL), k ≤ j ∧ j ≤ L.length ∧ s9 = .int .i64 j ∧ U = wq ∧ AR U w.heap.size (.slice (some ⟨g, 0, none⟩) (L.length + 1) cg) (L.take j ++ e :: L.drop j) ∧ RowAt U p7 25 [.slice Ax Xa.length kx, .int .i64 Xb, .bool Xs] ∧ Bel w U ∧ IntsK U w.heap.size (.slice Ax Xa.length kx) Xa) (fun s9 _ => (intOf s9).toNat)
              case atStart => exact ⟨L.length, _, _, hkL, Nat.le_refl _, rfl, rfl, HS0.out, HR1.out, HB1.out, HP1.out⟩
              case round =>
                clear HS0 HR1 HB1 HP1
                obtain ⟨j, U, e, hkj, hjl, rfl, rfl, hau, hru, hbu, hpu⟩ := hrel
                have HAU := Lib.hid hau
                have HRU := Lib.hid hru
                have HBU := Lib.hid hbu
                have HPU := Lib.hid hpu
                clear hau hru hbu hpu
                by_cases hjk : k < j
                · obtain ⟨j, rfl⟩ : ∃ j', j = j' + 1 := ⟨j - 1, by omega⟩
                  have hjd : decide ((k : Int) < ((j + 1 : Nat) : Int)) = true := by simp; omega
                  have hjd2 : decide ((k : Int) < (j : Int) + 1) = true := by simp; omega
                  have hjd3 : decide (k < j + 1) = true := by simp; omega
                  have wj : IntKind.i64.wrap ((j : Int) + 1 - 1) = (j : Int) := by rw [show (j : Int) + 1 - 1 = j by omega]; exact IntWalk.i64_in _ (by omega)
                  have i1 : (j : Int) < (L.length : Int) + 1 := by omega
                  have i2 : (j : Int) + 1 < (L.length : Int) + 1 := by omega
                  have i3 : ¬ (j : Int) + 1 < 0 := by omega
                  have i4 : ((j : Int) + 1).toNat = j + 1 := by omega
                  have hsl := shift_len (L := L) (j := j + 1) (e := e) hjl
                  have hau := HAU.out
                  rw [← hsl] at hau
                  obtain ⟨g1, q1, e1, _, hgl, c0, c1, c2, fz⟩ := hau.get (i := j) (by omega)
                  injection e1 with e1 _ _
                  injection e1 with e1
                  injection e1 with e1 _ _
                  subst e1
                  obtain ⟨g2, q2, e2, _, _, d0, d1, d2, _⟩ := hau.get (i := j + 1) (by omega)
                  injection e2 with e2 _ _
                  injection e2 with e2
                  injection e2 with e2 _ _
                  subst e2
                  rw [shift_get hjl] at c0 c1 c2
                  generalize (L.take (j + 1) ++ e :: L.drop (j + 1))[j + 1]'_ = pe at d0 d1 d2
                  have hjL : j < L.length := by omega
                  have hik := hau.at_ (L[j]) (by
                    refine List.mem_append_left _ ?_
                    exact List.mem_iff_getElem.2 ⟨j, by simp; omega, by simp⟩)
                  obtain ⟨p1, p2, p3⟩ := ar_put (i := j + 1) (p := L[j]) HBU.out hau (by omega) hik
                  rw [shift_set hjl, hsl] at p1
                  have HA2 := Lib.hid p1
                  have HB2 := Lib.hid p2
                  have HR2 := Lib.hid (HRU.out.gro p3 (fun q => HN1.out (by injection q)))
                  have HP2 : Hid (IntsK (putA U g (j + 1) L[j]) w.heap.size (.slice Ax Xa.length kx) Xa) := Lib.hid (HPU.out.gro hau.own (Nat.le_refl _) HBU.out.le p3)
                  have hil2 := hik.ints HBU.out.le
                  clear p1 p2 p3 hau hik hsl HAU HRU HBU HPU
                  generalize L[j] = pj at *
                  obtain ⟨rvj, ⟨ja, jb, js⟩⟩ := pj
                  dsimp only at hil2
                  obtain ⟨Aj, kj, rfl, _⟩ := hil2.form
                  unfold putA at HA2 HB2 HR2 HP2
                  dsimp only at *
                  clear hil2
                  go_wp2
                  go_roundw
                  case rel => exact ⟨j, _, _, by omega, by omega, rfl, rfl, HA2.out, HR2.out, HB2.out, HP2.out⟩
                  case measure => simp [intOf]
                · obtain rfl : j = k := by omega
                  have hjd : decide ((j : Int) < (j : Int)) = false := by simp
                  go_wp2
                  go_meet
                  case rel => exact ⟨_, e, rfl, HAU.out, HRU.out, HBU.out, HPU.out⟩
            case rest =>
              obtain ⟨U, e, rfl, hau, hru, hbu, hpu⟩ := hcut
              have HRU := Lib.hid hru
              have HBU := Lib.hid hbu
              have HPU := Lib.hid hpu
              have i2 : (k : Int) < (L.length : Int) + 1 := by omega
              have hsl := shift_len (L := L) (j := k) (e := e) hk
              rw [← hsl] at hau
              obtain ⟨g2, q2, e2, _, hgl, d0, d1, d2, fz⟩ := hau.get (i := k) (by omega)
              injection e2 with e2 _ _
              injection e2 with e2
              injection e2 with e2 _ _
              subst e2
              generalize (L.take k ++ e :: L.drop k)[k]'_ = pe at d0 d1 d2
              obtain ⟨p1, p2, p3⟩ := ar_put (i := k) (p := (.slice Ax Xa.length kx, ⟨Xa, Xb, Xs⟩)) HBU.out hau (by omega) HPU.out
              rw [shift_end hk, hsl] at p1
              have HA2 := Lib.hid p1
              have HB2 := Lib.hid p2
              have x0 := HRU.out.cell (i := 0) rfl
              have x1 := HRU.out.cell (i := 1) rfl
              have x2 := HRU.out.cell (i := 2) rfl
              have l7 := HRU.out.lt
              have HLN := Lib.hid (shift_len (L := L) (j := k) (e := ((.slice Ax Xa.length kx, ⟨Xa, Xb, Xs⟩) : Value × AL)) hk)
              have HMX : Hid ((L.take k ++ ((.slice Ax Xa.length kx, ⟨Xa, Xb, Xs⟩) : Value × AL) :: L.drop k).map Prod.snd = insA (L.map Prod.snd) ⟨Xa, Xb, Xs⟩) := Lib.hid (by rw [HINS.out]; simp)
              have HLE : Hid (∀ p, p ∈ L.take k ++ ((.slice Ax Xa.length kx, ⟨Xa, Xb, Xs⟩) : Value × AL) :: L.drop k → p.2.a.length ≤ 1000000) := Lib.hid (fun p hp => by
                rcases List.mem_append.1 hp with q | q
                · exact HLL.out p (List.mem_of_mem_take q)
                · rcases List.mem_cons.1 q with rfl | q
                  · exact HXL.out
                  · exact HLL.out p (List.mem_of_mem_drop q))
              clear p1 p2 p3 hau hsl HRU HBU HPU hru hbu hpu
              unfold putA at HA2 HB2
              go_wp2
              go_roundw
              case rel =>

                exact ⟨i + 1, ⟨_, HB2.out⟩, _, by omega, by go_num, rfl, HA2.out, by rw [HLN.out]; omega, HLE.out, by rw [HMX.out]; exact HFY.out.symm⟩
              case measure => simp [intOf]; omega
          · obtain ⟨hkl, heq⟩ := HBT.out.1 rfl
            have HINS : Hid (insA (L.map Prod.snd) ⟨Xa, Xb, Xs⟩ = (L.map Prod.snd).set k (if Xb < L[k].2.b ∨ Xb = L[k].2.b ∧ Xs = true then ⟨Xa, Xb, Xs⟩ else L[k].2)) := Lib.hid (by
              have := insA_eq (X := ⟨Xa, Xb, Xs⟩) HLOW.out (show k < (L.map Prod.snd).length by simpa using hkl) (by rw [List.getElem_map]; exact heq)
              rw [this]; simp only [List.getElem_map])
            clear HBT HLOW HEN heq
            obtain ⟨g, cg, rfl, hbg, hgl, c0, c1, c2, fz⟩ := HAY.out.get hkl
            have hki : (k : Int) < (L.length : Int) := by omega
            have HPUT := Lib.hid (fun (y : Ext wy) => ar_put (i := k) (p := (.slice Ax Xa.length kx, ⟨Xa, Xb, Xs⟩)) (HBY.out.trans y.bel) (HAY.out.bel y.bel HBY.out.le) hkl (HPY.out.bel y.bel HBY.out.le))
            unfold putA at HPUT
            dsimp only at HPUT
            have HSAME : Hid ((L.map Prod.snd).set k L[k].2 = L.map Prod.snd) := Lib.hid (by
              have h1 : L[k].2 = (L.map Prod.snd)[k]'(by simpa using hkl) := by rw [List.getElem_map]
              rw [h1, List.set_getElem_self])
            have HLE : Hid (∀ p, p ∈ L.set k ((.slice Ax Xa.length kx, ⟨Xa, Xb, Xs⟩) : Value × AL) → p.2.a.length ≤ 1000000) := Lib.hid (fun p hp => by
              rcases List.mem_or_eq_of_mem_set hp with q | rfl
              · exact HLL.out p q
              · exact HXL.out)
            have HMP : Hid ((L.set k ((.slice Ax Xa.length kx, ⟨Xa, Xb, Xs⟩) : Value × AL)).map Prod.snd = (L.map Prod.snd).set k ⟨Xa, Xb, Xs⟩) := Lib.hid (by rw [List.map_set])
            have HLN : Hid ((L.set k ((.slice Ax Xa.length kx, ⟨Xa, Xb, Xs⟩) : Value × AL)).length = L.length) := Lib.hid (by simp)
            have hrk := (HAY.out.at_ _ (List.getElem_mem hkl)).ints HBY.out.le
            generalize L[k] = pk at *
            obtain ⟨rvk, ⟨ya, yb, ys⟩⟩ := pk
            dsimp only at *
            obtain ⟨Ak, kk, rfl, _⟩ := hrk.form
            clear hrk
            by_cases hbt : Xb < yb
            · have d1 : decide (Xb < yb) = true := decide_eq_true hbt
              have HF2 : Hid (tidyF n ((L.map Prod.snd).set k ⟨Xa, Xb, Xs⟩) (l.drop (i + 1)) = tidyA n l) := Lib.hid (by rw [HFY.out, HINS.out, if_pos (.inl hbt)])
              clear hbt HINS HFY
              go_wp2
              (refine wp_region_ext (wb := wy) (by (repeat (first | exact Ext.bel _ | exact Bel.refl | refine Bel.alloc ?_ _ | refine Bel.drew ?_ | refine Bel.drewN ?_ _))) (by kernel_rfl) (by kernel_rfl) ?_; (repeat (any_goals (first | go_big_quiet_step (fail) | quiet_step (fail) | (refine wpQuiet_step (fun K hK => ?_); go_simp; split <;> (refine hK _ ?_; clear hK K))))); all_goals (refine wpQuiet_nil ?_; intro _ hw'; obtain ⟨y, hw''⟩ := hw'; subst hw''))
              have HPT := Lib.hid (HPUT.out y)
              go_wp2
              go_roundw
              case rel => exact ⟨i + 1, ⟨_, HPT.out.2.1⟩, _, by omega, by go_num, rfl, HPT.out.1, by rw [HLN.out]; omega, HLE.out, by rw [HMP.out]; exact HF2.out⟩
              case measure => simp [intOf]; omega
            · have d1 : decide (Xb < yb) = false := decide_eq_false hbt
              by_cases hbe : Xb = yb
              · have d2 : (Xb == yb) = true := by simp [hbe]
                cases Xs
                · have HF2 : Hid (tidyF n (L.map Prod.snd) (l.drop (i + 1)) = tidyA n l) := Lib.hid (by rw [HFY.out, HINS.out, if_neg (by rintro (q | ⟨_, q⟩); exact hbt q; cases q), HSAME.out])
                  clear hbt hbe HINS HFY
                  go_wp2
                  (refine wp_region_ext (wb := wy) (by (repeat (first | exact Ext.bel _ | exact Bel.refl | refine Bel.alloc ?_ _ | refine Bel.drew ?_ | refine Bel.drewN ?_ _))) (by kernel_rfl) (by kernel_rfl) ?_; (repeat (any_goals (first | go_big_quiet_step (fail) | quiet_step (fail) | (refine wpQuiet_step (fun K hK => ?_); go_simp; split <;> (refine hK _ ?_; clear hK K))))); all_goals (refine wpQuiet_nil ?_; intro _ hw'; obtain ⟨y, hw''⟩ := hw'; subst hw''))
                  go_wp2
                  go_roundw
                  case rel => exact ⟨i + 1, ⟨_, HBY.out.trans y.bel⟩, L, by omega, by go_num, rfl, HAY.out.bel y.bel HBY.out.le, by omega, HLL.out, HF2.out⟩
                  case measure => simp [intOf]; omega
                · have HF2 : Hid (tidyF n ((L.map Prod.snd).set k ⟨Xa, Xb, true⟩) (l.drop (i + 1)) = tidyA n l) := Lib.hid (by rw [HFY.out, HINS.out, if_pos (.inr ⟨hbe, rfl⟩)])
                  clear hbt hbe HINS HFY
                  go_wp2
                  (refine wp_region_ext (wb := wy) (by (repeat (first | exact Ext.bel _ | exact Bel.refl | refine Bel.alloc ?_ _ | refine Bel.drew ?_ | refine Bel.drewN ?_ _))) (by kernel_rfl) (by kernel_rfl) ?_; (repeat (any_goals (first | go_big_quiet_step (fail) | quiet_step (fail) | (refine wpQuiet_step (fun K hK => ?_); go_simp; split <;> (refine hK _ ?_; clear hK K))))); all_goals (refine wpQuiet_nil ?_; intro _ hw'; obtain ⟨y, hw''⟩ := hw'; subst hw''))
                  have HPT := Lib.hid (HPUT.out y)
                  go_wp2
                  go_roundw
                  case rel => exact ⟨i + 1, ⟨_, HPT.out.2.1⟩, _, by omega, by go_num, rfl, HPT.out.1, by rw [HLN.out]; omega, HLE.out, by rw [HMP.out]; exact HF2.out⟩
                  case measure => simp [intOf]; omega
              · have d2 : (Xb == yb) = false := by simp [hbe]
                have HF2 : Hid (tidyF n (L.map Prod.snd) (l.drop (i + 1)) = tidyA n l) := Lib.hid (by rw [HFY.out, HINS.out, if_neg (by rintro (q | ⟨q, _⟩); exact hbt q; exact hbe q), HSAME.out])
                clear hbt hbe HINS HFY
                go_wp2
                (refine wp_region_ext (wb := wy) (by (repeat (first | exact Ext.bel _ | exact Bel.refl | refine Bel.alloc ?_ _ | refine Bel.drew ?_ | refine Bel.drewN ?_ _))) (by kernel_rfl) (by kernel_rfl) ?_; (repeat (any_goals (first | go_big_quiet_step (fail) | quiet_step (fail) | (refine wpQuiet_step (fun K hK => ?_); go_simp; split <;> (refine hK _ ?_; clear hK K))))); all_goals (refine wpQuiet_nil ?_; intro _ hw'; obtain ⟨y, hw''⟩ := hw'; subst hw''))
                go_wp2
                go_roundw
                case rel => exact ⟨i + 1, ⟨_, HBY.out.trans y.bel⟩, L, by omega, by go_num, rfl, HAY.out.bel y.bel HBY.out.le, by omega, HLL.out, HF2.out⟩
                case measure => simp [intOf]; omega
      · rw [hz] at HFX
        have HFY : Hid (tidyA n l = if noneA ⟨Xa, Xb, Xs⟩ then [falseA n] else tidyF n (L.map Prod.snd) (l.drop (i + 1))) := Lib.hid HFX.out
        clear hz HFX
        by_cases hno : noneA ⟨Xa, Xb, Xs⟩
        · have HM : Hid (tidyA n l = [falseA n]) := Lib.hid (by rw [HFY.out, if_pos hno])
          have hmk := fun W => made64 n (by omega) W
          have HFIN := Lib.hid (fun W b (r : RowAt W b 25 [.slice (some ⟨w5.heap.size, 0, none⟩) n n, .int .i64 0, .bool true]) (h : IntsAt W W.heap.size (.slice (some ⟨w5.heap.size, 0, none⟩) n n) (List.replicate n 0)) => lines_one (x := falseA n) r h)
          clear HFY
          have hfin : ∀ W', W' = (w5.alloc (.cells (intsV (List.replicate n 0)).toArray 2)).alloc (.cells #[.slice (some ⟨w5.heap.size, 0, none⟩) n n, .int .i64 0, .bool true] 25) → Hid (LinesAt W' W'.heap.size (.slice (some ⟨w5.heap.size + 1, 0, none⟩) 1 1) (tidyA n l) ∧ Bel w W') := by
            rintro W' rfl
            have e : (w5.alloc (.cells (intsV (List.replicate n 0)).toArray 2)).heap.size = w5.heap.size + 1 := size_alV _ _
            rw [← e]
            refine Lib.hid ⟨?_, (HB.out.alloc _).alloc _⟩
            rw [HM.out]
            refine HFIN.out _ _ (RowAt.new _ 25 [.slice (some ⟨w5.heap.size, 0, none⟩) n n, .int .i64 0, .bool true]) ?_
            exact IntsAt.of_own (ownsRow_bel (by have := own_made64 (W := w5) (B := w.heap.size) (n := n) HB.out.le (by omega) (List.replicate n 0) (by simp); exact this) (Bel.refl.alloc _))
          by_cases hb0 : Xb < 0
          · have d1 : decide (Xb < 0) = true := decide_eq_true hb0
            clear hno hb0
            go_wp2
            go_ret
            obtain ⟨a1, a2⟩ := (hfin _ rfl).out
            exact ⟨_, rfl, a1, a2⟩
          · obtain ⟨rfl, rfl⟩ : Xb = 0 ∧ Xs = true := by
              rcases hno with h | h
              · exact absurd h hb0
              · exact h
            have d2 : ((0 : Int) == 0) = true := rfl
            clear hno hb0
            go_wp2
            go_ret
            obtain ⟨a1, a2⟩ := (hfin _ rfl).out
            exact ⟨_, rfl, a1, a2⟩
        · have HM : Hid (tidyF n (L.map Prod.snd) (l.drop (i + 1)) = tidyA n l) := Lib.hid (by rw [HFY.out, if_neg hno])
          clear HFY
          have h1 : ¬ Xb < 0 := fun h => hno (.inl h)
          have d1 : decide (Xb < 0) = false := decide_eq_false h1
          by_cases h2 : Xb = 0
          · obtain rfl : Xs = false := by
              cases Xs
              · rfl
              · exact absurd (.inr ⟨h2, rfl⟩) hno
            subst h2
            have d2 : ((0 : Int) == 0) = true := rfl
            clear hno h1
            go_wp2
            go_roundw
            case rel => exact ⟨i + 1, ⟨_, HB.out⟩, L, by omega, by go_num, rfl, HAR.out, by omega, HLL.out, HM.out⟩
            case measure => simp [intOf]; omega
          · have d2 : (Xb == 0) = false := by simp [h2]
            clear hno h1 h2
            go_wp2
            go_roundw
            case rel => exact ⟨i + 1, ⟨_, HB.out⟩, L, by omega, by go_num, rfl, HAR.out, by omega, HLL.out, HM.out⟩
            case measure => simp [intOf]; omega
    · obtain rfl : i = l.length := by omega
      have hd : decide ((l.length : Int) < (l.length : Int)) = false := by simp
      have HM : Hid (tidyA n l = L.map Prod.snd) := Lib.hid (by rw [← HF.out, List.drop_length]; rfl)
      have HLN := Lib.hid (HAR.out.lines y.bel.le)
      clear HF
      go_wp2
      go_ret
      exact ⟨_, rfl, by rw [HM.out]; exact HLN.out, y.bel⟩
end Go.Proofs.Ytalphoebmefgoaa
