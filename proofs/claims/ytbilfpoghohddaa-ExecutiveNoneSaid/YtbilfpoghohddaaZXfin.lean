/- executive: the two closures of Tick. -/
import Derived.Test.YtbilfpoghohddaaG14
import Derived.Test.YtbilfpoghohddaaG1
import Derived.Test.YtbilfpoghohddaaG5
import Derived.Defers
namespace Go.Proofs.Ytbilfpoghohddaa
open Go.RowKit
/-- the memory in the midst of a tick -/
structure TkAt (wb w0 w3 W : World) (be bx bd : Nat) (lv tv : Value) (l : List Tsk) (xs : List Int) (st : ExS) (dv : Value) (ds : List Don) : Prop where
  gr : w0.grownBy W (some be)
  ex : ExAt wb W be lv tv l xs st
  lt0 : be < w0.heap.size
  bx0 : w0.heap.size ≤ bx
  bd0 : w0.heap.size ≤ bd
  bxr : RowAt W bx 29 [.pointer (some ⟨be, 0, none⟩)]
  bdr : RowAt W bd 42 [dv]
  own : W.ownsRow w3.heap.size 60 5 dv ds.length (ds.flatMap donC)
  le3 : w0.heap.size ≤ w3.heap.size
  sz3 : w3.heap.size ≤ W.heap.size
  g3 : ∀ k, k < w3.heap.size → k ≠ be → k ≠ bd → W.heap[k]? = w3.heap[k]?
section
variable {wb w0 w3 W W' : World} {be bx bd : Nat} {lv tv : Value} {l : List Tsk} {xs : List Int} {st : ExS} {dv : Value} {ds : List Don}
theorem gro_bel2 {w w' w'' : World} {row : Option Nat} (h : w.grownBy w' row) (hb : Bel w' w'') : w.grownBy w'' row :=
  ⟨(Below.os hb).trans h.os, (Below.tape hb).trans h.tape, (Below.output hb).trans h.output, Nat.le_trans h.size hb.le, fun k hk hr => (Below.block hb k (Nat.lt_of_lt_of_le hk h.size)).trans (h.block k hk hr)⟩
theorem TkAt.bel (h : TkAt wb w0 w3 W be bx bd lv tv l xs st dv ds) (hb : Bel W W') : TkAt wb w0 w3 W' be bx bd lv tv l xs st dv ds :=
  ⟨gro_bel2 h.gr hb, h.ex.bel hb, h.lt0, h.bx0, h.bd0, h.bxr.bel hb, h.bdr.bel hb, ownsRow_bel h.own hb, h.le3, Nat.le_trans h.sz3 hb.le, fun k hk h1 h2 => (Below.block hb k (Nat.lt_of_lt_of_le hk h.sz3)).trans (h.g3 k hk h1 h2)⟩
theorem TkAt.be_bd (h : TkAt wb w0 w3 W be bx bd lv tv l xs st dv ds) : be ≠ bd := by have := h.lt0; have := h.bd0; omega
theorem TkAt.be_bx (h : TkAt wb w0 w3 W be bx bd lv tv l xs st dv ds) : be ≠ bx := by have := h.lt0; have := h.bx0; omega
theorem rows_ne {w : World} {p q : Nat} {e1 e2 : TypeId} {xs ys : List Value} (h1 : RowAt w p e1 xs) (h2 : RowAt w q e2 ys) (hne : e1 ≠ e2) : p ≠ q := by
  intro e
  subst e
  unfold RowAt at h1 h2
  rw [h1] at h2
  injection h2 with h2
  injection h2 with _ h2
  exact hne h2
theorem TkAt.bx_bd (h : TkAt wb w0 w3 W be bx bd lv tv l xs st dv ds) : bx ≠ bd := rows_ne h.bxr h.bdr (by decide)
/-- a store into the executive -/
theorem TkAt.setBe (h : TkAt wb w0 w3 W be bx bd lv tv l xs st dv ds) {k : Nat} {v : Value} {st' : ExS} (e : exC lv tv st' = (exC lv tv st).set k v) :
    TkAt wb w0 w3 (W.setCell ⟨be, k, none⟩ v) be bx bd lv tv l xs st' dv ds := by
  have g := gro_set (gro_refl W (row := some be)) k v
  refine ⟨h.gr.trans g, ⟨h.ex.bl.set (p := ⟨be, k, none⟩) h.ex.be_ v, h.ex.be_, let ⟨sv, h1, h2⟩ := h.ex.own; ⟨sv, h1, h2.kept g (own_box_ne h.ex.row h2 (by decide))⟩, h.ex.ox.kept g (own_box_ne h.ex.row h.ex.ox (by decide)), by rw [e]; exact h.ex.row.set k v⟩, h.lt0, h.bx0, h.bd0, h.bxr.far (Ne.symm h.be_bx) v, h.bdr.far (Ne.symm h.be_bd) v, h.own.kept g ?_, h.le3, Nat.le_trans h.sz3 g.size, fun q hq h1 h2 => ?_⟩
  · exact own_box_ne h.ex.row h.own (by decide)
  · exact (Below.heap_setCell W ⟨be, k, none⟩ v q h1).trans (h.g3 q hq h1 h2)
/-- the list of those that are done is turned -/
theorem TkAt.setBd (h : TkAt wb w0 w3 W be bx bd lv tv l xs st dv ds) {w4 : World} {dv' : Value} {ds' : List Don} (hg : W.grownBy w4 dv.ownBlock) (ho : w4.ownsRow w3.heap.size 60 5 dv' ds'.length (ds'.flatMap donC)) :
    TkAt wb w0 w3 (w4.setCell ⟨bd, 0, none⟩ dv') be bx bd lv tv l xs st dv' ds' := by
  have n1 := box_row_ne h.bdr h.own (by decide)
  have n2 := box_row_ne h.bxr h.own (by decide)
  have n3 := box_row_ne h.ex.row h.own (by decide)
  have b1 := h.bdr.gro hg n1
  have b2 := h.bxr.gro hg n2
  have b3 := h.ex.row.gro hg n3
  have g3 := gro_set (gro_refl w4 (row := some bd)) 0 dv'
  have hbw : Bel wb w4 := bel_gro h.ex.bl hg (fun k hk => by have := (h.own.lt k hk).1; have := h.ex.be_; have := h.lt0; have := h.le3; omega)
  refine ⟨⟨g3.os.trans (hg.os.trans h.gr.os), g3.tape.trans (hg.tape.trans h.gr.tape), g3.output.trans (hg.output.trans h.gr.output), Nat.le_trans h.gr.size (Nat.le_trans hg.size g3.size), fun k hk hr => ?_⟩,
    ⟨hbw.set (p := ⟨bd, 0, none⟩) (by have := h.ex.be_; have := h.lt0; have := h.bd0; show wb.heap.size ≤ bd; omega) _, h.ex.be_, let ⟨sv, h1, h2⟩ := h.ex.own; have h3 := h2.kept hg (own_types_ne h2 h.own (by decide)); ⟨sv, h1, h3.kept g3 (own_box_ne b1 h3 (by decide))⟩, (have h3 := h.ex.ox.kept hg (own_types_ne h.ex.ox h.own (by decide)); h3.kept g3 (own_box_ne b1 h3 (by decide))), b3.far h.be_bd _⟩, h.lt0, h.bx0, h.bd0, b2.far h.bx_bd _, b1.set 0 dv', ho.kept g3 (own_box_ne b1 ho (by decide)), h.le3, Nat.le_trans h.sz3 (Nat.le_trans hg.size g3.size), fun k hk h1 h2 => ?_⟩
  · have hk1 := Nat.lt_of_lt_of_le hk h.gr.size
    have hk2 := Nat.lt_of_lt_of_le hk1 hg.size
    rw [g3.block k hk2 (fun e => by injection e with e; have := h.bd0; omega), hg.block k hk1 (fun e => by have := (h.own.lt k e.symm).1; have := h.le3; omega), h.gr.block k hk hr]
  · have hk1 := Nat.lt_of_lt_of_le hk h.sz3
    have hk2 := Nat.lt_of_lt_of_le hk1 hg.size
    rw [g3.block k hk2 (fun e => by injection e with e; exact h2 e), hg.block k hk1 (fun e => by have := (h.own.lt k e.symm).1; omega), h.g3 k hk h1 h2]
theorem exC_put {i r : Nat} {j' : JobX} {v : Value} (hi : i < st.js.length) (hr : r < 3) (hj : jxC j' = (jxC (jxAt st.js i)).set r v) :
    exC lv tv { st with js := st.js.set i j' } = (exC lv tv st).set (3 + i * 3 + r) v := by
  have hl : i < (exJ st.js).length := by simp [exJ]; omega
  have e1 : (exJ st.js)[i] = jxAt st.js i := by
    have := exJ_at hi
    rw [List.getElem?_eq_getElem hl] at this
    injection this
  unfold exC
  dsimp only
  rw [show 3 + i * 3 + r = (i * 3 + r) + 1 + 1 + 1 by omega, List.set_cons_succ, List.set_cons_succ, List.set_cons_succ, exJ_set hi, flat_set jxC_len (exJ st.js) i r j' v hl hr (by rw [e1]; exact hj)]
end
def finD (st : ExS) (i : Nat) (b : Int) (ds : List Don) : List Don :=
  if (jxAt st.js i).lft = 0 then ds ++ [⟨i, (jxAt st.js i).num, (jxAt st.js i).rel, st.now + b - (jxAt st.js i).rel, false⟩] else ds
def FinPost (wb w0 w3 : World) (be bx bd : Nat) (lv tv : Value) (l : List Tsk) (xs : List Int) (st : ExS) (ds : List Don) (e : Ending) (W' : World) : Prop :=
  e = .returned (.tuple #[]) ∧ ∃ dv', TkAt wb w0 w3 W' be bx bd lv tv l xs st dv' ds
set_option maxRecDepth 100000 in
set_option maxHeartbeats 8000000 in
theorem finish_any {wb w0 w3 : World} {be bx bd : Nat} {lv tv : Value} {l : List Tsk} {xs : List Int} {st : ExS} {dv : Value} {ds : List Don} (W : World) (h : TkAt wb w0 w3 W be bx bd lv tv l xs st dv ds) (i : Nat) (hi : i < st.js.length) (h8 : st.js.length ≤ 8) (b : Int)
    (hb0 : 0 ≤ b) (hb1 : b ≤ 1) (hn0 : 0 ≤ st.now) (hn : st.now ≤ 1000000) (hr0 : 0 ≤ (jxAt st.js i).rel) (hr1 : (jxAt st.js i).rel ≤ 1000000) (hds : ds.length ≤ 100) :
    Calls Try.prog 38 #[.int .i64 i, .int .i64 b, .pointer (some ⟨bx, 0, none⟩), .pointer (some ⟨bd, 0, none⟩)] W (FinPost wb w0 w3 be bx bd lv tv l xs st (finD st i b ds)) := by
  have HK := Lib.hid h
  have c0 := h.bxr.cell (i := 0) rfl
  have cz := h.bxr.lt
  have e2 := h.ex.c2
  have ez := h.ex.lt
  have j0 : W.cell? ⟨be, 3 + i * 3, none⟩ = some (.int .i64 (jxAt st.js i).num) := h.ex.cj (r := 0) hi (by omega)
  have j1 : W.cell? ⟨be, 3 + i * 3 + 1, none⟩ = some (.int .i64 (jxAt st.js i).rel) := h.ex.cj (r := 1) hi (by omega)
  have j2 : W.cell? ⟨be, 3 + i * 3 + 2, none⟩ = some (.int .i64 (jxAt st.js i).lft) := h.ex.cj (r := 2) hi (by omega)
  have hi8 : (i : Int) < 8 := by omega
  have HF : Hid (finD st i b ds = if (jxAt st.js i).lft = 0 then ds ++ [⟨i, (jxAt st.js i).num, (jxAt st.js i).rel, st.now + b - (jxAt st.js i).rel, false⟩] else ds) := Lib.hid rfl
  obtain ⟨dd, hd0, hz0, hz1, hz2⟩ := info_parts Try.infoDon
  clear h
  generalize (jxAt st.js i).lft = lf at *
  generalize (jxAt st.js i).rel = re at *
  generalize (jxAt st.js i).num = nu at *
  go_enter Try.func38, Try.ntmps38
  go_upto_region 1 with (fail)
  generalize hW : World.alloc W _ = W1 at *
  have r6 : RowAt W1 W.heap.size 48 [.int .i64 nu, .int .i64 re, .int .i64 lf] := by rw [← hW]; exact RowAt.new _ _ _
  have hB : Bel W W1 := by rw [← hW]; exact Bel.refl.alloc _
  clear hW c0 cz e2 ez j0 j1 j2
  have HK1 := Lib.hid (HK.out.bel hB)
  have HR6 := Lib.hid r6
  clear r6 hB HK
  generalize W.heap.size = n6 at *
  have a0 := HR6.out.cell (i := 0) rfl
  have a1 := HR6.out.cell (i := 1) rfl
  have a2 := HR6.out.cell (i := 2) rfl
  have az := HR6.out.lt
  by_cases hz : lf = 0
  case neg =>
    have q1 : (lf == 0) = false := by simpa using hz
    have HF2 : Hid (finD st i b ds = ds) := Lib.hid (by rw [HF.out, if_neg hz])
    clear hz
    go_wp2
    go_end0
    exact ⟨rfl, _, by rw [HF2.out]; exact HK1.out⟩
  have q1 : (lf == 0) = true := by simpa using hz
  have HF2 : Hid (finD st i b ds = ds ++ [⟨i, nu, re, st.now + b - re, false⟩]) := Lib.hid (by rw [HF.out, if_pos hz])
  clear hz
  go_upto_region 2 with (fail)
  obtain ⟨row, hrow⟩ : ∃ r, r = dv.ownBlock := ⟨_, rfl⟩
  have hn1 : some bd ≠ row := by rw [hrow]; exact box_row_ne HK1.out.bdr HK1.out.own (by decide)
  have hn2 : some bx ≠ row := by rw [hrow]; exact box_row_ne HK1.out.bxr HK1.out.own (by decide)
  have hn3 : some be ≠ row := by rw [hrow]; exact box_row_ne HK1.out.ex.row HK1.out.own (by decide)
  have hn4 : some n6 ≠ row := by rw [hrow]; exact box_row_ne HR6.out HK1.out.own (by decide)
  have k0 := HK1.out.bdr.cell (i := 0) rfl
  have kz := HK1.out.bdr.lt
  have c0 := HK1.out.bxr.cell (i := 0) rfl
  have cz := HK1.out.bxr.lt
  have e2 := HK1.out.ex.c2
  have ez := HK1.out.ex.lt
  have HROW := Lib.hid hrow
  clear hrow
  have hw1 : IntKind.i64.wrap (st.now + b) = st.now + b := IntWalk.i64_in _ (by omega)
  have hw2 : IntKind.i64.wrap (st.now + b - re) = st.now + b - re := IntWalk.i64_in _ (by omega)
  (refine wp_region_E 18 row (by kernel_rfl) ?_; refine anyE_takes [0, 1, 2, 3, 4, 5, 6, 7, 8, 9, 10, 11, 12, 13, 14, 15] (fun _ _ _ _ _ h => h) ⟨⟨_, gro_drew (gro_refl _)⟩, rfl⟩ (by kernel_rfl) (by rfl) ?_; simp only [opsOf, List.filterMap_cons, List.filterMap_nil, List.getElem?_toArray, List.getElem?_cons_succ, List.getElem?_cons_zero, List.foldl_cons, List.foldl_nil]; (repeat (any_goals (first | go_big_quiet_step (fail) | quiet_step (fail)))); refine wpQuiet_nil ?_)
  have HY : Hid (TkAt wb w0 w3 W1.drew be bx bd lv tv l xs st dv ds) := Lib.hid (HK1.out.bel Bel.refl.drew)
  have hgd : Hid (W1.grownBy W1.drew row) := Lib.hid (gro_drew (gro_refl _))
  have HLE : Hid (w3.heap.size ≤ W1.drew.heap.size) := Lib.hid HY.out.sz3
  obtain ⟨Ad, cd, rfl, _⟩ := own_slice HK1.out.own
  generalize W1.drew = y at *
  clear HK1 HR6 a0 a1 a2 az k0 kz c0 cz e2 ez
  (refine anyE_one 16 _ (by kernel_rfl) (by rfl) (fun K hK => ?_))
  go_simp
  refine hK _ _ (fun _ => ⟨⟨_, gro_alloc hgd.out _⟩, rfl⟩) ?_
  clear hK K
  have hle := HLE.out
  (refine anyE_one 17 _ (by kernel_rfl) (by rfl) (fun K hK => ?_))
  rw [if_pos (by rfl)]
  refine wp_append_own _ _ _ 42 rfl w3.heap.size 60 dd _ 5 40 Try.underlying42 hd0 hz0 hz1 hz2 rfl (by decide) _ _ _ rfl (HY.out.own.alloc _) ⟨y.heap.size, 0, none⟩ 1 1 (donC ⟨i, nu, re, st.now + b - re, false⟩) rfl rfl ?d1 ?d2 ?d3 ?d4 ?d5 ?_
  case d1 => exact cells_new _ (donC ⟨i, nu, re, st.now + b - re, false⟩) _
  case d2 => intro u hu; simp [donC] at hu; rcases hu with h | h | h | h | h <;> subst h <;> rfl
  case d3 => unfold maxLen; omega
  case d4 => omega
  case d5 => simp; omega
  intro v' w4 hown3 hg3 _
  obtain ⟨A', c', rfl, _⟩ := own_slice hown3
  replace hg3 := (World.grownBy_alloc y _ _).trans hg3
  refine hK _ _ (fun _ => ⟨⟨_, hgd.out.trans (by rw [HROW.out]; exact hg3)⟩, rfl⟩) ?_
  clear hK K
  have bd3 := HY.out.bdr.gro hg3 (box_row_ne HY.out.bdr HY.out.own (by decide))
  have c3 := bd3.cell (i := 0) rfl
  have f3 := bd3.frozen 0
  have l3 := bd3.lt
  have HS4 := Lib.hid (HY.out.setBd (ds' := ds ++ [⟨i, nu, re, st.now + b - re, false⟩]) hg3 (by rw [List.flatMap_append, List.length_append]; simpa using hown3))
  clear hown3 hg3 bd3
  (refine anyE_tail 18 (by decide) (by rfl) (by kernel_rfl) ?_; simp only [List.drop_succ_cons, List.drop_zero])
  go_wp2
  refine NoPanic.normal ?_
  clear c3 f3 l3
  go_wp2
  go_end0
  exact ⟨rfl, _, by rw [HF2.out]; exact HS4.out⟩
set_option maxRecDepth 100000 in
set_option maxHeartbeats 8000000 in
theorem bump_deferred {wb w0 w3 : World} {be bx bd : Nat} {lv tv : Value} {l : List Tsk} {xs : List Int} {st : ExS} {dv : Value} {ds : List Don} (W : World) (h : TkAt wb w0 w3 W be bx bd lv tv l xs st dv ds) (hn0 : 0 ≤ st.now) (hn : st.now ≤ 1000000) (u : FrameMode) :
    CallsD Try.prog 37 #[.pointer (some ⟨bx, 0, none⟩)] u W fun e u' w' => u' = u ∧ (e = .returned (.tuple #[]) ∧ TkAt wb w0 w3 w' be bx bd lv tv l xs { st with now := st.now + 1 } dv ds) := by
  have c0 := h.bxr.cell (i := 0) rfl
  have cz := h.bxr.lt
  have e2 := h.ex.c2
  have f2 := h.ex.row.frozen 2
  have ez := h.ex.lt
  have HN := Lib.hid (h.setBe (k := 2) (v := .int .i64 (st.now + 1)) (st' := { st with now := st.now + 1 }) rfl)
  clear h
  go_enter_d Try.func37, Try.ntmps37
  go_wp2
  go_end0
  exact ⟨rfl, HN.out⟩
/-- a slice value reads as these ints, which lie in another block than p -/
def IntsNe (w : World) (p : Nat) (v : Value) (l : List Int) : Prop :=
  ∃ A c, v = .slice A l.length c ∧ l.length ≤ c ∧ (0 < l.length → ∃ b off, A = some ⟨b, off, none⟩ ∧ b < w.heap.size ∧ b ≠ p ∧ ∀ i, i < l.length → w.cell? ⟨b, off + i, none⟩ = some (.int .i64 (l.getD i 0)))
theorem IntsNe.form {w : World} {p : Nat} {v : Value} {l : List Int} (h : IntsNe w p v l) : ∃ A c, v = .slice A l.length c ∧ l.length ≤ c := let ⟨A, c, e, hc, _⟩ := h; ⟨A, c, e, hc⟩
theorem IntsNe.at_ {w : World} {p : Nat} {A : Option Addr} {n c : Nat} {l : List Int} (h : IntsNe w p (.slice A n c) l) (h0 : 0 < l.length) : ∃ b off, A = some ⟨b, off, none⟩ ∧ b < w.heap.size ∧ b ≠ p ∧ ∀ i, i < l.length → w.cell? ⟨b, off + i, none⟩ = some (.int .i64 (l.getD i 0)) := by
  obtain ⟨A', c', e, _, h⟩ := h
  injection e with e
  subst e
  exact h h0
theorem cell_block {w w' : World} {b o : Nat} (h : w'.heap[b]? = w.heap[b]?) : w'.cell? ⟨b, o, none⟩ = w.cell? ⟨b, o, none⟩ := by
  unfold World.cell?; dsimp only; rw [h]
theorem IntsNe.gro {w w' : World} {p : Nat} {v : Value} {l : List Int} (h : IntsNe w p v l) (g : w.grownBy w' (some p)) : IntsNe w' p v l := by
  obtain ⟨A, c, rfl, hc, h⟩ := h
  refine ⟨A, c, rfl, hc, fun h0 => ?_⟩
  obtain ⟨b, off, rfl, hb, hp, h⟩ := h h0
  exact ⟨b, off, rfl, Nat.lt_of_lt_of_le hb g.size, hp, fun i hi => (cell_block (g.block b hb (fun e => by injection e with e; exact hp e))).trans (h i hi)⟩
theorem IntsNe.of_at {w w' : World} {p : Nat} {v : Value} {l : List Int} (h : IntsAt w w.heap.size v l) (hp : w.heap.size ≤ p) (hb : Bel w w') : IntsNe w' p v l := by
  obtain ⟨A, c, rfl, hc, h⟩ := h
  refine ⟨A, c, rfl, hc, fun h0 => ?_⟩
  obtain ⟨b, off, rfl, hlt, h⟩ := h h0
  exact ⟨b, off, rfl, Nat.lt_of_lt_of_le hlt hb.le, by omega, fun i hi => (hb.cells b (off + i) hlt).trans (h i hi)⟩
theorem IntsNe.of_own {w : World} {p base : Nat} {v : Value} {l : List Int} {e e2 : TypeId} {cs : List Value} (h : w.ownsRow base e 1 v l.length (l.map (Value.int .i64))) (hr : RowAt w p e2 cs) (hne : e2 ≠ e) : IntsNe w p v l := by
  have hbox := own_box_ne hr h hne
  have hi := IntsAt.of_own h
  obtain ⟨A, c, rfl, hc, hi⟩ := hi
  refine ⟨A, c, rfl, hc, fun h0 => ?_⟩
  obtain ⟨b, off, rfl, hlt, hi⟩ := hi h0
  refine ⟨b, off, rfl, hlt, ?_, hi⟩
  rcases hbox with hb | hb
  · rcases h.2 with ⟨hv, _⟩ | ⟨g, cap, cur, hv, _⟩
    · cases hv
    · rw [hv] at hb; cases hb
  · rcases h.2 with ⟨hv, _⟩ | ⟨g, cap, cur, hv, _⟩
    · cases hv
    · rw [hv] at hb
      injection hv with hv
      injection hv with hv
      injection hv with hv _ _
      subst hv
      intro e; exact hb (by simp [Value.ownBlock, e])
end Go.Proofs.Ytbilfpoghohddaa
