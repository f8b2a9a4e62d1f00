/- executive: New. -/
import Derived.Test.YtbilfpoghohddaaZXfin
import Derived.Test.YtbilfpoghohddaaG15
import Derived.Test.YtbilfpoghohddaaG10
import Derived.Test.YtbilfpoghohddaaG8
import Derived.Deep.CutRange
import Derived.Deep.Onto
namespace Go.Proofs.Ytbilfpoghohddaa
open Go.RowKit
/-- the cells of the tasks as they lie -/
theorem tsks_src {w : World} {v : Value} {l : List Tsk} (h : TsksAt w w.heap.size v l) (h0 : 0 < l.length) : ∃ (b off c : Nat) (svs : Nat → Value), v = .slice (some ⟨b, off, none⟩) l.length c ∧ b < w.heap.size ∧
    (∀ j u, (rowT l svs l.length)[j]? = some u → w.cell? ((⟨b, off, none⟩ : Addr).add j) = some u) ∧ ∀ i, i < l.length → SecsAt w w.heap.size (svs i) (tskAt l i).secs := by
  obtain ⟨A, c, rfl, _⟩ := h.form
  obtain ⟨b, off, rfl, hb, hA⟩ := h.at_ h0
  refine ⟨b, off, c, fun i => if hi : i < l.length then Classical.choose (hA i hi) else .nilIface, rfl, hb, fun j u hu => ?_, fun i hi => ?_⟩
  · have hj : j < l.length * 7 := by have := (List.getElem?_eq_some_iff.1 hu).1; rwa [rowT_len] at this
    obtain ⟨q, r, rfl, hr⟩ : ∃ q r, j = q * 7 + r ∧ r < 7 := ⟨j / 7, j % 7, by omega, by omega⟩
    have hq : q < l.length := by omega
    rw [rowT_at _ _ _ q r hq hr] at hu
    simp only [hq, dif_pos] at hu
    obtain ⟨⟨c0, c1, c2, c3, c4, c5, c6⟩, _⟩ := Classical.choose_spec (hA q hq)
    have e : (⟨b, off, none⟩ : Addr).add (q * 7 + r) = ⟨b, off + q * 7 + r, none⟩ := by
      unfold Addr.add; split
      · have : q * 7 + r = 0 := by assumption
        rw [show off + q * 7 + r = off by omega]
      · simp; omega
    rw [e]
    rcases r with _ | _ | _ | _ | _ | _ | _ | r <;> first | omega | (simp [tskCells] at hu; subst hu; assumption)
  · simp only [hi, dif_pos]
    exact (Classical.choose_spec (hA i hi)).2
theorem ints_src {w : World} {v : Value} {xs : List Int} (h : IntsAt w w.heap.size v xs) (h0 : 0 < xs.length) : ∃ (b off c : Nat), v = .slice (some ⟨b, off, none⟩) xs.length c ∧ b < w.heap.size ∧ ∀ j u, (intsC xs)[j]? = some u → w.cell? ((⟨b, off, none⟩ : Addr).add j) = some u := by
  obtain ⟨A, c, rfl, _⟩ := h.form
  obtain ⟨b, off, rfl, hb, hA⟩ := h.at_ h0
  refine ⟨b, off, c, rfl, hb, fun j u hu => ?_⟩
  unfold intsC at hu
  rw [List.getElem?_map] at hu
  have hj : j < xs.length := by
    rcases Nat.lt_or_ge j xs.length with h | h
    · exact h
    · rw [List.getElem?_eq_none h] at hu; cases hu
  rw [List.getElem?_eq_getElem hj] at hu
  injection hu with hu
  subst hu
  have := hA j hj
  have e : (⟨b, off, none⟩ : Addr).add j = ⟨b, off + j, none⟩ := by
    unfold Addr.add; split
    · subst_vars; rfl
    · rfl
  rw [e]
  rw [this]
  simp [List.getD, hj]
theorem intsC_len (xs : List Int) : (intsC xs).length = xs.length := by simp [intsC]
/-- what the box holds -/
def NewCut (ws : World) (l : List Tsk) (xs : List Int) (w : World) (s7 : Value) (wx : World) : Prop :=
  ∃ (be : Nat) (lv tv : Value) (wb : World), s7 = .pointer (some ⟨be, 0, none⟩) ∧ (∃ sv : Nat → Value, (∀ i, i < l.length → SecsAt ws ws.heap.size (sv i) (tskAt l i).secs) ∧ wb.ownsRow ws.heap.size 57 7 lv l.length (rowT l sv l.length)) ∧ wb.ownsRow ws.heap.size 3 1 tv xs.length (intsC xs) ∧ Bel w wb ∧ Bel wb wx ∧ wb.heap.size ≤ be ∧ RowAt wx be 51 (lv :: tv :: .int .i64 0 :: (List.replicate 8 (⟨0, 0, 0⟩ : JobX)).flatMap jxC)
theorem new_cut {ws w wc W : World} {l : List Tsk} {xs : List Int} {vt vx : Value} {svs : Nat → Value} (hs : Bel ws w) (hb : Bel w wc) (ht : W.ownsRow wc.heap.size 57 7 vt (0 + l.length) ([] ++ rowT l svs l.length)) (hx : W.ownsRow wc.heap.size 3 1 vx (0 + xs.length) ([] ++ intsC xs))
    (hsec : ∀ i, i < l.length → SecsAt ws ws.heap.size (svs i) (tskAt l i).secs) (hg : wc.grownBy W none) :
    NewCut ws l xs w (.pointer (some ⟨W.heap.size, 0, none⟩)) (W.alloc (.cells (vt :: vx :: .int .i64 0 :: (List.replicate 8 (⟨0, 0, 0⟩ : JobX)).flatMap jxC).toArray 51)) := by
  rw [Nat.zero_add, List.nil_append] at ht hx
  have hbel := gro_bel hg
  have hle := (hs.trans hb).le
  exact ⟨_, vt, vx, W, rfl, ⟨svs, hsec, ht.mono hle⟩, hx.mono hle, hb.trans hbel, Bel.refl.alloc _, Nat.le_refl _, RowAt.new _ _ _⟩
def zeroJ (i : Nat) : List JobX := List.replicate i ⟨-1, 0, 0⟩ ++ List.replicate (8 - i) ⟨0, 0, 0⟩
theorem zeroJ_len {i : Nat} (h : i ≤ 8) : (zeroJ i).length = 8 := by simp [zeroJ]; omega
theorem zeroJ_at {i : Nat} (h : i < 8) {h2 : i < (zeroJ i).length} : (zeroJ i)[i] = ⟨0, 0, 0⟩ := by simp [zeroJ]
theorem zeroJ_set {i : Nat} (h : i < 8) : (zeroJ i).set i ⟨-1, 0, 0⟩ = zeroJ (i + 1) := by
  unfold zeroJ
  apply List.ext_getElem
  · simp; omega
  · intro j h1 h2
    simp only [List.getElem_set, List.getElem_append, List.getElem_replicate, List.length_replicate]
    by_cases a : i = j
    · subst a; simp
    · by_cases b : j < i
      · rw [if_neg a]; simp [b]; omega
      · rw [if_neg a]; simp [b]; omega
def NewPost (ws : World) (l : List Tsk) (xs : List Int) (w : World) (e : Ending) (w' : World) : Prop :=
  (chkT l xs ≠ 0 ∧ e = .returned (.tuple #[.pointer none, .int .i64 (chkT l xs)]) ∧ Bel w w') ∨
  (chkT l xs = 0 ∧ ∃ be lv tv, e = .returned (.tuple #[.pointer (some ⟨be, 0, none⟩), .int .i64 0]) ∧ ExAt ws w' be lv tv l xs (ex0 l) ∧ w.heap.size ≤ be ∧ Bel w w')
set_option maxRecDepth 100000 in
set_option maxHeartbeats 16000000 in
theorem new_any (v xv : Value) (l : List Tsk) (xs : List Int) (ws w : World) (h0 : TsksAt ws ws.heap.size v l) (hp0 : IntsAt ws ws.heap.size xv xs) (hb0 : Bel ws w) (hpl : xs.length ≤ 1000000) (hsz : Sized l) :
    Calls Try.prog 11 #[v, .agg #[xv]] w (NewPost ws l xs w) := by
  have HB0 := Lib.hid hb0
  have HT := Lib.hid h0
  have HP := Lib.hid hp0
  have h := h0.keep hb0.keeps hb0.le
  have hp := hp0.keep hb0.keeps hb0.le
  clear h0 hp0 hb0
  have HCK := Lib.hid (fun (W : World) (hW : Bel w W) => checkT_any v xv l xs W (h.keep hW.keeps hW.le) (hp.keep hW.keeps hW.le) hpl hsz)
  obtain ⟨A, c, rfl, _⟩ := h.form
  obtain ⟨Ax, cx, rfl, _⟩ := hp.form
  clear h hp
  go_enter Try.func11, Try.ntmps11
  go_wp2_with fail
  generalize hW : World.alloc w _ = w1 at *
  have r3 : RowAt w1 w.heap.size 25 [.slice Ax xs.length cx] := by rw [← hW]; exact RowAt.new _ _ _
  have hb1 : Bel w w1 := by rw [← hW]; exact Bel.refl.alloc _
  clear hW
  obtain ⟨n3, hn3⟩ : ∃ n, n = w.heap.size := ⟨_, rfl⟩
  rw [← hn3] at r3 ⊢
  clear hn3
  refine (HCK.out _ hb1).mono ?_
  rintro e w2 ⟨rfl, hb⟩
  have HR3 := Lib.hid (r3.bel hb)
  have HB2 := Lib.hid (hb1.trans hb)
  clear r3 hb1 hb HCK
  by_cases hck : chkT l xs = 0
  case neg =>
    have q1 : (chkT l xs == 0) = false := by simpa using hck
    have q2 : (chkT l xs != 0) = true := by simpa using hck
    have HP : Hid (NewPost ws l xs w (.returned (.tuple #[.pointer none, .int .i64 (chkT l xs)])) w2) := Lib.hid (.inl ⟨hck, rfl, HB2.out⟩)
    generalize chkT l xs = ck at *
    clear hck
    go_wp2
    go_ret2
    exact HP.out
  have hok := ex0_ok hck
  have hl1 := hok.l1
  have hl8 := hok.l8
  have hx1 := hok.x1
  have HCK := Lib.hid hck
  rw [hck]
  clear hok hck
  obtain ⟨bt, ot, c', svs, e1, hbt, hsrt, hsec⟩ := tsks_src HT.out (by omega)
  injection e1 with e1 _ e2
  subst e1; subst e2
  obtain ⟨bq, oq, cx', e1, hbq, hsrx⟩ := ints_src HP.out (by omega)
  injection e1 with e1 _ e2
  subst e1; subst e2
  have x0 := HR3.out.cell (i := 0) rfl
  have x1 := HR3.out.lt
  go_upto_region 4 with (fail)
  go_cut [7] from 15 (fun s7 wx => NewCut ws l xs w s7 wx)
  case first =>
    have HBW := HB2
    obtain ⟨wc, hwc⟩ : ∃ wc, wc = w2.drew := ⟨_, rfl⟩
    have HSRT : Hid (∀ W, w2.grownBy W none → ∀ j u, (rowT l svs l.length)[j]? = some u → W.cell? ((⟨bt, ot, none⟩ : Addr).add j) = some u) := Lib.hid (fun W hW j u hu => (((HB0.out.trans HB2.out).trans (gro_bel hW)).cells' _ (by rw [show ((⟨bt, ot, none⟩ : Addr).add j).block = bt by unfold Addr.add; split <;> rfl]; exact hbt)).trans (hsrt j u hu))
    have HSRX : Hid (∀ W, w2.grownBy W none → ∀ j u, (intsC xs)[j]? = some u → W.cell? ((⟨bq, oq, none⟩ : Addr).add j) = some u) := Lib.hid (fun W hW j u hu => (((HB0.out.trans HB2.out).trans (gro_bel hW)).cells' _ (by rw [show ((⟨bq, oq, none⟩ : Addr).add j).block = bq by unfold Addr.add; split <;> rfl]; exact hbq)).trans (hsrx j u hu))
    have HSEC : Hid (∀ i, i < l.length → SecsAt ws ws.heap.size (svs i) (tskAt l i).secs) := Lib.hid hsec
    have HONX : Hid (∀ u ∈ intsC xs, u.oneCell' = true) := Lib.hid (fun u hu => by
      unfold intsC at hu
      obtain ⟨q, _, rfl⟩ := List.mem_map.mp hu
      rfl)
    have HONE : Hid (∀ u ∈ rowT l svs l.length, u.oneCell' = true) := Lib.hid (fun u hu => by
      unfold rowT at hu
      obtain ⟨q, hq, hu⟩ := List.mem_flatMap.mp hu
      obtain ⟨As, cs, e, _⟩ := (HSEC.out q (by simpa using hq)).form
      simp only [tskCells, List.mem_cons, List.not_mem_nil, or_false] at hu
      rcases hu with rfl | rfl | rfl | rfl | rfl | rfl | rfl <;> first | rfl | (rw [e]; rfl))
    clear hsrt hsrx hsec
    obtain ⟨j0, hj0, hy0, hy1, hy2⟩ := info_parts Try.infoTsk
    obtain ⟨iI, hiI, hz0, hz1, hz2⟩ := info_parts Try.infoInt
    (refine wp_region_E 7 none (by kernel_rfl) ?_; refine anyE_takes [1, 4, 5] (fun _ _ _ _ _ h => h) ⟨⟨_, gro_drew (gro_refl _)⟩, rfl⟩ (by kernel_rfl) (by rfl) ?_; simp only [opsOf, List.filterMap_cons, List.filterMap_nil, List.getElem?_toArray, List.getElem?_cons_succ, List.getElem?_cons_zero, List.foldl_cons, List.foldl_nil]; (repeat (any_goals (first | go_big_quiet_step (fail) | quiet_step (fail)))); refine wpQuiet_nil ?_)
    rw [← hwc]
    have G0 : Hid (w2.grownBy wc none) := Lib.hid (by rw [hwc]; exact gro_drew (gro_refl _))
    clear hwc
    -- TREE
    refine anyE_two 0 3 _ _ (by kernel_rfl) (by rfl) (by rfl) ?_ ?_
    · intro K hK
      go_simp
      have m1 := World.ownsRow_made (base := w2.heap.size) (e := 57) (size := 7) wc #[] 0 (G0.out).size (by unfold maxLen; omega) (by simp)
      have s1 : wc.heap.size < (wc.alloc (.cells #[] 57)).heap.size := by simp [go_sem]
      refine hK _ _ (fun _ => ⟨⟨_, gro_alloc G0.out _⟩, rfl⟩) ?_
      clear hK K
      have G1 : Hid (w2.grownBy (wc.alloc (.cells #[] 57)) none) := Lib.hid (gro_alloc G0.out _)
      have O1 : Hid ((wc.alloc (.cells #[] 57)).ownsRow w2.heap.size 57 7 (.slice (some ⟨wc.heap.size, 0, none⟩) 0 0) 0 []) := Lib.hid m1
      clear m1
      generalize wc.alloc (.cells #[] 57) = W1 at *
      generalize wc.heap.size = g1 at *
      clear s1
      refine anyE_two 2 3 _ _ (by kernel_rfl) (by rfl) (by rfl) ?_ ?_
      · intro K hK
        rw [if_pos (by rfl)]
        refine wp_append_own _ _ _ 22 rfl w2.heap.size 57 j0 _ 7 80 Try.underlying22 hj0 hy0 hy1 hy2 rfl (by decide) _ _ _ rfl O1.out ⟨bt, ot, none⟩ l.length c (rowT l svs l.length) rfl (by rw [rowT_len]) (HSRT.out _ G1.out) HONE.out (by unfold maxLen; omega) (by omega) (G1.out).size ?_
        intro v2 W2 hown2 hg2 _
        have G2 : Hid (w2.grownBy W2 none) := Lib.hid (gro_new G1.out hg2 (O1.out.lt _ rfl).1)
        refine hK _ _ (fun _ => ⟨⟨_, G2.out⟩, rfl⟩) ?_
        clear hK K
        have O2 := Lib.hid hown2
        clear hown2 hg2
        (refine anyE_one 3 _ (by kernel_rfl) (by rfl) (fun K hK => ?_))
        go_simp
        have m3 := World.ownsRow_made (base := w2.heap.size) (e := 3) (size := 1) W2 #[] 0 (G2.out).size (by unfold maxLen; omega) (by simp)
        have s3 : W2.heap.size < (W2.alloc (.cells #[] 3)).heap.size := by simp [go_sem]
        refine hK _ _ (fun _ => ⟨⟨_, gro_alloc G2.out _⟩, rfl⟩) ?_
        clear hK K
        have G3 : Hid (w2.grownBy (W2.alloc (.cells #[] 3)) none) := Lib.hid (gro_alloc G2.out _)
        have O3 : Hid ((W2.alloc (.cells #[] 3)).ownsRow w2.heap.size 3 1 (.slice (some ⟨W2.heap.size, 0, none⟩) 0 0) 0 []) := Lib.hid m3
        have P3 := Lib.hid (O2.out.alloc (.cells #[] 3))
        clear m3
        generalize W2.alloc (.cells #[] 3) = W3 at *
        generalize W2.heap.size = g3 at *
        clear s3
        (refine anyE_one 6 _ (by kernel_rfl) (by rfl) (fun K hK => ?_))
        rw [if_pos (by rfl)]
        refine wp_append_own _ _ _ 23 rfl w2.heap.size 3 iI _ 1 8 Try.underlying23 hiI hz0 hz1 hz2 rfl (by decide) _ _ _ rfl O3.out ⟨bq, oq, none⟩ xs.length cx (intsC xs) rfl (by rw [intsC_len, Nat.mul_one]) (HSRX.out _ G3.out) HONX.out (by unfold maxLen; omega) (by omega) (G3.out).size ?_
        intro v4 W4 hown4 hg4 _
        have G4 : Hid (w2.grownBy W4 none) := Lib.hid (gro_new G3.out hg4 (O3.out.lt _ rfl).1)
        refine hK _ _ (fun _ => ⟨⟨_, G4.out⟩, rfl⟩) ?_
        clear hK K
        have O4 := Lib.hid hown4
        have P4 := Lib.hid (P3.out.kept hg4 (own_types_ne P3.out O3.out (by decide)))
        clear hown4 hg4
        (refine anyE_tail 7 (by decide) (by rfl) (by kernel_rfl) ?_; simp only [List.drop_succ_cons, List.drop_zero])
        have HNC := Lib.hid (new_cut (w := w) (wc := w2) HB0.out HBW.out P4.out O4.out HSEC.out G4.out)
        obtain ⟨gt, ct, rfl, _, _, _⟩ := own_form P4.out (by omega)
        obtain ⟨gx, cy, rfl, _, _, _⟩ := own_form O4.out (by omega)
        go_wp2
        refine NoPanic.normal ?_
        go_wp2
        go_meet
        case rel => have hnc := HNC.out; rw [Nat.zero_add, Nat.zero_add] at hnc; exact hnc
      · intro K hK
        go_simp
        have m5 := World.ownsRow_made (base := w2.heap.size) (e := 3) (size := 1) W1 #[] 0 (G1.out).size (by unfold maxLen; omega) (by simp)
        have s5 : W1.heap.size < (W1.alloc (.cells #[] 3)).heap.size := by simp [go_sem]
        refine hK _ _ (fun _ => ⟨⟨_, gro_alloc G1.out _⟩, rfl⟩) ?_
        clear hK K
        have G5 : Hid (w2.grownBy (W1.alloc (.cells #[] 3)) none) := Lib.hid (gro_alloc G1.out _)
        have O5 : Hid ((W1.alloc (.cells #[] 3)).ownsRow w2.heap.size 3 1 (.slice (some ⟨W1.heap.size, 0, none⟩) 0 0) 0 []) := Lib.hid m5
        have P5 := Lib.hid (O1.out.alloc (.cells #[] 3))
        clear m5
        generalize W1.alloc (.cells #[] 3) = W5 at *
        generalize W1.heap.size = g5 at *
        clear s5
        (refine anyE_one 2 _ (by kernel_rfl) (by rfl) (fun K hK => ?_))
        rw [if_pos (by rfl)]
        refine wp_append_own _ _ _ 22 rfl w2.heap.size 57 j0 _ 7 80 Try.underlying22 hj0 hy0 hy1 hy2 rfl (by decide) _ _ _ rfl P5.out ⟨bt, ot, none⟩ l.length c (rowT l svs l.length) rfl (by rw [rowT_len]) (HSRT.out _ G5.out) HONE.out (by unfold maxLen; omega) (by omega) (G5.out).size ?_
        intro v6 W6 hown6 hg6 _
        have G6 : Hid (w2.grownBy W6 none) := Lib.hid (gro_new G5.out hg6 (P5.out.lt _ rfl).1)
        refine hK _ _ (fun _ => ⟨⟨_, G6.out⟩, rfl⟩) ?_
        clear hK K
        have O6 := Lib.hid hown6
        have P6 := Lib.hid (O5.out.kept hg6 (own_types_ne O5.out P5.out (by decide)))
        clear hown6 hg6
        (refine anyE_one 6 _ (by kernel_rfl) (by rfl) (fun K hK => ?_))
        rw [if_pos (by rfl)]
        refine wp_append_own _ _ _ 23 rfl w2.heap.size 3 iI _ 1 8 Try.underlying23 hiI hz0 hz1 hz2 rfl (by decide) _ _ _ rfl P6.out ⟨bq, oq, none⟩ xs.length cx (intsC xs) rfl (by rw [intsC_len, Nat.mul_one]) (HSRX.out _ G6.out) HONX.out (by unfold maxLen; omega) (by omega) (G6.out).size ?_
        intro v7 W7 hown7 hg7 _
        have G7 : Hid (w2.grownBy W7 none) := Lib.hid (gro_new G6.out hg7 (P6.out.lt _ rfl).1)
        refine hK _ _ (fun _ => ⟨⟨_, G7.out⟩, rfl⟩) ?_
        clear hK K
        have O7 := Lib.hid hown7
        have P7 := Lib.hid (O6.out.kept hg7 (own_types_ne O6.out P6.out (by decide)))
        clear hown7 hg7
        (refine anyE_tail 7 (by decide) (by rfl) (by kernel_rfl) ?_; simp only [List.drop_succ_cons, List.drop_zero])
        have HNC := Lib.hid (new_cut (w := w) (wc := w2) HB0.out HBW.out P7.out O7.out HSEC.out G7.out)
        obtain ⟨gt, ct, rfl, _, _, _⟩ := own_form P7.out (by omega)
        obtain ⟨gx, cy, rfl, _, _, _⟩ := own_form O7.out (by omega)
        go_wp2
        refine NoPanic.normal ?_
        go_wp2
        go_meet
        case rel => have hnc := HNC.out; rw [Nat.zero_add, Nat.zero_add] at hnc; exact hnc
    · intro K hK
      go_simp
      have m8 := World.ownsRow_made (base := w2.heap.size) (e := 3) (size := 1) wc #[] 0 (G0.out).size (by unfold maxLen; omega) (by simp)
      have s8 : wc.heap.size < (wc.alloc (.cells #[] 3)).heap.size := by simp [go_sem]
      refine hK _ _ (fun _ => ⟨⟨_, gro_alloc G0.out _⟩, rfl⟩) ?_
      clear hK K
      have G8 : Hid (w2.grownBy (wc.alloc (.cells #[] 3)) none) := Lib.hid (gro_alloc G0.out _)
      have O8 : Hid ((wc.alloc (.cells #[] 3)).ownsRow w2.heap.size 3 1 (.slice (some ⟨wc.heap.size, 0, none⟩) 0 0) 0 []) := Lib.hid m8
      clear m8
      generalize wc.alloc (.cells #[] 3) = W8 at *
      generalize wc.heap.size = g8 at *
      clear s8
      (refine anyE_one 0 _ (by kernel_rfl) (by rfl) (fun K hK => ?_))
      go_simp
      have m9 := World.ownsRow_made (base := w2.heap.size) (e := 57) (size := 7) W8 #[] 0 (G8.out).size (by unfold maxLen; omega) (by simp)
      have s9 : W8.heap.size < (W8.alloc (.cells #[] 57)).heap.size := by simp [go_sem]
      refine hK _ _ (fun _ => ⟨⟨_, gro_alloc G8.out _⟩, rfl⟩) ?_
      clear hK K
      have G9 : Hid (w2.grownBy (W8.alloc (.cells #[] 57)) none) := Lib.hid (gro_alloc G8.out _)
      have O9 : Hid ((W8.alloc (.cells #[] 57)).ownsRow w2.heap.size 57 7 (.slice (some ⟨W8.heap.size, 0, none⟩) 0 0) 0 []) := Lib.hid m9
      have P9 := Lib.hid (O8.out.alloc (.cells #[] 57))
      clear m9
      generalize W8.alloc (.cells #[] 57) = W9 at *
      generalize W8.heap.size = g9 at *
      clear s9
      (refine anyE_one 2 _ (by kernel_rfl) (by rfl) (fun K hK => ?_))
      rw [if_pos (by rfl)]
      refine wp_append_own _ _ _ 22 rfl w2.heap.size 57 j0 _ 7 80 Try.underlying22 hj0 hy0 hy1 hy2 rfl (by decide) _ _ _ rfl O9.out ⟨bt, ot, none⟩ l.length c (rowT l svs l.length) rfl (by rw [rowT_len]) (HSRT.out _ G9.out) HONE.out (by unfold maxLen; omega) (by omega) (G9.out).size ?_
      intro v10 W10 hown10 hg10 _
      have G10 : Hid (w2.grownBy W10 none) := Lib.hid (gro_new G9.out hg10 (O9.out.lt _ rfl).1)
      refine hK _ _ (fun _ => ⟨⟨_, G10.out⟩, rfl⟩) ?_
      clear hK K
      have O10 := Lib.hid hown10
      have P10 := Lib.hid (P9.out.kept hg10 (own_types_ne P9.out O9.out (by decide)))
      clear hown10 hg10
      (refine anyE_one 6 _ (by kernel_rfl) (by rfl) (fun K hK => ?_))
      rw [if_pos (by rfl)]
      refine wp_append_own _ _ _ 23 rfl w2.heap.size 3 iI _ 1 8 Try.underlying23 hiI hz0 hz1 hz2 rfl (by decide) _ _ _ rfl P10.out ⟨bq, oq, none⟩ xs.length cx (intsC xs) rfl (by rw [intsC_len, Nat.mul_one]) (HSRX.out _ G10.out) HONX.out (by unfold maxLen; omega) (by omega) (G10.out).size ?_
      intro v11 W11 hown11 hg11 _
      have G11 : Hid (w2.grownBy W11 none) := Lib.hid (gro_new G10.out hg11 (P10.out.lt _ rfl).1)
      refine hK _ _ (fun _ => ⟨⟨_, G11.out⟩, rfl⟩) ?_
      clear hK K
      have O11 := Lib.hid hown11
      have P11 := Lib.hid (O10.out.kept hg11 (own_types_ne O10.out P10.out (by decide)))
      clear hown11 hg11
      (refine anyE_tail 7 (by decide) (by rfl) (by kernel_rfl) ?_; simp only [List.drop_succ_cons, List.drop_zero])
      have HNC := Lib.hid (new_cut (w := w) (wc := w2) HB0.out HBW.out P11.out O11.out HSEC.out G11.out)
      obtain ⟨gt, ct, rfl, _, _, _⟩ := own_form P11.out (by omega)
      obtain ⟨gx, cy, rfl, _, _, _⟩ := own_form O11.out (by omega)
      go_wp2
      refine NoPanic.normal ?_
      go_wp2
      go_meet
      case rel => have hnc := HNC.out; rw [Nat.zero_add, Nat.zero_add] at hnc; exact hnc
    -- EERT
  case rest =>
  obtain ⟨be, lv, tv, wb, rfl, htl, htx, hb1, hb2, hbe, hrow⟩ := hcut
  clear hbt hbq x0 x1
  obtain ⟨x, rfl⟩ := ext_of hb2
  have HTL := Lib.hid htl
  have HTX := Lib.hid htx
  have HB1 := Lib.hid hb1
  have HBE := Lib.hid hbe
  have HRW : Hid (RowAt x.w be 51 (lv :: tv :: .int .i64 0 :: (zeroJ 0).flatMap jxC)) := Lib.hid hrow
  clear htl htx hb1 hbe hrow hb2 HT HP HR3
  go_wp2
  go_loopw [24] (fun si wr => ∃ (i : Nat) (z : Ext wb), i ≤ 8 ∧ si = .int .i64 i ∧ wr = z.w ∧ RowAt z.w be 51 (lv :: tv :: .int .i64 0 :: (zeroJ i).flatMap jxC)) (fun si _ => 8 - (intOf si).toNat)
  case atStart => exact ⟨0, x, by omega, rfl, rfl, HRW.out⟩
  case round =>
    clear HRW
    obtain ⟨i, z, hi, rfl, rfl, hr⟩ := hrel
    by_cases hlt : i < 8
    · have hi8 : (i : Int) < 8 := by omega
      have c0 : z.w.cell? ⟨be, 3 + i * 3, none⟩ = some (.int .i64 0) := by
        have e0 := flat_at jxC_len (zeroJ i) i 0 (by rw [zeroJ_len hi]; exact hlt) (by omega)
        rw [Nat.add_zero, zeroJ_at hlt] at e0
        rw [hr.cell?, show 3 + i * 3 = i * 3 + 1 + 1 + 1 by omega, List.getElem?_cons_succ, List.getElem?_cons_succ, List.getElem?_cons_succ, e0]
        rfl
      have f0 := hr.frozen (3 + i * 3)
      have z0 := hr.lt
      have HRN : Hid (RowAt (z.w.setCell ⟨be, 3 + i * 3, none⟩ (.int .i64 (-1))) be 51 (lv :: tv :: .int .i64 0 :: (zeroJ (i + 1)).flatMap jxC)) := Lib.hid (by
        have e1 := flat_set jxC_len (zeroJ i) i 0 ⟨-1, 0, 0⟩ (.int .i64 (-1)) (by rw [zeroJ_len hi]; exact hlt) (by omega) (by rw [zeroJ_at hlt]; rfl)
        rw [Nat.add_zero, zeroJ_set hlt] at e1
        have e2 : (lv :: tv :: Value.int .i64 0 :: (zeroJ i).flatMap jxC).set (3 + i * 3) (.int .i64 (-1)) = lv :: tv :: Value.int .i64 0 :: (zeroJ (i + 1)).flatMap jxC := by
          rw [← e1, show 3 + i * 3 = i * 3 + 1 + 1 + 1 by omega]; rfl
        have := hr.set (3 + i * 3) (.int .i64 (-1))
        rw [e2] at this
        exact this)
      have HBN := Lib.hid (z.bel.set (p := ⟨be, 3 + i * 3, none⟩) HBE.out (.int .i64 (-1)))
      clear hr
      go_wp2
      generalize hW : World.setCell z.w _ _ = w9 at *
      clear hW
      obtain ⟨z9, rfl⟩ := ext_of HBN.out
      go_roundw
      case rel => exact ⟨i + 1, z9, by omega, by go_num, rfl, HRN.out⟩
      case measure => simp [intOf]; omega
    · obtain rfl : i = 8 := by omega
      have HX : Hid (ExAt ws z.w be lv tv l xs (ex0 l)) := Lib.hid ⟨(HB0.out.trans HB1.out).trans z.bel, Nat.le_trans (HB0.out.trans HB1.out).le HBE.out, let ⟨sv, h1, h2⟩ := HTL.out; ⟨sv, h1, ownsRow_bel h2 z.bel⟩, ownsRow_bel HTX.out z.bel, by
        have e : exJ (ex0 l).js = zeroJ 8 := by
          unfold exJ ex0 zeroJ
          dsimp only
          rw [List.length_replicate, List.replicate_append_replicate, show l.length + (8 - l.length) = 8 by omega]
          rfl
        unfold exC
        rw [e]
        exact hr⟩
      have HB := Lib.hid (HB1.out.trans z.bel)
      clear hr
      go_wp2
      go_ret2
      exact .inr ⟨HCK.out, be, lv, tv, rfl, HX.out, Nat.le_trans HB1.out.le HBE.out, HB.out⟩
end Go.Proofs.Ytbilfpoghohddaa
