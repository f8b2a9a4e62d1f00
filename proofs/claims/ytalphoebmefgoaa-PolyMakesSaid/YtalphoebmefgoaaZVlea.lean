/- poly.Least. -/
import Derived.Test.YtalphoebmefgoaaG40
import Derived.Test.YtalphoebmefgoaaG41
namespace Go.Proofs.Ytalphoebmefgoaa
open Go.RowKit
/-- the line 'the sum is at most the new coordinate' -/
def goalL (a : List Int) : Ln := padL ⟨a ++ [-1], 0, false⟩
def backL (a : List Int) : Ln := { oppL (goalL a) with s := false }
/-- does the end of an interval leave nothing? -/
def voidB (fr hi : En) : Bool := hi.is && (decide (0 < (rcmp fr.at_ hi.at_).1) || decide ((rcmp fr.at_ hi.at_).1 = 0) && (fr.op || hi.op))
def leastE (M : En × En × Int) : Rt × Bool × Int :=
  if M.2.2 ≠ 0 then (⟨0, 0⟩, false, M.2.2) else if M.1.is = false then (⟨0, 0⟩, false, 4) else if voidB M.1 M.2.1 then (⟨0, 0⟩, false, 4) else (M.1.at_, !M.1.op, 0)
def leastR (r : List Ln × Int) : Rt × Bool × Int :=
  if r.2 ≠ 0 then (⟨0, 0⟩, false, r.2) else if r.1.any (fun x => decide (ci x 0 = 0)) then (⟨0, 0⟩, false, 4) else leastE (endsM [] r.1)
def leastM (n : Int) (l : List AL) (a : List Int) : Rt × Bool × Int :=
  if checkM n l ≠ 0 then (⟨0, 0⟩, false, checkM n l) else if (⟨a, 0, false⟩ : AL).fits n = false then (⟨0, 0⟩, false, 2)
  else leastR (downL 0 n.toNat (tidyL (padAll l ++ [goalL a, backL a])))
theorem goal_row {a : List Int} (ha : a.length ≤ 5) : (setsL zeroLn.cells 0 (a.map (Value.int .i64))).set a.length (.int .i64 (-1)) = (goalL a).cells := by
  match a, ha with
  | [], _ => rfl
  | [_], _ => rfl
  | [_, _], _ => rfl
  | [_, _, _], _ => rfl
  | [_, _, _, _], _ => rfl
  | [_, _, _, _, _], _ => rfl
theorem goal_inr {n : Int} {a : List Int} (h : (⟨a, 0, false⟩ : AL).fits n = true) (hn : n ≤ 5) : (goalL a).inr := by
  have hl := fits_len h
  have hf : (⟨a ++ [-1], 0, false⟩ : AL).fits (n + 1) = true := by
    unfold AL.fits at h ⊢
    simp only [Bool.and_eq_true, decide_eq_true_eq, List.all_append, List.all_cons, List.all_nil, List.length_append, List.length_cons, List.length_nil] at h ⊢
    obtain ⟨⟨⟨h1, h2⟩, h3⟩, h4⟩ := h
    exact ⟨⟨⟨⟨h1, by decide, trivial⟩, by push_cast; omega⟩, h3⟩, h4⟩
  exact fits_inr hf (by omega)
theorem back_inr {x : Ln} (h : x.inr) : ({ x with s := false } : Ln).inr := h
theorem own_two {w0 W : World} {v : Value} {l : List Ln} {X Y : Ln} {q : Nat} {e2 : TypeId} (hb : Bel w0 W) (h : W.ownsRow w0.heap.size 72 8 v l.length (l.flatMap Ln.cells)) (hl : l.length ≤ 1000000) (r : RowAt W q e2 (X.cells ++ Y.cells)) :
    ∃ A c W', (Builtin.append_ #[61, 61] 61 #[v, .slice (some ⟨q, 0, none⟩) 2 2]).run Try.prog W = .ok (.slice A (l.length + 2) c) W' ∧ W'.ownsRow w0.heap.size 72 8 (.slice A (l.length + 2) c) (l ++ [X, Y]).length ((l ++ [X, Y]).flatMap Ln.cells) ∧ Bel w0 W' := by
  obtain ⟨i0, hi, hz0, hz1, hz2⟩ := info_parts3 Try.infoLine
  obtain ⟨v', W', hr, ho, hg⟩ := append_row (P := Try.prog) W w0.heap.size 61 61 72 i0 zeroLn.V 8 64 Try.underlying61 hi hz0 hz1 hz2 rfl (by decide) v l.length (l.flatMap Ln.cells) h
    (some ⟨q, 0, none⟩) 2 2 (X.cells ++ Y.cells) (.inr ⟨_, rfl, fun j u hj => by rw [add_ofs, r.cell?, hj]⟩) rfl (fun u hu => by
      rcases List.mem_append.1 hu with hu | hu
      · exact cells_one u hu
      · exact cells_one u hu) (by unfold maxLen; omega) (by omega) hb.le
  obtain ⟨g, c, rfl⟩ := ownsRow_succ (k := l.length + 1) ho
  refine ⟨_, c, W', hr, ?_, bel_grown hb h hg⟩
  rw [List.length_append, List.flatMap_append]
  simpa using ho
set_option maxRecDepth 100000 in
theorem lea_res {tmps : Array Value} {W : World} {p6 : Nat} {r : Rt} {b : Bool} {er : Int} (h6 : RowAt W p6 41 r.cells) (t6 : tmps[6]? = some (.pointer (some ⟨p6, 0, none⟩))) (t7 : tmps[7]? = some (.bool b)) (t8 : tmps[8]? = some (.int .i64 er)) :
    (results Try.f19 tmps).run Try.prog W = .ok (.tuple #[r.V, .bool b, .int .i64 er]) W := by
  have q0 := h6.cell (i := 0) rfl
  have q1 := h6.cell (i := 1) rfl
  simp [results, Try.f19, go_sem, q0, q1, Rt.V, t6, t7, t8]
def LeaPost (M : Rt × Bool × Int) (w : World) (e : Ending) (w' : World) : Prop := e = .returned (.tuple #[M.1.V, .bool M.2.1, .int .i64 M.2.2]) ∧ Bel w w'
theorem lea_post {M : Rt × Bool × Int} {w W : World} {r : Rt} {b : Bool} {er : Int} (h : M = (r, b, er)) (hb : Bel w W) : LeaPost M w (.returned (.tuple #[r.V, .bool b, .int .i64 er])) W := by subst h; exact ⟨rfl, hb⟩
set_option maxRecDepth 100000 in
set_option maxHeartbeats 4000000 in
theorem least_any (n : Int) (v av : Value) (l : List AL) (a : List Int) (w : World) (h : LinesAt w w.heap.size v l) (hl : AlLens l) (hn : l.length ≤ 1000000) (ha : IntsAt w w.heap.size av a) (hal : a.length ≤ 1000000) :
    Calls Try.prog 19 #[.int .i64 n, v, av] w (LeaPost (leastM n l a) w) := by
  have H := Lib.hid h
  have HA := Lib.hid ha
  have HCK := Lib.hid (fun W (hW : Bel w W) => check_any n v l W (h.bel hW) hl hn)
  have HFI := Lib.hid (fun W (hW : Bel w W) => fits_any n ⟨a, 0, false⟩ av W (ha.bel hW) hal)
  obtain ⟨A, c, rfl, hc⟩ := h.form
  obtain ⟨Aa, ca, rfl, hca⟩ := ha.form
  clear h hl ha
  go_enter Try.func19, Try.ntmps19
  go_upto_region 1 with (fail)
  generalize hW : World.alloc w _ = w1 at *
  have r6 : RowAt w1 w.heap.size 41 (Rt.cells ⟨0, 0⟩) := by rw [← hW]; exact RowAt.new w 41 (Rt.cells ⟨0, 0⟩)
  have hb1 : Bel w w1 := by rw [← hW]; exact Bel.refl.alloc _
  clear hW
  obtain ⟨p6, hp6⟩ : ∃ p, p = w.heap.size := ⟨_, rfl⟩
  rw [← hp6] at r6 ⊢
  have HN : Hid (w.heap.size ≤ p6) := Lib.hid (by omega)
  clear hp6
  have HB1 := Lib.hid hb1
  have HR1 := Lib.hid r6
  clear hb1 r6
  go_wp2_with fail
  refine (HCK.out _ HB1.out).mono ?_
  rintro e w2 ⟨rfl, hB⟩
  have HB2 := Lib.hid (HB1.out.trans hB)
  have HR2 := Lib.hid (HR1.out.bel hB)
  clear hB HCK HB1 HR1
  by_cases hck : checkM n l = 0
  · have HC := Lib.hid hck
    rw [hck]
    have h0 : ((0 : Int) != 0) = false := rfl
    obtain ⟨hn5, hl1, _⟩ := check_fits hck
    have HM : Hid (leastM n l a = if (⟨a, 0, false⟩ : AL).fits n = false then (⟨0, 0⟩, false, 2) else leastR (downL 0 n.toNat (tidyL (padAll l ++ [goalL a, backL a])))) := Lib.hid (by unfold leastM; rw [if_neg (by simp [hck])])
    clear hck
    go_wp2_with fail
    refine (HFI.out _ HB2.out).mono ?_
    rintro e w3 ⟨rfl, hB⟩
    have HB3 := Lib.hid (HB2.out.trans hB)
    have HR3 := Lib.hid (HR2.out.bel hB)
    clear hB HFI HB2 HR2
    cases hft : (⟨a, 0, false⟩ : AL).fits n
    · have HM2 : Hid (leastM n l a = (⟨0, 0⟩, false, 2)) := Lib.hid (by rw [HM.out, if_pos hft])
      clear hft HM
      have c60 := HR3.out.cell (i := 0) rfl
      have c61 := HR3.out.cell (i := 1) rfl
      have f6 := fun q => HR3.out.frozen q
      have l6 := HR3.out.lt
      have HFR := Lib.hid ((HR3.out.set 0 (.int .i64 0)).set 1 (.int .i64 0))
      have HFB := Lib.hid ((HB3.out.set (p := ⟨p6, 0, none⟩) HN.out (.int .i64 0)).set (p := ⟨p6, 1, none⟩) HN.out (.int .i64 0))
      go_wp2
      generalize World.setCell (World.setCell _ _ _) _ _ = W10 at *
      exact bodyPost_ret (lea_res (r := ⟨0, 0⟩) HFR.out rfl rfl rfl) rfl (lea_post HM2.out HFB.out)
    · have hlen := fits_len hft
      have HGI := Lib.hid (goal_inr hft (by omega))
      obtain ⟨m, rfl⟩ : ∃ m : Nat, n = (m : Int) := ⟨n.toNat, by omega⟩
      have HM2 : Hid (leastM m l a = leastR (downL 0 m (tidyL (padAll l ++ [goalL a, backL a])))) := Lib.hid (by rw [HM.out, if_neg (by simp [hft]), Int.toNat_natCast])
      have hm : m = a.length := by simp only at hlen; omega
      have HMA := Lib.hid hm
      have hm5 : m ≤ 5 := by omega
      clear hft HM hlen hn5 hm
      go_upto_region 7 with (fail)
      generalize hW : World.alloc w3 _ = w4
      have rg : RowAt w4 w3.heap.size 72 zeroLn.cells := by rw [← hW]; exact RowAt.new w3 72 zeroLn.cells
      have hB4 : Bel w3 w4 := by rw [← hW]; exact Bel.refl.alloc _
      clear hW
      obtain ⟨pg, hpg⟩ : ∃ p, p = w3.heap.size := ⟨_, rfl⟩
      rw [← hpg] at rg ⊢
      have HPG : Hid (w.heap.size ≤ pg ∧ p6 ≠ pg) := Lib.hid (by have := HB3.out.le; have := HR3.out.lt; omega)
      clear hpg
      have HB4 := Lib.hid (HB3.out.trans hB4)
      have HR4 := Lib.hid (HR3.out.bel hB4)
      clear hB4 HB3 HR3
      have hcp := of_copy (o := 0) rg (by decide) (HA.out.bel HB4.out) (by have := HMA.out; omega)
      have rg5 := row_sets (a.map (Value.int .i64)) 0 rg
      have hb5 : Bel w (w4.setCells pg 0 (a.map (Value.int .i64))) := bel_sets HPG.out.1 _ _ HB4.out
      have h65 : RowAt (w4.setCells pg 0 (a.map (Value.int .i64))) p6 41 (Rt.cells ⟨0, 0⟩) := HR4.out.block (World.heap_setCells_other _ _ _ _ HR4.out.lt HPG.out.2)
      have hl8 : (setsL zeroLn.cells 0 (a.map (Value.int .i64))).length = 8 := by rw [setsL_len]; rfl
      have HROW : Hid ((setsL zeroLn.cells 0 (a.map (Value.int .i64))).set m (.int .i64 (-1)) = (goalL a).cells) := Lib.hid (by rw [HMA.out]; exact goal_row (by have := HMA.out; omega))
      generalize w4.setCells pg 0 (a.map (Value.int .i64)) = w5 at *
      generalize setsL zeroLn.cells 0 (a.map (Value.int .i64)) = XS at *
      have lz := rg.lt
      clear rg
      go_upto_region 8 with (fail)
      clear hcp lz
      have hm6 : (m : Int) < 6 := by omega
      have hm0 : ¬ (m : Int) < 0 := by omega
      have cm : w5.cell? ⟨pg, m, none⟩ = some (XS[m]'(by omega)) := rg5.cell (List.getElem?_eq_getElem _)
      have fm := rg5.frozen m
      have lz := rg5.lt
      have HG6 : Hid (RowAt (w5.setCell ⟨pg, m, none⟩ (.int .i64 (-1))) pg 72 (goalL a).cells) := Lib.hid (by rw [← HROW.out]; exact rg5.set m _)
      have HB6 := Lib.hid (hb5.set (p := ⟨pg, m, none⟩) HPG.out.1 (.int .i64 (-1)))
      have HR6 := Lib.hid (h65.far (a := ⟨pg, m, none⟩) HPG.out.2 (.int .i64 (-1)))
      clear rg5 hb5 h65 HROW HB4 HR4
      go_upto_region 9 with (fail)
      generalize World.setCell w5 _ _ = w6 at *
      clear cm fm lz
      have HOP := Lib.hid (opposite_any (goalL a) w6 HGI.out)
      have HBI := Lib.hid (back_inr (opp_inr HGI.out))
      have HBK : Hid (backL a = { oppL (goalL a) with s := false }) := Lib.hid rfl
      generalize goalL a = G at *
      have x0 := HG6.out.cell (i := 0) rfl
      have x1 := HG6.out.cell (i := 1) rfl
      have x2 := HG6.out.cell (i := 2) rfl
      have x3 := HG6.out.cell (i := 3) rfl
      have x4 := HG6.out.cell (i := 4) rfl
      have x5 := HG6.out.cell (i := 5) rfl
      have x6 := HG6.out.cell (i := 6) rfl
      have x7 := HG6.out.cell (i := 7) rfl
      have lx := HG6.out.lt
      go_wp2_with fail
      refine HOP.out.mono ?_
      rintro e w7 ⟨rfl, hB⟩
      have HG7 := Lib.hid (HG6.out.bel hB)
      have HB7 := Lib.hid (HB6.out.trans hB)
      have HR7 := Lib.hid (HR6.out.bel hB)
      clear x0 x1 x2 x3 x4 x5 x6 x7 lx hB HOP HG6 HB6 HR6
      generalize oppL G = O at *
      unfold Ln.V
      go_upto_region 10 with (fail)
      generalize hW : World.alloc w7 _ = w8
      have rk : RowAt w8 w7.heap.size 72 O.cells := by rw [← hW]; exact RowAt.new w7 72 O.cells
      have hB8 : Bel w7 w8 := by rw [← hW]; exact Bel.refl.alloc _
      clear hW
      obtain ⟨pk, hpk⟩ : ∃ p, p = w7.heap.size := ⟨_, rfl⟩
      rw [← hpk] at rk ⊢
      have HPK : Hid (w.heap.size ≤ pk ∧ pg ≠ pk ∧ p6 ≠ pk) := Lib.hid (by have := HB7.out.le; have := HG7.out.lt; have := HR7.out.lt; omega)
      clear hpk
      have c7 := rk.cell (i := 7) rfl
      have f7 := rk.frozen 7
      have lk := rk.lt
      have HK9 : Hid (RowAt (w8.setCell ⟨pk, 7, none⟩ (.bool false)) pk 72 (backL a).cells) := Lib.hid (by rw [HBK.out]; exact rk.set 7 (.bool false))
      have HG9 := Lib.hid ((HG7.out.bel hB8).far (a := ⟨pk, 7, none⟩) HPK.out.2.1 (.bool false))
      have HR9 := Lib.hid ((HR7.out.bel hB8).far (a := ⟨pk, 7, none⟩) HPK.out.2.2 (.bool false))
      have HB9 := Lib.hid ((HB7.out.trans hB8).set (p := ⟨pk, 7, none⟩) HPK.out.1 (.bool false))
      rw [← HBK.out] at HBI
      go_upto_region 11 with (fail)
      generalize World.setCell w8 _ _ = w9 at *
      clear c7 f7 lk rk hB8 HG7 HB7 HR7 HBK
      generalize backL a = K2 at *
      have x0 := HG9.out.cell (i := 0) rfl
      have x1 := HG9.out.cell (i := 1) rfl
      have x2 := HG9.out.cell (i := 2) rfl
      have x3 := HG9.out.cell (i := 3) rfl
      have x4 := HG9.out.cell (i := 4) rfl
      have x5 := HG9.out.cell (i := 5) rfl
      have x6 := HG9.out.cell (i := 6) rfl
      have x7 := HG9.out.cell (i := 7) rfl
      have y0 := HK9.out.cell (i := 0) rfl
      have y1 := HK9.out.cell (i := 1) rfl
      have y2 := HK9.out.cell (i := 2) rfl
      have y3 := HK9.out.cell (i := 3) rfl
      have y4 := HK9.out.cell (i := 4) rfl
      have y5 := HK9.out.cell (i := 5) rfl
      have y6 := HK9.out.cell (i := 6) rfl
      have y7 := HK9.out.cell (i := 7) rfl
      have lx := HG9.out.lt
      have ly := HK9.out.lt
      have HOF := Lib.hid (fun W (hW : Bel w9 W) => of_any _ l W (H.out.bel (HB9.out.trans hW)) (by omega) (check_lens HC.out))
      have HPI := Lib.hid (pad_inr HC.out)
      have HPN := Lib.hid (pad_len l)
      have HTI : Hid (∀ z, z ∈ padAll l ++ [G, K2] → z.inr) := Lib.hid (fun z hz => by
        rcases List.mem_append.1 hz with hz | hz
        · exact HPI.out z hz
        · rcases List.mem_cons.1 hz with rfl | hz
          · exact HGI.out
          · rw [show z = K2 by simpa using hz]; exact HBI.out)
      go_cut [12] from 20 (fun s12 wx => ∃ (z : Ext w9), wx = z.w ∧ LnsAt z.w z.w.heap.size s12 (tidyL (padAll l ++ [G, K2])))
      case first =>
        (refine wp_region_E 7 none (by kernel_rfl) ?_; refine anyE_takes [0, 2, 3] (fun _ _ _ _ _ h => h) ⟨⟨_, gro_drew (gro_refl _)⟩, rfl⟩ (by kernel_rfl) (by rfl) ?_; simp only [opsOf, List.filterMap_cons, List.filterMap_nil, List.getElem?_toArray, List.getElem?_cons_succ, List.getElem?_cons_zero, List.foldl_cons, List.foldl_nil]; (repeat (any_goals (first | go_big_quiet_step (fail) | quiet_step (fail)))); refine wpQuiet_nil ?_)
        have HBD := Lib.hid (Bel.refl (w := w9)).drew
        clear x0 x1 x2 x3 x4 x5 x6 x7 y0 y1 y2 y3 y4 y5 y6 y7 lx ly
        generalize w9.drew = wc at *
        refine anyE_two 1 4 _ _ (by kernel_rfl) (by rfl) (by rfl) ?_ ?_
        · intro K hK
          rw [if_pos (by rfl)]
          go_simp
          refine (HOF.out wc HBD.out).mono ?_
          rintro _ wd ⟨b, rfl, hb, hB, hr⟩
          have HBd := Lib.hid (HBD.out.trans hB)
          refine hK _ _ (fun _ => ⟨⟨_, gro_of_bel2 HBd.out⟩, rfl⟩) ?_
          clear hK K
          have HOW := Lib.hid (OfPost.own hb (by omega) hr)
          have HBc := Lib.hid hB
          clear hb hB hr
          (refine anyE_one 4 _ (by kernel_rfl) (by rfl) (fun K hK => ?_))
          rw [if_pos (by rfl)]
          go_simp
          refine hK _ _ (fun _ => ⟨⟨_, gro_of_bel2 (HBd.out.alloc _)⟩, rfl⟩) ?_
          clear hK K
          have hpl := HPN.out
          have ho1 := ownsRow_bel HOW.out (Bel.refl.alloc (.cells (G.cells ++ K2.cells).toArray 72))
          rw [← hpl] at ho1
          obtain ⟨A6, c6, we, hap, ho, hbe⟩ := own_two (w0 := wc) (X := G) (Y := K2) (HBc.out.alloc (.cells (G.cells ++ K2.cells).toArray 72)) ho1 (by omega) (RowAt.new wd 72 (G.cells ++ K2.cells))
          rw [hpl] at hap ho
          unfold Ln.cells at hap
          have HBe := Lib.hid (HBD.out.trans hbe)
          (refine anyE_one 5 _ (by kernel_rfl) (by rfl) (fun K hK => ?_))
          rw [if_pos (by rfl)]
          refine oper_append_run _ _ 61 rfl _ _ _ rfl rfl hap (hK _ _ (fun _ => ⟨⟨_, gro_of_bel2 HBe.out⟩, rfl⟩) ?_)
          simp only [Act.put, List.setIfInBounds_toArray]
          clear hK K hap
          have hll : (padAll l ++ [G, K2]).length = l.length + 2 := by rw [List.length_append, hpl]; rfl
          rw [← hll] at ho
          have HTD := Lib.hid (tidy_any _ (padAll l ++ [G, K2]) we (RdAt.of_own cells8 rfl ho) (by omega) (fun z hz => (HTI.out z hz).wf))
          clear ho ho1 hbe hpl
          rw [← hll]
          clear hll
          generalize padAll l ++ [G, K2] = ws at *
          (refine anyE_one 6 _ (by kernel_rfl) (by rfl) (fun K hK => ?_))
          rw [if_pos (by rfl)]
          go_simp
          refine HTD.out.mono ?_
          rintro _ wf ⟨v9, rfl, hln, hB⟩
          have HBf := Lib.hid (HBe.out.trans hB)
          refine hK _ _ (fun _ => ⟨⟨_, gro_of_bel2 HBf.out⟩, rfl⟩) ?_
          clear hK K hB
          have HLN := Lib.hid hln
          clear hln
          (refine anyE_tail 7 (by decide) (by rfl) (by kernel_rfl) ?_; simp only [List.drop_succ_cons, List.drop_zero])
          go_wp2
          refine NoPanic.normal ?_
          go_wp2
          go_meet
          case rel => exact ⟨⟨_, HBf.out⟩, rfl, HLN.out⟩
        · intro K hK
          rw [if_pos (by rfl)]
          go_simp
          refine hK _ _ (fun _ => ⟨⟨_, gro_of_bel2 (HBD.out.alloc _)⟩, rfl⟩) ?_
          clear hK K
          generalize hWq : World.alloc wc _ = wq
          have hrq : RowAt wq wc.heap.size 72 (G.cells ++ K2.cells) := by rw [← hWq]; exact RowAt.new wc 72 (G.cells ++ K2.cells)
          have hbq : Bel w9 wq := by rw [← hWq]; exact HBD.out.alloc _
          have HRQ := Lib.hid hrq
          have HBQ := Lib.hid hbq
          clear hrq hbq hWq
          obtain ⟨pq, hpq⟩ : ∃ p, p = wc.heap.size := ⟨_, rfl⟩
          rw [← hpq] at HRQ ⊢
          clear hpq
          (refine anyE_one 1 _ (by kernel_rfl) (by rfl) (fun K hK => ?_))
          rw [if_pos (by rfl)]
          go_simp
          refine (HOF.out wq HBQ.out).mono ?_
          rintro _ wd ⟨b, rfl, hb, hB, hr⟩
          have HBd := Lib.hid (HBQ.out.trans hB)
          refine hK _ _ (fun _ => ⟨⟨_, gro_of_bel2 HBd.out⟩, rfl⟩) ?_
          clear hK K
          have ho1 := OfPost.own hb (by omega) hr
          have hpl := HPN.out
          rw [← hpl] at ho1
          obtain ⟨A6, c6, we, hap, ho, hbe⟩ := own_two (w0 := wq) (X := G) (Y := K2) hB ho1 (by omega) (HRQ.out.bel hB)
          rw [hpl] at hap ho
          have HBe := Lib.hid (HBQ.out.trans hbe)
          clear hb hB hr
          (refine anyE_one 5 _ (by kernel_rfl) (by rfl) (fun K hK => ?_))
          rw [if_pos (by rfl)]
          refine oper_append_run _ _ 61 rfl _ _ _ rfl rfl hap (hK _ _ (fun _ => ⟨⟨_, gro_of_bel2 HBe.out⟩, rfl⟩) ?_)
          simp only [Act.put, List.setIfInBounds_toArray]
          clear hK K hap
          have hll : (padAll l ++ [G, K2]).length = l.length + 2 := by rw [List.length_append, hpl]; rfl
          rw [← hll] at ho
          have HTD := Lib.hid (tidy_any _ (padAll l ++ [G, K2]) we (RdAt.of_own cells8 rfl ho) (by omega) (fun z hz => (HTI.out z hz).wf))
          clear ho ho1 hbe hpl
          rw [← hll]
          clear hll
          generalize padAll l ++ [G, K2] = ws at *
          (refine anyE_one 6 _ (by kernel_rfl) (by rfl) (fun K hK => ?_))
          rw [if_pos (by rfl)]
          go_simp
          refine HTD.out.mono ?_
          rintro _ wf ⟨v9, rfl, hln, hB⟩
          have HBf := Lib.hid (HBe.out.trans hB)
          refine hK _ _ (fun _ => ⟨⟨_, gro_of_bel2 HBf.out⟩, rfl⟩) ?_
          clear hK K hB
          have HLN := Lib.hid hln
          clear hln
          (refine anyE_tail 7 (by decide) (by rfl) (by kernel_rfl) ?_; simp only [List.drop_succ_cons, List.drop_zero])
          go_wp2
          refine NoPanic.normal ?_
          go_wp2
          go_meet
          case rel => exact ⟨⟨_, HBf.out⟩, rfl, HLN.out⟩
      case rest =>
        obtain ⟨z, rfl, hz⟩ := hcut
        have HTL := Lib.hid (tidy_len (padAll l ++ [G, K2]))
        have hll : (padAll l ++ [G, K2]).length ≤ 1002 := by rw [List.length_append, HPN.out]; show l.length + 2 ≤ 1002; omega
        have HTJ := Lib.hid (tidy_inr HTI.out)
        have HZ := Lib.hid hz
        have HBZ := Lib.hid (HB9.out.trans z.bel)
        have HRZ := Lib.hid (HR9.out.bel z.bel)
        obtain ⟨Az, cz, rfl, _⟩ := hz.form
        have htl2 : (tidyL (padAll l ++ [G, K2])).length ≤ 1500 := by have := HTL.out; omega
        clear x0 x1 x2 x3 x4 x5 x6 x7 y0 y1 y2 y3 y4 y5 y6 y7 lx ly hz HTI HPI HOF HPN HGI HBI HG9 HK9 HR9 HB9 HTL hll
        generalize tidyL (padAll l ++ [G, K2]) = T0 at *
        have wn : IntKind.i64.wrap ((m : Int) - 1) = (m : Int) - 1 := IntWalk.i64_in _ (by omega)
        go_wp2
        clear wn
        go_loopw [8, 12, 13] (fun s8 s12 s13 wq => ∃ (j : Nat) (y : Ext w) (u : Value) (d : List Ln) (q : Int) (ev : Value), j ≤ m ∧ q = (j : Int) - 1 ∧ s8 = ev ∧ s12 = u ∧ s13 = .int .i64 q ∧ wq = y.w ∧ RowAt y.w p6 41 (Rt.cells ⟨0, 0⟩) ∧ LnsAt y.w y.w.heap.size u d ∧ d.length ≤ 1500 ∧ (∀ x, x ∈ d → x.inr) ∧ downL 0 j d = downL 0 m T0) (fun _ _ s13 _ => (intOf s13 + 2).toNat)
        case atStart => exact ⟨m, ⟨_, HBZ.out⟩, _, T0, _, _, Nat.le_refl _, rfl, rfl, rfl, rfl, rfl, HRZ.out, HZ.out, htl2, HTJ.out, rfl⟩
        case round =>
          obtain ⟨j, y, u, d, q, ev, hj, hq, rfl, rfl, rfl, rfl, h6, hd, hdl, hdi, hdn⟩ := hrel
          clear HRZ HZ HBZ HTJ
          have HD := Lib.hid hd
          have HDI := Lib.hid hdi
          have HDN := Lib.hid hdn
          have HR := Lib.hid h6
          have HB := Lib.hid y.bel
          obtain ⟨A1, c1, rfl, _⟩ := hd.form
          clear hd hdi hdn h6
          cases j with
          | zero =>
            have d1 : decide (q ≥ 0) = false := decide_eq_false (by omega)
            have d2 : decide ((0 : Int) ≤ q) = false := decide_eq_false (by omega)
            have HM3 : Hid (leastM m l a = leastR (d, 0)) := Lib.hid (by rw [HM2.out, ← HDN.out]; rfl)
            clear HM2 HDN hq
            have HM4 : Hid (leastR (d, 0) = if d.any (fun x => decide (ci x 0 = 0)) then (⟨0, 0⟩, false, 4) else leastE (endsM [] d)) := Lib.hid rfl
            go_wp2
            go_loopw [68] (fun s68 wq => ∃ (k : Nat) (y2 : Ext w), k ≤ d.length ∧ s68 = .int .i64 k ∧ wq = y2.w ∧ RowAt y2.w p6 41 (Rt.cells ⟨0, 0⟩) ∧ LnsAt y2.w y2.w.heap.size (.slice A1 d.length c1) d ∧ ∀ i, i < k → ci (lnAt d i) 0 ≠ 0) (fun s68 _ => d.length + 1 - (intOf s68).toNat)
            case atStart => exact ⟨0, ⟨_, HB.out⟩, Nat.zero_le _, rfl, rfl, HR.out, HD.out, fun i hi => absurd hi (by omega)⟩
            case round =>
              obtain ⟨k, y2, hk, rfl, rfl, h6, hd, hall⟩ := hrel
              clear HR HD HB
              have HR := Lib.hid h6
              have HD := Lib.hid hd
              have HB := Lib.hid y2.bel
              have HAL := Lib.hid hall
              clear h6 hall
              by_cases hlt : k < d.length
              · have hdk : decide ((k : Int) < (d.length : Int)) = true := by simp; omega
                have hL : (k : Int) < (d.length : Int) := by omega
                have wk : IntKind.i64.wrap ((k : Int) + 1) = ((k + 1 : Nat) : Int) := IntWalk.i64_in _ (by omega)
                obtain ⟨g, off, rfl, hg, hcl⟩ := hd.at_ (by omega)
                obtain ⟨x0, x1, x2, x3, x4, x5, x6, x7⟩ := rd_line hcl hlt
                clear hcl hd
                obtain ⟨X, hX⟩ : ∃ X, lnAt d k = X := ⟨_, rfl⟩
                rw [hX] at x0 x1 x2 x3 x4 x5 x6 x7
                have HX := Lib.hid hX
                clear hX
                have HB3 : Hid (Bel y2.w (y2.w.alloc (.cells X.cells.toArray 72))) := Lib.hid (Bel.refl.alloc _)
                unfold Ln.cells at HB3
                by_cases hz0 : X.a0 = 0
                · have d0 : (X.a0 == 0) = true := by simp [hz0]
                  have HM5 : Hid (leastM m l a = (⟨0, 0⟩, false, 4)) := Lib.hid (by
                    rw [HM3.out, HM4.out, if_pos]
                    rw [List.any_eq_true]
                    exact ⟨lnAt d k, lnAt_mem hlt, by rw [HX.out]; exact decide_eq_true hz0⟩)
                  have HRB := Lib.hid (HR.out.bel HB3.out)
                  have HBB := Lib.hid (HB.out.trans HB3.out)
                  clear hz0
                  have c60 := HRB.out.cell (i := 0) rfl
                  have c61 := HRB.out.cell (i := 1) rfl
                  have f6 := fun q => HRB.out.frozen q
                  have l6 := HRB.out.lt
                  have HFR := Lib.hid ((HRB.out.set 0 (.int .i64 0)).set 1 (.int .i64 0))
                  have HFB := Lib.hid ((HBB.out.set (p := ⟨p6, 0, none⟩) HN.out (.int .i64 0)).set (p := ⟨p6, 1, none⟩) HN.out (.int .i64 0))
                  go_wp2
                  generalize World.setCell (World.setCell _ _ _) _ _ = W10 at *
                  exact bodyPost_ret (lea_res (r := ⟨0, 0⟩) HFR.out rfl rfl rfl) rfl (lea_post HM5.out HFB.out)
                · have d0 : (X.a0 == 0) = false := by simp [hz0]
                  have HN0 : Hid (ci X 0 ≠ 0) := Lib.hid hz0
                  clear hz0
                  go_wp2
                  go_roundw
                  case rel => exact ⟨k + 1, ⟨_, HB.out.trans HB3.out⟩, hlt, by go_num, rfl, HR.out.bel HB3.out, HD.out.bel HB3.out, fun i hi => by
                    by_cases hik : i = k
                    · rw [hik, HX.out]; exact HN0.out
                    · exact HAL.out i (by omega)⟩
                  case measure => simp [intOf]; omega
              · obtain rfl : k = d.length := by omega
                have hdk : decide ((d.length : Int) < (d.length : Int)) = false := by simp
                have HM5 : Hid (leastM m l a = leastE (endsM [] d)) := Lib.hid (by
                  rw [HM3.out, HM4.out, if_neg]
                  rw [List.any_eq_true]
                  rintro ⟨x, hx, hx0⟩
                  obtain ⟨i, hi, rfl⟩ := mem_lnAt hx
                  exact HAL.out i hi (of_decide_eq_true hx0))
                have HEN := Lib.hid (ends_any _ (.slice none 0 0) d [] y2.w hd (by omega) HDI.out RdAt.nil (by decide) (by simp))
                have HEW := Lib.hid (ends_wf [] d zeroE zeroE zeroE_wf zeroE_wf)
                have heq : endsF [] d zeroE zeroE = endsM [] d := rfl
                rw [heq] at HEW
                clear hd heq HM3 HM4 HAL HDI
                generalize endsM [] d = M at *
                obtain ⟨lo, hi, er⟩ := M
                go_wp2_with fail
                refine HEN.out.mono ?_
                rintro e wz ⟨rfl, hB⟩
                have HRZ := Lib.hid (HR.out.bel hB)
                have HBZ := Lib.hid (HB.out.trans hB)
                clear hB HEN HR HB HD
                unfold En.V
                go_upto_region 25 with (fail)
                generalize hW : World.alloc (World.alloc wz _) _ = wy
                have hBy : Bel wz wy := by rw [← hW]; exact (Bel.refl.alloc _).alloc _
                have rlo : RowAt wy wz.heap.size 76 lo.cells := by rw [← hW]; exact (RowAt.new wz 76 lo.cells).alloc _
                have rhi : RowAt wy (wz.heap.size + 1) 76 hi.cells := by
                  rw [← hW, ← size_alV wz (.cells #[.int .i64 lo.n, .int .i64 lo.d, .bool lo.is, .bool lo.op] 76)]; exact RowAt.new _ 76 hi.cells
                clear hW
                obtain ⟨ph, hph⟩ : ∃ b, b = wz.heap.size + 1 := ⟨_, rfl⟩
                rw [← hph] at rhi ⊢
                obtain ⟨pl, hpl⟩ : ∃ b, b = wz.heap.size := ⟨_, rfl⟩
                rw [← hpl] at rlo ⊢
                have HPN6 : Hid (p6 ≠ pl ∧ p6 ≠ ph) := Lib.hid (by have := HRZ.out.lt; omega)
                clear hph hpl
                have HRY := Lib.hid (HRZ.out.bel hBy)
                have HBY := Lib.hid (HBZ.out.trans hBy)
                have HLO := Lib.hid rlo
                have HHI := Lib.hid rhi
                clear rlo rhi hBy HRZ HBZ
                have HLE : Hid (leastE (lo, hi, er) = if er ≠ 0 then (⟨0, 0⟩, false, er) else if lo.is = false then (⟨0, 0⟩, false, 4) else if voidB lo hi then (⟨0, 0⟩, false, 4) else (lo.at_, !lo.op, 0)) := Lib.hid rfl
                rw [HLE.out] at HM5
                clear HLE
                by_cases her : er = 0
                · subst her
                  simp only [ne_eq, not_true, if_false] at HM5
                  have t0 : ((0 : Int) != 0) = false := rfl
                  have l0 := HLO.out.cell (i := 0) rfl
                  have l1 := HLO.out.cell (i := 1) rfl
                  have l2 := HLO.out.cell (i := 2) rfl
                  have l3 := HLO.out.cell (i := 3) rfl
                  have h0' := HHI.out.cell (i := 0) rfl
                  have h1' := HHI.out.cell (i := 1) rfl
                  have h2' := HHI.out.cell (i := 2) rfl
                  have h3' := HHI.out.cell (i := 3) rfl
                  have ll := HLO.out.lt
                  have lh := HHI.out.lt
                  cases his : lo.is
                  · rw [his] at l2 HM5
                    have HM6 : Hid (leastM m l a = (⟨0, 0⟩, false, 4)) := Lib.hid (by rw [HM5.out, if_pos rfl])
                    clear his HM5
                    have c60 := HRY.out.cell (i := 0) rfl
                    have c61 := HRY.out.cell (i := 1) rfl
                    have f6 := fun q => HRY.out.frozen q
                    have l6 := HRY.out.lt
                    have HFR := Lib.hid ((HRY.out.set 0 (.int .i64 0)).set 1 (.int .i64 0))
                    have HFB := Lib.hid ((HBY.out.set (p := ⟨p6, 0, none⟩) HN.out (.int .i64 0)).set (p := ⟨p6, 1, none⟩) HN.out (.int .i64 0))
                    go_wp2
                    generalize World.setCell (World.setCell _ _ _) _ _ = W10 at *
                    exact bodyPost_ret (lea_res (r := ⟨0, 0⟩) HFR.out rfl rfl rfl) rfl (lea_post HM6.out HFB.out)
                  · rw [his] at l2 HM5
                    simp only [Bool.true_eq_false, if_false] at HM5
                    clear his
                    have HCP := Lib.hid (prcmp_any lo.at_ hi.at_ wy HEW.out.1 HEW.out.2)
                    have hvo : voidB lo hi = (hi.is && (decide (0 < (rcmp lo.at_ hi.at_).1) || decide ((rcmp lo.at_ hi.at_).1 = 0) && (lo.op || hi.op))) := rfl
                    have HVO := Lib.hid hvo
                    clear hvo
                    generalize rcmp lo.at_ hi.at_ = C at *
                    obtain ⟨ck, ce⟩ := C
                    unfold Rt.V intV En.at_ at HCP
                    simp only at HVO
                    go_wp2_with fail
                    refine HCP.out.mono ?_
                    rintro e wx ⟨rfl, hB⟩
                    have HRX := Lib.hid (HRY.out.bel hB)
                    have HBX := Lib.hid (HBY.out.trans hB)
                    have HLX := Lib.hid (HLO.out.bel hB)
                    have HHX := Lib.hid (HHI.out.bel hB)
                    clear hB HRY HBY HLO HHI HCP l0 l1 l2 l3 h0' h1' h2' h3' ll lh
                    have l0 := HLX.out.cell (i := 0) rfl
                    have l1 := HLX.out.cell (i := 1) rfl
                    have l3 := HLX.out.cell (i := 3) rfl
                    have h2' := HHX.out.cell (i := 2) rfl
                    have h3' := HHX.out.cell (i := 3) rfl
                    have ll := HLX.out.lt
                    have lh := HHX.out.lt
                    obtain ⟨vb, hvb⟩ : ∃ vb, voidB lo hi = vb := ⟨_, rfl⟩
                    rw [hvb] at HM5 HVO
                    clear hvb
                    go_upto_region 30 with (fail)
                    go_cut [117] from 20 (fun s117 wq => s117 = .bool vb ∧ wx = wq)
                    case first =>
                      cases hhi : hi.is
                      · rw [hhi] at h2'
                        have HV : Hid (vb = false) := Lib.hid (by rw [HVO.out, hhi]; rfl)
                        clear hhi
                        go_wp2
                        go_meet
                        case rel => exact ⟨by rw [HV.out], rfl⟩
                      · rw [hhi] at h2'
                        by_cases h1 : 0 < ck
                        · have d1 : decide (ck > 0) = true := decide_eq_true h1
                          have d2 : decide (0 < ck) = true := decide_eq_true h1
                          have HV : Hid (vb = true) := Lib.hid (by rw [HVO.out, hhi, d2]; rfl)
                          clear hhi h1
                          go_wp2
                          go_meet
                          case rel => exact ⟨by rw [HV.out], rfl⟩
                        · have d1 : decide (ck > 0) = false := decide_eq_false h1
                          have d2 : decide (0 < ck) = false := decide_eq_false h1
                          by_cases h2 : ck = 0
                          · have d3 : (ck == 0) = true := by simp [h2]
                            have HV : Hid (vb = (lo.op || hi.op)) := Lib.hid (by rw [HVO.out, hhi, d2, decide_eq_true h2]; simp)
                            clear hhi h1 h2
                            cases hlo : lo.op
                            all_goals
                              rw [hlo] at l3 HV
                              simp only [Bool.true_or, Bool.false_or] at HV
                              clear hlo
                              go_wp2
                              go_meet
                              case rel => exact ⟨by rw [HV.out], rfl⟩
                          · have d3 : (ck == 0) = false := by simp [h2]
                            have HV : Hid (vb = false) := Lib.hid (by rw [HVO.out, hhi, d2, decide_eq_false h2]; rfl)
                            clear hhi h1 h2
                            go_wp2
                            go_meet
                            case rel => exact ⟨by rw [HV.out], rfl⟩
                    case rest =>
                      obtain ⟨rfl, rfl⟩ := hcut
                      cases vb
                      · have HM6 : Hid (leastM m l a = (lo.at_, !lo.op, 0)) := Lib.hid (by rw [HM5.out]; rfl)
                        have c60 := HRX.out.cell (i := 0) rfl
                        have c61 := HRX.out.cell (i := 1) rfl
                        have f6 := fun q => HRX.out.frozen q
                        have l6 := HRX.out.lt
                        have h6l : p6 ≠ pl := HPN6.out.1
                        have hl6 : pl ≠ p6 := fun e => h6l e.symm
                        have HFR := Lib.hid ((HRX.out.set 0 (.int .i64 lo.n)).set 1 (.int .i64 lo.d))
                        have HFB := Lib.hid ((HBX.out.set (p := ⟨p6, 0, none⟩) HN.out (.int .i64 lo.n)).set (p := ⟨p6, 1, none⟩) HN.out (.int .i64 lo.d))
                        have hnl : some pl ≠ some p6 := fun e => hl6 (by injection e)
                        clear HM5
                        go_upto_region 32 with (fail)
                        (refine wp_region_E 6 (some p6) (by kernel_rfl) ?_; refine anyE_takes [0, 1, 2, 3, 4] (fun _ _ _ _ _ h => h) ⟨⟨_, gro_drew (gro_refl _)⟩, rfl⟩ (by kernel_rfl) (by rfl) ?_; simp only [opsOf, List.filterMap_cons, List.filterMap_nil, List.getElem?_toArray, List.getElem?_cons_succ, List.getElem?_cons_zero, List.foldl_cons, List.foldl_nil]; (repeat (any_goals (first | go_big_quiet_step (fail) | quiet_step (fail)))); refine wpQuiet_nil ?_)
                        (refine anyE_one 5 _ (by kernel_rfl) (by rfl) (fun K hK => ?_))
                        rw [if_pos (by rfl)]
                        go_simp
                        refine hK _ _ (fun _ => ⟨⟨_, gro_set (gro_set (gro_drew (gro_refl _)) 0 _) 1 _⟩, rfl⟩) ?_
                        clear hK K c60 c61 f6 l6 hnl
                        have HFR2 := Lib.hid (HFR.out.drew)
                        have HFB2 := Lib.hid (HFB.out.drew)
                        (refine anyE_tail 6 (by decide) (by rfl) (by kernel_rfl) ?_; simp only [List.drop_succ_cons, List.drop_zero])
                        go_wp2
                        refine NoPanic.normal ?_
                        go_wp2
                        exact bodyPost_ret (lea_res (r := lo.at_) HFR2.out rfl rfl rfl) rfl (lea_post HM6.out HFB2.out)
                      · have HM6 : Hid (leastM m l a = (⟨0, 0⟩, false, 4)) := Lib.hid (by rw [HM5.out]; rfl)
                        clear HM5
                        have c60 := HRX.out.cell (i := 0) rfl
                        have c61 := HRX.out.cell (i := 1) rfl
                        have f6 := fun q => HRX.out.frozen q
                        have l6 := HRX.out.lt
                        have HFR := Lib.hid ((HRX.out.set 0 (.int .i64 0)).set 1 (.int .i64 0))
                        have HFB := Lib.hid ((HBX.out.set (p := ⟨p6, 0, none⟩) HN.out (.int .i64 0)).set (p := ⟨p6, 1, none⟩) HN.out (.int .i64 0))
                        go_wp2
                        generalize World.setCell (World.setCell _ _ _) _ _ = W10 at *
                        exact bodyPost_ret (lea_res (r := ⟨0, 0⟩) HFR.out rfl rfl rfl) rfl (lea_post HM6.out HFB.out)
                · have t0 : (er != 0) = true := by simp [her]
                  have HM6 : Hid (leastM m l a = (⟨0, 0⟩, false, er)) := Lib.hid (by rw [HM5.out, if_pos her])
                  clear her HM5
                  have c60 := HRY.out.cell (i := 0) rfl
                  have c61 := HRY.out.cell (i := 1) rfl
                  have f6 := fun q => HRY.out.frozen q
                  have l6 := HRY.out.lt
                  have HFR := Lib.hid ((HRY.out.set 0 (.int .i64 0)).set 1 (.int .i64 0))
                  have HFB := Lib.hid ((HBY.out.set (p := ⟨p6, 0, none⟩) HN.out (.int .i64 0)).set (p := ⟨p6, 1, none⟩) HN.out (.int .i64 0))
                  go_wp2
                  generalize World.setCell (World.setCell _ _ _) _ _ = W10 at *
                  exact bodyPost_ret (lea_res (r := ⟨0, 0⟩) HFR.out rfl rfl rfl) rfl (lea_post HM6.out HFB.out)
          | succ j =>
            obtain rfl : q = (j : Int) := by omega
            have hj4 : j ≤ 4 := by omega
            have d1 : decide ((j : Int) ≥ 0) = true := decide_eq_true (by omega)
            have d2 : decide ((0 : Int) ≤ (j : Int)) = true := decide_eq_true (by omega)
            have wj : IntKind.i64.wrap ((j : Int) - 1) = (j : Int) - 1 := IntWalk.i64_in _ (by omega)
            have HLV := Lib.hid (leave_any _ j d y.w hj4 HD.out (by omega) HDI.out)
            have HLL := Lib.hid (leave_len d j)
            have HLI := Lib.hid (leave_inr (i := j) HDI.out)
            have HO2 : Hid ((if (leaveL d j).2 = 0 then downL 0 j (leaveL d j).1 else leaveL d j) = downL 0 m T0) := Lib.hid (by
              rw [← HDN.out]
              show _ = (if (leaveL d (0 + j)).2 = 0 then downL 0 j (leaveL d (0 + j)).1 else leaveL d (0 + j))
              rw [Nat.zero_add])
            clear hq HDN
            generalize leaveL d j = M at *
            obtain ⟨d2', e2⟩ := M
            go_wp2_with fail
            refine HLV.out.mono ?_
            rintro e wl ⟨v2, rfl, hln, hB⟩
            dsimp only at hln ⊢
            have HLN := Lib.hid hln
            obtain ⟨A2, c2, rfl, _⟩ := hln.form
            have HB2 := Lib.hid (HB.out.trans hB)
            have HR2 := Lib.hid (HR.out.bel hB)
            clear hln hB HLV
            by_cases he : e2 = 0
            · subst he
              have t0 : ((0 : Int) != 0) = false := rfl
              go_wp2
              go_roundw
              case rel => exact ⟨j, ⟨_, HB2.out⟩, _, d2', _, _, by omega, rfl, rfl, rfl, rfl, rfl, HR2.out, HLN.out, by have := HLL.out; omega, HLI.out, by have := HO2.out; rwa [if_pos rfl] at this⟩
              case measure =>
                simp only [intOf]
                omega
            · have t0 : (e2 != 0) = true := by simp [he]
              have HM3 : Hid (leastM m l a = (⟨0, 0⟩, false, e2)) := Lib.hid (by rw [HM2.out, ← HO2.out, if_neg he]; unfold leastR; rw [if_pos he])
              clear he HM2 HO2
              have c60 := HR2.out.cell (i := 0) rfl
              have c61 := HR2.out.cell (i := 1) rfl
              have f6 := fun q => HR2.out.frozen q
              have l6 := HR2.out.lt
              have HFR := Lib.hid ((HR2.out.set 0 (.int .i64 0)).set 1 (.int .i64 0))
              have HFB := Lib.hid ((HB2.out.set (p := ⟨p6, 0, none⟩) HN.out (.int .i64 0)).set (p := ⟨p6, 1, none⟩) HN.out (.int .i64 0))
              go_wp2
              generalize World.setCell (World.setCell _ _ _) _ _ = W10 at *
              exact bodyPost_ret (lea_res (r := ⟨0, 0⟩) HFR.out rfl rfl rfl) rfl (lea_post HM3.out HFB.out)
  · have h0 : (checkM n l != 0) = true := by simp [hck]
    have HM : Hid (leastM n l a = (⟨0, 0⟩, false, checkM n l)) := Lib.hid (by unfold leastM; rw [if_pos hck])
    clear hck
    generalize checkM n l = er at *
    have c60 := HR2.out.cell (i := 0) rfl
    have c61 := HR2.out.cell (i := 1) rfl
    have f6 := fun q => HR2.out.frozen q
    have l6 := HR2.out.lt
    have HFR := Lib.hid ((HR2.out.set 0 (.int .i64 0)).set 1 (.int .i64 0))
    have HFB := Lib.hid ((HB2.out.set (p := ⟨p6, 0, none⟩) HN.out (.int .i64 0)).set (p := ⟨p6, 1, none⟩) HN.out (.int .i64 0))
    go_wp2
    generalize World.setCell (World.setCell _ _ _) _ _ = W10 at *
    exact bodyPost_ret (lea_res (r := ⟨0, 0⟩) HFR.out rfl rfl rfl) rfl (lea_post HM.out HFB.out)
end Go.Proofs.Ytalphoebmefgoaa
