import Derived.Test.YtalphoebmefgoaaG39
import Derived.Test.YtalphoebmefgoaaG38
import Derived.Test.YtalphoebmefgoaaG40
/- poly: implied, Implies. -/
namespace Go.Proofs.Ytalphoebmefgoaa
open Go.RowKit
theorem lns_src {w : World} {v : Value} {l : List Ln} (h : LnsAt w w.heap.size v l) : SrcOf w v l.length (l.flatMap Ln.cells) := by
  obtain ⟨A, c, rfl, hc, h⟩ := h
  refine ⟨A, c, rfl, hc, fun e => ?_, fun h0 => ?_⟩
  · rcases Nat.eq_zero_or_pos l.length with h0 | h0
    · exact h0
    · obtain ⟨b, off, e2, _⟩ := h h0
      rw [e] at e2; cases e2
  · obtain ⟨b, off, e, hb, k⟩ := h h0
    refine ⟨b, off, e, hb, fun j u hj => ?_⟩
    have hjl : j < (l.flatMap Ln.cells).length := (List.getElem?_eq_some_iff.1 hj).1
    rw [flat_len cells8] at hjl
    have h8 : j % 8 < 8 := Nat.mod_lt _ (by decide)
    have := k (j / 8) (by omega) (j % 8) h8
    rw [← hj, show j = j / 8 * 8 + j % 8 by omega, flat_at cells8 _ _ _ (by omega) h8, show off + (j / 8 * 8 + j % 8) = off + j / 8 * 8 + j % 8 by omega]
    exact this
theorem cells_one {x : Ln} : ∀ u ∈ x.cells, u.oneCell' = true := fun u hu => by
  simp only [Ln.cells, List.mem_cons, List.not_mem_nil, or_false] at hu
  rcases hu with rfl | rfl | rfl | rfl | rfl | rfl | rfl | rfl <;> rfl
theorem flat_one {l : List Ln} : ∀ u ∈ l.flatMap Ln.cells, u.oneCell' = true := fun u hu => by
  obtain ⟨x, _, h⟩ := List.mem_flatMap.1 hu
  exact cells_one u h
/-- a line behind a row of the call's own -/
theorem own_snoc {w0 W : World} {v : Value} {l : List Ln} {X : Ln} {q : Nat} {e2 : TypeId} (hb : Bel w0 W) (h : W.ownsRow w0.heap.size 72 8 v l.length (l.flatMap Ln.cells)) (hl : l.length ≤ 1000000) (r : RowAt W q e2 X.cells) :
    ∃ A c W', (Builtin.append_ #[61, 61] 61 #[v, .slice (some ⟨q, 0, none⟩) 1 1]).run Try.prog W = .ok (.slice A (l.length + 1) c) W' ∧ W'.ownsRow w0.heap.size 72 8 (.slice A (l.length + 1) c) (l ++ [X]).length ((l ++ [X]).flatMap Ln.cells) ∧ Bel w0 W' ∧ W.grownBy W' v.ownBlock := by
  obtain ⟨i0, hi, hz0, hz1, hz2⟩ := info_parts3 Try.infoLine
  obtain ⟨v', W', hr, ho, hg⟩ := append_row (P := Try.prog) W w0.heap.size 61 61 72 i0 zeroLn.V 8 64 Try.underlying61 hi hz0 hz1 hz2 rfl (by decide) v l.length (l.flatMap Ln.cells) h
    (some ⟨q, 0, none⟩) 1 1 X.cells (.inr ⟨_, rfl, fun j u hj => by rw [add_ofs, r.cell?, hj]⟩) rfl cells_one (by unfold maxLen; omega) (by omega) hb.le
  obtain ⟨g, c, rfl⟩ := ownsRow_succ ho
  refine ⟨_, c, W', hr, ?_, bel_grown hb h hg, hg⟩
  rw [List.length_append, List.flatMap_append]
  simpa using ho
set_option maxRecDepth 100000 in
set_option maxHeartbeats 8000000 in
theorem implied_any (n : Nat) (v : Value) (l : List Ln) (x : Ln) (w : World) (hn : n ≤ 5) (h : LnsAt w w.heap.size v l) (hl : l.length ≤ 1500) (hin : ∀ z, z ∈ l → z.inr) (hx : x.inr) :
    Calls Try.prog 61 #[.int .i64 n, v, .agg #[.int .i64 x.a0, .int .i64 x.a1, .int .i64 x.a2, .int .i64 x.a3, .int .i64 x.a4, .int .i64 x.a5, .int .i64 x.b, .bool x.s]] w (BoPost (emptyL n (l ++ [oppL x])) w) := by
  have H := Lib.hid h
  have HIN := Lib.hid hin
  have HX := Lib.hid hx
  obtain ⟨A, c, rfl, hc⟩ := h.form
  clear h hin hx
  go_enter Try.func61, Try.ntmps61
  go_upto_region 1 with (fail)
  generalize hW : World.alloc w _ = w1 at *
  have rx : RowAt w1 w.heap.size 72 x.cells := by rw [← hW]; exact RowAt.new w 72 x.cells
  have hb1 : Bel w w1 := by rw [← hW]; exact Bel.refl.alloc _
  clear hW
  obtain ⟨p, hp⟩ : ∃ p, p = w.heap.size := ⟨_, rfl⟩
  rw [← hp] at rx ⊢
  clear hp
  have HB1 := Lib.hid hb1
  have x0 := rx.cell (i := 0) rfl
  have x1 := rx.cell (i := 1) rfl
  have x2 := rx.cell (i := 2) rfl
  have x3 := rx.cell (i := 3) rfl
  have x4 := rx.cell (i := 4) rfl
  have x5 := rx.cell (i := 5) rfl
  have x6 := rx.cell (i := 6) rfl
  have x7 := rx.cell (i := 7) rfl
  have lx := rx.lt
  clear rx hb1
  (refine wp_region_E 10 none (by kernel_rfl) ?_; refine anyE_takes [0, 1, 3] (fun _ _ _ _ _ h => h) ⟨⟨_, gro_drew (gro_refl _)⟩, rfl⟩ (by kernel_rfl) (by rfl) ?_; simp only [opsOf, List.filterMap_cons, List.filterMap_nil, List.getElem?_toArray, List.getElem?_cons_succ, List.getElem?_cons_zero, List.foldl_cons, List.foldl_nil]; (repeat (any_goals (first | go_big_quiet_step (fail) | quiet_step (fail)))); refine wpQuiet_nil ?_)
  have HL2 := Lib.hid (H.out.bel HB1.out.drew)
  have HB2 := Lib.hid HB1.out.drew
  have G2 : Hid (w1.grownBy w1.drew none) := Lib.hid (gro_drew (gro_refl _))
  clear x0 x1 x2 x3 x4 x5 x6 x7 lx
  generalize w1.drew = w2 at *
  have HCL := Lib.hid (cloneLn_any _ _ _ w2 (lns_src HL2.out) (by rw [flat_len cells8]) flat_one (by omega))
  (refine anyE_one 2 _ (by kernel_rfl) (by rfl) (fun K hK => ?_))
  rw [if_pos (by rfl)]
  go_simp
  refine HCL.out.mono ?_
  rintro _ w3 ⟨u, rfl, ho, hB⟩
  have G3 := Lib.hid (gro_then G2.out hB)
  refine hK _ _ (fun _ => ⟨⟨_, G3.out⟩, rfl⟩) ?_
  clear hK K HCL
  have HO3 := Lib.hid (own_base ho HB2.out.le)
  have HO3' := Lib.hid ho
  have HB3 := Lib.hid (HB2.out.trans hB)
  have HB23 := Lib.hid hB
  have HOP := Lib.hid (opposite_any x w3 HX.out)
  clear ho hB
  (refine anyE_one 4 _ (by kernel_rfl) (by rfl) (fun K hK => ?_))
  rw [if_pos (by rfl)]
  go_simp
  refine HOP.out.mono ?_
  rintro _ w4 ⟨rfl, hB⟩
  have G4 := Lib.hid (gro_then G3.out hB)
  refine hK _ _ (fun _ => ⟨⟨_, G4.out⟩, rfl⟩) ?_
  clear hK K HOP
  have HO4 := Lib.hid (ownsRow_bel HO3'.out hB)
  have HB24 := Lib.hid (HB23.out.trans hB)
  clear hB HO3' HB23 HO3
  have HOI := Lib.hid (opp_inr HX.out)
  generalize oppL x = Z at *
  unfold Ln.V
  (refine anyE_one 5 _ (by kernel_rfl) (by rfl) (fun K hK => ?_))
  rw [if_pos (by rfl)]
  go_simp
  have G5 := Lib.hid (gro_alloc G4.out (.cells Z.cells.toArray 72))
  refine hK _ _ (fun _ => ⟨⟨_, G5.out⟩, rfl⟩) ?_
  clear hK K
  obtain ⟨A6, c6, w6, hap, ho6, hb6, hg6⟩ := own_snoc (w0 := w2) (HB24.out.alloc (.cells Z.cells.toArray 72)) (ownsRow_bel HO4.out (Bel.refl.alloc _)) (by omega) (RowAt.new w4 72 Z.cells)
  unfold Ln.cells at hap
  (refine anyE_one 6 _ (by kernel_rfl) (by rfl) (fun K hK => ?_))
  rw [if_pos (by rfl)]
  have G6 : Hid (w1.grownBy w6 none) := Lib.hid (G2.out.trans (gro_of_bel2 hb6))
  refine oper_append_run _ _ 61 rfl _ _ _ rfl rfl hap (hK _ _ (fun _ => ⟨⟨_, G6.out⟩, rfl⟩) ?_)
  simp only [Act.put, List.setIfInBounds_toArray]
  clear hK K hap
  have HB6 := Lib.hid (HB2.out.trans hb6)
  have hll : (l ++ [Z]).length = l.length + 1 := by simp
  have hln : LnsAt w6 w6.heap.size (.slice A6 (l.length + 1) c6) (l ++ [Z]) := RdAt.of_own cells8 rfl ho6
  have HEM := Lib.hid (emptyp_any _ (l ++ [Z]) n w6 hn hln (by omega) (fun z hz => by
    rcases List.mem_append.1 hz with hz | hz
    · exact HIN.out z hz
    · rw [show z = Z by simpa using hz]; exact HOI.out))
  clear ho6 hb6 hg6 hln hll
  generalize emptyL n (l ++ [Z]) = M at *
  obtain ⟨eb, er⟩ := M
  (refine anyE_one 7 _ (by kernel_rfl) (by rfl) (fun K hK => ?_))
  rw [if_pos (by rfl)]
  go_simp
  refine HEM.out.mono ?_
  rintro _ w7 ⟨rfl, hB⟩
  have G7 := Lib.hid (gro_then G6.out hB)
  have HB7 := Lib.hid (HB6.out.trans hB)
  refine hK _ _ (fun _ => ⟨⟨_, G7.out⟩, rfl⟩) ?_
  clear hK K hB HEM
  (refine anyE_takes [8, 9] (fun _ _ _ _ _ h => h) ⟨⟨_, G7.out⟩, rfl⟩ (by kernel_rfl) (by rfl) ?_; simp only [opsOf, List.filterMap_cons, List.filterMap_nil, List.getElem?_toArray, List.getElem?_cons_succ, List.getElem?_cons_zero, List.foldl_cons, List.foldl_nil]; (repeat (any_goals (first | go_big_quiet_step (fail) | quiet_step (fail)))); refine wpQuiet_nil ?_)
  (refine anyE_tail 10 (by decide) (by rfl) (by kernel_rfl) ?_; simp only [List.drop_succ_cons, List.drop_zero])
  go_wp2
  refine NoPanic.normal ?_
  go_wp2
  go_ret2
  exact ⟨rfl, HB7.out⟩
end Go.Proofs.Ytalphoebmefgoaa
/- poly: checked, of two lists. -/
namespace Go.Proofs.Ytalphoebmefgoaa
open Go.RowKit
def check2 (n : Int) (a b : List AL) : Int := if checkM n a ≠ 0 then checkM n a else checkM n b
set_option maxRecDepth 100000 in
set_option maxHeartbeats 4000000 in
theorem checked_any (n : Int) (q : Nat) (va vb : Value) (a b : List AL) (w : World) (hq : RowAt w q 22 [va, vb]) (ha : LinesAt w w.heap.size va a) (hb : LinesAt w w.heap.size vb b) (hla : AlLens a) (hlb : AlLens b) (hna : a.length ≤ 1000000) (hnb : b.length ≤ 1000000) :
    Calls Try.prog 51 #[.int .i64 n, .slice (some ⟨q, 0, none⟩) 2 2] w fun e w' => e = .returned (.int .i64 (check2 n a b)) ∧ Bel w w' := by
  have HQ := Lib.hid hq
  have HCA := Lib.hid (fun W (hW : Bel w W) => check_any n va a W (ha.bel hW) hla hna)
  have HCB := Lib.hid (fun W (hW : Bel w W) => check_any n vb b W (hb.bel hW) hlb hnb)
  have HM : Hid (check2 n a b = if checkM n a ≠ 0 then checkM n a else checkM n b) := Lib.hid rfl
  obtain ⟨Aa, ca, rfl, _⟩ := ha.form
  obtain ⟨Ab, cb, rfl, _⟩ := hb.form
  generalize checkM n a = ea at *
  generalize checkM n b = eb at *
  have q0 := hq.cell (i := 0) rfl
  have q1 := hq.cell (i := 1) rfl
  have lq := hq.lt
  clear hq ha hb
  go_enter Try.func51, Try.ntmps51
  go_wp2
  refine wp_loop_rounds 3 ?_
  refine rounds_succ.mpr ?_
  go_wp2_with fail
  refine (HCA.out _ Bel.refl).mono ?_
  rintro e w1 ⟨rfl, hB⟩
  have HB1 := Lib.hid hB
  have q1' := (hB.cells _ _ lq).trans q1
  have lq' := Nat.lt_of_lt_of_le lq hB.le
  clear hB q0 q1 HCA
  by_cases hea : ea = 0
  · have t0 : (ea != 0) = false := by simp [hea]
    have HM2 : Hid (check2 n a b = eb) := Lib.hid (by rw [HM.out, if_neg (by simp [hea])])
    clear hea HM
    go_wp2
    refine rounds_succ.mpr ?_
    go_wp2_with fail
    refine (HCB.out _ HB1.out).mono ?_
    rintro e w2 ⟨rfl, hB⟩
    have HB2 := Lib.hid (HB1.out.trans hB)
    clear hB q1' lq' HCB
    by_cases heb : eb = 0
    · have t1 : (eb != 0) = false := by simp [heb]
      have HM3 : Hid (check2 n a b = 0) := Lib.hid (by rw [HM2.out, heb])
      clear heb HM2
      go_wp2
      refine rounds_succ.mpr ?_
      go_wp2
      go_ret
      exact ⟨by rw [HM3.out]; rfl, HB2.out⟩
    · have t1 : (eb != 0) = true := by simp [heb]
      clear heb
      go_wp2
      go_ret
      exact ⟨by rw [HM2.out]; rfl, HB2.out⟩
  · have t0 : (ea != 0) = true := by simp [hea]
    have HM2 : Hid (check2 n a b = ea) := Lib.hid (by rw [HM.out, if_pos hea])
    clear hea HM
    go_wp2
    go_ret
    exact ⟨by rw [HM2.out]; rfl, HB1.out⟩
end Go.Proofs.Ytalphoebmefgoaa
/- poly.Implies. -/
namespace Go.Proofs.Ytalphoebmefgoaa
open Go.RowKit
def impliesM (n : Int) (l : List AL) (x : AL) : Bool × Int :=
  if checkM n l ≠ 0 then (false, checkM n l) else if x.fits n = false then (false, 2) else emptyL n.toNat (padAll l ++ [oppL (padL x)])
theorem line_one {W : World} {q : Nat} {e : TypeId} {xv : Value} {x : AL} (r : RowAt W q e [xv, .int .i64 x.b, .bool x.s]) (h : IntsAt W W.heap.size xv x.a) : LinesAt W W.heap.size (.slice (some ⟨q, 0, none⟩) 1 1) [x] :=
  ⟨_, 1, rfl, Nat.le_refl _, fun _ => ⟨q, 0, rfl, r.lt, fun i hi => by
    obtain rfl : i = 0 := by simpa using hi
    exact ⟨xv, ⟨r.cell rfl, r.cell rfl, r.cell rfl⟩, h⟩⟩⟩
theorem one_ofD (x : AL) {W : World} {b : Nat} {e : TypeId} (h : RowAt W b e (rowL (ofD [x] 1) 1)) : RowAt W b e (padL x).cells := h
set_option maxRecDepth 100000 in
set_option maxHeartbeats 8000000 in
theorem implies_any (n : Int) (v xv : Value) (l : List AL) (x : AL) (w : World) (h : LinesAt w w.heap.size v l) (hl : AlLens l) (hn : l.length ≤ 1000000) (hx : IntsAt w w.heap.size xv x.a) (hxl : x.a.length ≤ 1000000) :
    Calls Try.prog 28 #[.int .i64 n, v, .agg #[xv, .int .i64 x.b, .bool x.s]] w (BoPost (impliesM n l x) w) := by
  have H := Lib.hid h
  have HXI := Lib.hid hx
  have HCK := Lib.hid (fun W (hW : Bel w W) => check_any n v l W (h.bel hW) hl hn)
  have HFI := Lib.hid (fun W (hW : Bel w W) => fits_any n x xv W (hx.bel hW) hxl)
  obtain ⟨A, c, rfl, hc⟩ := h.form
  obtain ⟨Ax, cx, rfl, hcx⟩ := hx.form
  clear h hl hx
  go_enter Try.func28, Try.ntmps28
  go_upto_region 1 with (fail)
  generalize hW : World.alloc w _ = w1 at *
  have rx : RowAt w1 w.heap.size 25 [.slice Ax x.a.length cx, .int .i64 x.b, .bool x.s] := by rw [← hW]; exact RowAt.new _ _ _
  have hb1 : Bel w w1 := by rw [← hW]; exact Bel.refl.alloc _
  clear hW
  obtain ⟨px, hpx⟩ : ∃ p, p = w.heap.size := ⟨_, rfl⟩
  rw [← hpx] at rx ⊢
  clear hpx
  have HB1 := Lib.hid hb1
  have HR1 := Lib.hid rx
  clear rx hb1
  go_wp2_with fail
  refine (HCK.out _ HB1.out).mono ?_
  rintro e w2 ⟨rfl, hB⟩
  have HB2 := Lib.hid (HB1.out.trans hB)
  have HR2 := Lib.hid (HR1.out.bel hB)
  clear hB HCK HB1 HR1
  by_cases hck : checkM n l = 0
  · have HC := Lib.hid hck
    rw [hck]
    have h0 : ((0 : Int) != 0) = false := rfl
    obtain ⟨hn5, hl1, _⟩ := check_fits hck
    have HM : Hid (impliesM n l x = if x.fits n = false then (false, 2) else emptyL n.toNat (padAll l ++ [oppL (padL x)])) := Lib.hid (by unfold impliesM; rw [if_neg (by simp [hck])])
    clear hck
    have x0 := HR2.out.cell (i := 0) rfl
    have x1 := HR2.out.cell (i := 1) rfl
    have x2 := HR2.out.cell (i := 2) rfl
    have lx := HR2.out.lt
    go_wp2_with fail
    refine (HFI.out _ HB2.out).mono ?_
    rintro e w3 ⟨rfl, hB⟩
    have HB3 := Lib.hid (HB2.out.trans hB)
    have HR3 := Lib.hid (HR2.out.bel hB)
    clear hB HFI HB2 HR2 x0 x1 x2 lx
    cases hft : x.fits n
    · have HF : Hid (BoPost (impliesM n l x) w (.returned (.tuple #[.bool false, .int .i64 2])) w3) := Lib.hid ⟨by rw [HM.out, if_pos hft], HB3.out⟩
      clear hft HM
      go_wp2
      go_ret2
      exact HF.out
    · have hlen := fits_len hft
      have HXR := Lib.hid (fits_inr hft (show n ≤ 6 by omega))
      obtain ⟨m, rfl⟩ : ∃ m : Nat, n = (m : Int) := ⟨n.toNat, by omega⟩
      have HM2 : Hid (impliesM m l x = emptyL m (padAll l ++ [oppL (padL x)])) := Lib.hid (by rw [HM.out, if_neg (by simp [hft]), Int.toNat_natCast])
      have hm5 : m ≤ 5 := by omega
      have hxa : x.a.length ≤ 6 := by omega
      clear hft HM hlen hn5
      have HOF := Lib.hid (fun W (hW : Bel w W) => of_any _ l W (H.out.bel hW) (by omega) (check_lens HC.out))
      have HO1 := Lib.hid (fun W q (hW : Bel w W) (r : RowAt W q 25 [.slice Ax x.a.length cx, .int .i64 x.b, .bool x.s]) => of_any _ [x] W (line_one r (HXI.out.bel hW)) (by simp) (fun i hi => by
        obtain rfl : i = 0 := by simpa using hi
        exact hxa))
      have HPI := Lib.hid (pad_inr HC.out)
      have HPN := Lib.hid (pad_len l)
      have HIM := Lib.hid (fun W u (hu : LnsAt W W.heap.size u (padAll l)) => implied_any m u (padAll l) (padL x) W hm5 hu (by rw [HPN.out]; omega) HPI.out HXR.out)
      rw [← HM2.out] at HIM
      clear HM2
      generalize impliesM m l x = M at *
      obtain ⟨eb, er⟩ := M
      have x0 := HR3.out.cell (i := 0) rfl
      have x1 := HR3.out.cell (i := 1) rfl
      have x2 := HR3.out.cell (i := 2) rfl
      have lx := HR3.out.lt
      go_upto_region 6 with (fail)
      (refine wp_region_E 11 none (by kernel_rfl) ?_; refine anyE_takes [0, 1, 3] (fun _ _ _ _ _ h => h) ⟨⟨_, gro_drew (gro_refl _)⟩, rfl⟩ (by kernel_rfl) (by rfl) ?_; simp only [opsOf, List.filterMap_cons, List.filterMap_nil, List.getElem?_toArray, List.getElem?_cons_succ, List.getElem?_cons_zero, List.foldl_cons, List.foldl_nil]; (repeat (any_goals (first | go_big_quiet_step (fail) | quiet_step (fail)))); refine wpQuiet_nil ?_)
      have HBD := Lib.hid HB3.out.drew
      have HG0 : Hid (w3.grownBy w3.drew none) := Lib.hid (gro_drew (gro_refl _))
      clear x0 x1 x2 lx
      generalize w3.drew = wc at *
      refine anyE_two 2 4 _ _ (by kernel_rfl) (by rfl) (by rfl) ?_ ?_
      · intro K hK
        rw [if_pos (by rfl)]
        go_simp
        refine (HOF.out wc HBD.out).mono ?_
        rintro _ wd ⟨b, rfl, hb, hB, hr⟩
        have HGd := Lib.hid (gro_then HG0.out hB)
        have HBd := Lib.hid (HBD.out.trans hB)
        refine hK _ _ (fun _ => ⟨⟨_, HGd.out⟩, rfl⟩) ?_
        clear hK K
        have HLd := Lib.hid (OfPost.lns hb (by omega) hr)
        clear hb hB hr
        (refine anyE_one 4 _ (by kernel_rfl) (by rfl) (fun K hK => ?_))
        rw [if_pos (by rfl)]
        go_simp
        refine hK _ _ (fun _ => ⟨⟨_, gro_alloc HGd.out _⟩, rfl⟩) ?_
        clear hK K
        generalize hWq : World.alloc wd _ = wq
        have HGq : Hid (w3.grownBy wq none) := Lib.hid (by rw [← hWq]; exact gro_alloc HGd.out _)
        have HBq : Hid (Bel w wq) := Lib.hid (by rw [← hWq]; exact HBd.out.alloc _)
        have HLq : Hid (LnsAt wq wq.heap.size (.slice (some ⟨b, 0, none⟩) l.length l.length) (padAll l)) := Lib.hid (by rw [← hWq]; exact HLd.out.bel (Bel.refl.alloc _))
        have HRq : Hid (RowAt wq wd.heap.size 25 [.slice Ax x.a.length cx, .int .i64 x.b, .bool x.s]) := Lib.hid (by rw [← hWq]; exact RowAt.new _ _ _)
        clear hWq
        generalize wd.heap.size = pq at *
        (refine anyE_one 5 _ (by kernel_rfl) (by rfl) (fun K hK => ?_))
        rw [if_pos (by rfl)]
        go_simp
        refine (HO1.out wq pq HBq.out HRq.out).mono ?_
        rintro _ we ⟨b1, rfl, hb1, hB, hr1⟩
        have HGe := Lib.hid (gro_then HGq.out hB)
        refine hK _ _ (fun _ => ⟨⟨_, HGe.out⟩, rfl⟩) ?_
        clear hK K
        have HBe := Lib.hid (HBq.out.trans hB)
        have HLe := Lib.hid (HLq.out.bel hB)
        have hz := one_ofD x hr1
        clear hb1 hB hr1
        have x0 := hz.cell (i := 0) rfl
        have x1 := hz.cell (i := 1) rfl
        have x2 := hz.cell (i := 2) rfl
        have x3 := hz.cell (i := 3) rfl
        have x4 := hz.cell (i := 4) rfl
        have x5 := hz.cell (i := 5) rfl
        have x6 := hz.cell (i := 6) rfl
        have x7 := hz.cell (i := 7) rfl
        have lx := hz.lt
        clear hz
        generalize padL x = Z at *
        have HIMe := Lib.hid (HIM.out we _ HLe.out)
        (refine anyE_one 6 _ (by kernel_rfl) (by rfl) (fun K hK => ?_))
        rw [if_pos (by rfl)]
        go_simp
        refine hK _ _ (fun _ => ⟨⟨_, HGe.out⟩, rfl⟩) ?_
        clear hK K
        (refine anyE_one 7 _ (by kernel_rfl) (by rfl) (fun K hK => ?_))
        rw [if_pos (by rfl)]
        go_simp
        refine hK _ _ (fun _ => ⟨⟨_, HGe.out⟩, rfl⟩) ?_
        clear hK K
        clear x0 x1 x2 x3 x4 x5 x6 x7 lx
        (refine anyE_one 8 _ (by kernel_rfl) (by rfl) (fun K hK => ?_))
        rw [if_pos (by rfl)]
        go_simp
        refine HIMe.out.mono ?_
        rintro _ wf ⟨rfl, hB⟩
        have HGf := Lib.hid (gro_then HGe.out hB)
        have HBf := Lib.hid (HBe.out.trans hB)
        refine hK _ _ (fun _ => ⟨⟨_, HGf.out⟩, rfl⟩) ?_
        clear hK K hB
        (refine anyE_takes [9, 10] (fun _ _ _ _ _ h => h) ⟨⟨_, HGf.out⟩, rfl⟩ (by kernel_rfl) (by rfl) ?_; simp only [opsOf, List.filterMap_cons, List.filterMap_nil, List.getElem?_toArray, List.getElem?_cons_succ, List.getElem?_cons_zero, List.foldl_cons, List.foldl_nil]; (repeat (any_goals (first | go_big_quiet_step (fail) | quiet_step (fail)))); refine wpQuiet_nil ?_)
        (refine anyE_tail 11 (by decide) (by rfl) (by kernel_rfl) ?_; simp only [List.drop_succ_cons, List.drop_zero])
        go_wp2
        refine NoPanic.normal ?_
        go_wp2
        go_ret2
        exact ⟨rfl, HBf.out⟩
      · intro K hK
        rw [if_pos (by rfl)]
        go_simp
        refine hK _ _ (fun _ => ⟨⟨_, gro_alloc HG0.out _⟩, rfl⟩) ?_
        clear hK K
        generalize hWq : World.alloc wc _ = wp
        have HGp : Hid (w3.grownBy wp none) := Lib.hid (by rw [← hWq]; exact gro_alloc HG0.out _)
        have HBp : Hid (Bel w wp) := Lib.hid (by rw [← hWq]; exact HBD.out.alloc _)
        have HRp : Hid (RowAt wp wc.heap.size 25 [.slice Ax x.a.length cx, .int .i64 x.b, .bool x.s]) := Lib.hid (by rw [← hWq]; exact RowAt.new _ _ _)
        clear hWq
        generalize wc.heap.size = pq at *
        (refine anyE_one 2 _ (by kernel_rfl) (by rfl) (fun K hK => ?_))
        rw [if_pos (by rfl)]
        go_simp
        refine (HOF.out wp HBp.out).mono ?_
        rintro _ wq ⟨b, rfl, hb, hB, hr⟩
        have HGq := Lib.hid (gro_then HGp.out hB)
        have HBq := Lib.hid (HBp.out.trans hB)
        have HRq := Lib.hid (HRp.out.bel hB)
        refine hK _ _ (fun _ => ⟨⟨_, HGq.out⟩, rfl⟩) ?_
        clear hK K
        have HLq := Lib.hid (OfPost.lns hb (by omega) hr)
        clear hb hB hr
        (refine anyE_one 5 _ (by kernel_rfl) (by rfl) (fun K hK => ?_))
        rw [if_pos (by rfl)]
        go_simp
        refine (HO1.out wq pq HBq.out HRq.out).mono ?_
        rintro _ we ⟨b1, rfl, hb1, hB, hr1⟩
        have HGe := Lib.hid (gro_then HGq.out hB)
        refine hK _ _ (fun _ => ⟨⟨_, HGe.out⟩, rfl⟩) ?_
        clear hK K
        have HBe := Lib.hid (HBq.out.trans hB)
        have HLe := Lib.hid (HLq.out.bel hB)
        have hz := one_ofD x hr1
        clear hb1 hB hr1
        have x0 := hz.cell (i := 0) rfl
        have x1 := hz.cell (i := 1) rfl
        have x2 := hz.cell (i := 2) rfl
        have x3 := hz.cell (i := 3) rfl
        have x4 := hz.cell (i := 4) rfl
        have x5 := hz.cell (i := 5) rfl
        have x6 := hz.cell (i := 6) rfl
        have x7 := hz.cell (i := 7) rfl
        have lx := hz.lt
        clear hz
        generalize padL x = Z at *
        have HIMe := Lib.hid (HIM.out we _ HLe.out)
        (refine anyE_one 6 _ (by kernel_rfl) (by rfl) (fun K hK => ?_))
        rw [if_pos (by rfl)]
        go_simp
        refine hK _ _ (fun _ => ⟨⟨_, HGe.out⟩, rfl⟩) ?_
        clear hK K
        (refine anyE_one 7 _ (by kernel_rfl) (by rfl) (fun K hK => ?_))
        rw [if_pos (by rfl)]
        go_simp
        refine hK _ _ (fun _ => ⟨⟨_, HGe.out⟩, rfl⟩) ?_
        clear hK K
        clear x0 x1 x2 x3 x4 x5 x6 x7 lx
        (refine anyE_one 8 _ (by kernel_rfl) (by rfl) (fun K hK => ?_))
        rw [if_pos (by rfl)]
        go_simp
        refine HIMe.out.mono ?_
        rintro _ wf ⟨rfl, hB⟩
        have HGf := Lib.hid (gro_then HGe.out hB)
        have HBf := Lib.hid (HBe.out.trans hB)
        refine hK _ _ (fun _ => ⟨⟨_, HGf.out⟩, rfl⟩) ?_
        clear hK K hB
        (refine anyE_takes [9, 10] (fun _ _ _ _ _ h => h) ⟨⟨_, HGf.out⟩, rfl⟩ (by kernel_rfl) (by rfl) ?_; simp only [opsOf, List.filterMap_cons, List.filterMap_nil, List.getElem?_toArray, List.getElem?_cons_succ, List.getElem?_cons_zero, List.foldl_cons, List.foldl_nil]; (repeat (any_goals (first | go_big_quiet_step (fail) | quiet_step (fail)))); refine wpQuiet_nil ?_)
        (refine anyE_tail 11 (by decide) (by rfl) (by kernel_rfl) ?_; simp only [List.drop_succ_cons, List.drop_zero])
        go_wp2
        refine NoPanic.normal ?_
        go_wp2
        go_ret2
        exact ⟨rfl, HBf.out⟩
  · have h0 : (checkM n l != 0) = true := by simp [hck]
    have HF : Hid (BoPost (impliesM n l x) w (.returned (.tuple #[.bool false, .int .i64 (checkM n l)])) w2) := Lib.hid (by
      have e : impliesM n l x = (false, checkM n l) := by unfold impliesM; rw [if_pos hck]
      exact ⟨by rw [e], HB2.out⟩)
    clear hck
    generalize checkM n l = er at *
    go_wp2
    go_ret2
    exact HF.out
end Go.Proofs.Ytalphoebmefgoaa
/- Plain model of poly.Point. -/
namespace Go.Proofs.Ytalphoebmefgoaa
theorem down_up (j : Nat) : ∀ (m : Nat) (l : List Ln), downL j (m + 1) l = if (downL (j + 1) m l).2 = 0 then leaveL (downL (j + 1) m l).1 j else downL (j + 1) m l := by
  intro m
  induction m with
  | zero =>
    intro l
    unfold downL
    simp only [downL, Nat.add_zero, if_true]
    split
    · rename_i h; rw [← h]
    · rfl
  | succ m ih =>
    intro l
    rw [downL]
    rw [show downL (j + 1) (m + 1) l = if (leaveL l (j + 1 + m)).2 = 0 then downL (j + 1) m (leaveL l (j + 1 + m)).1 else leaveL l (j + 1 + m) from rfl]
    rw [show j + 1 + m = j + (m + 1) by omega]
    split
    · exact ih _
    · rfl
/-- the value that is chosen between two ends -/
def chosenE (M : En × En × Int) : Rt × Int :=
  if M.2.2 ≠ 0 then (⟨0, 1⟩, M.2.2) else if M.1.is && !M.1.op then (M.1.at_, 0) else if M.1.is && M.2.1.is then rmid M.1.at_ M.2.1.at_
  else if M.1.is then radd M.1.at_ ⟨1, 1⟩ else if M.2.1.is && M.2.1.op then rsub M.2.1.at_ ⟨1, 1⟩ else if M.2.1.is then (M.2.1.at_, 0) else (⟨0, 1⟩, 0)
def pickE (T : List Ln) (n i : Nat) (p : List Rt) : Rt × Int := chosenE (endsM p (downL (i + 1) (n - i - 1) T).1)
def pointG (T : List Ln) (n : Nat) : Nat → Nat → List Rt → List Rt × Int
  | 0, _, p => (p, 0)
  | m + 1, i, p => if (pickE T n i p).2 ≠ 0 then ([], 7) else pointG T n m (i + 1) (p ++ [(pickE T n i p).1])
def pointT (n : Nat) (T : List Ln) : List Rt × Int :=
  if (downL 0 n T).2 ≠ 0 then ([], (downL 0 n T).2) else if 0 < (downL 0 n T).1.length then ([], 4) else pointG T n n 0 []
def pointM (n : Int) (l : List AL) : List Rt × Int :=
  if checkM n l ≠ 0 then ([], checkM n l) else pointT n.toNat (tidyL (padAll l))
end Go.Proofs.Ytalphoebmefgoaa
/- Memory of poly.Point. -/
namespace Go.Proofs.Ytalphoebmefgoaa
open Go.RowKit
set_option maxRecDepth 100000 in
theorem Try.infoLsl : (Try.prog.info? 61).map (fun i => (i.zero, i.size, i.bytes)) = some (some (.slice none 0 0), 1, 24) := by kernel_rfl
set_option maxRecDepth 100000 in
theorem Try.infoRtz : (Try.prog.info? 41).map (fun i => (i.zero, i.size, i.bytes)) = some (some (.agg #[.int .i64 0, .int .i64 0]), 2, 16) := by kernel_rfl
set_option maxRecDepth 100000 in
theorem make_lists (n : Nat) (hn : n ≤ 1000000) (W : World) : (Instr.makeSlice 89 (.int .i64 (n : Int)) (.int .i64 (n : Int))).run Try.prog W =
      .ok (.slice (some ⟨W.heap.size, 0, none⟩) n n) (W.alloc (.cells ((List.range n).map (fun _ => Value.slice none 0 0)).toArray 61)) := by
  obtain ⟨i0, hi, hz0, hz1, hz2⟩ := info_parts3 Try.infoLsl
  have h := run_make (P := Try.prog) W 89 61 i0 _ Try.underlying89 hi hz0 .i64 .i64 (n : Int) (n : Int) (by omega) (by omega) (by rw [hz2]; omega) (by omega)
  rw [hz1, Int.toNat_natCast] at h
  rw [h]
  congr 2
  have : madeCells (Value.slice none 0 0).cells (n * 1) = ((List.range n).map (fun _ => Value.slice none 0 0)).toArray := by
    apply Array.ext
    · simp [madeCells]
    · intro i h1 h2; simp [madeCells, Value.cells, Nat.mod_one]
  rw [this]
set_option maxRecDepth 100000 in
theorem make_rats (m n : Nat) (hm : m ≤ n) (hn : n ≤ 1000000) (W : World) : ∃ xs : List Value, xs.length = n * 2 ∧ (Instr.makeSlice 26 (.int .i64 (m : Int)) (.int .i64 (n : Int))).run Try.prog W =
      .ok (.slice (some ⟨W.heap.size, 0, none⟩) m n) (W.alloc (.cells xs.toArray 41)) := by
  obtain ⟨i0, hi, hz0, hz1, hz2⟩ := info_parts3 Try.infoRtz
  have h := run_make (P := Try.prog) W 26 41 i0 _ Try.underlying26 hi hz0 .i64 .i64 (m : Int) (n : Int) (by omega) (by omega) (by rw [hz2]; omega) (by omega)
  rw [hz1, Int.toNat_natCast, Int.toNat_natCast] at h
  exact ⟨(madeCells (Value.agg #[.int .i64 0, .int .i64 0]).cells (n * 2)).toList, by simp [madeCells], by simpa using h⟩
theorem rcells_len (a : Rt) : a.cells.length = 2 := rfl
theorem rcells_one {x : Rt} : ∀ u ∈ x.cells, u.oneCell' = true := fun u hu => by
  simp only [Rt.cells, List.mem_cons, List.not_mem_nil, or_false] at hu
  rcases hu with rfl | rfl <;> rfl
/-- a ratio behind a row of the call's own -/
theorem own_ratio {w0 W : World} {v : Value} {p : List Rt} {r : Rt} {q : Nat} {e2 : TypeId} (hb : Bel w0 W) (h : W.ownsRow w0.heap.size 41 2 v p.length (p.flatMap Rt.cells)) (hl : p.length ≤ 1000000) (hr : RowAt W q e2 r.cells) :
    ∃ A c W', (Builtin.append_ #[26, 26] 26 #[v, .slice (some ⟨q, 0, none⟩) 1 1]).run Try.prog W = .ok (.slice A (p.length + 1) c) W' ∧ W'.ownsRow w0.heap.size 41 2 (.slice A (p.length + 1) c) (p ++ [r]).length ((p ++ [r]).flatMap Rt.cells) ∧ Bel w0 W' ∧ W.grownBy W' v.ownBlock := by
  obtain ⟨i0, hi, hz0, hz1, hz2⟩ := info_parts3 Try.infoRtz
  obtain ⟨v', W', hrn, ho, hg⟩ := append_row (P := Try.prog) W w0.heap.size 26 26 41 i0 (.agg #[.int .i64 0, .int .i64 0]) 2 16 Try.underlying26 hi hz0 hz1 hz2 rfl (by decide) v p.length (p.flatMap Rt.cells) h
    (some ⟨q, 0, none⟩) 1 1 r.cells (.inr ⟨_, rfl, fun j u hj => by rw [add_ofs, hr.cell?, hj]⟩) rfl rcells_one (by unfold maxLen; omega) (by omega) hb.le
  obtain ⟨g, c, rfl⟩ := ownsRow_succ ho
  refine ⟨_, c, W', hrn, ?_, bel_grown hb h hg, hg⟩
  rw [List.length_append, List.flatMap_append]
  simpa using ho
/-- the row of the lists from the k-th on -/
structure PtAt (W : World) (pl : Nat) (n k : Nat) (T : List Ln) (f : Nat → Value) : Prop where
  row : RowAt W pl 61 ((List.range (n + 1)).map f)
  at_ : ∀ i, k ≤ i → i ≤ n → LnsAt W W.heap.size (f i) (downL i (n - i) T).1
  sl : ∀ i, ∃ A n c, f i = .slice A n c
theorem lns_block {W W' : World} {v : Value} {l : List Ln} {p : Nat} {e : TypeId} {xs : List Value} (h : LnsAt W W.heap.size v l) (r : RowAt W p e xs) (hx : ∀ u, u ∈ xs → ∃ A n c, u = .slice A n c) (hs : W.heap.size ≤ W'.heap.size) (hk : ∀ q, q < W.heap.size → q ≠ p → W'.heap[q]? = W.heap[q]?) : LnsAt W' W'.heap.size v l := by
  obtain ⟨A, c, rfl, hc, h⟩ := h
  refine ⟨A, c, rfl, hc, fun h0 => ?_⟩
  obtain ⟨b, off, rfl, hb, h⟩ := h h0
  have hne : b ≠ p := fun q => by
    subst q
    have h1 := h 0 h0 0 (by decide)
    rw [r.cell?] at h1
    obtain ⟨A, n, c, e⟩ := hx (.int .i64 l[0].a0) (List.mem_of_getElem? (by rw [h1]; rfl))
    cases e
  refine ⟨b, off, rfl, Nat.lt_of_lt_of_le hb hs, fun i hi r hr => ?_⟩
  rw [← h i hi r hr]
  unfold World.cell?
  rw [hk b hb hne]
theorem PtAt.bel {W W' : World} {pl n k : Nat} {T : List Ln} {f : Nat → Value} (h : PtAt W pl n k T f) (hb : Bel W W') : PtAt W' pl n k T f :=
  ⟨h.row.bel hb, fun i h1 h2 => (h.at_ i h1 h2).bel hb, h.sl⟩
theorem PtAt.put {W : World} {pl n k j : Nat} {T : List Ln} {f : Nat → Value} {v : Value} (h : PtAt W pl n k T f) (hj : j ≤ n) (hk : j + 1 = k ∨ j = k) (hv : LnsAt W W.heap.size v (downL j (n - j) T).1) : PtAt (W.setCell ⟨pl, j, none⟩ v) pl n j T (fun i => if i = j then v else f i) := by
  have hx : ∀ u, u ∈ (List.range (n + 1)).map f → ∃ A n c, u = .slice A n c := fun u hu => by
    obtain ⟨i, _, rfl⟩ := List.mem_map.1 hu; exact h.sl i
  have hh : ∀ q, q < W.heap.size → q ≠ pl → (W.setCell ⟨pl, j, none⟩ v).heap[q]? = W.heap[q]? := fun q _ hne => Below.heap_setCell W ⟨pl, j, none⟩ v q hne
  have hs : W.heap.size ≤ (W.setCell ⟨pl, j, none⟩ v).heap.size := by simp [World.setCell]
  refine ⟨?_, fun i h1 h2 => ?_, fun i => ?_⟩
  · have e : ((List.range (n + 1)).map f).set j v = (List.range (n + 1)).map (fun i => if i = j then v else f i) := by
      apply List.ext_getElem
      · simp
      · intro i h1 h2
        rw [List.getElem_set]
        simp only [List.getElem_map, List.getElem_range]
        by_cases hij : j = i
        · rw [if_pos hij, if_pos hij.symm]
        · rw [if_neg hij, if_neg (fun q => hij q.symm)]
    rw [← e]
    exact h.row.set j v
  · by_cases hij : i = j
    · subst hij
      simp only [if_pos]
      exact lns_block hv h.row hx hs hh
    · simp only [if_neg hij]
      exact lns_block (h.at_ i (by omega) h2) h.row hx hs hh
  · by_cases hij : i = j
    · simp only [if_pos hij]
      obtain ⟨A, c, e, _⟩ := hv
      exact ⟨A, _, c, e⟩
    · simp only [if_neg hij]; exact h.sl i
theorem PtAt.get {W : World} {pl n k i : Nat} {T : List Ln} {f : Nat → Value} (h : PtAt W pl n k T f) (hi : i ≤ n) : W.cell? ⟨pl, i, none⟩ = some (f i) := by
  rw [h.row.cell?]
  simp [show i < n + 1 by omega]
theorem own_none {W : World} {B b n size : Nat} {e : TypeId} {xs : List Value} (h : RowAt W b e xs) (hx : xs.length = n * size) (hn : n ≤ 1000000) (hb : B ≤ b) : W.ownsRow B e size (.slice (some ⟨b, 0, none⟩) 0 n) 0 [] :=
  ⟨by simp, .inr ⟨b, n, xs.toArray, rfl, hb, h, Nat.zero_le _, by unfold maxLen; omega, by simpa using hx, by simp⟩⟩
theorem down_bad {m : Nat} {T : List Ln} : ∀ (j : Nat), j ≤ m → (downL j (m - j) T).2 ≠ 0 → downL 0 m T = downL j (m - j) T
  | 0, _, _ => by rw [Nat.sub_zero]
  | j + 1, hj, h => by
    have hu := down_up j (m - (j + 1)) T
    rw [if_neg h, show m - (j + 1) + 1 = m - j by omega] at hu
    rw [← hu]
    exact down_bad j (by omega) (by rw [hu]; exact h)
theorem down_ok {m j : Nat} {T : List Ln} (hj : j + 1 ≤ m) (h : (downL (j + 1) (m - (j + 1)) T).2 = 0) : downL j (m - j) T = leaveL (downL (j + 1) (m - (j + 1)) T).1 j := by
  have hu := down_up j (m - (j + 1)) T
  rw [if_pos h, show m - (j + 1) + 1 = m - j by omega] at hu
  exact hu
end Go.Proofs.Ytalphoebmefgoaa
