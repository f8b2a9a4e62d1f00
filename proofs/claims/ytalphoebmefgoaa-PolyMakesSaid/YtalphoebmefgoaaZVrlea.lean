/- poly, the reference: Least. -/
import Derived.Test.YtalphoebmefgoaaZVrlep
import Derived.Test.YtalphoebmefgoaaZVrpe
import Derived.Test.YtalphoebmefgoaaZVrbh
import Derived.Test.YtalphoebmefgoaaG1
namespace Go.Proofs.Ytalphoebmefgoaa
open Go.RowKit
theorem ar_append2 {w0 W : World} {v : Value} {L : List (Value × AL)} {p p2 : Value × AL} {q : Nat} {e2 : TypeId} (hb : Bel w0 W) (h : AR W w0.heap.size v L) (hl : L.length ≤ 1000000) (r : RowAt W q e2 (arC p ++ arC p2)) (hp : IntsK W w0.heap.size p.1 p.2.a) (hp2 : IntsK W w0.heap.size p2.1 p2.2.a) (h1 : p.1.oneCell' = true) (h2 : p2.1.oneCell' = true) :
    ∃ A c W', (∀ ty, (Builtin.append_ #[22, 22] ty #[v, .slice (some ⟨q, 0, none⟩) 2 2]).run Try.prog W = .ok (.slice A (L.length + 2) c) W') ∧ AR W' w0.heap.size (.slice A (L.length + 2) c) (L ++ [p, p2]) ∧ Bel w0 W' ∧ W.grownBy W' v.ownBlock := by
  obtain ⟨i0, hi, hz0, hz1, hz2⟩ := info_parts3 Try.infoALine
  obtain ⟨v', W', hrn, ho, hg⟩ := append_row (P := Try.prog) W w0.heap.size 22 22 25 i0 (.agg #[.slice none 0 0, .int .i64 0, .bool false]) 3 40 Try.underlying22 hi hz0 hz1 hz2 rfl (by decide) v L.length (L.flatMap arC) h.own
    (some ⟨q, 0, none⟩) 2 2 (arC p ++ arC p2) (.inr ⟨_, rfl, fun j u hj => by rw [add_ofs, r.cell?, hj]⟩) rfl (fun u hu => by
      rcases List.mem_append.1 hu with hu | hu
      · exact arC_one h1 u hu
      · exact arC_one h2 u hu) (by unfold maxLen; omega) (by omega) hb.le
  obtain ⟨g, c, rfl⟩ := ownsRow_succ (k := L.length + 1) ho
  refine ⟨_, c, W', fun ty => hrn, ⟨?_, fun x hx => ?_⟩, bel_grown hb h.own hg, hg⟩
  · rw [List.length_append, List.flatMap_append]
    simpa using ho
  · rcases List.mem_append.1 hx with hx | hx
    · exact (h.at_ x hx).gro h.own (Nat.le_refl _) hb.le hg
    · rcases List.mem_cons.1 hx with rfl | hx
      · exact hp.gro h.own (Nat.le_refl _) hb.le hg
      · obtain rfl : x = p2 := by simpa using hx
        exact hp2.gro h.own (Nat.le_refl _) hb.le hg
set_option maxRecDepth 100000 in
theorem rlea_res {W : World} {tmps : Array Value} {p : Nat} {n d er : Int} {b : Bool} (h : RowAt W p 41 [.int .i64 n, .int .i64 d]) (t6 : tmps[6]? = some (.pointer (some ⟨p, 0, none⟩))) (t7 : tmps[7]? = some (.bool b)) (t8 : tmps[8]? = some (.int .i64 er)) :
    (results Try.f25 tmps).run Try.prog W = .ok (.tuple #[.agg #[.int .i64 n, .int .i64 d], .bool b, .int .i64 er]) W := by
  have q0 := h.cell (i := 0) rfl
  have q1 := h.cell (i := 1) rfl
  simp [results, Try.f25, go_sem, q0, q1, t6, t7, t8]
set_option maxRecDepth 100000 in
set_option maxHeartbeats 16000000 in
theorem rleast_any (n : Int) (v av : Value) (l : List AL) (a : List Int) (w : World) (h : LinesAt w w.heap.size v l) (hl : AlLens l) (hn : l.length ≤ 1000000) (ha : IntsAt w w.heap.size av a) (hal : a.length ≤ 100000) :
    Calls Try.prog 25 #[.int .i64 n, v, av] w (LeaPost (leastM n l a) w) := by
  have H := Lib.hid h
  have HA := Lib.hid ha
  have HCK := Lib.hid (fun W (hW : Bel w W) => rcheck_any n v l W (h.bel hW) hl hn)
  obtain ⟨A, c, rfl, hc⟩ := h.form
  obtain ⟨Aa, ca, rfl, hca⟩ := ha.form
  clear h ha hl
  go_enter Try.func25, Try.ntmps25
  go_upto_region 1 with (fail)
  generalize hW : World.alloc w _ = w1 at *
  have rr : RowAt w1 w.heap.size 41 [.int .i64 0, .int .i64 0] := by rw [← hW]; exact RowAt.new _ _ _
  have hb1 : Bel w w1 := by rw [← hW]; exact Bel.refl.alloc _
  clear hW
  obtain ⟨p6, hp6⟩ : ∃ q, q = w.heap.size := ⟨_, rfl⟩
  rw [← hp6] at rr ⊢
  have HP6 : Hid (w.heap.size ≤ p6) := Lib.hid (by omega)
  clear hp6
  have HB1 := Lib.hid hb1
  have HR61 := Lib.hid rr
  clear rr hb1
  go_wp2_with fail
  refine (HCK.out _ HB1.out).mono ?_
  rintro e w2 ⟨rfl, hB⟩
  have HB2 := Lib.hid (HB1.out.trans hB)
  have HR62 := Lib.hid (HR61.out.bel hB)
  clear hB HCK HB1 HR61
  by_cases hck : checkM n l = 0
  · have HC := Lib.hid hck
    rw [hck]
    have h0 : ((0 : Int) != 0) = false := rfl
    obtain ⟨hn5, hl1, _⟩ := check_fits hck
    obtain ⟨m, rfl⟩ : ∃ m : Nat, n = (m : Int) := ⟨n.toNat, by omega⟩
    have hm5 : m ≤ 5 := by omega
    have HLA := Lib.hid (check_lenA HC.out)
    have HLI0 := Lib.hid (check_inrA HC.out)
    rw [Int.toNat_natCast] at HLA
    clear hck hn5
    have wn1 : IntKind.i64.wrap ((m : Int) + 1) = ((m + 1 : Nat) : Int) := IntWalk.i64_in _ (by omega)
    have HA2 := Lib.hid (HA.out.keep HB2.out.keeps HB2.out.le)
    obtain ⟨A1, c1, W1, hap1, ho1, hb1, _⟩ := ints_append (w0 := w2) (Bel.refl.alloc (.cells #[] 2)) (p := []) (World.ownsRow_made w2 #[] 0 (Nat.le_refl _) (by unfold maxLen; omega) (by simp)) (HA2.out.keep (Bel.refl.alloc (.cells #[] 2)).keeps (Bel.refl.alloc (.cells #[] 2)).le) (by simp) (by omega)
    rw [show ([] : List Int).length + a.length = a.length by simp] at hap1 ho1
    rw [List.nil_append] at ho1
    obtain ⟨A2, c2, W2, hap2, ho2, hb2, _⟩ := ints_append (w0 := w2) (p := a) (a := [-1]) (hb1.alloc (.cells #[.int .i64 (-1)] 2)) (ownsRow_bel ho1 (Bel.refl.alloc _)) (ints_one (RowAt.new W1 2 [.int .i64 (-1)])) (by omega) (by simp)
    rw [List.length_singleton] at hap2 ho2
    have HO2 := Lib.hid ho2
    have HBW2 := Lib.hid hb2
    clear ho1 ho2 hb1 hb2 HA2
    go_upto_region 5 with (first | (at_builtin; (with_reducible show wpList _ _ _ _ _ (World.alloc w2 _)); go_must (refine wpList_append_run rfl _ _ 23 rfl _ _ _ rfl rfl (hap1 _) ?_)) | (at_builtin; go_must (refine wpList_append_run rfl _ _ 23 rfl _ _ _ rfl rfl (hap2 _) ?_)))
    clear hap1 hap2
    generalize hW : World.alloc W2 _ = w3 at *
    have rg : RowAt w3 W2.heap.size 25 [.slice A2 (a.length + 1) c2, .int .i64 0, .bool false] := by rw [← hW]; exact RowAt.new _ _ _
    have hb3 : Bel W2 w3 := by rw [← hW]; exact Bel.refl.alloc _
    clear hW
    obtain ⟨p9, hp9⟩ : ∃ q, q = W2.heap.size := ⟨_, rfl⟩
    rw [← hp9] at rg ⊢
    clear hp9
    have HG93 := Lib.hid rg
    have HB3 := Lib.hid (HB2.out.trans (HBW2.out.trans hb3))
    have HR63 := Lib.hid (HR62.out.bel (HBW2.out.trans hb3))
    have HGI3 : Hid (IntsAt w3 w3.heap.size (.slice A2 (a.length + 1) c2) (a ++ [-1])) := Lib.hid (IntsAt.of_own (l := a ++ [-1]) (ownsRow_bel HO2.out hb3))
    clear rg hb3 HO2 HBW2 HB2 HR62
    have hgf : (goalA a).fits (((m + 1 : Nat) : Int)) = (⟨a, 0, false⟩ : AL).fits m := by rw [show ((m + 1 : Nat) : Int) = (m : Int) + 1 from rfl]; exact goal_fits
    have HVA := Lib.hid (rvalid_any (((m + 1 : Nat) : Int)) (goalA a) (.slice A2 (a.length + 1) c2) w3 HGI3.out (by unfold goalA; simp; omega))
    rw [hgf, show (goalA a).b = 0 from rfl, show (goalA a).s = false from rfl] at HVA
    have x0 := HG93.out.cell (i := 0) rfl
    have x1 := HG93.out.cell (i := 1) rfl
    have x2 := HG93.out.cell (i := 2) rfl
    have lx := HG93.out.lt
    clear hgf
    go_wp2_with fail
    refine HVA.out.mono ?_
    rintro e w4 ⟨rfl, hB⟩
    have HB4 := Lib.hid (HB3.out.trans hB)
    have HR64 := Lib.hid (HR63.out.bel hB)
    have HG94 := Lib.hid (HG93.out.bel hB)
    have HGI := Lib.hid (HGI3.out.keep hB.keeps hB.le)
    clear hB HVA HB3 HR63 HG93 HGI3 x0 x1 x2 lx
    cases hft : (⟨a, 0, false⟩ : AL).fits m
    · have HM9 : Hid (leastM m l a = (⟨0, 0⟩, false, 2)) := Lib.hid (by unfold leastM; rw [if_neg (by simp [HC.out]), if_pos hft])
      clear hft
      have r0 := HR64.out.cell (i := 0) rfl
      have r1 := HR64.out.cell (i := 1) rfl
      have fr := fun q => HR64.out.frozen q
      have lr := HR64.out.lt
      have HRN := Lib.hid ((HR64.out.set 0 (.int .i64 0)).set 1 (.int .i64 0))
      have HBN := Lib.hid ((HB4.out.set (p := ⟨p6, 0, none⟩) HP6.out (.int .i64 0)).set (p := ⟨p6, 1, none⟩) HP6.out (.int .i64 0))
      go_wp2
      generalize World.setCell (World.setCell _ _ _) _ _ = WN at *
      exact bodyPost_ret (v := .tuple #[.agg #[.int .i64 0, .int .i64 0], .bool false, .int .i64 2]) (rlea_res HRN.out rfl rfl rfl) rfl (lea_post (r := ⟨0, 0⟩) HM9.out HBN.out)
    · have HM := Lib.hid (leastM_ok2 HC.out hft)
      have hlen := fits_len hft
      have HGR := Lib.hid (goalA_inr hft)
      have HBR := Lib.hid (backA_inr hft)
      rw [Int.toNat_natCast] at HM
      have HALM : Hid (a.length = m) := Lib.hid (by simp only at hlen; omega)
      clear hft hlen
      go_wp2
      go_loopw [10, 11] (fun s10 s11 wq => ∃ (k : Nat) (y : Ext w4) (L : List (Value × AL)), k ≤ l.length ∧ s11 = .int .i64 k ∧ wq = y.w ∧ AR y.w w4.heap.size s10 L ∧ L.map Prod.snd = (l.take k).map extA) (fun _ s11 _ => l.length + 1 - (intOf s11).toNat)
      case atStart => exact ⟨0, ⟨_, Bel.refl⟩, [], Nat.zero_le _, rfl, rfl, AR.nil, rfl⟩
      case round =>
        obtain ⟨k, y, L, hk, rfl, rfl, har, hlm⟩ := hrel
        have HAR := Lib.hid har
        have HLM := Lib.hid hlm
        have HLk : Hid (L.length = k) := Lib.hid (by have := congrArg List.length hlm; simp at this; omega)
        obtain ⟨A10, c10, rfl, _⟩ := har.form
        clear har hlm
        have HBY := Lib.hid (HB4.out.trans y.bel)
        by_cases hlt : k < l.length
        · have hd : decide ((k : Int) < (l.length : Int)) = true := by simp; omega
          have hL : (k : Int) < (l.length : Int) := by omega
          have wk : IntKind.i64.wrap ((k : Int) + 1) = ((k + 1 : Nat) : Int) := IntWalk.i64_in _ (by omega)
          obtain ⟨g, off, rfl, hg0, hcl⟩ := H.out.at_ (by omega)
          obtain ⟨rv, ⟨d0, d1, d2⟩, hrv⟩ := hcl k hlt
          have x0 := (HBY.out.cells _ _ hg0).trans d0
          have x1 := (HBY.out.cells _ _ hg0).trans d1
          have x2 := (HBY.out.cells _ _ hg0).trans d2
          have hg := Nat.lt_of_lt_of_le hg0 HBY.out.le
          have HXI := Lib.hid (hrv.keep HBY.out.keeps HBY.out.le)
          have HXL := Lib.hid (HLA.out _ (alAt_mem hlt))
          have HTK := Lib.hid (take_al hlt)
          obtain ⟨Ax, cx, rfl, _⟩ := hrv.form
          clear hcl d0 d1 d2 hrv hg0
          generalize alAt l k = X at *
          go_upto_region 12 with (fail)
          generalize hW : World.alloc y.w _ = w5 at *
          have rx : RowAt w5 y.w.heap.size 25 [.slice Ax X.a.length cx, .int .i64 X.b, .bool X.s] := by rw [← hW]; exact RowAt.new _ _ _
          have hb5 : Bel y.w w5 := by rw [← hW]; exact Bel.refl.alloc _
          clear hW
          obtain ⟨p12, hp12⟩ : ∃ q, q = y.w.heap.size := ⟨_, rfl⟩
          rw [← hp12] at rx ⊢
          have HP12 : Hid (y.w.heap.size ≤ p12) := Lib.hid (by omega)
          clear hp12 x0 x1 x2 hg
          obtain ⟨A1, c1, W1, hap1, ho1, hb1, _⟩ := ints_append (w0 := w5) (Bel.refl.alloc (.cells #[] 2)) (p := []) (World.ownsRow_made w5 #[] 0 (Nat.le_refl _) (by unfold maxLen; omega) (by simp)) (HXI.out.keep (hb5.alloc (.cells #[] 2)).keeps (hb5.alloc (.cells #[] 2)).le) (by simp) (by have := HXL.out; omega)
          rw [show ([] : List Int).length + X.a.length = X.a.length by simp] at hap1
          rw [List.nil_append] at ho1
          rw [show ([] : List Int).length + X.a.length = X.a.length by simp] at ho1
          obtain ⟨A2, c2, W2, hap2, ho2, hb2, _⟩ := ints_append (w0 := w5) (p := X.a) (a := [0]) (hb1.alloc (.cells #[.int .i64 0] 2)) (ownsRow_bel ho1 (Bel.refl.alloc _)) (ints_one (RowAt.new W1 2 [.int .i64 0])) (by have := HXL.out; omega) (by simp)
          rw [List.length_singleton] at hap2 ho2
          have hr12 := rx.bel hb2
          have x0 := rx.cell (i := 0) rfl
          have lx := rx.lt
          have d0 := hr12.cell (i := 0) rfl
          have fd := fun q => hr12.frozen q
          have ld := hr12.lt
          have HR12 := Lib.hid (hr12.set 0 (.slice A2 (X.a.length + 1) c2))
          have HO12 := Lib.hid (own_farB ho2 hr12 line_ne_i64 (o := 0) (u := .slice A2 (X.a.length + 1) c2))
          have HB12 := Lib.hid ((hb5.trans hb2).set (p := ⟨p12, 0, none⟩) HP12.out (.slice A2 (X.a.length + 1) c2))
          have HS5 : Hid (w4.heap.size ≤ w5.heap.size) := Lib.hid (Nat.le_trans y.bel.le hb5.le)
          clear hr12 ho1 ho2 hb1 hb2 hb5 rx
          go_upto_region 13 with (first | (at_builtin; (with_reducible show wpList _ _ _ _ _ (World.alloc w5 _)); go_must (refine wpList_append_run rfl _ _ 23 rfl _ _ _ rfl rfl (hap1 _) ?_)) | (at_builtin; go_must (refine wpList_append_run rfl _ _ 23 rfl _ _ _ rfl rfl (hap2 _) ?_)))
          clear hap1 hap2 x0 lx d0 fd ld
          generalize World.setCell W2 _ _ = W3 at *
          have x0 := HR12.out.cell (i := 0) rfl
          have x1 := HR12.out.cell (i := 1) rfl
          have x2 := HR12.out.cell (i := 2) rfl
          have lx := HR12.out.lt
          obtain ⟨A4, c4, W4, hap, ha4, hb4, _⟩ := ar_append (w0 := w4) (p := ((.slice A2 (X.a.length + 1) c2, ⟨X.a ++ [0], X.b, X.s⟩) : Value × AL)) ((y.bel.trans HB12.out).alloc (.cells (arC ((.slice A2 (X.a.length + 1) c2, ⟨X.a ++ [0], X.b, X.s⟩) : Value × AL)).toArray 25)) (HAR.out.bel (HB12.out.alloc _) y.bel.le) (by have := HLk.out; omega) (RowAt.new W3 25 (arC ((.slice A2 (X.a.length + 1) c2, ⟨X.a ++ [0], X.b, X.s⟩) : Value × AL))) (.inr (own_base (ownsRow_bel HO12.out (Bel.refl.alloc _)) HS5.out)) rfl
          unfold arC at hap
          have HA4 := Lib.hid ha4
          have HB44 := Lib.hid hb4
          clear ha4 hb4
          go_wp2_with (at_builtin; go_must (refine wpList_append_run rfl _ _ 22 rfl _ _ _ rfl rfl (hap _) ?_))
          go_roundw
          case rel => exact ⟨k + 1, ⟨_, HB44.out⟩, L ++ [((.slice A2 (X.a.length + 1) c2, ⟨X.a ++ [0], X.b, X.s⟩) : Value × AL)], hlt, by go_num, rfl, HA4.out, by rw [List.map_append, HLM.out, HTK.out, List.map_append]; rfl⟩
          case measure => simp [intOf]; omega
        · obtain rfl : k = l.length := by omega
          have hd : decide ((l.length : Int) < (l.length : Int)) = false := by simp
          have HLM2 : Hid (L.map Prod.snd = l.map extA) := Lib.hid (by rw [HLM.out, List.take_length])
          clear HLM
          have HR6y := Lib.hid (HR64.out.bel y.bel)
          have HG9y := Lib.hid (HG94.out.bel y.bel)
          have HGIy := Lib.hid (HGI.out.keep y.bel.keeps y.bel.le)
          have hrow : some p9 ≠ (Value.slice A10 L.length c10).ownBlock := fun e => by have := (HAR.out.lt p9 e.symm).1; have := HG94.out.lt; omega
          have hrow6 : some p6 ≠ (Value.slice A10 L.length c10).ownBlock := fun e => by have := (HAR.out.lt p6 e.symm).1; have := HR64.out.lt; omega
          have HROW6 := Lib.hid hrow6
          have HSY := Lib.hid y.bel.le
          have HYB := Lib.hid y.bel
          clear hrow6
          generalize y.w = wy at *
          go_upto_region 14 with (fail)
          have x0 := HG9y.out.cell (i := 0) rfl
          have x1 := HG9y.out.cell (i := 1) rfl
          have x2 := HG9y.out.cell (i := 2) rfl
          have lx := HG9y.out.lt
          (refine wp_region_E 8 (Value.slice A10 L.length c10).ownBlock (by kernel_rfl) ?_; refine anyE_takes [0, 1, 2] (fun _ _ _ _ _ h => h) ⟨⟨_, gro_drew (gro_refl _)⟩, rfl⟩ (by kernel_rfl) (by rfl) ?_; simp only [opsOf, List.filterMap_cons, List.filterMap_nil, List.getElem?_toArray, List.getElem?_cons_succ, List.getElem?_cons_zero, List.foldl_cons, List.foldl_nil]; (repeat (any_goals (first | go_big_quiet_step (fail) | quiet_step (fail)))); refine wpQuiet_nil ?_)
          have G0 : Hid (wy.grownBy wy.drew (Value.slice A10 L.length c10).ownBlock) := Lib.hid (gro_drew (gro_refl _))
          have HB0 := Lib.hid HYB.out.drew
          have HAR0 := Lib.hid (HAR.out.bel (Bel.refl (w := wy)).drew HSY.out)
          have HGI0 := Lib.hid (HGIy.out.keep (Bel.refl (w := wy)).drew.keeps (Bel.refl (w := wy)).drew.le)
          have HGK0 : Hid (IntsK wy.drew w4.heap.size (.slice A2 (a.length + 1) c2) (a ++ [-1])) := Lib.hid (.inl (HGI.out.keep HB0.out.keeps (Nat.le_refl _)))
          clear x0 x1 x2 lx hrow HAR
          generalize wy.drew = W0 at *
          have HOP := Lib.hid (ropp_any (goalA a) (.slice A2 (a.length + 1) c2) W0 HGI0.out (by have := HALM.out; unfold goalA; simp; omega) HGR.out)
          unfold AlPost at HOP
          have hgb : (goalA a).b = 0 := rfl
          have hgs : (goalA a).s = false := rfl
          rw [hgb, hgs] at HOP
          clear hgb hgs
          (refine anyE_one 3 _ (by kernel_rfl) (by rfl) (fun K hK => ?_))
          rw [if_pos (by rfl)]
          go_simp
          refine HOP.out.mono ?_
          rintro _ W1 ⟨rv, rfl, hro, hB⟩
          have G1 : Hid (wy.grownBy W1 (Value.slice A10 L.length c10).ownBlock) := Lib.hid (G0.out.trans (gro_weak (gro_of_bel2 hB) _))
          refine hK _ _ (fun _ => ⟨⟨_, G1.out⟩, rfl⟩) ?_
          clear hK K HOP
          have HB1 := Lib.hid (HB0.out.trans hB)
          have HAR1 := Lib.hid (HAR0.out.bel hB HB0.out.le)
          have HGK1 := Lib.hid (HGK0.out.bel hB HB0.out.le)
          have HRV : Hid (IntsK W1 w4.heap.size rv (backA a).a) := Lib.hid (.inr (own_base hro HB0.out.le))
          obtain ⟨Az, cz, rfl, _⟩ := own_slice hro
          clear hro hB HAR0 HGK0 HB0
          generalize hoz : (oppA (goalA a)).a.length = oz at *
          clear hoz
          (refine anyE_one 4 _ (by kernel_rfl) (by rfl) (fun K hK => ?_))
          rw [if_pos (by rfl)]
          go_simp
          refine hK _ _ (fun _ => ⟨⟨_, G1.out⟩, rfl⟩) ?_
          clear hK K
          (refine anyE_one 5 _ (by kernel_rfl) (by rfl) (fun K hK => ?_))
          rw [if_pos (by rfl)]
          go_simp
          refine hK _ _ (fun _ => ⟨⟨_, G1.out⟩, rfl⟩) ?_
          clear hK K
          obtain ⟨P1, hP1⟩ : ∃ P1 : Value × AL, P1 = (.slice A2 (a.length + 1) c2, goalA a) := ⟨_, rfl⟩
          obtain ⟨P2, hP2⟩ : ∃ P2 : Value × AL, P2 = (.slice Az oz cz, backA a) := ⟨_, rfl⟩
          have hLl : L.length ≤ 1000000 := by have := HLk.out; omega
          obtain ⟨A4, c4, W4, hap, ha4, hb4, hg4⟩ := ar_append2 (w0 := w4) (p := P1) (p2 := P2) (HB1.out.alloc (.cells (arC P1 ++ arC P2).toArray 25)) (HAR1.out.bel (Bel.refl.alloc _) HB1.out.le) hLl (RowAt.new W1 25 (arC P1 ++ arC P2)) (by rw [hP1]; exact HGK1.out.bel (Bel.refl.alloc _) HB1.out.le) (by rw [hP2]; exact HRV.out.bel (Bel.refl.alloc _) HB1.out.le) (by rw [hP1]; rfl) (by rw [hP2]; rfl)
          have G2 := Lib.hid (gro_alloc G1.out (.cells (arC P1 ++ arC P2).toArray 25))
          have G4 := Lib.hid (G2.out.trans hg4)
          have hmm : (L ++ [P1, P2]).map Prod.snd = l.map extA ++ [goalA a, backA a] := by rw [List.map_append, HLM2.out, hP1, hP2]; rfl
          have hl4 := ha4.lines hb4.le
          rw [hmm] at hl4
          have HL4 := Lib.hid hl4
          have HB44 := Lib.hid (HB4.out.trans hb4)
          have HR6w := Lib.hid (HR6y.out.gro G4.out HROW6.out)
          clear ha4 hb4 hg4 hmm hl4
          rw [hP1, hP2] at hap G2
          unfold arC at hap G2
          dsimp only [goalA, backA] at hap G2
          (refine anyE_one 6 _ (by kernel_rfl) (by rfl) (fun K hK => ?_))
          rw [if_pos (by rfl)]
          go_simp
          refine hK _ _ (fun _ => ⟨⟨_, G2.out⟩, rfl⟩) ?_
          clear hK K
          (refine anyE_one 7 _ (by kernel_rfl) (by rfl) (fun K hK => ?_))
          rw [if_pos (by rfl)]
          refine oper_append_run _ _ 22 rfl _ _ _ rfl rfl (hap _) (hK _ _ (fun _ => ⟨⟨_, G4.out⟩, rfl⟩) ?_)
          simp only [Act.put, List.setIfInBounds_toArray, List.set_cons_zero, List.set_cons_succ]
          clear hK K hap
          (refine anyE_tail 8 (by decide) (by rfl) (by kernel_rfl) ?_; simp only [List.drop_succ_cons, List.drop_zero])
          go_wp2
          refine NoPanic.normal ?_
          have HLL0 : Hid ((l.map extA ++ [goalA a, backA a]).length = L.length + 2) := Lib.hid (by have := HLk.out; simp; omega)
          have HLX : Hid (∀ x, x ∈ l.map extA ++ [goalA a, backA a] → x.a.length = m + 1) := Lib.hid (fun x hx => by
            rcases List.mem_append.1 hx with q | q
            · obtain ⟨z, hz, rfl⟩ := List.mem_map.1 q
              have := HLA.out z hz
              unfold extA; simp; omega
            · simp only [List.mem_cons, List.not_mem_nil, or_false] at q
              rcases q with rfl | rfl
              · have := HALM.out; unfold goalA; simp; omega
              · have := HALM.out; unfold backA goalA oppA; simp; omega)
          have HIX : Hid (∀ x, x ∈ l.map extA ++ [goalA a, backA a] → x.inr) := Lib.hid (fun x hx => by
            rcases List.mem_append.1 hx with q | q
            · obtain ⟨z, hz, rfl⟩ := List.mem_map.1 q
              exact extA_inr (HLI0.out z hz)
            · simp only [List.mem_cons, List.not_mem_nil, or_false] at q
              rcases q with rfl | rfl
              · exact HGR.out
              · exact HBR.out)
          have HPA := Lib.hid (ext_all (l := l) (a := a) (fun x hx => by have := HLA.out x hx; omega) (by have := HALM.out; omega))
          clear G0 G1 G2 G4 HAR1 HGK1 HRV HB1
          rw [← HLL0.out] at HL4 ⊢
          generalize l.map extA ++ [goalA a, backA a] = LL at *
          have hT := tidy_pad (n := m + 1) (by omega) HLX.out
          have HTL := Lib.hid (tidyA_len (n := m + 1) (by omega) HLX.out)
          have HTI := Lib.hid (tidyA_inr (n := m + 1) (by omega) HLX.out HIX.out)
          have HTD := Lib.hid (rtidy_any (m + 1) _ LL W4 HL4.out (by omega) (by have := HLL0.out; have := HLk.out; omega) (fun x hx => by have := HLX.out x hx; omega) (fun x hx => (HIX.out x hx).wf))
          have hDP := downB_pad m (l := tidyA (m + 1) LL) (by omega) hT.2
          rw [hT.1, HPA.out] at hDP
          have HDP := Lib.hid hDP
          have HTN := Lib.hid hT.2
          unfold LinPost at HTD
          clear hT hDP HPA HLX HIX
          generalize tidyA (m + 1) LL = T at *
          go_wp2_with fail
          refine HTD.out.mono ?_
          rintro e w6 ⟨v6, rfl, hlT, hB⟩
          have HB6 := Lib.hid (HB44.out.trans hB)
          have HR66 := Lib.hid (HR6w.out.bel hB)
          have HLT := Lib.hid hlT
          obtain ⟨A6, c6, rfl, _⟩ := hlT.form
          clear hlT hB HTD HL4 HB44 HR6w HR6y HG9y HGIy HGI0
          have wm1 : IntKind.i64.wrap ((m : Int) - 1) = (m : Int) - 1 := IntWalk.i64_in _ (by omega)
          go_wp2
          clear wm1
          go_loopw [8, 10, 13] (fun s8 s10 s13 wq => ∃ (j : Nat) (z : Ext w6) (d : List AL) (i : Int), j ≤ m ∧ i = (j : Int) - 1 ∧ s8 = .int .i64 0 ∧ s13 = .int .i64 i ∧ wq = z.w ∧ LinesAt z.w z.w.heap.size s10 d ∧ d.length ≤ 2000 ∧ (∀ x, x ∈ d → x.a.length = j + 1) ∧ (∀ x, x ∈ d → x.inr) ∧ downB j d = downB m T) (fun _ _ s13 _ => (intOf s13 + 2).toNat)
          case atStart => exact ⟨m, ⟨w6, Bel.refl⟩, T, _, Nat.le_refl _, rfl, rfl, rfl, rfl, HLT.out, by have := HTL.out; have := HLL0.out; have := HLk.out; omega, HTN.out, HTI.out, rfl⟩
          case round =>
            clear HLT
            obtain ⟨j, z, d, i, hj, hi, rfl, rfl, rfl, hd, hdl, hdn, hdi, hor⟩ := hrel
            have HLD0 := Lib.hid hd
            obtain ⟨A10, c10, rfl, _⟩ := hd.form
            have HI := Lib.hid hdi
            have HN := Lib.hid hdn
            have HO := Lib.hid hor
            clear hd hdi hdn hor
            have HBZ2 := Lib.hid (HB6.out.trans z.bel)
            have HR6z2 := Lib.hid (HR66.out.bel z.bel)
            cases j with
            | zero =>
              have hd1 : decide (i ≥ 0) = false := decide_eq_false (by omega)
              have hd2 : decide (0 ≤ i) = false := decide_eq_false (by omega)
              have HO2 : Hid (downB m T = (d, 0)) := Lib.hid (by rw [← HO.out]; rfl)
              obtain ⟨D, hD⟩ : ∃ D, D = d := ⟨d, rfl⟩
              subst hD
              have hdp := HDP.out
              rw [HO2.out] at hdp
              dsimp only at hdp
              have HM7 : Hid (leastM m l a = leastR (padAll D, 0)) := Lib.hid (by
                rw [HM.out]; congr 1; exact Prod.ext hdp.1.symm hdp.2.1.symm)
              have HDX := Lib.hid hdp.2.2
              have HDI := Lib.hid HI.out
              have HZ : Hid (∀ x, x ∈ D → cA x 0 ≠ 0 → (padAll D).any (fun x => decide (ci x 0 = 0)) = false) := Lib.hid (fun x hx h0 => by
                have := least_any_false (m := m) (X := padAll l ++ [goalL a, backL a]) hdp.2.1.symm hdp.1 hdp.2.2 hx h0
                rwa [← hdp.1] at this)
              generalize z.w = w6' at *
              have HLD' := HLD0
              clear HO HO2 HDP HM HN HI hdp HLD0 hi
              go_upto_region 23 with (fail)
              generalize hW : World.alloc w6' _ = w7 at *
              have re : RowAt w7 w6'.heap.size 87 (enC zeroE zeroE) := by rw [← hW]; exact RowAt.new w6' 87 (enC zeroE zeroE)
              have hb7 : Bel w6' w7 := by rw [← hW]; exact Bel.refl.alloc _
              clear hW
              obtain ⟨pb, hpb⟩ : ∃ q, q = w6'.heap.size := ⟨_, rfl⟩
              rw [← hpb] at re ⊢
              have HPB : Hid (w6'.heap.size ≤ pb) := Lib.hid (by omega)
              have HN6 : Hid (p6 < pb) := Lib.hid (by have := HR6z2.out.lt; omega)
              clear hpb
              have HE7 := Lib.hid re
              have HB67 := Lib.hid hb7
              have HB7 := Lib.hid HBZ2.out
              have HR67 := Lib.hid HR6z2.out
              have HLD := HLD'
              clear re hb7 HBZ2 HR6z2 HLD'
              go_wp2
              go_loopw [8, 15] (fun s8 s15 wr => ∃ (k : Nat) (z3 : Ext w6') (lo hi : En), k ≤ D.length ∧ s8 = .int .i64 0 ∧ s15 = .int .i64 k ∧ wr = z3.w ∧ RowAt z3.w pb 87 (enC lo hi) ∧ lo.at_.wf ∧ hi.at_.wf ∧ endsF [] (padAll (D.drop k)) lo hi = endsM [] (padAll D) ∧ (0 < k → (padAll D).any (fun x => decide (ci x 0 = 0)) = false)) (fun _ s15 _ => D.length + 1 - (intOf s15).toNat)
              case atStart => exact ⟨0, ⟨_, HB67.out⟩, zeroE, zeroE, Nat.zero_le _, rfl, rfl, rfl, HE7.out, zeroE_wf, zeroE_wf, rfl, fun h => absurd h (by omega)⟩
              case round =>
                clear HE7 HB67
                obtain ⟨k, z3, lo, hi, hk, rfl, rfl, rfl, hre, hlw, hhw, hen, hany⟩ := hrel
                have HRE := Lib.hid hre
                have HEN := Lib.hid hen
                have HANY := Lib.hid hany
                have HBZ := Lib.hid (HB7.out.trans z3.bel)
                have HR6z := Lib.hid (HR67.out.bel z3.bel)
                clear hre hen hany
                by_cases hkl : k < D.length
                · have hkd : decide ((k : Int) < (D.length : Int)) = true := decide_eq_true (by omega)
                  have hkL : (k : Int) < (D.length : Int) := by omega
                  have wk : IntKind.i64.wrap ((k : Int) + 1) = ((k + 1 : Nat) : Int) := IntWalk.i64_in _ (by omega)
                  obtain ⟨g, off, rfl, hg0, hcl⟩ := HLD.out.at_ (by omega)
                  obtain ⟨rv, ⟨d0, d1, d2⟩, hrv⟩ := hcl k hkl
                  have x0 := (z3.bel.cells _ _ hg0).trans d0
                  have x1 := (z3.bel.cells _ _ hg0).trans d1
                  have x2 := (z3.bel.cells _ _ hg0).trans d2
                  have hg := Nat.lt_of_lt_of_le hg0 z3.bel.le
                  have HXI := Lib.hid (hrv.keep z3.bel.keeps z3.bel.le)
                  have HXN := Lib.hid (HDX.out _ (alAt_mem hkl))
                  have HXR := Lib.hid (HDI.out _ (alAt_mem hkl))
                  have HZF := Lib.hid (fun h0 => HZ.out _ (alAt_mem hkl) h0)
                  have HZT : Hid (cA (alAt D k) 0 = 0 → (padAll D).any (fun x => decide (ci x 0 = 0)) = true) := Lib.hid (fun h0 => List.any_eq_true.2 ⟨padL (alAt D k), List.mem_map_of_mem (alAt_mem hkl), by rw [decide_eq_true_eq, ci_pad (by have := HXN.out; omega)]; exact h0⟩)
                  rw [al_drop_pad hkl] at HEN
                  obtain ⟨Ax, cx, rfl, _⟩ := hrv.form
                  clear hcl d0 d1 d2 hrv hg0
                  generalize alAt D k = X at *
                  obtain ⟨gx, ox, rfl, hgx, hcx⟩ := HXI.out.at_ (by have := HXN.out; omega)
                  have yc := hcx 0 (by have := HXN.out; omega)
                  rw [show X.a.getD 0 0 = cA X 0 from rfl, Nat.add_zero] at yc
                  have hcip : ci (padL X) 0 = cA X 0 := ci_pad (by have := HXN.out; omega) 0
                  have HCI := Lib.hid hcip
                  have hki : (0 : Int) < (X.a.length : Int) := by have := HXN.out; omega
                  clear hcx hcip
                  by_cases hz : cA X 0 = 0
                  · have dz : (cA X 0 == 0) = true := by simp [hz]
                    have HM9 : Hid (leastM m l a = (⟨0, 0⟩, false, 4)) := Lib.hid (by
                      rw [HM7.out]; unfold leastR; dsimp only; rw [if_neg (by simp), if_pos (HZT.out hz)])
                    clear hz HEN HCI HZF HZT
                    generalize cA X 0 = ck at *
                    have r0 := HR6z.out.cell (i := 0) rfl
                    have r1 := HR6z.out.cell (i := 1) rfl
                    have fr := fun q => HR6z.out.frozen q
                    have lr := HR6z.out.lt
                    have HRN := Lib.hid ((HR6z.out.set 0 (.int .i64 0)).set 1 (.int .i64 0))
                    have HBN := Lib.hid ((HBZ.out.set (p := ⟨p6, 0, none⟩) HP6.out (.int .i64 0)).set (p := ⟨p6, 1, none⟩) HP6.out (.int .i64 0))
                    go_wp2
                    generalize World.setCell (World.setCell _ _ _) _ _ = WN at *
                    exact bodyPost_ret (v := .tuple #[.agg #[.int .i64 0, .int .i64 0], .bool false, .int .i64 4]) (rlea_res HRN.out rfl rfl rfl) rfl (lea_post (r := ⟨0, 0⟩) HM9.out HBN.out)
                  · have dz : (cA X 0 == 0) = false := by simp [hz]
                    have HNZ : Hid (ci (padL X) ([] : List Rt).length ≠ 0) := Lib.hid (by show ci (padL X) 0 ≠ 0; rw [HCI.out]; exact hz)
                    have HAF := Lib.hid (HZF.out hz)
                    have HBD := Lib.hid (rbounds_any pb lo hi X (.slice (some ⟨gx, ox, none⟩) X.a.length cx) (.slice none 0 0) [] z3.w HRE.out hlw hhw HXI.out (by have := HXN.out; omega) (by show 0 < X.a.length; have := HXN.out; omega) HXR.out RdAt.nil (by simp))
                    have hcc : cA X ([] : List Rt).length = ci (padL X) ([] : List Rt).length := (ci_pad (by have := HXN.out; omega) 0).symm
                    unfold BdPost at HBD
                    rw [hcc] at HBD
                    have HPS : Hid ((padL X).s = X.s) := Lib.hid rfl
                    clear hz HCI hcc HZF HZT
                    generalize cA X 0 = ck at *
                    go_wp2_with fail
                    refine HBD.out.mono ?_
                    rintro e w9 (⟨hvn, er, her, rfl, hgr⟩ | ⟨r, hvs, rfl, hgr, hrw⟩)
                    · have HEE := Lib.hid (ends_bad (t := padAll (D.drop (k + 1))) (lo := lo) (hi := hi) HNZ.out hvn)
                      have HM9 : Hid (leastM m l a = (⟨0, 0⟩, false, 7)) := Lib.hid (by
                        rw [HM7.out]; unfold leastR; dsimp only; rw [if_neg (by simp), if_neg (by rw [HAF.out]; simp), ← HEN.out, HEE.out]; rfl)
                      have t1 : (er != 0) = true := by simp [her]
                      have HB9 := Lib.hid (HB7.out.trans (grs_bel2 z3.bel HPB.out hgr))
                      have HR69 := Lib.hid (HR67.out.bel (grs_bel2 z3.bel HPB.out hgr))
                      clear hvn her hgr HEE HEN HBD x0 x1 x2 hg yc hgx
                      have r0 := HR69.out.cell (i := 0) rfl
                      have r1 := HR69.out.cell (i := 1) rfl
                      have fr := fun q => HR69.out.frozen q
                      have lr := HR69.out.lt
                      have HRN := Lib.hid ((HR69.out.set 0 (.int .i64 0)).set 1 (.int .i64 0))
                      have HBN := Lib.hid ((HB9.out.set (p := ⟨p6, 0, none⟩) HP6.out (.int .i64 0)).set (p := ⟨p6, 1, none⟩) HP6.out (.int .i64 0))
                      go_wp2
                      generalize World.setCell (World.setCell _ _ _) _ _ = WN at *
                      exact bodyPost_ret (v := .tuple #[.agg #[.int .i64 0, .int .i64 0], .bool false, .int .i64 7]) (rlea_res HRN.out rfl rfl rfl) rfl (lea_post (r := ⟨0, 0⟩) HM9.out HBN.out)
                    · have HEE := Lib.hid (ends_put (t := padAll (D.drop (k + 1))) (lo := lo) (hi := hi) HNZ.out hvs)
                      have HWW := Lib.hid (bd_wf hlw hhw hvs (0 < ci (padL X) ([] : List Rt).length) X.s)
                      have t1 : ((0 : Int) != 0) = false := rfl
                      rw [HPS.out] at HEE
                      have HRW := Lib.hid hrw
                      have HB9 := Lib.hid (grs_bel2 z3.bel HPB.out hgr)
                      have HEN2 := Lib.hid (HEE.out.symm.trans HEN.out)
                      clear hvs hgr hrw HEE HEN HBD x0 x1 x2 hg yc hgx hlw hhw
                      generalize (if 0 < ci (padL X) ([] : List Rt).length then lo else nearM lo r X.s (-1)) = lo2 at *
                      generalize (if 0 < ci (padL X) ([] : List Rt).length then nearM hi r X.s 1 else hi) = hi2 at *
                      go_wp2
                      go_roundw
                      case rel => exact ⟨k + 1, ⟨_, HB9.out⟩, lo2, hi2, hkl, rfl, by go_num, rfl, HRW.out, HWW.out.1, HWW.out.2, HEN2.out, fun _ => HAF.out⟩
                      case measure => simp [intOf]; omega
                · obtain rfl : k = D.length := by omega
                  have hkd : decide ((D.length : Int) < (D.length : Int)) = false := by simp
                  have HEM : Hid (endsM [] (padAll D) = (lo, hi, 0)) := Lib.hid (by rw [← HEN.out, List.drop_length]; rfl)
                  have HAF : Hid ((padAll D).any (fun x => decide (ci x 0 = 0)) = false) := Lib.hid (by
                    rcases Nat.eq_zero_or_pos D.length with q | q
                    · rw [List.length_eq_zero_iff.1 q]; rfl
                    · exact HANY.out q)
                  have HM8 : Hid (leastM m l a = leastE (lo, hi, 0)) := Lib.hid (by
                    rw [HM7.out]; unfold leastR; dsimp only; rw [if_neg (by simp), if_neg (by rw [HAF.out]; simp), HEM.out])
                  have HCP := Lib.hid (fun W => rrcmp_any lo.at_ hi.at_ W hlw hhw)
                  have HCR := Lib.hid (rcmp_r lo.at_ hi.at_)
                  have HVB : Hid (voidB lo hi = (hi.is && (decide (0 < (rcmp lo.at_ hi.at_).1) || decide ((rcmp lo.at_ hi.at_).1 = 0) && (lo.op || hi.op)))) := Lib.hid rfl
                  have HNE : Hid (noneE lo hi = (!lo.is || voidB lo hi)) := Lib.hid rfl
                  have HN1 := Lib.hid (leastE_none (lo := lo) (hi := hi))
                  have HN2 := Lib.hid (leastE_some (lo := lo) (hi := hi))
                  clear HEN HEM HAF HANY HM7 hlw hhw
                  generalize rcmp lo.at_ hi.at_ = C at *
                  unfold Rt.V intV En.at_ at HCP
                  obtain ⟨ck, ce⟩ := C
                  dsimp only at HCP HCR HVB
                  generalize z3.w = w8 at *
                  have e0 := HRE.out.cell (i := 0) rfl
                  have e1 := HRE.out.cell (i := 1) rfl
                  have e2 := HRE.out.cell (i := 2) rfl
                  have e3 := HRE.out.cell (i := 3) rfl
                  have e4 := HRE.out.cell (i := 4) rfl
                  have e5 := HRE.out.cell (i := 5) rfl
                  have e6 := HRE.out.cell (i := 6) rfl
                  have e7 := HRE.out.cell (i := 7) rfl
                  have le := HRE.out.lt
                  try dsimp only at e0 e1 e2 e3 e4 e5 e6 e7
                  go_upto_region 31 with (fail)
                  (refine wp_region_ext (wb := w8) (by (repeat (first | exact Ext.bel _ | exact Bel.refl | refine Bel.alloc ?_ _ | refine Bel.drew ?_ | refine Bel.drewN ?_ _))) (by kernel_rfl) (by kernel_rfl) ?_; (repeat (any_goals (first | go_big_quiet_step ((go_at_call 22; with_reducible exact ext_call (HCP.out _))) | quiet_step ((go_at_call 22; with_reducible exact ext_call (HCP.out _))) | (refine wpQuiet_step (fun K hK => ?_); go_simp; split <;> (refine hK _ ?_; clear hK K))))); all_goals (refine wpQuiet_nil ?_; intro _ hw'; obtain ⟨y, hw''⟩ := hw'; subst hw''))
                  have HB9 := Lib.hid (HBZ.out.trans y.bel)
                  have HRE9 := Lib.hid (HRE.out.bel y.bel)
                  have HR69 := Lib.hid (HR6z.out.bel y.bel)
                  clear HCP HBZ HRE HR6z e0 e1 e2 e3 e4 e5 e6 e7 le
                  generalize y.w = w9 at *
                  have e0 := HRE9.out.cell (i := 0) rfl
                  have e1 := HRE9.out.cell (i := 1) rfl
                  have e2 := HRE9.out.cell (i := 2) rfl
                  have e3 := HRE9.out.cell (i := 3) rfl
                  have e4 := HRE9.out.cell (i := 4) rfl
                  have e5 := HRE9.out.cell (i := 5) rfl
                  have e6 := HRE9.out.cell (i := 6) rfl
                  have e7 := HRE9.out.cell (i := 7) rfl
                  have le := HRE9.out.lt
                  try dsimp only at e0 e1 e2 e3 e4 e5 e6 e7
                  go_upto_region 32 with (fail)
                  go_cut [156] from 126 to 156 (fun s156 wx => s156 = .bool (noneE lo hi) ∧ w9 = wx)
                  case first =>
                    cases h1 : lo.is
                    · rw [h1] at e4
                      have HV : Hid (noneE lo hi = true) := Lib.hid (by rw [HNE.out, h1]; rfl)
                      clear h1 HVB HNE
                      go_wp2
                      go_meet
                      case rel => exact ⟨by rw [HV.out], rfl⟩
                    · rw [h1] at e4
                      cases h2 : hi.is
                      · rw [h2] at e5
                        have HV : Hid (noneE lo hi = false) := Lib.hid (by rw [HNE.out, h1, HVB.out, h2]; rfl)
                        clear h1 h2 HVB HNE
                        go_wp2
                        go_meet
                        case rel => exact ⟨by rw [HV.out], rfl⟩
                      · rw [h2] at e5
                        rcases HCR.out with rfl | rfl | rfl
                        · have d1 : decide ((-1 : Int) > 0) = false := rfl
                          have d2 : ((-1 : Int) == 0) = false := rfl
                          have HV : Hid (noneE lo hi = false) := Lib.hid (by rw [HNE.out, h1, HVB.out, h2]; rfl)
                          clear h1 h2 HVB HNE HCR
                          go_wp2
                          go_meet
                          case rel => exact ⟨by rw [HV.out], rfl⟩
                        · have d1 : decide ((0 : Int) > 0) = false := rfl
                          have d2 : ((0 : Int) == 0) = true := rfl
                          cases h3 : lo.op
                          · rw [h3] at e6
                            cases h4 : hi.op
                            all_goals
                              rw [h4] at e7
                              have HV := Lib.hid (by rw [HNE.out, h1, HVB.out, h2, h3, h4]; rfl : noneE lo hi = hi.op)
                              rw [h4] at HV
                              clear h1 h2 h3 h4 HVB HNE HCR
                              go_wp2
                              go_meet
                              case rel => exact ⟨by rw [HV.out], rfl⟩
                          · rw [h3] at e6
                            have HV : Hid (noneE lo hi = true) := Lib.hid (by rw [HNE.out, h1, HVB.out, h2, h3]; rfl)
                            clear h1 h2 h3 HVB HNE HCR
                            go_wp2
                            go_meet
                            case rel => exact ⟨by rw [HV.out], rfl⟩
                        · have d1 : decide ((1 : Int) > 0) = true := rfl
                          have d2 : ((1 : Int) == 0) = false := rfl
                          have HV : Hid (noneE lo hi = true) := Lib.hid (by rw [HNE.out, h1, HVB.out, h2]; rfl)
                          clear h1 h2 HVB HNE HCR
                          go_wp2
                          go_meet
                          case rel => exact ⟨by rw [HV.out], rfl⟩
                  case rest =>
                    obtain ⟨rfl, rfl⟩ := hcut
                    clear HVB HNE HCR
                    cases hv : noneE lo hi
                    · have HM9 : Hid (leastM m l a = (⟨lo.n, lo.d⟩, !lo.op, 0)) := Lib.hid (by rw [HM8.out]; exact HN2.out hv)
                      have r0 := HR69.out.cell (i := 0) rfl
                      have r1 := HR69.out.cell (i := 1) rfl
                      have lr := HR69.out.lt
                      clear hv HN1 HN2 HM8
                      go_upto_region 34 with (fail)
                      have hne : some pb ≠ some p6 := by have := HN6.out; intro e; injection e; omega
                      (refine wp_region_E 10 (some p6) (by kernel_rfl) ?_; refine anyE_takes [0, 1, 2, 3, 4, 5, 6, 7, 8] (fun _ _ _ _ _ h => h) ⟨⟨_, gro_drew (gro_refl _)⟩, rfl⟩ (by kernel_rfl) (by rfl) ?_; simp only [opsOf, List.filterMap_cons, List.filterMap_nil, List.getElem?_toArray, List.getElem?_cons_succ, List.getElem?_cons_zero, List.foldl_cons, List.foldl_nil]; (repeat (any_goals (first | go_big_quiet_step (fail) | quiet_step (fail)))); refine wpQuiet_nil ?_)
                      have HB10 := Lib.hid HB9.out.drew
                      have HR610 := Lib.hid HR69.out.drew
                      have G0 : Hid (w9.grownBy w9.drew (some p6)) := Lib.hid (gro_drew (gro_refl _))
                      clear e0 e1 e2 e3 e4 e5 e6 e7 le r0 r1 lr HB9 HR69 HRE9 hne
                      generalize w9.drew = w10 at *
                      have r0 := HR610.out.cell (i := 0) rfl
                      have r1 := HR610.out.cell (i := 1) rfl
                      have fr := fun q => HR610.out.frozen q
                      have lr := HR610.out.lt
                      have HRN := Lib.hid ((HR610.out.set 0 (.int .i64 lo.n)).set 1 (.int .i64 lo.d))
                      have HBN := Lib.hid ((HB10.out.set (p := ⟨p6, 0, none⟩) HP6.out (.int .i64 lo.n)).set (p := ⟨p6, 1, none⟩) HP6.out (.int .i64 lo.d))
                      (refine anyE_one 9 _ (by kernel_rfl) (by rfl) (fun K hK => ?_))
                      rw [if_pos (by rfl)]
                      go_simp
                      refine hK _ _ (fun _ => ⟨⟨_, gro_set (gro_set G0.out 0 _) 1 _⟩, rfl⟩) ?_
                      clear hK K r0 r1 fr lr
                      generalize World.setCell (World.setCell _ _ _) _ _ = WN at *
                      (refine anyE_tail 10 (by decide) (by rfl) (by kernel_rfl) ?_; simp only [List.drop_succ_cons, List.drop_zero])
                      go_wp2
                      refine NoPanic.normal ?_
                      go_wp2
                      exact bodyPost_ret (v := .tuple #[.agg #[.int .i64 lo.n, .int .i64 lo.d], .bool (!lo.op), .int .i64 0]) (rlea_res HRN.out rfl rfl rfl) rfl (lea_post (r := ⟨lo.n, lo.d⟩) HM9.out HBN.out)
                    · have HM9 : Hid (leastM m l a = (⟨0, 0⟩, false, 4)) := Lib.hid (by rw [HM8.out]; exact HN1.out hv)
                      clear hv HN1 HN2 HM8
                      have r0 := HR69.out.cell (i := 0) rfl
                      have r1 := HR69.out.cell (i := 1) rfl
                      have fr := fun q => HR69.out.frozen q
                      have lr := HR69.out.lt
                      have HRN := Lib.hid ((HR69.out.set 0 (.int .i64 0)).set 1 (.int .i64 0))
                      have HBN := Lib.hid ((HB9.out.set (p := ⟨p6, 0, none⟩) HP6.out (.int .i64 0)).set (p := ⟨p6, 1, none⟩) HP6.out (.int .i64 0))
                      go_wp2
                      generalize World.setCell (World.setCell _ _ _) _ _ = WN at *
                      exact bodyPost_ret (v := .tuple #[.agg #[.int .i64 0, .int .i64 0], .bool false, .int .i64 4]) (rlea_res HRN.out rfl rfl rfl) rfl (lea_post (r := ⟨0, 0⟩) HM9.out HBN.out)
            | succ j =>
              obtain rfl : i = (j : Int) := by omega
              have hd1 : decide ((j : Int) ≥ 0) = true := decide_eq_true (by omega)
              have hd2 : decide ((0 : Int) ≤ (j : Int)) = true := decide_eq_true (by omega)
              have wi : IntKind.i64.wrap ((j : Int) - 1) = (j : Int) - 1 := IntWalk.i64_in _ (by omega)
              have wi2 : IntKind.i64.wrap ((j : Int) + 2) = ((j + 2 : Nat) : Int) := IntWalk.i64_in _ (by omega)
              have hdn1 : ∀ x, x ∈ d → x.a.length = j + 2 := fun x hx => by have := HN.out x hx; omega
              have HLV := Lib.hid (rleave_any (j + 2) j _ d z.w HLD0.out hdl (by omega) (by omega) hdn1 HI.out)
              have hun : downB (j + 1) d = if (leaveA d (j + 2) j).2 = 0 then downB j (leaveA d (j + 2) j).1 else ([], (leaveA d (j + 2) j).2) := rfl
              have HLL := Lib.hid (leaveA_len (n := j + 2) (i := j) (by omega) (by omega) hdn1)
              have HLI := Lib.hid (leaveA_inr (n := j + 2) (i := j) (by omega) (by omega) hdn1 HI.out)
              have HLE := Lib.hid (leave_pad (n := j + 2) (i := j) (by omega) (by omega) hdn1).2.2
              rw [hun] at HO
              clear hdn1 HN hun hi
              generalize leaveA d (j + 2) j = M at *
              obtain ⟨d2, e2⟩ := M
              go_wp2_with fail
              refine HLV.out.mono ?_
              rintro e w9 ⟨v9, rfl, hln, hB⟩
              dsimp only at hln ⊢
              have HLN9 := Lib.hid hln
              obtain ⟨A9, c9, rfl, _⟩ := hln.form
              have HB9 := Lib.hid (z.bel.trans hB)
              clear hln hB HLV
              try dsimp only at HO
              by_cases h0 : e2 = 0
              · subst h0
                have t0 : ((0 : Int) != 0) = false := rfl
                have HO3 : Hid (downB j d2 = downB m T) := Lib.hid (by have := HO.out; rwa [if_pos rfl] at this)
                clear HO
                go_wp2
                go_roundw
                case rel => exact ⟨j, ⟨_, HB9.out⟩, d2, _, by omega, rfl, rfl, rfl, rfl, HLN9.out, Nat.le_trans HLL.out (by decide), fun x hx => by have := HLE.out x hx; omega, HLI.out, HO3.out⟩
                case measure =>
                  simp only [intOf, Array.getD_eq_getD_getElem?, List.getElem?_toArray, List.getElem?_cons_succ, List.getElem?_cons_zero, Option.getD_some]
                  omega
              · have t0 : (e2 != 0) = true := by simp [h0]
                have HO3 : Hid (downB m T = ([], e2)) := Lib.hid (by have := HO.out; rw [if_neg h0] at this; exact this.symm)
                have HM9 : Hid (leastM m l a = (⟨0, 0⟩, false, e2)) := Lib.hid (by
                  have hp := HDP.out.2.1
                  rw [HO3.out] at hp
                  rw [HM.out]; unfold leastR; rw [if_pos (by rw [← hp]; exact h0), ← hp])
                have HB99 := Lib.hid (HB6.out.trans HB9.out)
                have HR699 := Lib.hid (HR66.out.bel HB9.out)
                clear HO h0 HO3
                have r0 := HR699.out.cell (i := 0) rfl
                have r1 := HR699.out.cell (i := 1) rfl
                have fr := fun q => HR699.out.frozen q
                have lr := HR699.out.lt
                have HRN := Lib.hid ((HR699.out.set 0 (.int .i64 0)).set 1 (.int .i64 0))
                have HBN := Lib.hid ((HB99.out.set (p := ⟨p6, 0, none⟩) HP6.out (.int .i64 0)).set (p := ⟨p6, 1, none⟩) HP6.out (.int .i64 0))
                go_wp2
                generalize World.setCell (World.setCell _ _ _) _ _ = WN at *
                exact bodyPost_ret (v := .tuple #[.agg #[.int .i64 0, .int .i64 0], .bool false, .int .i64 e2]) (rlea_res HRN.out rfl rfl rfl) rfl (lea_post (r := ⟨0, 0⟩) HM9.out HBN.out)
  · have h0 : (checkM n l != 0) = true := by simp [hck]
    have HM9 : Hid (leastM n l a = (⟨0, 0⟩, false, checkM n l)) := Lib.hid (by unfold leastM; rw [if_pos hck])
    clear hck
    generalize checkM n l = er at *
    have r0 := HR62.out.cell (i := 0) rfl
    have r1 := HR62.out.cell (i := 1) rfl
    have fr := fun q => HR62.out.frozen q
    have lr := HR62.out.lt
    have HRN := Lib.hid ((HR62.out.set 0 (.int .i64 0)).set 1 (.int .i64 0))
    have HBN := Lib.hid ((HB2.out.set (p := ⟨p6, 0, none⟩) HP6.out (.int .i64 0)).set (p := ⟨p6, 1, none⟩) HP6.out (.int .i64 0))
    go_wp2
    generalize World.setCell (World.setCell _ _ _) _ _ = WN at *
    exact bodyPost_ret (v := .tuple #[.agg #[.int .i64 0, .int .i64 0], .bool false, .int .i64 er]) (rlea_res HRN.out rfl rfl rfl) rfl (lea_post (r := ⟨0, 0⟩) HM9.out HBN.out)
end Go.Proofs.Ytalphoebmefgoaa
