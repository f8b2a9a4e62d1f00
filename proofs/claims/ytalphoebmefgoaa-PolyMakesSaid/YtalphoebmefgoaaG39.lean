import Derived.Test.YtalphoebmefgoaaZVlv
import Derived.Test.YtalphoebmefgoaaG38
import Derived.Test.YtalphoebmefgoaaZVdnm
/- poly.leave: a round of its range over the pairs (printed by gen_lvb.py). -/
namespace Go.Proofs.Ytalphoebmefgoaa
open Go.RowKit Go.Shelf
attribute [local go_sem] Oper.semAt_some
def firstRange : Code → Option Code
  | .rangeFunc _ _ _ c => some c
  | .loop c => firstRange c
  | .seq a b => match firstRange a with
    | some c => some c
    | none => firstRange b
  | .block _ c => firstRange c
  | .scope c => firstRange c
  | .cond _ a b => match firstRange a with
    | some c => some c
    | none => firstRange b
  | _ => none
theorem own_far6 {W : World} {base n p : Nat} {v u : Value} {xs ys : List Value} (h : W.ownsRow base 72 8 v n xs) (r : RowAt W p 61 ys) : (W.setCell ⟨p, 0, none⟩ u).ownsRow base 72 8 v n xs := by
  refine ⟨h.1, ?_⟩
  rcases h.2 with h0 | ⟨g, cap, cur, h1, h2, h3, h4⟩
  · exact .inl h0
  · refine .inr ⟨g, cap, cur, h1, h2, (Below.heap_setCell W _ _ g (fun e => ?_)).trans h3, h4⟩
    have e : g = p := e
    subst e
    unfold RowAt at r
    rw [r] at h3
    simp at h3
noncomputable def lvBody : Code := ((Try.f38.body.bind firstRange).getD .skip)
set_option maxRecDepth 100000 in
set_option maxHeartbeats 4000000 in
theorem lv_body (lr i : Nat) (hi : i ≤ 4) (X Y : Ln) (hX : X.inr) (hY : Y.inr) (hx : 0 < ci X i) (hy : ci Y i < 0) (base p3 p4 p5 p6 px py : Nat) (v : Value) (cs : List Ln) (W : World)
    (b3 : RowAt W p3 3 [.int .i64 i]) (b4 : RowAt W p4 61 [.slice none 0 0]) (b5 : RowAt W p5 32 [.int .i64 0]) (b6 : RowAt W p6 61 [v]) (bx : RowAt W px 72 X.cells) (by_ : RowAt W py 72 Y.cells) (ho : OutAt base W v cs) (hcl : cs.length ≤ 100000) (hbw : base ≤ W.heap.size)
    (u0 u1 u2 u7 u8 u9 u10 u13 u14 u15 u16 u17 u18 u19 u20 u21 u22 u23 u24 u25 u26 u27 u28 u29 u30 u31 u32 u33 u34 u35 u36 u37 u38 u39 u40 u41 u42 u43 u44 u45 u46 u47 u48 u49 u50 u51 u52 u53 u54 u55 u56 u57 u58 u59 u60 u61 u62 u63 u64 u65 u66 u67 u68 u69 u70 u71 u72 u73 u74 u75 u76 u77 u78 u79 u80 u81 u82 u83 u84 u85 u86 u87 u88 u89 u90 u91 u92 u93 u94 u95 u96 u97 u98 u99 u100 u101 u102 u103 u104 u105 u106 u107 u108 u109 u110 u111 u112 u113 u114 u115 u116 u117 u118 u119 u120 u121 u122 u123 u124 u125 u126 u127 u128 u129 u130 u131 u132 u133 u134 u135 u136 u137 u138 u139 u140 u141 u142 : Value) (Q : Exit → Act → World → Prop)
    (hQ1 : ∀ a' W' v', okL (sumL i (X, Y)) = true → GroX base [p6] W W' → RowAt W' p6 61 [v'] → OutAt base W' v' (cs ++ [sumL i (X, Y)]) → Q .normal a' W')
    (hQ2 : ∀ a' W', okL (sumL i (X, Y)) = false → GroX base [p4, p5] W W' → RowAt W' p4 61 [.slice none 0 0] → RowAt W' p5 32 [.int .i64 7] → Q .ret a' W') :
    lvBody.wpIn (Fence.wide.inRound lr) 7 Try.prog Q { tmps := #[u0, u1, u2, .pointer (some ⟨p3, 0, none⟩), .pointer (some ⟨p4, 0, none⟩), .pointer (some ⟨p5, 0, none⟩), .pointer (some ⟨p6, 0, none⟩), u7, u8, u9, u10, .pointer (some ⟨px, 0, none⟩), .pointer (some ⟨py, 0, none⟩), u13, u14, u15, u16, u17, u18, u19, u20, u21, u22, u23, u24, u25, u26, u27, u28, u29, u30, u31, u32, u33, u34, u35, u36, u37, u38, u39, u40, u41, u42, u43, u44, u45, u46, u47, u48, u49, u50, u51, u52, u53, u54, u55, u56, u57, u58, u59, u60, u61, u62, u63, u64, u65, u66, u67, u68, u69, u70, u71, u72, u73, u74, u75, u76, u77, u78, u79, u80, u81, u82, u83, u84, u85, u86, u87, u88, u89, u90, u91, u92, u93, u94, u95, u96, u97, u98, u99, u100, u101, u102, u103, u104, u105, u106, u107, u108, u109, u110, u111, u112, u113, u114, u115, u116, u117, u118, u119, u120, u121, u122, u123, u124, u125, u126, u127, u128, u129, u130, u131, u132, u133, u134, u135, u136, u137, u138, u139, u140, u141, u142], defers := [] } W := by
  have HQ1 := Lib.hid hQ1
  have HQ2 := Lib.hid hQ2
  obtain ⟨A0, n0, rfl, _⟩ := own_slice ho.own
  have HP3 := Lib.hid b3
  have HP4 := Lib.hid b4
  have HP5 := Lib.hid b5
  have HP6 := Lib.hid b6
  have HBX := Lib.hid bx
  have HBY := Lib.hid by_
  have HO := Lib.hid ho
  have c3 := b3.cell (i := 0) rfl
  have l3 := b3.lt
  have lx := bx.lt
  have ly := by_.lt
  have cx := box_ci bx (show i < 6 by omega)
  have cy := box_ci by_ (show i < 6 by omega)
  have h6 : ¬ (i : Int) < 0 := by omega
  have h6' : (i : Int) < 6 := by omega
  have HW := Lib.hid (wrap_in (a := -(ci Y i)) (by have := hY.ci i; omega))
  have hwn := HW.out
  have HX := Lib.hid hX
  have HY := Lib.hid hY
  have HXP := Lib.hid hx
  have HYP := Lib.hid hy
  clear hQ1 hQ2 b3 b4 b5 b6 bx by_ ho hX hY hx hy
  conv => arg 4; whnf
  gi_wp2_with fail
  (refine wpIn_region_E 10 none (by kernel_rfl) (by rfl) ?_; refine anyE_takes [0, 1, 2, 3, 4, 5, 6, 7, 8, 9] (fun _ _ _ _ _ h => h) ⟨⟨_, gro_drew (gro_refl _)⟩, rfl⟩ (by kernel_rfl) (by rfl) ?_; simp only [opsOf, List.filterMap_cons, List.filterMap_nil, List.getElem?_toArray, List.getElem?_cons_succ, List.getElem?_cons_zero, List.foldl_cons, List.foldl_nil]; (repeat (any_goals (first | go_big_quiet_step (fail) | quiet_step (fail)))); refine wpQuiet_nil ?_)
  (refine anyE_tail 10 (by decide) (by rfl) (by kernel_rfl) ?_; simp only [List.drop_succ_cons, List.drop_zero])
  go_wp2
  refine OnlyN.normal ?_
  have HB0 := Lib.hid (Bel.refl (w := W)).drew
  clear c3 l3 lx ly cx cy hwn
  generalize W.drew = W0 at *
  obtain ⟨ny, hny⟩ : ∃ ny, -(ci Y i) = ny := ⟨_, rfl⟩
  obtain ⟨nx, hnx⟩ : ∃ nx, ci X i = nx := ⟨_, rfl⟩
  rw [hny, hnx]
  have HNY := Lib.hid hny
  have HNX := Lib.hid hnx
  clear hny hnx
  have HG := Lib.hid (gcdp_any ny nx W0 (by rw [← HNY.out]; have := HY.out.ci i; omega) (by rw [← HNX.out]; have := HX.out.ci i; omega))
  gi_wp2_with fail
  refine ⟨trivial, ?_⟩
  refine (CallsIn.inRound lr (callsIn_wide.2 HG.out)).mono ?_
  rintro e W1 ⟨rfl, hB⟩
  have HB1 := Lib.hid (HB0.out.trans hB)
  clear hB HG
  have hgp := gd_pos (i := i) (p := (X, Y)) HXP.out
  have hgd : gdL i (X, Y) = Int.gcd ny nx := by rw [← HNY.out, ← HNX.out]; rfl
  rw [← hgd]
  have hg0 : ¬ gdL i (X, Y) = 0 := by omega
  have hsa : ny.tdiv ((gdL i (X, Y) : Nat) : Int) = saL i (X, Y) := by rw [← HNY.out]; rfl
  have hsb : nx.tdiv ((gdL i (X, Y) : Nat) : Int) = sbL i (X, Y) := by rw [← HNX.out]; rfl
  have hwa : IntKind.i64.wrap (saL i (X, Y)) = saL i (X, Y) := wrap_in (by have := sa_in (i := i) (p := (X, Y)) HY.out; omega)
  have hwb : IntKind.i64.wrap (sbL i (X, Y)) = sbL i (X, Y) := wrap_in (by have := sb_in (i := i) (p := (X, Y)) HX.out; omega)
  clear hgp hgd
  gi_wp2_with fail
  (refine wpIn_region_E 7 none (by kernel_rfl) (by rfl) ?_; refine anyE_takes [0, 1, 2, 3, 4, 5, 6] (fun _ _ _ _ _ h => h) ⟨⟨_, gro_drew (gro_refl _)⟩, rfl⟩ (by kernel_rfl) (by rfl) ?_; simp only [opsOf, List.filterMap_cons, List.filterMap_nil, List.getElem?_toArray, List.getElem?_cons_succ, List.getElem?_cons_zero, List.foldl_cons, List.foldl_nil]; (repeat (any_goals (first | go_big_quiet_step (fail) | quiet_step (fail)))); refine wpQuiet_nil ?_)
  (refine anyE_tail 7 (by decide) (by rfl) (by kernel_rfl) ?_; simp only [List.drop_succ_cons, List.drop_zero])
  go_wp2
  refine OnlyN.normal ?_
  have HB2 := Lib.hid HB1.out.drew
  have HSA := Lib.hid (sa_in (i := i) (p := (X, Y)) HY.out)
  have HSB := Lib.hid (sb_in (i := i) (p := (X, Y)) HX.out)
  have HSUM : Hid (sumL i (X, Y) = lowL (shortL (mulL (saL i (X, Y)) X (sbL i (X, Y)) Y 6) i)) := Lib.hid rfl
  clear hg0 hsa hsb hwa hwb HB1 HB0 HW
  generalize saL i (X, Y) = a at *
  generalize sbL i (X, Y) = b at *
  generalize W1.drew = W2 at *
  obtain ⟨m1, m2, m3, _⟩ := lin_in HSA.out HX.out.b HSB.out HY.out.b
  have rx := HBX.out.bel HB2.out
  have ry := HBY.out.bel HB2.out
  have x6 := rx.cell (i := 6) rfl
  have x7 := rx.cell (i := 7) rfl
  have y6 := ry.cell (i := 6) rfl
  have y7 := ry.cell (i := 7) rfl
  have lx := rx.lt
  have ly := ry.lt
  clear rx ry
  obtain ⟨ss, hss⟩ : ∃ ss, (X.s || Y.s) = ss := ⟨_, rfl⟩
  have HSS := Lib.hid hss
  have HMUL : Hid (∀ k, mulL a X b Y k = ⟨if 0 < k then a * X.a0 + b * Y.a0 else 0, if 1 < k then a * X.a1 + b * Y.a1 else 0, if 2 < k then a * X.a2 + b * Y.a2 else 0, if 3 < k then a * X.a3 + b * Y.a3 else 0, if 4 < k then a * X.a4 + b * Y.a4 else 0, if 5 < k then a * X.a5 + b * Y.a5 else 0, a * X.b + b * Y.b, ss⟩) := Lib.hid (fun k => by rw [← hss]; rfl)
  clear hss
  cases hxs : X.s
  all_goals
    rw [hxs] at x7 HSS
    have HSS2 := Lib.hid (show _ = ss from HSS.out)
    simp only [Bool.false_or, Bool.true_or] at HSS2
    clear HSS
    gi_wp2
    generalize hW : World.alloc W2 _ = W3
    have rz : RowAt W3 W2.heap.size 72 (mulL a X b Y 0).cells := by rw [← hW, HMUL.out 0, ← HSS2.out]; exact RowAt.new _ _ _
    have hB3 : Bel W W3 := by rw [← hW]; exact HB2.out.alloc _
    clear hW m1 m2 m3 x6 x7 y6 y7 lx ly HSS2
    obtain ⟨pz, hpz⟩ : ∃ pz, pz = W2.heap.size := ⟨_, rfl⟩
    rw [← hpz] at rz ⊢
    have HPZ : Hid (W.heap.size ≤ pz) := Lib.hid (by rw [hpz]; exact HB2.out.le)
    have HRZ0 := Lib.hid rz
    have HBZ0 := Lib.hid hB3
    clear hpz rz hB3
    gi_loopw [95] (fun s95 wr => ∃ k : Nat, k ≤ 6 ∧ s95 = .int .i64 (k : Int) ∧ Bel W wr ∧ RowAt wr pz 72 (mulL a X b Y k).cells) (fun s95 _ => 7 - (intOf s95).toNat)
    case atStart => exact ⟨0, by omega, rfl, HBZ0.out, HRZ0.out⟩
    case round =>
      obtain ⟨k, hk, rfl, hBk, hrz⟩ := hrel
      have HBK := Lib.hid hBk
      have HRZ := Lib.hid hrz
      by_cases hlt : k < 6
      · have hd : decide ((k : Int) < 6) = true := by simp; omega
        have hL : (k : Int) < 6 := by omega
        have wk : IntKind.i64.wrap ((k : Int) + 1) = ((k + 1 : Nat) : Int) := IntWalk.i64_in _ (by omega)
        obtain ⟨m1, m2, m3, _⟩ := lin_in HSA.out (HX.out.ci k) HSB.out (HY.out.ci k)
        have rx := HBX.out.bel hBk
        have ry := HBY.out.bel hBk
        have cx := box_ci rx hlt
        have cy := box_ci ry hlt
        have cz := box_ci hrz hlt
        have fz := hrz.frozen k
        have lx := rx.lt
        have ly := ry.lt
        have lz := hrz.lt
        have HNEW : Hid (RowAt (wr.setCell ⟨pz, k, none⟩ (.int .i64 (a * ci X k + b * ci Y k))) pz 72 (mulL a X b Y (k + 1)).cells) := Lib.hid (by rw [← mul_set a X b Y hlt]; exact hrz.set k _)
        have HBN : Hid (Bel W (wr.setCell ⟨pz, k, none⟩ (.int .i64 (a * ci X k + b * ci Y k)))) := Lib.hid (hBk.set (p := ⟨pz, k, none⟩) HPZ.out _)
        clear rx ry hBk hrz
        gi_wp2_with fail
        (refine wpIn_region_E 16 none (by kernel_rfl) (by rfl) ?_; refine anyE_takes [0, 1, 2, 3, 4, 5, 6, 7, 8, 9, 10, 11, 12, 13, 14, 15] (fun _ _ _ _ _ h => h) ⟨⟨_, gro_drew (gro_refl _)⟩, rfl⟩ (by kernel_rfl) (by rfl) ?_; simp only [opsOf, List.filterMap_cons, List.filterMap_nil, List.getElem?_toArray, List.getElem?_cons_succ, List.getElem?_cons_zero, List.foldl_cons, List.foldl_nil]; (repeat (any_goals (first | go_big_quiet_step (fail) | quiet_step (fail)))); refine wpQuiet_nil ?_)
        (refine anyE_tail 16 (by decide) (by rfl) (by kernel_rfl) ?_; simp only [List.drop_succ_cons, List.drop_zero])
        go_wp2
        refine OnlyN.normal ?_
        generalize World.setCell wr _ _ = W9 at *
        clear cx cy cz fz lx ly lz m1 m2 m3
        gi_wp2
        go_roundw
        case rel => exact ⟨k + 1, hlt, by go_num, HBN.out.drew, HNEW.out.drew⟩
        case measure => simp [intOf]; omega
      · obtain rfl : k = 6 := by omega
        have hd : decide (((6 : Nat) : Int) < 6) = false := by decide
        have HMW := Lib.hid (mul_wf HSA.out HSB.out HX.out HY.out)
        generalize mulL a X b Y 6 = M at *
        have HSH := Lib.hid (short_any M i wr hi)
        have q0 := hrz.cell (i := 0) rfl
        have q1 := hrz.cell (i := 1) rfl
        have q2 := hrz.cell (i := 2) rfl
        have q3 := hrz.cell (i := 3) rfl
        have q4 := hrz.cell (i := 4) rfl
        have q5 := hrz.cell (i := 5) rfl
        have q6 := hrz.cell (i := 6) rfl
        have q7 := hrz.cell (i := 7) rfl
        have lz := hrz.lt
        have r3 := HP3.out.bel hBk
        have c3 := r3.cell (i := 0) rfl
        have l3 := r3.lt
        clear hrz r3 hBk
        gi_wp2_with fail
        refine ⟨trivial, ?_⟩
        refine (CallsIn.inRound lr (callsIn_wide.2 HSH.out)).mono ?_
        rintro e W4 ⟨rfl, hB⟩
        have HB4 := Lib.hid (HBK.out.trans hB)
        have HRZ4 := Lib.hid (HRZ.out.bel hB)
        have HSW := Lib.hid (short_wf HMW.out i)
        clear hB HSH q0 q1 q2 q3 q4 q5 q6 q7 lz c3 l3 HRZ HBK HMW
        generalize shortL M i = M2 at *
        have HLO := Lib.hid (lowest_any M2 W4 HSW.out)
        rw [← HSUM.out] at HLO
        generalize sumL i (X, Y) = Z at *
        clear HSUM
        unfold Ln.V at HLO ⊢
        gi_wp2_with fail
        refine ⟨trivial, ?_⟩
        refine (CallsIn.inRound lr (callsIn_wide.2 HLO.out)).mono ?_
        rintro e W5 ⟨rfl, hB⟩
        have HB5 := Lib.hid (HB4.out.trans hB)
        have rz := HRZ4.out.bel hB
        clear hB HLO HSW HB4 HRZ4
        have q0 := rz.cell (i := 0) rfl
        have q1 := rz.cell (i := 1) rfl
        have q2 := rz.cell (i := 2) rfl
        have q3 := rz.cell (i := 3) rfl
        have q4 := rz.cell (i := 4) rfl
        have q5 := rz.cell (i := 5) rfl
        have q6 := rz.cell (i := 6) rfl
        have q7 := rz.cell (i := 7) rfl
        have fz := fun q => rz.frozen q
        have lz := rz.lt
        gi_wp2_with fail
        generalize hW6 : World.setCell (World.setCell _ _ _) _ _ = W6
        have rz6 : RowAt W6 pz 72 Z.cells := by rw [← hW6]; exact box_set Z rz
        have hB6 : Bel W W6 := by rw [← hW6]; exact bel_setL (o := 0) HB5.out HPZ.out Z
        clear hW6 q0 q1 q2 q3 q4 q5 q6 q7 fz lz rz HB5
        have HB6 := Lib.hid hB6.drew
        have HRZ6 := Lib.hid rz6.drew
        clear hB6 rz6
        refine wpIn_region_A (by kernel_rfl) (by rfl) ?_
        generalize W6.drew = W7 at *
        refine wpAny_take (i := 7) (v := .int .i64 0) rfl (by kernel_rfl) (by kernel_rfl) (by kernel_rfl) (fun _ _ _ h => h) (Or.inl ⟨by rfl, fun V => ?_⟩) ?_
        · go_simp
        refine wpAny_take (i := 0) (v := .pointer (some ⟨pz, 0, none⟩)) rfl (by kernel_rfl) (by kernel_rfl) (by kernel_rfl) (fun _ _ _ h => h) (Or.inl ⟨by rfl, fun V => ?_⟩) ?_
        · go_simp
        refine wpAny_take (i := 1) (v := .slice (some ⟨pz, 0, none⟩) 6 6) rfl (by kernel_rfl) (by kernel_rfl) (by kernel_rfl) (fun _ _ _ h => h) (Or.inl ⟨by rfl, fun V => ?_⟩) ?_
        · go_simp
        refine wpAny_take (i := 2) (v := .pointer (some ⟨pz, 6, none⟩)) rfl (by kernel_rfl) (by kernel_rfl) (by kernel_rfl) (fun _ _ _ h => h) (Or.inl ⟨by rfl, fun V => ?_⟩) ?_
        · go_simp
        simp only [Act.put, List.setIfInBounds_toArray]
        have c6 := HRZ6.out.cell (i := 6) rfl
        have lz := HRZ6.out.lt
        refine wpAny_ready (rs := [3]) (by kernel_rfl) (by simp) ?_
        refine AllReady.cons rfl (fun K hK => ?_) AllReady.nil
        rw [if_pos (by rfl)]
        go_simp
        refine hK _ _ ?_
        clear hK K c6 lz
        refine wpAny_ready (rs := [4]) (by kernel_rfl) (by simp) ?_
        refine AllReady.cons rfl (fun K hK => ?_) AllReady.nil
        rw [if_pos (by rfl)]
        go_simp
        refine hK _ _ ?_
        clear hK K
        obtain ⟨i0, hi0, hy0, hy1, hy2⟩ := info_parts Try.infoI64
        obtain ⟨v7, W9, hrun, hown, hgro⟩ := run_append_arg_grows (P := Try.prog) (W7.alloc (.cells #[.int .i64 Z.b] 2)) 23 23 2 i0 (.int .i64 0) 1 8 Try.underlying23 hi0 hy0 hy1 hy2 rfl (by decide)
          ⟨pz, 0, none⟩ 6 6 (Z.a.map (Value.int .i64)) rfl (fun j u hj => by
            rw [add_ofs, (HRZ6.out.alloc _).cell?]
            have hj2 : j < 6 := (List.getElem?_eq_some_iff.1 hj).1
            rw [← hj]
            have : j = 0 ∨ j = 1 ∨ j = 2 ∨ j = 3 ∨ j = 4 ∨ j = 5 := by omega
            rcases this with rfl | rfl | rfl | rfl | rfl | rfl <;> rfl)
          ⟨W7.heap.size, 0, none⟩ 1 1 [.int .i64 Z.b] rfl (fun j u hj => cells_new W7 [.int .i64 Z.b] 2 j u hj) (by decide) (by decide) (by decide)
        have HI9 := Lib.hid (IntsAt.of_own (l := Z.a ++ [Z.b]) hown)
        obtain ⟨g7, c7, rfl⟩ := ownsRow_succ (k := 6) hown
        have HB9 := Lib.hid (HB6.out.trans ((Bel.refl.alloc (.cells #[.int .i64 Z.b] 2)).trans (gro_bel hgro)))
        have HRZ9 := Lib.hid (HRZ6.out.bel ((Bel.refl.alloc (.cells #[.int .i64 Z.b] 2)).trans (gro_bel hgro)))
        clear hown hgro hi0 hy0 hy1 hy2
        refine wpAny_ready (rs := [5]) (by kernel_rfl) (by simp) ?_
        refine AllReady.cons rfl (fun K hK => ?_) AllReady.nil
        rw [if_pos (by rfl)]
        refine oper_append_run _ _ 23 rfl _ _ _ rfl rfl hrun (hK _ _ ?_)
        simp only [Act.put, List.setIfInBounds_toArray]
        clear hK K hrun HRZ6 HB6
        refine wpAny_ready (rs := [6]) (by kernel_rfl) (by simp) ?_
        refine AllReady.cons rfl (fun K hK => ?_) AllReady.nil
        rw [if_pos (by rfl)]
        go_simp
        refine hK _ _ ?_
        clear hK K
        refine wpAny_done (by kernel_rfl) ?_ _
        refine OnlyN.normal ?_
        have HOKF : Hid (∀ k, k < 7 → inR ((Z.a ++ [Z.b]).getD k 0) = false → okL Z = false) := Lib.hid (fun k hk hc => by
          unfold okL
          rw [List.all_eq_false]
          have hk2 : k < (Z.a ++ [Z.b]).length := hk
          refine ⟨(Z.a ++ [Z.b])[k], List.getElem_mem hk2, ?_⟩
          rw [List.getD_eq_getElem?_getD, List.getElem?_eq_getElem hk2] at hc
          simpa using hc)
        have HOKT : Hid ((∀ k, k < 7 → inR ((Z.a ++ [Z.b]).getD k 0) = true) → okL Z = true) := Lib.hid (fun hall => by
          unfold okL
          rw [List.all_eq_true]
          intro c hc
          obtain ⟨k, hk, e⟩ := List.mem_iff_getElem.1 hc
          have := hall k hk
          rw [List.getD_eq_getElem?_getD, List.getElem?_eq_getElem hk] at this
          simpa [e] using this)
        gi_wp2
        gi_loopw [126] (fun s126 wr => ∃ k : Nat, k ≤ 7 ∧ s126 = .int .i64 (k : Int) ∧ W9 = wr ∧ ∀ j, j < k → inR ((Z.a ++ [Z.b]).getD j 0) = true) (fun s126 _ => 8 - (intOf s126).toNat)
        case atStart => exact ⟨0, by omega, rfl, rfl, fun j hj => absurd hj (by omega)⟩
        case round =>
          obtain ⟨k, hk, rfl, rfl, hall⟩ := hrel
          have HALL := Lib.hid hall
          clear hall
          by_cases hlt : k < 7
          · have hd : decide ((k : Int) < 7) = true := by simp; omega
            have hL : (k : Int) < 7 := by omega
            have wk : IntKind.i64.wrap ((k : Int) + 1) = ((k + 1 : Nat) : Int) := IntWalk.i64_in _ (by omega)
            obtain ⟨b7, o7, e7, hb7, hc7⟩ := HI9.out.at_ (show 0 < (Z.a ++ [Z.b]).length by simp)
            injection e7 with e7
            injection e7 with e7 e8
            subst e7
            subst e8
            have hck := hc7 k hlt
            rw [Nat.zero_add] at hck
            clear hc7
            obtain ⟨c, hc⟩ : ∃ c, (Z.a ++ [Z.b]).getD k 0 = c := ⟨_, rfl⟩
            rw [hc] at hck
            have HC := Lib.hid hc
            clear hc
            have r4 := HP4.out.bel HB9.out
            have r5 := HP5.out.bel HB9.out
            have d4 := r4.cell (i := 0) rfl
            have d5 := r5.cell (i := 0) rfl
            have f4 := r4.frozen 0
            have f5 := r5.frozen 0
            have z4 := r4.lt
            have z5 := r5.lt
            have h45 : p4 ≠ p5 := fun e => by
              subst e
              unfold RowAt at r4 r5
              rw [r4] at r5
              simp at r5
            have HG9 : Hid (GroX base [p4, p5] W ((W9.setCell ⟨p4, 0, none⟩ (.slice none 0 0)).setCell ⟨p5, 0, none⟩ (.int .i64 7))) := Lib.hid (((GroX.of_bel HB9.out).set (by simp) _).set (by simp) _)
            have HR4 : Hid (RowAt ((W9.setCell ⟨p4, 0, none⟩ (.slice none 0 0)).setCell ⟨p5, 0, none⟩ (.int .i64 7)) p4 61 [.slice none 0 0]) := Lib.hid ((r4.set 0 (.slice none 0 0)).far h45 _)
            have HR5 : Hid (RowAt ((W9.setCell ⟨p4, 0, none⟩ (.slice none 0 0)).setCell ⟨p5, 0, none⟩ (.int .i64 7)) p5 32 [.int .i64 7]) := Lib.hid ((r5.far (fun e => h45 e.symm) _).set 0 (.int .i64 7))
            clear r4 r5
            by_cases hc1 : c < -2147483647
            · have hd1 : decide (c < -2147483647) = true := by simp [hc1]
              have HF := Lib.hid (HOKF.out k hlt (by rw [HC.out]; unfold inR; simp; omega))
              clear hc1
              gi_wp2
              exact HQ2.out _ _ HF.out HG9.out HR4.out HR5.out
            · have hd1 : decide (c < -2147483647) = false := by simp; omega
              by_cases hc2 : 2147483647 < c
              · have hd2 : decide (c > 2147483647) = true := by simp; omega
                have hd3 : decide (2147483647 < c) = true := by simp; omega
                have HF := Lib.hid (HOKF.out k hlt (by rw [HC.out]; unfold inR; simp; omega))
                clear hc1 hc2
                gi_wp2
                exact HQ2.out _ _ HF.out HG9.out HR4.out HR5.out
              · have hd2 : decide (c > 2147483647) = false := by simp; omega
                have hd3 : decide (2147483647 < c) = false := by simp; omega
                have HN : Hid (inR c = true) := Lib.hid (by unfold inR; simp; omega)
                clear hc1 hc2 d4 d5 f4 f5 z4 z5 h45 HG9 HR4 HR5
                gi_wp2
                go_roundw
                case rel => exact ⟨k + 1, hlt, by go_num, trivial, fun j hj => by
                  by_cases hjk : j = k
                  · rw [hjk, HC.out]; exact HN.out
                  · exact HALL.out j (by omega)⟩
                case measure => simp [intOf]; omega
          · obtain rfl : k = 7 := by omega
            have hd : decide (((7 : Nat) : Int) < 7) = false := by decide
            have HOK := Lib.hid (HOKT.out HALL.out)
            have r6 := HP6.out.bel HB9.out
            have d6 := r6.cell (i := 0) rfl
            have z6 := r6.lt
            have rz := HRZ9.out
            have q0 := rz.cell (i := 0) rfl
            have q1 := rz.cell (i := 1) rfl
            have q2 := rz.cell (i := 2) rfl
            have q3 := rz.cell (i := 3) rfl
            have q4 := rz.cell (i := 4) rfl
            have q5 := rz.cell (i := 5) rfl
            have q6 := rz.cell (i := 6) rfl
            have q7 := rz.cell (i := 7) rfl
            have lz := rz.lt
            clear rz
            have hbz : base ≤ (W9.alloc (.cells Z.cells.toArray 72)).heap.size := Nat.le_trans hbw (HB9.out.alloc _).le
            obtain ⟨A9, c9, W11, hap, hout, hg11, _⟩ := out_append (HO.out.bel (HB9.out.alloc (.cells Z.cells.toArray 72))) (by omega) hbz (RowAt.new W9 72 Z.cells)
            have HAP := Lib.hid hap
            have HOUT := Lib.hid hout
            have HG := Lib.hid ((GroX.of_bel (base := base) (ex := []) (HB9.out.alloc (.cells Z.cells.toArray 72))).trans hg11)
            have r11 := HG.out.row HP6.out (by simp) (.inr (.inl (by decide)))
            have HR11 := Lib.hid r11
            have d11 := r11.cell (i := 0) rfl
            have f11 := r11.frozen 0
            have z11 := r11.lt
            unfold Ln.cells at HAP
            clear r6 hap hout hg11 r11
            gi_wp2_with (gi_at_builtin; go_must (refine wpListIn_append_run rfl _ _ 61 rfl _ _ _ rfl rfl (HAP.out _) ?_))
            refine HQ1.out _ _ _ HOK.out ((HG.out.wide (by simp)).set (by simp) _) (HR11.out.set 0 _) ⟨own_far6 HOUT.out.own HR11.out, HOUT.out.nn⟩
end Go.Proofs.Ytalphoebmefgoaa
/- poly.leave, whole (printed by gen_lv.py). -/
namespace Go.Proofs.Ytalphoebmefgoaa
open Go.RowKit Go.Shelf
attribute [local go_sem] Oper.semAt_some
theorem leave_marks {F : Fence} {n : Nat} {P : Program} {fn : Func} {tmps : Array Value} {R : Ending → World → Prop} (K : World → Prop) (base : Nat) (hK : ∀ W D, base ≤ D → K W → W.heap[D]? = some (.deferred (some [])) → K (W.putObj D (.deferred none)))
    (hend : ∀ W, K W → ∃ v, (results fn tmps).run P W = .ok v W ∧ R (.returned v) W) : ∀ (ds : List Nat) (W : World), ds.Nodup → (∀ D ∈ ds, base ≤ D ∧ W.heap[D]? = some (.deferred (some []))) → K W →
      LeavesInM F n P fn tmps R (ds.map fun D => { target := .collected D, args := #[] }) .returning W
  | [], W, _, _, hW => hend W hW
  | D :: ds, W, hn, hD, hW => by
    rw [List.nodup_cons] at hn
    obtain ⟨h0, h1⟩ := hD D (by simp)
    refine ⟨by simp, .inl ⟨D, _, rfl, run_takeDeferred h1, ?_⟩⟩
    refine leave_marks K base hK hend ds _ hn.2 (fun E hE => ?_) (hK W D h0 hW h1)
    have hne : E ≠ D := fun e => hn.1 (e ▸ hE)
    obtain ⟨hb, this⟩ := hD E (by simp [hE])
    have hg := (grownBy_putObj' W D (.deferred none)).block E (Blk.lt this) (fun e => by injection e with e; exact hne e)
    rw [hg]; exact ⟨hb, this⟩
theorem rowAt_put {W : World} {D p : Nat} {e : TypeId} {cs : List Value} (h : RowAt W p e cs) (hD : W.heap[D]? = some (.deferred (some []))) : RowAt (W.putObj D (.deferred none)) p e cs := by
  have hne : p ≠ D := by
    intro e; subst e
    unfold RowAt at h
    rw [h] at hD; cases hD
  exact h.block ((grownBy_putObj' W D (.deferred none)).block p h.lt (fun e => by injection e with e; exact hne e))
theorem bel_put {w W : World} {D : Nat} (h : Bel w W) (hD : w.heap.size ≤ D) (o : Obj) : Bel w (W.putObj D o) :=
  Below.grown h (grownBy_putObj' W D o) h.size (fun k e => by injection e with e; omega)
theorem lns_put {W : World} {D : Nat} {v : Value} {l : List Ln} (h : LnsAt W W.heap.size v l) (hD : W.heap[D]? = some (.deferred (some []))) : LnsAt (W.putObj D (.deferred none)) (W.putObj D (.deferred none)).heap.size v l := by
  refine h.keep (fun b o hb => ?_) (grownBy_putObj' W D (.deferred none)).size
  by_cases e : b = D
  · subst e
    unfold World.cell?
    show (match (W.putObj b (.deferred none)).heap[b]? with | _ => _) = (match W.heap[b]? with | _ => _)
    rw [hD, World.putObj_heap_same hb]
  · unfold World.cell?
    show (match (W.putObj D (.deferred none)).heap[b]? with | _ => _) = (match W.heap[b]? with | _ => _)
    rw [(grownBy_putObj' W D (.deferred none)).block b hb (fun q => by injection q with q; exact e q)]
theorem lns_far {W : World} {v u : Value} {l : List Ln} {p : Nat} {e : TypeId} {x : Value} (h : LnsAt W W.heap.size v l) (r : RowAt W p e [x]) : LnsAt (W.setCell ⟨p, 0, none⟩ u) (W.setCell ⟨p, 0, none⟩ u).heap.size v l := by
  obtain ⟨A, c, rfl, hc, h⟩ := h
  refine ⟨A, c, rfl, hc, fun h0 => ?_⟩
  obtain ⟨b, off, rfl, hb, h⟩ := h h0
  have hne : b ≠ p := fun q => by
    subst q
    have h1 := h 0 h0 0 (by decide)
    have h2 := h 0 h0 1 (by decide)
    rw [r.cell?] at h1 h2
    have e1 := (List.getElem?_eq_some_iff.1 (h1.trans (by rfl : (Ln.cells l[0])[0]? = some (.int .i64 l[0].a0)))).1
    have e2 := (List.getElem?_eq_some_iff.1 (h2.trans (by rfl : (Ln.cells l[0])[1]? = some (.int .i64 l[0].a1)))).1
    simp at e1 e2
  refine ⟨b, off, rfl, by simpa [World.setCell] using hb, fun i hi r2 hr => ?_⟩
  rw [← h i hi r2 hr]
  unfold World.cell?
  show (match (W.setCell ⟨p, 0, none⟩ u).heap[b]? with | _ => _) = (match W.heap[b]? with | _ => _)
  rw [Below.heap_setCell W ⟨p, 0, none⟩ u b hne]
/-- what leave hands back -/
def LvPost (M : List Ln × Int) (w : World) (e : Ending) (w' : World) : Prop := ∃ v', e = .returned (.tuple #[v', .int .i64 M.2]) ∧ LnsAt w' w'.heap.size v' M.1 ∧ Bel w w'
set_option maxRecDepth 100000 in
theorem leave_cells {tmps : Array Value} {w W : World} {p4 p5 : Nat} {M : List Ln × Int} {v : Value} {er : Int} (hx : M.2 = er) (h4 : RowAt W p4 61 [v]) (h5 : RowAt W p5 32 [.int .i64 er]) (hl : LnsAt W W.heap.size v M.1) (hb : Bel w W) (ds : List Nat) (hn : ds.Nodup) (hD : ∀ D ∈ ds, w.heap.size ≤ D ∧ W.heap[D]? = some (.deferred (some [])))
    (ht4 : tmps[4]? = some (.pointer (some ⟨p4, 0, none⟩))) (ht5 : tmps[5]? = some (.pointer (some ⟨p5, 0, none⟩))) :
    LeavesInM Fence.wide 9 Try.prog Try.f38 tmps (LvPost M w) (ds.map fun D => { target := .collected D, args := #[] }) .returning W := by
  subst hx
  refine leave_marks (fun W => RowAt W p4 61 [v] ∧ RowAt W p5 32 [.int .i64 M.2] ∧ LnsAt W W.heap.size v M.1 ∧ Bel w W) w.heap.size (fun W D h0 hW hD => ⟨rowAt_put hW.1 hD, rowAt_put hW.2.1 hD, lns_put hW.2.2.1 hD, bel_put hW.2.2.2 h0 _⟩) (fun W hW => ?_) ds W hn hD ⟨h4, h5, hl, hb⟩
  obtain ⟨h4, h5, hl, hb⟩ := hW
  have c4 := h4.cell (i := 0) rfl
  have c5 := h5.cell (i := 0) rfl
  obtain ⟨A, c, rfl, _⟩ := hl.form
  exact ⟨.tuple #[.slice A M.1.length c, .int .i64 M.2], by simp [results, Try.f38, go_sem, c4, c5, ht4, ht5], _, rfl, hl, hb⟩
def LvAct (p3 p4 p5 p6 px py : Nat) (a : Act) : Prop := ∃ f : Nat → Value, a = { tmps := #[f 0, f 1, f 2, .pointer (some ⟨p3, 0, none⟩), .pointer (some ⟨p4, 0, none⟩), .pointer (some ⟨p5, 0, none⟩), .pointer (some ⟨p6, 0, none⟩), f 7, f 8, f 9, f 10, .pointer (some ⟨px, 0, none⟩), .pointer (some ⟨py, 0, none⟩), f 13, f 14, f 15, f 16, f 17, f 18, f 19, f 20, f 21, f 22, f 23, f 24, f 25, f 26, f 27, f 28, f 29, f 30, f 31, f 32, f 33, f 34, f 35, f 36, f 37, f 38, f 39, f 40, f 41, f 42, f 43, f 44, f 45, f 46, f 47, f 48, f 49, f 50, f 51, f 52, f 53, f 54, f 55, f 56, f 57, f 58, f 59, f 60, f 61, f 62, f 63, f 64, f 65, f 66, f 67, f 68, f 69, f 70, f 71, f 72, f 73, f 74, f 75, f 76, f 77, f 78, f 79, f 80, f 81, f 82, f 83, f 84, f 85, f 86, f 87, f 88, f 89, f 90, f 91, f 92, f 93, f 94, f 95, f 96, f 97, f 98, f 99, f 100, f 101, f 102, f 103, f 104, f 105, f 106, f 107, f 108, f 109, f 110, f 111, f 112, f 113, f 114, f 115, f 116, f 117, f 118, f 119, f 120, f 121, f 122, f 123, f 124, f 125, f 126, f 127, f 128, f 129, f 130, f 131, f 132, f 133, f 134, f 135, f 136, f 137, f 138, f 139, f 140, f 141, f 142], defers := [] }
theorem LvAct.lit {p3 p4 p5 p6 px py : Nat} (T : Array Value) (h : ({ tmps := T, defers := [] } : Act) = { tmps := #[T.getD 0 undef, T.getD 1 undef, T.getD 2 undef, .pointer (some ⟨p3, 0, none⟩), .pointer (some ⟨p4, 0, none⟩), .pointer (some ⟨p5, 0, none⟩), .pointer (some ⟨p6, 0, none⟩), T.getD 7 undef, T.getD 8 undef, T.getD 9 undef, T.getD 10 undef, .pointer (some ⟨px, 0, none⟩), .pointer (some ⟨py, 0, none⟩), T.getD 13 undef, T.getD 14 undef, T.getD 15 undef, T.getD 16 undef, T.getD 17 undef, T.getD 18 undef, T.getD 19 undef, T.getD 20 undef, T.getD 21 undef, T.getD 22 undef, T.getD 23 undef, T.getD 24 undef, T.getD 25 undef, T.getD 26 undef, T.getD 27 undef, T.getD 28 undef, T.getD 29 undef, T.getD 30 undef, T.getD 31 undef, T.getD 32 undef, T.getD 33 undef, T.getD 34 undef, T.getD 35 undef, T.getD 36 undef, T.getD 37 undef, T.getD 38 undef, T.getD 39 undef, T.getD 40 undef, T.getD 41 undef, T.getD 42 undef, T.getD 43 undef, T.getD 44 undef, T.getD 45 undef, T.getD 46 undef, T.getD 47 undef, T.getD 48 undef, T.getD 49 undef, T.getD 50 undef, T.getD 51 undef, T.getD 52 undef, T.getD 53 undef, T.getD 54 undef, T.getD 55 undef, T.getD 56 undef, T.getD 57 undef, T.getD 58 undef, T.getD 59 undef, T.getD 60 undef, T.getD 61 undef, T.getD 62 undef, T.getD 63 undef, T.getD 64 undef, T.getD 65 undef, T.getD 66 undef, T.getD 67 undef, T.getD 68 undef, T.getD 69 undef, T.getD 70 undef, T.getD 71 undef, T.getD 72 undef, T.getD 73 undef, T.getD 74 undef, T.getD 75 undef, T.getD 76 undef, T.getD 77 undef, T.getD 78 undef, T.getD 79 undef, T.getD 80 undef, T.getD 81 undef, T.getD 82 undef, T.getD 83 undef, T.getD 84 undef, T.getD 85 undef, T.getD 86 undef, T.getD 87 undef, T.getD 88 undef, T.getD 89 undef, T.getD 90 undef, T.getD 91 undef, T.getD 92 undef, T.getD 93 undef, T.getD 94 undef, T.getD 95 undef, T.getD 96 undef, T.getD 97 undef, T.getD 98 undef, T.getD 99 undef, T.getD 100 undef, T.getD 101 undef, T.getD 102 undef, T.getD 103 undef, T.getD 104 undef, T.getD 105 undef, T.getD 106 undef, T.getD 107 undef, T.getD 108 undef, T.getD 109 undef, T.getD 110 undef, T.getD 111 undef, T.getD 112 undef, T.getD 113 undef, T.getD 114 undef, T.getD 115 undef, T.getD 116 undef, T.getD 117 undef, T.getD 118 undef, T.getD 119 undef, T.getD 120 undef, T.getD 121 undef, T.getD 122 undef, T.getD 123 undef, T.getD 124 undef, T.getD 125 undef, T.getD 126 undef, T.getD 127 undef, T.getD 128 undef, T.getD 129 undef, T.getD 130 undef, T.getD 131 undef, T.getD 132 undef, T.getD 133 undef, T.getD 134 undef, T.getD 135 undef, T.getD 136 undef, T.getD 137 undef, T.getD 138 undef, T.getD 139 undef, T.getD 140 undef, T.getD 141 undef, T.getD 142 undef], defers := [] }) : LvAct p3 p4 p5 p6 px py { tmps := T, defers := [] } := ⟨fun k => T.getD k undef, h⟩
theorem lv_body2 (lr i : Nat) (hi : i ≤ 4) (X Y : Ln) (hX : X.inr) (hY : Y.inr) (hx : 0 < ci X i) (hy : ci Y i < 0) (base p3 p4 p5 p6 px py : Nat) (v : Value) (cs : List Ln) (W : World)
    (b3 : RowAt W p3 3 [.int .i64 i]) (b4 : RowAt W p4 61 [.slice none 0 0]) (b5 : RowAt W p5 32 [.int .i64 0]) (b6 : RowAt W p6 61 [v]) (bx : RowAt W px 72 X.cells) (by_ : RowAt W py 72 Y.cells) (ho : OutAt base W v cs) (hcl : cs.length ≤ 100000) (hbw : base ≤ W.heap.size)
    (a : Act) (ha : LvAct p3 p4 p5 p6 px py a) (Q : Exit → Act → World → Prop)
    (hQ1 : ∀ a' W' v', okL (sumL i (X, Y)) = true → GroX base [p6] W W' → RowAt W' p6 61 [v'] → OutAt base W' v' (cs ++ [sumL i (X, Y)]) → Q .normal a' W')
    (hQ2 : ∀ a' W', okL (sumL i (X, Y)) = false → GroX base [p4, p5] W W' → RowAt W' p4 61 [.slice none 0 0] → RowAt W' p5 32 [.int .i64 7] → Q .ret a' W') :
    lvBody.wpIn (Fence.wide.inRound lr) 7 Try.prog Q a W := by
  obtain ⟨f, rfl⟩ := ha
  exact lv_body lr i hi X Y hX hY hx hy base p3 p4 p5 p6 px py v cs W b3 b4 b5 b6 bx by_ ho hcl hbw (f 0) (f 1) (f 2) (f 7) (f 8) (f 9) (f 10) (f 13) (f 14) (f 15) (f 16) (f 17) (f 18) (f 19) (f 20) (f 21) (f 22) (f 23) (f 24) (f 25) (f 26) (f 27) (f 28) (f 29) (f 30) (f 31) (f 32) (f 33) (f 34) (f 35) (f 36) (f 37) (f 38) (f 39) (f 40) (f 41) (f 42) (f 43) (f 44) (f 45) (f 46) (f 47) (f 48) (f 49) (f 50) (f 51) (f 52) (f 53) (f 54) (f 55) (f 56) (f 57) (f 58) (f 59) (f 60) (f 61) (f 62) (f 63) (f 64) (f 65) (f 66) (f 67) (f 68) (f 69) (f 70) (f 71) (f 72) (f 73) (f 74) (f 75) (f 76) (f 77) (f 78) (f 79) (f 80) (f 81) (f 82) (f 83) (f 84) (f 85) (f 86) (f 87) (f 88) (f 89) (f 90) (f 91) (f 92) (f 93) (f 94) (f 95) (f 96) (f 97) (f 98) (f 99) (f 100) (f 101) (f 102) (f 103) (f 104) (f 105) (f 106) (f 107) (f 108) (f 109) (f 110) (f 111) (f 112) (f 113) (f 114) (f 115) (f 116) (f 117) (f 118) (f 119) (f 120) (f 121) (f 122) (f 123) (f 124) (f 125) (f 126) (f 127) (f 128) (f 129) (f 130) (f 131) (f 132) (f 133) (f 134) (f 135) (f 136) (f 137) (f 138) (f 139) (f 140) (f 141) (f 142) Q hQ1 hQ2
def zerL (l : List Ln) (i : Nat) : List Ln := (l.filter fun x => decide (ci x i = 0)).map (shortL · i)
theorem zerL_succ {l : List Ln} {i k : Nat} (h : k < l.length) : zerL (l.take (k + 1)) i = zerL (l.take k) i ++ if ci (lnAt l k) i = 0 then [shortL (lnAt l k) i] else [] := by
  unfold zerL
  rw [take_snoc h, List.filter_append, List.map_append]
  by_cases hc : ci (lnAt l k) i = 0
  · rw [if_pos hc]; simp [hc]
  · rw [if_neg hc]; simp [hc]
def posN (l : List Ln) (i m : Nat) : Nat := (posL (l.take m) i).length
theorem posN_succ {l : List Ln} {i m : Nat} (h : m < l.length) : posN l i (m + 1) = posN l i m + if 0 < ci (lnAt l m) i then 1 else 0 := by
  unfold posN posL
  rw [take_snoc h, List.filter_append, List.length_append]
  by_cases hc : 0 < ci (lnAt l m) i
  · rw [if_pos hc]; simp [hc]
  · rw [if_neg hc]; simp [hc]
theorem zerL_le (l : List Ln) (i k : Nat) : (zerL (l.take k) i).length ≤ l.length := by
  unfold zerL
  rw [List.length_map]
  exact Nat.le_trans (List.length_filter_le _ _) (by rw [List.length_take]; omega)
theorem posN_le (l : List Ln) (i k : Nat) : posN l i k ≤ l.length := Nat.le_trans (List.length_filter_le _ _) (by rw [List.length_take]; omega)
theorem negN_le (l : List Ln) (i k : Nat) : negN l i k ≤ l.length := Nat.le_trans (List.length_filter_le _ _) (by rw [List.length_take]; omega)
/-- the variables of leave -/
structure LvV (W : World) (p3 p4 p5 p6 base i : Nat) (v : Value) (cs : List Ln) : Prop where
  b3 : RowAt W p3 3 [.int .i64 i]
  b4 : RowAt W p4 61 [.slice none 0 0]
  b5 : RowAt W p5 32 [.int .i64 0]
  b6 : RowAt W p6 61 [v]
  out : OutAt base W v cs
  lt : p3 < p4 ∧ p4 < p5 ∧ p5 < p6 ∧ p6 < base
theorem LvV.bel {W W' : World} {p3 p4 p5 p6 base i : Nat} {v : Value} {cs : List Ln} (h : LvV W p3 p4 p5 p6 base i v cs) (hb : Bel W W') : LvV W' p3 p4 p5 p6 base i v cs := ⟨h.b3.bel hb, h.b4.bel hb, h.b5.bel hb, h.b6.bel hb, h.out.bel hb, h.lt⟩
theorem LvV.gro {W W' : World} {p3 p4 p5 p6 base i : Nat} {v v' : Value} {cs cs' : List Ln} (h : LvV W p3 p4 p5 p6 base i v cs) (hg : GroX base [p6] W W') (h6 : RowAt W' p6 61 [v']) (ho : OutAt base W' v' cs') : LvV W' p3 p4 p5 p6 base i v' cs' := by
  have := h.lt
  exact ⟨hg.row h.b3 (by simp; omega) (.inl (by omega)), hg.row h.b4 (by simp; omega) (.inl (by omega)), hg.row h.b5 (by simp; omega) (.inl (by omega)), h6, ho, h.lt⟩
theorem OutAt.ne {base p : Nat} {W : World} {v : Value} {cs : List Ln} (h : OutAt base W v cs) (hp : p < base) : some p ≠ v.ownBlock := by
  rcases h.own.2 with ⟨rfl, _⟩ | ⟨g, cap, cur, rfl, h2, _⟩
  · simp [Value.ownBlock]
  · simp only [Value.ownBlock, ne_eq, Option.some.injEq]; omega
theorem row_nc {W W' : World} {row : Option Nat} {p : Nat} {e : TypeId} {xs : List Value} (h : RowAt W p e xs) (hg : W.grownBy W' row) (hr : ∀ r, row = some r → ∃ o : Obj, W.heap[r]? = some o ∧ o.isCells = false) : RowAt W' p e xs := by
  refine (hg.block p h.lt (fun q => ?_)).trans h
  obtain ⟨o, h1, h2⟩ := hr p q.symm
  unfold RowAt at h
  rw [h] at h1
  injection h1 with h1
  subst h1
  cases h2
theorem out_nc {W W' : World} {row : Option Nat} {base : Nat} {v : Value} {cs : List Ln} (h : OutAt base W v cs) (hg : W.grownBy W' row) (hr : ∀ r, row = some r → ∃ o : Obj, W.heap[r]? = some o ∧ o.isCells = false) : OutAt base W' v cs := by
  refine ⟨⟨h.own.1, ?_⟩, h.nn⟩
  rcases h.own.2 with h0 | ⟨g, cap, cur, h1, h2, h3, h4⟩
  · exact .inl h0
  · exact .inr ⟨g, cap, cur, h1, h2, row_nc (xs := cur.toList) (by unfold RowAt; simpa using h3) hg hr |> (fun q => by unfold RowAt at q; simpa using q), h4⟩
theorem LvV.nc {W W' : World} {row : Option Nat} {p3 p4 p5 p6 base i : Nat} {v : Value} {cs : List Ln} (h : LvV W p3 p4 p5 p6 base i v cs) (hg : W.grownBy W' row) (hr : ∀ r, row = some r → ∃ o : Obj, W.heap[r]? = some o ∧ o.isCells = false) : LvV W' p3 p4 p5 p6 base i v cs :=
  ⟨row_nc h.b3 hg hr, row_nc h.b4 hg hr, row_nc h.b5 hg hr, row_nc h.b6 hg hr, out_nc h.out hg hr, h.lt⟩
theorem GroX.keeps {base B : Nat} {ex : List Nat} {W W' : World} (h : GroX base ex W W') (hc : ∀ p, p ∈ ex → ∃ (xs : List Value) (e : TypeId), RowAt W p e xs) : KeepsFrom B W W' :=
  ⟨h.size, fun k o _ hk ho => (h.block k (Blk.lt hk) (fun g => by
    obtain ⟨xs, e, r⟩ := hc k g
    unfold RowAt at r
    rw [r] at hk
    injection hk with hk
    subst hk
    cases ho) (.inr fun cs hcs => by
    rw [hk] at hcs
    injection hcs with hcs
    subst hcs
    cases ho)).trans hk⟩
/-- what holds between two rounds -/
structure LvI (w W : World) (p3 p4 p5 p6 base bl bi i : Nat) (v : Value) (l zs : List Ln) (fs : List Ln) : Prop where
  vv : ∃ u, LvV W p3 p4 p5 p6 base i u (zs ++ fs)
  rl : RowAt W bl 61 [v]
  ri : RowAt W bi 3 [.int .i64 i]
  bel : Bel w W
  bs : base ≤ W.heap.size
  ok : ∀ z, z ∈ fs → okL z = true
theorem LvI.nc {w W W' : World} {row : Option Nat} {p3 p4 p5 p6 base bl bi i : Nat} {v : Value} {l zs fs : List Ln} (h : LvI w W p3 p4 p5 p6 base bl bi i v l zs fs) (hg : W.grownBy W' row) (hb : ∀ r, row = some r → w.heap.size ≤ r) (hr : ∀ r, row = some r → ∃ o : Obj, W.heap[r]? = some o ∧ o.isCells = false) : LvI w W' p3 p4 p5 p6 base bl bi i v l zs fs := by
  obtain ⟨u, hu⟩ := h.vv
  exact ⟨⟨u, hu.nc hg hr⟩, row_nc h.rl hg hr, row_nc h.ri hg hr, Below.grown h.bel hg h.bel.size hb, Nat.le_trans h.bs hg.size, h.ok⟩
theorem KpP.groX {n₀ bl bi base p6 i : Nat} {W W' : World} {v x : Value} (h : GroX base [p6] W W') (h0 : n₀ ≤ p6) (hb : n₀ ≤ base) (hw : n₀ ≤ W.heap.size) (h6 : RowAt W p6 61 [x]) (rl : RowAt W bl 61 [v]) (ri : RowAt W bi 3 [.int .i64 (i : Int)]) (hl : bl ≠ p6) (hi : bi ≠ p6) : KpP n₀ bl bi W W' :=
  ⟨h.size, fun k hk => h.block k (by omega) (by simp; omega) (.inl (by omega)), (h.row rl (by simpa using hl) (.inr (.inl (by decide)))).trans rl.symm, (h.row ri (by simpa using hi) (.inr (.inl (by decide)))).trans ri.symm,
    fun k cs hk hc => h.block k (Blk.lt hk) (fun e => by
      have e : k = p6 := by simpa using e
      subst e
      unfold RowAt at h6
      rw [h6] at hk
      injection hk with hk
      injection hk with _ hk
      cases hk) (.inr fun cs' hcs => by rw [hk] at hcs; injection hcs with hcs; injection hcs with hcs; subst hcs; omega)⟩
theorem KpP.put {n₀ bl bi B : Nat} (hn : n₀ ≤ B) (hl : bl < B) (hi : bi < B) (W : World) (k : Nat) (o o' : Obj) (hk : B ≤ k) (ho : W.heap[k]? = some o) (hc : o.isCells = false) : KpP n₀ bl bi W (W.putObj k o') := by
  have hg := grownBy_putObj' W k o'
  refine ⟨hg.size, fun q hq => ?_, ?_, ?_, fun q cs hq _ => ?_⟩
  · have hlt := Blk.lt ho
    exact hg.block q (by omega) (fun e => by injection e with e; omega)
  · have hlt := Blk.lt ho
    exact hg.block bl (by omega) (fun e => by injection e with e; omega)
  · have hlt := Blk.lt ho
    exact hg.block bi (by omega) (fun e => by injection e with e; omega)
  · exact hg.block q (Blk.lt hq) (fun e => by
      injection e with e
      subst e
      rw [hq] at ho
      injection ho with ho
      subst ho
      cases hc)
set_option maxRecDepth 100000 in
set_option maxHeartbeats 8000000 in
theorem leave_any (v : Value) (i : Nat) (l : List Ln) (w : World) (hi : i ≤ 4) (h : LnsAt w w.heap.size v l) (hl : l.length ≤ 2000) (hin : ∀ x ∈ l, x.inr) :
    Calls Try.prog 38 #[v, .int .i64 i] w (LvPost (leaveL l i) w) := by
  have H := Lib.hid h
  have HIN := Lib.hid hin
  obtain ⟨A, c, rfl, hc⟩ := h.form
  clear h hin
  refine (callsIn_wide (n := 9)).1 ?_
  refine callsIn_of_wp_marks Try.func38 rfl trivial ?_ rfl
  simp only [Try.ntmps38, List.size_toArray, List.length_cons, List.length_nil, Nat.reduceAdd, Nat.reduceSub, Array.replicate_succ, Array.replicate_zero, List.push_toArray, List.append_toArray, List.nil_append, List.cons_append]
  refine wpIn_wide.2 ?_
  go_upto_region 3 with (fail)
  generalize hW : World.alloc (World.alloc _ _) _ = w1 at *
  have z1 : (w.alloc (.cells #[.int .i64 (i : Int)] 3)).heap.size = w.heap.size + 1 := by simp [go_sem]
  have z2 : ((w.alloc (.cells #[.int .i64 (i : Int)] 3)).alloc (.cells #[.slice none 0 0] 61)).heap.size = w.heap.size + 1 + 1 := by simp [go_sem]
  have z3 : (((w.alloc (.cells #[.int .i64 (i : Int)] 3)).alloc (.cells #[.slice none 0 0] 61)).alloc (.cells #[.int .i64 0] 32)).heap.size = w.heap.size + 1 + 1 + 1 := by simp [go_sem]
  have hv : LvV w1 w.heap.size (w.heap.size + 1) (w.heap.size + 1 + 1) (w.heap.size + 1 + 1 + 1) w1.heap.size i (.slice none 0 0) [] := by
    refine ⟨?_, ?_, ?_, ?_, ⟨World.ownsRow_nil _ _ _ _, fun _ => rfl⟩, ⟨by omega, by omega, by omega, ?_⟩⟩
    · rw [← hW]; exact (((RowAt.new w 3 [.int .i64 (i : Int)]).alloc _).alloc _).alloc _
    · rw [← hW, ← z1]; exact ((RowAt.new _ 61 [.slice none 0 0]).alloc _).alloc _
    · rw [← hW, ← z2]; exact (RowAt.new _ 32 [.int .i64 0]).alloc _
    · rw [← hW, ← z3]; exact RowAt.new _ 61 [.slice none 0 0]
    · rw [← hW]; simp [go_sem]
  have HB1 : Hid (Bel w w1) := Lib.hid (by rw [← hW]; exact (((Bel.refl.alloc _).alloc _).alloc _).alloc _)
  clear z1 z2 z3 hW
  obtain ⟨p3, hp3⟩ : ∃ p, p = w.heap.size := ⟨_, rfl⟩
  rw [← hp3] at hv ⊢
  obtain ⟨p4, hp4⟩ : ∃ p, p = p3 + 1 := ⟨_, rfl⟩
  rw [← hp4] at hv ⊢
  obtain ⟨p5, hp5⟩ : ∃ p, p = p4 + 1 := ⟨_, rfl⟩
  rw [← hp5] at hv ⊢
  obtain ⟨p6, hp6⟩ : ∃ p, p = p5 + 1 := ⟨_, rfl⟩
  rw [← hp6] at hv ⊢
  obtain ⟨base, hbase⟩ : ∃ p, p = w1.heap.size := ⟨_, rfl⟩
  rw [← hbase] at hv
  have HP : Hid (w.heap.size ≤ p3 ∧ w.heap.size ≤ p4 ∧ w.heap.size ≤ p5 ∧ w.heap.size ≤ p6 ∧ w.heap.size ≤ base) := Lib.hid (by have := HB1.out.le; omega)
  have HBS : Hid (base ≤ w1.heap.size) := Lib.hid (by omega)
  have HV := Lib.hid hv
  clear hv hp3 hp4 hp5 hp6 hbase
  go_wp2
  go_loopw [7, 8, 22] (fun s7 s8 s22 wq => ∃ (k : Nat) (y : Ext w) (u : Value), k ≤ l.length ∧ s22 = .int .i64 k ∧ s7 = .int .i64 (posN l i k) ∧ s8 = .int .i64 (negN l i k) ∧ wq = y.w ∧ base ≤ y.w.heap.size ∧ LvV y.w p3 p4 p5 p6 base i u (zerL (l.take k) i)) (fun _ _ s22 _ => l.length - (intOf s22).toNat)
  case atStart => exact ⟨0, ⟨_, HB1.out⟩, _, Nat.zero_le _, rfl, rfl, rfl, rfl, HBS.out, HV.out⟩
  case round =>
    obtain ⟨k, y0, u, hk, rfl, rfl, rfl, rfl, hbs, hv⟩ := hrel
    clear HV HB1 HBS
    have HV := Lib.hid hv
    obtain ⟨Au, cu, rfl, _⟩ := own_slice hv.out.own
    clear hv
    by_cases hlt : k < l.length
    · have hd : decide ((k : Int) < (l.length : Int)) = true := by simp; omega
      have hL : (k : Int) < (l.length : Int) := by omega
      have wk : IntKind.i64.wrap ((k : Int) + 1) = ((k + 1 : Nat) : Int) := IntWalk.i64_in _ (by omega)
      have wp : IntKind.i64.wrap ((posN l i k : Int) + 1) = ((posN l i k + 1 : Nat) : Int) := IntWalk.i64_in _ (by have := posN_le l i k; omega)
      have wn : IntKind.i64.wrap ((negN l i k : Int) + 1) = ((negN l i k + 1 : Nat) : Int) := IntWalk.i64_in _ (by have := negN_le l i k; omega)
      obtain ⟨g, off, rfl, hg, hcl⟩ := (H.out.keep y0.bel.keeps y0.bel.le).at_ (by omega)
      obtain ⟨x0, x1, x2, x3, x4, x5, x6, x7⟩ := rd_line hcl hlt
      clear hcl
      have r3 := HV.out.b3
      have c3 := r3.cell (i := 0) rfl
      have l3 := r3.lt
      have h6 : ¬ (i : Int) < 0 := by omega
      have h6' : (i : Int) < 6 := by omega
      obtain ⟨X, hX⟩ : ∃ X, lnAt l k = X := ⟨_, rfl⟩
      rw [hX] at x0 x1 x2 x3 x4 x5 x6 x7
      have HX := Lib.hid hX
      clear hX r3
      have rb := RowAt.new y0.w 72 X.cells
      have cb := box_ci rb (show i < 6 by omega)
      have hb1 : Bel y0.w (y0.w.alloc (.cells X.cells.toArray 72)) := Bel.refl.alloc _
      unfold Ln.cells at rb cb hb1
      have HRB := Lib.hid rb
      have HB1 := Lib.hid hb1
      clear rb hb1
      have HZ : Hid (zerL (l.take (k + 1)) i = zerL (l.take k) i ++ if ci X i = 0 then [shortL X i] else []) := Lib.hid (by rw [zerL_succ hlt, HX.out])
      have HPN : Hid (posN l i (k + 1) = posN l i k + if 0 < ci X i then 1 else 0) := Lib.hid (by rw [posN_succ hlt, HX.out])
      have HNN : Hid (negN l i (k + 1) = negN l i k + if ci X i < 0 then 1 else 0) := Lib.hid (by rw [negN_succ hlt, HX.out])
      by_cases hcp : 0 < ci X i
      · have d1 : decide (ci X i > 0) = true := by simp; omega
        have d1' : decide (0 < ci X i) = true := by simp; omega
        have HZ2 : Hid (zerL (l.take (k + 1)) i = zerL (l.take k) i) := Lib.hid (by rw [HZ.out, if_neg (by omega), List.append_nil])
        have HP2 : Hid (posN l i (k + 1) = posN l i k + 1) := Lib.hid (by rw [HPN.out, if_pos hcp])
        have HN2 : Hid (negN l i (k + 1) = negN l i k) := Lib.hid (by rw [HNN.out, if_neg (by omega)]; rfl)
        clear hcp
        go_wp2
        go_roundw
        case rel => exact ⟨k + 1, ⟨_, y0.bel.trans HB1.out⟩, _, hlt, by go_num, by rw [HP2.out]; first | done | rfl | go_num, by rw [HN2.out]; first | done | rfl | go_num, rfl, Nat.le_trans hbs HB1.out.le, by rw [HZ2.out]; exact HV.out.bel HB1.out⟩
        case measure => simp [intOf]; omega
      · have d1 : decide (ci X i > 0) = false := by simp; omega
        have d1' : decide (0 < ci X i) = false := by simp; omega
        by_cases hcn : ci X i < 0
        · have d2 : decide (ci X i < 0) = true := by simp; omega
          have HZ2 : Hid (zerL (l.take (k + 1)) i = zerL (l.take k) i) := Lib.hid (by rw [HZ.out, if_neg (by omega), List.append_nil])
          have HP2 : Hid (posN l i (k + 1) = posN l i k) := Lib.hid (by rw [HPN.out, if_neg hcp]; rfl)
          have HN2 : Hid (negN l i (k + 1) = negN l i k + 1) := Lib.hid (by rw [HNN.out, if_pos hcn])
          clear hcp hcn
          go_wp2
          go_roundw
          case rel => exact ⟨k + 1, ⟨_, y0.bel.trans HB1.out⟩, _, hlt, by go_num, by rw [HP2.out]; first | done | rfl | go_num, by rw [HN2.out]; first | done | rfl | go_num, rfl, Nat.le_trans hbs HB1.out.le, by rw [HZ2.out]; exact HV.out.bel HB1.out⟩
          case measure => simp [intOf]; omega
        · have d2 : decide (ci X i < 0) = false := by simp; omega
          have HZ2 : Hid (zerL (l.take (k + 1)) i = zerL (l.take k) i ++ [shortL X i]) := Lib.hid (by rw [HZ.out, if_pos (by omega)])
          have HP2 : Hid (posN l i (k + 1) = posN l i k) := Lib.hid (by rw [HPN.out, if_neg hcp]; rfl)
          have HN2 : Hid (negN l i (k + 1) = negN l i k) := Lib.hid (by rw [HNN.out, if_neg hcn]; rfl)
          clear hcp hcn
          go_upto_region 6 with (fail)
          have rx := HRB.out
          have hB2 := HB1.out
          have hbl6 : p6 < y0.w.heap.size := HV.out.b6.lt
          generalize hW : World.alloc y0.w _ = w2 at *
          clear hW HRB HB1
          obtain ⟨px, hpx⟩ : ∃ px, px = y0.w.heap.size := ⟨_, rfl⟩
          rw [← hpx] at rx ⊢
          have HPX := Lib.hid hpx
          clear hpx x0 x1 x2 x3 x4 x5 x6 x7 cb c3 l3 hbl6 hg
          have HV2 := Lib.hid (HV.out.bel hB2)
          have HB2 := Lib.hid (y0.bel.trans hB2)
          have hbs2 : base ≤ w2.heap.size := Nat.le_trans hbs hB2.le
          have c3 := HV2.out.b3.cell (i := 0) rfl
          have l3 := HV2.out.b3.lt
          have c6 := HV2.out.b6.cell (i := 0) rfl
          have l6 := HV2.out.b6.lt
          have x0 := rx.cell (i := 0) rfl
          have x1 := rx.cell (i := 1) rfl
          have x2 := rx.cell (i := 2) rfl
          have x3 := rx.cell (i := 3) rfl
          have x4 := rx.cell (i := 4) rfl
          have x5 := rx.cell (i := 5) rfl
          have x6 := rx.cell (i := 6) rfl
          have x7 := rx.cell (i := 7) rfl
          have lx := rx.lt
          have hn3 := HV2.out.out.ne (show p3 < base by have := HV2.out.lt; omega)
          have hn6 := HV2.out.out.ne (show p6 < base by have := HV2.out.lt; omega)
          have hnx : some px ≠ (Value.slice Au (zerL (l.take k) i).length cu).ownBlock := by
            rcases HV2.out.out.own.2 with ⟨hv, _⟩ | ⟨g', cap, cur, hv, _, hgh, _, _, hcs, _⟩
            · rw [hv]; simp [Value.ownBlock]
            · rw [hv]
              intro e
              simp only [Value.ownBlock, Option.some.injEq] at e
              subst e
              have hlt2 : px < y0.w.heap.size := by
                rcases HV.out.out.own.2 with ⟨hv2, _⟩ | ⟨g2, _, _, hv2, _, hg2, _⟩
                · rw [hv] at hv2; cases hv2
                · rw [hv] at hv2
                  injection hv2 with hv2
                  injection hv2 with hv2
                  injection hv2 with hv2
                  subst hv2
                  exact Blk.lt hg2
              exact absurd hlt2 (by have := HPX.out; omega)
          generalize hrow : (Value.slice Au (zerL (l.take k) i).length cu).ownBlock = row at *
          (refine wp_region_E 6 row (by kernel_rfl) ?_; refine anyE_takes [0, 1, 2] (fun _ _ _ _ _ h => h) ⟨⟨_, gro_drew (gro_refl _)⟩, rfl⟩ (by kernel_rfl) (by rfl) ?_; simp only [opsOf, List.filterMap_cons, List.filterMap_nil, List.getElem?_toArray, List.getElem?_cons_succ, List.getElem?_cons_zero, List.foldl_cons, List.foldl_nil]; (repeat (any_goals (first | go_big_quiet_step (fail) | quiet_step (fail)))); refine wpQuiet_nil ?_)
          clear c3 l3 c6 l6 x0 x1 x2 x3 x4 x5 x6 x7 lx rx hn3 hn6 hnx
          have HB3 := Lib.hid HB2.out.drew
          have HV3 := Lib.hid (HV2.out.bel (Bel.refl (w := w2)).drew)
          have HG3 : Hid (w2.grownBy w2.drew none) := Lib.hid (gro_drew (gro_refl _))
          have hbs3 : base ≤ w2.drew.heap.size := hbs2
          generalize w2.drew = w3 at *
          have HSH := Lib.hid (short_any X i w3 hi)
          (refine anyE_one 3 _ (by kernel_rfl) (by rfl) (fun K hK => ?_))
          rw [if_pos (by rfl)]
          go_simp
          refine HSH.out.mono ?_
          rintro _ w4 ⟨rfl, hB⟩
          refine hK _ _ (fun _ => ⟨⟨_, gro_weak (HG3.out.trans (gro_of_bel2 hB)) row⟩, rfl⟩) ?_
          clear hK K HSH
          have HB4 := Lib.hid (HB3.out.trans hB)
          have HV4 := Lib.hid (HV3.out.bel hB)
          have HG4 := Lib.hid (HG3.out.trans (gro_of_bel2 hB))
          have hbs4 : base ≤ w4.heap.size := Nat.le_trans hbs3 hB.le
          clear hB HB3 HV3 HG3
          generalize shortL X i = Z at *
          unfold Ln.V
          (refine anyE_one 4 _ (by kernel_rfl) (by rfl) (fun K hK => ?_))
          rw [if_pos (by rfl)]
          go_simp
          have HG5 := Lib.hid (gro_alloc HG4.out (.cells Z.cells.toArray 72))
          refine hK _ _ (fun _ => ⟨⟨_, gro_weak HG5.out row⟩, rfl⟩) ?_
          clear hK K
          have hbs5 : base ≤ (w4.alloc (.cells Z.cells.toArray 72)).heap.size := Nat.le_trans hbs4 (Bel.refl.alloc _).le
          have hzl : (zerL (l.take k) i).length ≤ 1000000 := by have := zerL_le l i k; omega
          obtain ⟨A9, c9, W11, hap, hout, hg11, hgb⟩ := out_append (HV4.out.out.bel (Bel.refl.alloc (.cells Z.cells.toArray 72))) hzl hbs5 (RowAt.new w4 72 Z.cells)
          unfold Ln.cells at hap
          (refine anyE_one 5 _ (by kernel_rfl) (by rfl) (fun K hK => ?_))
          rw [if_pos (by rfl)]
          refine oper_append_run _ _ 61 rfl _ _ _ rfl rfl (hap _) (hK _ _ (fun _ => ⟨⟨_, (gro_weak HG5.out row).trans (hrow ▸ hgb)⟩, rfl⟩) ?_)
          simp only [Act.put, List.setIfInBounds_toArray]
          clear hK K hap
          have HX11 := Lib.hid ((GroX.of_bel (base := base) (ex := []) (Bel.refl.alloc (.cells Z.cells.toArray 72))).trans hg11)
          have HO11 := Lib.hid hout
          have hr6 := HX11.out.row HV4.out.b6 (by simp) (.inr (.inl (by decide)))
          have d6 := hr6.cell (i := 0) rfl
          have f6 := hr6.frozen 0
          have l6 := hr6.lt
          have HR6 := Lib.hid hr6
          clear hg11 hout hgb hr6
          (refine anyE_tail 6 (by decide) (by rfl) (by kernel_rfl) ?_; simp only [List.drop_succ_cons, List.drop_zero])
          go_wp2
          refine NoPanic.normal ?_
          have HXN := Lib.hid ((HX11.out.wide (ex' := [p6]) (by simp)).set (p := p6) (o := 0) (by simp) (.slice A9 ((zerL (l.take k) i).length + 1) c9))
          have HVN := Lib.hid (HV4.out.gro HXN.out (HR6.out.set 0 _) ⟨own_far6 HO11.out.own HR6.out, HO11.out.nn⟩)
          have HBN := Lib.hid (HXN.out.bel HB4.out (by have := HP.out; omega) (by simp; have := HP.out; omega))
          have hbn : base ≤ (W11.setCell ⟨p6, 0, none⟩ (.slice A9 ((zerL (l.take k) i).length + 1) c9)).heap.size := Nat.le_trans hbs4 HXN.out.size
          clear d6 f6 l6
          generalize World.setCell W11 _ _ = W12 at *
          go_wp2
          go_roundw
          case rel => exact ⟨k + 1, ⟨_, HBN.out⟩, _, hlt, by go_num, by rw [HP2.out], by rw [HN2.out], rfl, hbn, by rw [HZ2.out]; exact HVN.out⟩
          case measure => simp [intOf]; omega
    · obtain rfl : k = l.length := by omega
      have hd : decide ((l.length : Int) < (l.length : Int)) = false := by simp
      rw [List.take_length] at HV
      have hpl : posN l i l.length = (posL l i).length := by unfold posN; rw [List.take_length]
      have hnl : negN l i l.length = (negL l i).length := negN_all l i
      rw [hpl, hnl]
      have h1 := zerL_le l i l.length
      have h2 := posN_le l i l.length
      have h3 := negN_le l i l.length
      rw [List.take_length] at h1
      rw [hpl] at h2
      rw [hnl] at h3
      have HLEN := Lib.hid (And.intro h1 (And.intro h2 h3))
      have HM : Hid (leaveL l i = if 1000 < (zerL l i).length + (posL l i).length * (negL l i).length then ([], 3) else if (PL l i).all (fun p => okL (sumL i p)) then (tidyL (zerL l i ++ (PL l i).map (sumL i)), 0) else ([], 7)) := Lib.hid rfl
      have HPLL := Lib.hid (pl_len l i)
      clear hpl hnl
      generalize (posL l i).length = np at *
      generalize (negL l i).length = nn at *
      have hmul : np * nn ≤ 2000 * 2000 := Nat.mul_le_mul (by omega) (by omega)
      have wm : IntKind.i64.wrap ((np : Int) * (nn : Int)) = ((np * nn : Nat) : Int) := by rw [← Int.natCast_mul]; exact IntWalk.i64_in _ (by omega)
      rw [← HPLL.out] at HM hmul wm
      clear HPLL
      have HZI : Hid (∀ z, z ∈ zerL l i → z.inr) := Lib.hid (fun z hz => by
        obtain ⟨x, hx, rfl⟩ := List.mem_map.1 hz
        exact short_inr (HIN.out x (List.mem_filter.1 hx).1) i)
      generalize hzs : zerL l i = zs at *
      have wa : IntKind.i64.wrap ((zs.length : Int) + (((PL l i).length : Nat) : Int)) = ((zs.length + (PL l i).length : Nat) : Int) := by rw [← Int.natCast_add]; exact IntWalk.i64_in _ (by omega)
      have c6 := HV.out.b6.cell (i := 0) rfl
      have l6 := HV.out.b6.lt
      have c4 := HV.out.b4.cell (i := 0) rfl
      have l4 := HV.out.b4.lt
      have f4 := HV.out.b4.frozen 0
      have c5 := HV.out.b5.cell (i := 0) rfl
      have l5 := HV.out.b5.lt
      have f5 := HV.out.b5.frozen 0
      have c3 := HV.out.b3.cell (i := 0) rfl
      have l3 := HV.out.b3.lt
      clear h1 h2 h3 hzs
      have HBY := Lib.hid y0.bel
      by_cases hbig : 1000 < zs.length + (PL l i).length
      · have d1 : decide (((zs.length + (PL l i).length : Nat) : Int) > 1000) = true := by simp; omega
        have d2 : decide (1000 < ((zs.length + (PL l i).length : Nat) : Int)) = true := by simp; omega
        have d3 : decide (1000 < (zs.length : Int) + ((PL l i).length : Int)) = true := by simp; omega
        have HM2 : Hid (leaveL l i = ([], 3)) := Lib.hid (by rw [HM.out, if_pos hbig])
        have h45 : p4 ≠ p5 := by have := HV.out.lt; omega
        have HR4 := Lib.hid ((HV.out.b4.set 0 (.slice none 0 0)).far (a := ⟨p5, 0, none⟩) h45 (.int .i64 3))
        have HR5 := Lib.hid ((HV.out.b5.far (a := ⟨p4, 0, none⟩) (fun e => h45 e.symm) (.slice none 0 0)).set 0 (.int .i64 3))
        have HBN := Lib.hid ((HBY.out.set (p := ⟨p4, 0, none⟩) HP.out.2.1 (.slice none 0 0)).set (p := ⟨p5, 0, none⟩) HP.out.2.2.1 (.int .i64 3))
        clear hbig hmul HM
        go_wp2
        generalize World.setCell (World.setCell y0.w _ _) _ _ = W9 at *
        rw [HM2.out]
        refine leave_cells (M := ([], 3)) rfl HR4.out HR5.out RdAt.nil HBN.out [] .nil (fun D hD => by cases hD) ?_ ?_ <;> rfl
      · have d1 : decide (((zs.length + (PL l i).length : Nat) : Int) > 1000) = false := by simp; omega
        have d2 : decide (1000 < ((zs.length + (PL l i).length : Nat) : Int)) = false := by simp; omega
        have d3 : decide (1000 < (zs.length : Int) + ((PL l i).length : Int)) = false := by simp; omega
        have HM2 : Hid (leaveL l i = if (PL l i).all (fun p => okL (sumL i p)) then (tidyL (zs ++ (PL l i).map (sumL i)), 0) else ([], 7)) := Lib.hid (by rw [HM.out, if_neg hbig])
        have hN : zs.length + (PL l i).length ≤ 1000 := by omega
        have HN := Lib.hid hN
        clear hbig hmul HM hN
        go_wp2_with fail
        refine (pairs_any _ _ _ _ _).mono ?_
        rintro e w5 ⟨rfl, rfl⟩
        generalize hWa : World.alloc y0.w _ = wa
        generalize hWb : World.alloc wa _ = wb
        have za : wa.heap.size = y0.w.heap.size + 1 := by rw [← hWa]; simp [go_sem]
        have rl : RowAt wb y0.w.heap.size 61 [.slice A l.length c] := by rw [← hWb, ← hWa]; exact (RowAt.new _ _ _).alloc _
        have ri : RowAt wb (y0.w.heap.size + 1) 3 [.int .i64 (i : Int)] := by rw [← za, ← hWb]; exact RowAt.new _ _ _
        have hB5 : Bel y0.w wb := by rw [← hWb, ← hWa]; exact (Bel.refl.alloc _).alloc _
        clear hWa hWb za c6 l6 c4 l4 f4 c5 l5 f5 c3 l3
        obtain ⟨bl, hbl⟩ : ∃ bl, bl = y0.w.heap.size := ⟨_, rfl⟩
        rw [← hbl] at rl ri ⊢
        obtain ⟨bi, hbi⟩ : ∃ bi, bi = bl + 1 := ⟨_, rfl⟩
        rw [← hbi] at ri ⊢
        have HV5 := Lib.hid (HV.out.bel hB5)
        have HB5 := Lib.hid (HBY.out.trans hB5)
        have hbs5 : base ≤ wb.heap.size := Nat.le_trans hbs hB5.le
        have HBL : Hid (bl ≠ p6 ∧ bi ≠ p6) := Lib.hid (by have := HV.out.b6.lt; omega)
        have HLI : Hid (LvI w wb p3 p4 p5 p6 base bl bi i (.slice A l.length c) l zs []) := Lib.hid ⟨⟨_, by rw [List.append_nil]; exact HV5.out⟩, rl, ri, HB5.out, hbs5, by simp⟩
        have hlz := rl.lt
        have hiz := ri.lt
        have HCL := Lib.hid (rl.cell (i := 0) rfl)
        have HCI := Lib.hid (ri.cell (i := 0) rfl)
        have HLN := Lib.hid (show LnsAt wb w.heap.size (.slice A l.length c) l from RdAt.keep H.out HB5.out.keeps (Nat.le_refl _))
        have hww := HB5.out.le
        clear hbl hbi rl ri hB5 HV HBY hbs
        go_wp2
        refine (wpIn_wide (n := 9)).1 ?_
        refine wpIn_rangeFunc_mk rfl (by omega) (gf := 101) (lb := #[.pointer (some ⟨bl, 0, none⟩), .pointer (some ⟨bi, 0, none⟩)]) rfl trivial (enters_of Try.func101 (by kernel_rfl) rfl)
          (pairs_stops 8 (by omega) bl bi w.heap.size i (.slice A l.length c) l (by omega) (by omega) wb hww hlz hiz HCL.out HCI.out HLN.out) KpP.trans (fun W k o o' h1 h2 h3 _ => KpP.put hww hlz hiz W k o o' h1 h2 h3) (fun _ => rfl)
          (fun pre W' => LvI w W' p3 p4 p5 p6 base bl bi i (.slice A l.length c) l zs (pre.map fun j => sumL i (plAt l i (j % (PL l i).length))))
          (fun c pre W' => c = .ret ∧ (∃ j, j ∈ pre ∧ okL (sumL i (plAt l i (j % (PL l i).length))) = false) ∧ RowAt W' p4 61 [.slice none 0 0] ∧ RowAt W' p5 32 [.int .i64 7] ∧ Bel w W')
          ?hI ?hIx HLI.out
          (fun q W' => ∃ px py, LvAct p3 p4 p5 p6 px py q.2.2 ∧ RowAt W' px 72 (plAt l i (q.2.1 % (PL l i).length)).1.cells ∧ RowAt W' py 72 (plAt l i (q.2.1 % (PL l i).length)).2.cells ∧ LvI w W' p3 p4 p5 p6 base bl bi i (.slice A l.length c) l zs (q.1.map fun j => sumL i (plAt l i (j % (PL l i).length))) ∧ q.1.length < (PL l i).length)
          ?hA ?assign ?body ?done ?stop
        case hI => exact fun s W W' row hs hg hr => hs.nc hg (fun r e => Nat.le_trans hww (hr r e).1) (fun r e => (hr r e).2)
        case hIx => exact fun c s W W' row hs hg hr => ⟨hs.1, hs.2.1, row_nc hs.2.2.1 hg (fun r e => (hr r e).2), row_nc hs.2.2.2.1 hg (fun r e => (hr r e).2), Below.grown hs.2.2.2.2 hg hs.2.2.2.2.size (fun r e => Nat.le_trans hww (hr r e).1)⟩
        case hA =>
          rintro q W W' row ⟨px, py, h1, h2, h3, h4, h5⟩ hg hr
          exact ⟨px, py, h1, row_nc h2 hg (fun r e => (hr r e).2), row_nc h3 hg (fun r e => (hr r e).2), h4.nc hg (fun r e => Nat.le_trans hww (hr r e).1) (fun r e => (hr r e).2), h5⟩
        case assign =>
          intro lb pre x W' K hI hlen hK
          have HK := Lib.hid hK
          have HI := Lib.hid hI
          have HLE := Lib.hid hlen
          clear hK hI hlen
          obtain ⟨X, hX⟩ : ∃ X, (plAt l i (x % (PL l i).length)).1 = X := ⟨_, rfl⟩
          obtain ⟨Y, hY⟩ : ∃ Y, (plAt l i (x % (PL l i).length)).2 = Y := ⟨_, rfl⟩
          have HX := Lib.hid hX
          have HY := Lib.hid hY
          unfold pairV
          rw [hX, hY]
          clear hX hY
          gi_wp2
          have b1 : Bel W' ((W'.alloc (.cells X.cells.toArray 72)).alloc (.cells Y.cells.toArray 72)) := (Bel.refl.alloc _).alloc _
          have z1 : (W'.alloc (.cells X.cells.toArray 72)).heap.size = W'.heap.size + 1 := by simp [go_sem]
          refine HK.out _ _ ⟨W'.heap.size, W'.heap.size + 1, LvAct.lit _ (by rfl), ?_, ?_, ?_, HLE.out⟩ ?_ ?_
          · show RowAt _ _ _ (plAt l i (x % (PL l i).length)).1.cells
            rw [HX.out]; exact (RowAt.new W' 72 X.cells).alloc _
          · show RowAt _ _ _ (plAt l i (x % (PL l i).length)).2.cells
            rw [HY.out, ← z1]; exact RowAt.new _ 72 Y.cells
          · exact HI.out.nc (row := none) (gro_alloc (gro_alloc (gro_refl _) _) _) (fun r e => by cases e) (fun r e => by cases e)
          · exact (GroX.of_bel (base := 0) (ex := []) b1).keeps (by simp)
          · exact KpP.gro (gro_alloc (gro_alloc (gro_refl _) _) _) HI.out.bel.le HI.out.rl.lt HI.out.ri.lt
        case body =>
          rintro lb pre x a' W' ⟨px, py, ha, hx, hy, hI, hlen⟩
          obtain ⟨u, hv⟩ := hI.vv
          have hx2 : x % (PL l i).length < (PL l i).length := Nat.mod_lt _ (by simp only at hlen; omega)
          have hm := pl_mem (l := l) (i := i) (p := plAt l i (x % (PL l i).length)) (by
            unfold plAt; rw [List.getD_eq_getElem?_getD, List.getElem?_eq_getElem hx2]; exact List.getElem_mem hx2)
          refine lv_body2 lb i hi _ _ (HIN.out _ hm.1) (HIN.out _ hm.2.1) hm.2.2.1 hm.2.2.2 base p3 p4 p5 p6 px py u _ W' hv.b3 hv.b4 hv.b5 hv.b6 hx hy hv.out (by
            have := HN.out
            simp only at hlen ⊢
            rw [List.length_append, List.length_map]; omega) hI.bs a' ha _ ?_ ?_
          · intro a2 W2 v2 hok hg h6 ho
            have hk1 := hg.row hI.rl (by simpa using HBL.out.1) (.inr (.inl (by decide)))
            have hk2 := hg.row hI.ri (by simpa using HBL.out.2) (.inr (.inl (by decide)))
            refine ⟨hg.keeps (fun p hp => by
              have e : p = p6 := by simpa using hp
              subst e
              exact ⟨_, _, hv.b6⟩), KpP.groX hg (by have := HP.out; omega) (by have := HP.out; omega) (by have := hI.bel.le; exact this) hv.b6 hI.rl hI.ri HBL.out.1 HBL.out.2, ?_⟩
            refine ⟨⟨v2, ?_⟩, hk1, hk2, hg.bel hI.bel (by have := HP.out; omega) (by simp; have := HP.out; omega), Nat.le_trans hI.bs hg.size, fun z hz => ?_⟩
            · have := hv.gro hg h6 ho
              rw [List.map_append, ← List.append_assoc]; exact this
            · rw [List.map_append] at hz
              rcases List.mem_append.1 hz with hz | hz
              · exact hI.ok z hz
              · rw [show z = _ by simpa using hz]; exact hok
          · intro a2 W2 hok hg h4 h5
            refine ⟨hg.keeps (fun p hp => ?_), rfl, ⟨x, by simp, hok⟩, h4, h5, hg.bel hI.bel (by have := HP.out; omega) (by simp; have := HP.out; omega)⟩
            have hp : p = p4 ∨ p = p5 := by simpa using hp
            rcases hp with rfl | rfl
            · exact ⟨_, _, hv.b4⟩
            · exact ⟨_, _, hv.b5⟩
        case done =>
          rintro D ys W' hD rfl hI hdf
          have hms : (List.range (PL l i).length).map (fun j => sumL i (plAt l i (j % (PL l i).length))) = (PL l i).map (sumL i) := by
            apply List.ext_getElem
            · simp
            · intro n h1 h2
              have hn : n < (PL l i).length := by simpa using h1
              simp only [List.getElem_map, List.getElem_range, Nat.mod_eq_of_lt hn]
              unfold plAt
              rw [List.getD_eq_getElem?_getD, List.getElem?_eq_getElem hn]; rfl
          rw [hms] at hI
          have HI := Lib.hid hI
          have HDF := Lib.hid hdf
          have HMF : Hid (leaveL l i = (tidyL (zs ++ (PL l i).map (sumL i)), 0)) := Lib.hid (by
            rw [HM2.out, if_pos]
            rw [List.all_eq_true]
            intro p hp
            exact hI.ok _ (List.mem_map.2 ⟨p, hp, rfl⟩))
          have HWFZ : Hid (∀ z, z ∈ zs ++ (PL l i).map (sumL i) → z.wf) := Lib.hid (fun z hz => by
            rcases List.mem_append.1 hz with hz | hz
            · exact (HZI.out z hz).wf
            · exact (okL_inr (hI.ok z hz)).wf)
          obtain ⟨u, hv⟩ := hI.vv
          have HWL : Hid ((zs ++ (PL l i).map (sumL i)).length ≤ 4000) := Lib.hid (by have := HN.out; rw [List.length_append, List.length_map]; omega)
          have HBI := Lib.hid hI.bel
          clear hI HI hms
          generalize zs ++ (PL l i).map (sumL i) = ws at *
          obtain ⟨A9, c9, rfl, _⟩ := own_slice hv.out.own
          have HV9 := Lib.hid hv
          have d6 := hv.b6.cell (i := 0) rfl
          have l6 := hv.b6.lt
          have HTD := Lib.hid (tidy_any _ ws W' hv.out.lns HWL.out HWFZ.out)
          clear hv hdf
          dsimp only
          go_wp2_with fail
          refine HTD.out.mono ?_
          rintro e w9 ⟨v9, rfl, hln, hB⟩
          obtain ⟨A8, c8, rfl, _⟩ := hln.form
          have HB9 := Lib.hid (HBI.out.trans hB)
          have HV8 := Lib.hid (HV9.out.bel hB)
          have d4 := HV8.out.b4.cell (i := 0) rfl
          have f4 := HV8.out.b4.frozen 0
          have z4 := HV8.out.b4.lt
          have d5 := HV8.out.b5.cell (i := 0) rfl
          have f5 := HV8.out.b5.frozen 0
          have z5 := HV8.out.b5.lt
          have h45 : p4 ≠ p5 := by have := HV8.out.lt; omega
          have HR4 := Lib.hid ((HV8.out.b4.set 0 (.slice A8 (tidyL ws).length c8)).far (a := ⟨p5, 0, none⟩) h45 (.int .i64 0))
          have HR5 := Lib.hid ((HV8.out.b5.far (a := ⟨p4, 0, none⟩) (fun e => h45 e.symm) (.slice A8 (tidyL ws).length c8)).set 0 (.int .i64 0))
          have HBN := Lib.hid ((HB9.out.set (p := ⟨p4, 0, none⟩) HP.out.2.1 (.slice A8 (tidyL ws).length c8)).set (p := ⟨p5, 0, none⟩) HP.out.2.2.1 (.int .i64 0))
          have HLN := Lib.hid hln
          have HDF9 := Lib.hid (show w9.heap[D]? = some (.deferred (some [])) from (hB.block D (Blk.lt HDF.out)).trans HDF.out)
          clear hln hB d6 l6 HTD HV9
          go_wp2
          rw [HMF.out]
          have HDN : Hid (((w9.setCell ⟨p4, 0, none⟩ (.slice A8 (tidyL ws).length c8)).setCell ⟨p5, 0, none⟩ (.int .i64 0)).heap[D]? = some (.deferred (some []))) := Lib.hid (by
            have hne : ∀ p xs e, RowAt w9 p e xs → D ≠ p := fun p xs e r q => by
              subst q
              unfold RowAt at r
              have q := HDF9.out
              rw [r] at q
              cases q
            exact (Below.heap_setCell _ ⟨p5, 0, none⟩ _ D (hne _ _ _ HV8.out.b5)).trans ((Below.heap_setCell _ ⟨p4, 0, none⟩ _ D (hne _ _ _ HV8.out.b4)).trans HDF9.out))
          have HLN2 : Hid (LnsAt ((w9.setCell ⟨p4, 0, none⟩ (.slice A8 (tidyL ws).length c8)).setCell ⟨p5, 0, none⟩ (.int .i64 0)) ((w9.setCell ⟨p4, 0, none⟩ (.slice A8 (tidyL ws).length c8)).setCell ⟨p5, 0, none⟩ (.int .i64 0)).heap.size (.slice A8 (tidyL ws).length c8) (tidyL ws)) := Lib.hid (lns_far (lns_far HLN.out HV8.out.b4) (HV8.out.b5.far (a := ⟨p4, 0, none⟩) (fun e => h45 e.symm) (.slice A8 (tidyL ws).length c8)))
          generalize World.setCell (World.setCell w9 _ _) _ _ = W9 at *
          refine leave_cells (M := (tidyL ws, 0)) rfl HR4.out HR5.out HLN2.out HBN.out [D] (by simp) (fun E hE => by
            rw [show E = D by simpa using hE]
            exact ⟨Nat.le_trans hww hD, HDN.out⟩) ?_ ?_ <;> rfl
        case stop =>
          rintro D c pre W' hD ⟨k, hk, rfl⟩ ⟨rfl, ⟨j, hj, hbad⟩, h4, h5, hB⟩ hdf
          have HMF : Hid (leaveL l i = ([], 7)) := Lib.hid (by
            rw [HM2.out, if_neg]
            intro hall
            have hj2 : j < (PL l i).length := by have := List.mem_range.1 hj; omega
            have := List.all_eq_true.1 hall (plAt l i (j % (PL l i).length)) (by
              rw [Nat.mod_eq_of_lt hj2]
              unfold plAt; rw [List.getD_eq_getElem?_getD, List.getElem?_eq_getElem hj2]; exact List.getElem_mem hj2)
            rw [this] at hbad
            cases hbad)
          have HR4 := Lib.hid h4
          have HR5 := Lib.hid h5
          have HB9 := Lib.hid hB
          have HDF := Lib.hid hdf
          clear h4 h5 hB hdf
          gi_wp2
          rw [HMF.out]
          refine leave_cells (M := ([], 7)) rfl HR4.out HR5.out RdAt.nil HB9.out [D] (by simp) (fun E hE => by
            rw [show E = D by simpa using hE]
            exact ⟨Nat.le_trans hww hD, HDF.out⟩) ?_ ?_ <;> rfl
end Go.Proofs.Ytalphoebmefgoaa
/- poly: down, empty, Without, Empty, opposite: the walks. -/
namespace Go.Proofs.Ytalphoebmefgoaa
open Go.RowKit
set_option maxRecDepth 100000 in
set_option maxHeartbeats 4000000 in
theorem down_any (v : Value) (l : List Ln) (k m n : Nat) (w : World) (hkm : n = k + m) (hm : n ≤ 5) (h : LnsAt w w.heap.size v l) (hl : l.length ≤ 2000) (hin : ∀ x, x ∈ l → x.inr) :
    Calls Try.prog 77 #[v, .int .i64 n, .int .i64 k] w (LvPost (downL k m l) w) := by
  have HKM := Lib.hid hkm
  clear hkm
  have H := Lib.hid h
  have HIN := Lib.hid hin
  obtain ⟨A, c, rfl, hc⟩ := h.form
  clear h hin
  have wn : IntKind.i64.wrap ((n : Int) - 1) = (n : Int) - 1 := IntWalk.i64_in _ (by omega)
  go_enter Try.func77, Try.ntmps77
  go_wp2
  clear wn
  go_loopw [0, 7, 8] (fun s0 s7 s8 wq => ∃ (j : Nat) (y : Ext w) (u : Value) (d : List Ln) (e z : Int), j ≤ m ∧ z = (k : Int) + (j : Int) - 1 ∧ s0 = u ∧ s7 = .int .i64 e ∧ s8 = .int .i64 z ∧ wq = y.w ∧ LnsAt y.w y.w.heap.size u d ∧ d.length ≤ 2000 ∧ (∀ x, x ∈ d → x.inr) ∧ ((e = 0 ∧ downL k j d = downL k m l) ∨ (e ≠ 0 ∧ (d, e) = downL k m l))) (fun _ _ s8 _ => (intOf s8 + 2 - (k : Int)).toNat)
  case atStart => exact ⟨m, ⟨w, Bel.refl⟩, _, l, 0, _, Nat.le_refl _, by have := HKM.out; omega, rfl, rfl, rfl, rfl, H.out, hl, HIN.out, .inl ⟨rfl, rfl⟩⟩
  case round =>
    obtain ⟨j, y0, u, d, e, z, hj, hz, rfl, rfl, rfl, rfl, hd, hdl, hdi, hor⟩ := hrel
    have HD := Lib.hid hd
    obtain ⟨A1, c1, rfl, _⟩ := hd.form
    have HI := Lib.hid hdi
    clear hd hdi
    have HB := Lib.hid y0.bel
    rcases hor with ⟨rfl, hor⟩ | ⟨he, hor⟩
    · have HO := Lib.hid hor
      clear hor
      cases j with
      | zero =>
        have hd1 : decide (z ≥ (k : Int)) = false := decide_eq_false (by omega)
        have hd2 : decide ((k : Int) ≤ z) = false := decide_eq_false (by omega)
        have HP : Hid (LvPost (downL k m l) w (.returned (.tuple #[.slice A1 d.length c1, .int .i64 0])) y0.w) := Lib.hid ⟨_, by rw [← HO.out]; rfl, by rw [← HO.out]; exact HD.out, HB.out⟩
        clear HO
        go_wp2
        go_ret2
        exact HP.out
      | succ j =>
        obtain ⟨i, hik⟩ : ∃ i, i = k + j := ⟨_, rfl⟩
        have hi5 : i ≤ 4 := by have := HKM.out; omega
        obtain rfl : z = (i : Int) := by omega
        have hd1 : decide ((i : Int) ≥ (k : Int)) = true := decide_eq_true (by omega)
        have hd2 : decide ((k : Int) ≤ (i : Int)) = true := decide_eq_true (by omega)
        have hd3 : decide (k ≤ i) = true := decide_eq_true (by omega)
        have he0 : ((0 : Int) == 0) = true := rfl
        have wi : IntKind.i64.wrap ((i : Int) - 1) = (i : Int) - 1 := IntWalk.i64_in _ (by omega)
        have HZ := Lib.hid hik
        have HLV := Lib.hid (leave_any _ i d y0.w (by omega) HD.out hdl HI.out)
        have hun : downL k (j + 1) d = if (leaveL d i).2 = 0 then downL k j (leaveL d i).1 else leaveL d i := by rw [hik]; rfl
        clear hik hz
        have HO2 : Hid ((if (leaveL d i).2 = 0 then downL k j (leaveL d i).1 else leaveL d i) = downL k m l) := Lib.hid (by rw [← hun]; exact HO.out)
        have HLL := Lib.hid (leave_len d i)
        have HLI := Lib.hid (leave_inr (i := i) HI.out)
        clear HO hun
        generalize leaveL d i = M at *
        obtain ⟨d2, e2⟩ := M
        go_wp2_with fail
        refine HLV.out.mono ?_
        rintro e w2 ⟨v2, rfl, hln, hB⟩
        dsimp only at hln ⊢
        have HLN := Lib.hid hln
        obtain ⟨A2, c2, rfl, _⟩ := hln.form
        have HB2 := Lib.hid (HB.out.trans hB)
        clear hln hB HLV
        go_wp2
        go_roundw
        case rel => exact ⟨j, ⟨_, HB2.out⟩, _, d2, e2, _, by omega, by have := HZ.out; omega, rfl, rfl, rfl, rfl, HLN.out, by have := HLL.out; omega, HLI.out, by
          by_cases h0 : e2 = 0
          · exact .inl ⟨h0, by have := HO2.out; rwa [if_pos h0] at this⟩
          · exact .inr ⟨h0, by have := HO2.out; rwa [if_neg h0] at this⟩⟩
        case measure =>
          have := HZ.out
          simp only [intOf]
          omega
    · have he0 : (e == 0) = false := by simp [he]
      have HP : Hid (LvPost (downL k m l) w (.returned (.tuple #[.slice A1 d.length c1, .int .i64 e])) y0.w) := Lib.hid ⟨_, by rw [← hor], by rw [← hor]; exact HD.out, HB.out⟩
      clear hor he
      by_cases hjz : j = 0
      · have hd1 : decide (z ≥ (k : Int)) = false := decide_eq_false (by omega)
        have hd2 : decide ((k : Int) ≤ z) = false := decide_eq_false (by omega)
        go_wp2
        go_ret2
        exact HP.out
      · have hd1 : decide (z ≥ (k : Int)) = true := decide_eq_true (by omega)
        have hd2 : decide ((k : Int) ≤ z) = true := decide_eq_true (by omega)
        go_wp2
        go_ret2
        exact HP.out
end Go.Proofs.Ytalphoebmefgoaa
/- poly: empty, Without, Empty. -/
namespace Go.Proofs.Ytalphoebmefgoaa
open Go.RowKit
def BoPost (M : Bool × Int) (w : World) (e : Ending) (w' : World) : Prop := e = .returned (.tuple #[.bool M.1, .int .i64 M.2]) ∧ Bel w w'
set_option maxRecDepth 100000 in
set_option maxHeartbeats 4000000 in
theorem emptyp_any (v : Value) (l : List Ln) (n : Nat) (w : World) (hn : n ≤ 5) (h : LnsAt w w.heap.size v l) (hl : l.length ≤ 2000) (hin : ∀ x, x ∈ l → x.inr) :
    Calls Try.prog 44 #[.int .i64 n, v] w (BoPost (emptyL n l) w) := by
  have HTD := Lib.hid (tidy_any v l w h (by omega) (fun x hx => (hin x hx).wf))
  have HTL := Lib.hid (tidy_len l)
  have HTI := Lib.hid (tidy_inr hin)
  obtain ⟨A, c, rfl, hc⟩ := h.form
  clear h hin
  have HM : Hid (emptyL n l = (decide ((downL 0 n (tidyL l)).2 = 0) && decide (0 < (downL 0 n (tidyL l)).1.length), (downL 0 n (tidyL l)).2)) := Lib.hid rfl
  go_enter Try.func44, Try.ntmps44
  go_wp2_with fail
  refine HTD.out.mono ?_
  rintro e w2 ⟨v2, rfl, hln, hB⟩
  have HDN := Lib.hid (down_any v2 (tidyL l) 0 n n w2 (by omega) hn hln (by have := HTL.out; omega) HTI.out)
  obtain ⟨A2, c2, rfl, _⟩ := hln.form
  have HB2 := Lib.hid hB
  clear hln hB HTD
  go_wp2_with fail
  refine HDN.out.mono ?_
  rintro e w3 ⟨v3, rfl, hln, hB⟩
  have HB3 := Lib.hid (HB2.out.trans hB)
  clear hB HDN
  generalize downL 0 n (tidyL l) = M at *
  obtain ⟨d, er⟩ := M
  dsimp only at hln ⊢
  obtain ⟨A3, c3, rfl, _⟩ := hln.form
  clear hln
  by_cases he : er = 0
  · subst he
    have h0 : ((0 : Int) == 0) = true := rfl
    by_cases hd : 0 < d.length
    · have d1 : decide ((d.length : Int) > 0) = true := decide_eq_true (by omega)
      have d2 : decide (0 < d.length) = true := decide_eq_true hd
      have d3 : decide ((0 : Int) < (d.length : Int)) = true := decide_eq_true (by omega)
      have HP : Hid (BoPost (emptyL n l) w (.returned (.tuple #[.bool true, .int .i64 0])) w3) := Lib.hid ⟨by rw [HM.out]; simp [hd], HB3.out⟩
      clear hd HM
      go_wp2
      go_ret2
      exact HP.out
    · have d1 : decide ((d.length : Int) > 0) = false := decide_eq_false (by omega)
      have d2 : decide (0 < d.length) = false := decide_eq_false hd
      have d3 : decide ((0 : Int) < (d.length : Int)) = false := decide_eq_false (by omega)
      have HP : Hid (BoPost (emptyL n l) w (.returned (.tuple #[.bool false, .int .i64 0])) w3) := Lib.hid ⟨by rw [HM.out]; simp [hd], HB3.out⟩
      clear hd HM
      go_wp2
      go_ret2
      exact HP.out
  · have h0 : (er == 0) = false := by simp [he]
    have HP : Hid (BoPost (emptyL n l) w (.returned (.tuple #[.bool false, .int .i64 er])) w3) := Lib.hid ⟨by rw [HM.out]; simp [he], HB3.out⟩
    clear he HM
    go_wp2
    go_ret2
    exact HP.out
end Go.Proofs.Ytalphoebmefgoaa
/- poly: Without, Empty. -/
namespace Go.Proofs.Ytalphoebmefgoaa
open Go.RowKit
theorem LinesAt.nil {w : World} {B : Nat} : LinesAt w B (.slice none 0 0) [] := ⟨none, 0, rfl, Nat.le_refl _, fun h => absurd h (by simp)⟩
/-- what a function hands back that returns lines and an error -/
def LsPost (M : List AL × Int) (w : World) (e : Ending) (w' : World) : Prop := ∃ v', e = .returned (.tuple #[v', .int .i64 M.2]) ∧ LinesAt w' w'.heap.size v' M.1 ∧ Bel w w'
/-- as LsPost, and the lines are the call's own -/
def WiPost (M : List AL × Int) (w : World) (e : Ending) (w' : World) : Prop := ∃ v', e = .returned (.tuple #[v', .int .i64 M.2]) ∧ LinesAt w' w'.heap.size v' M.1 ∧ Bel w w' ∧ ∃ L, AO w' w.heap.size v' L ∧ L.map Prod.snd = M.1
theorem WiPost.ls {M : List AL × Int} {w w' : World} {e : Ending} (h : WiPost M w e w') : LsPost M w e w' := let ⟨v, h1, h2, h3, _⟩ := h; ⟨v, h1, h2, h3⟩
theorem wi_none {M : List AL × Int} {er : Int} {w W : World} (h : M = ([], er)) (hb : Bel w W) : WiPost M w (.returned (.tuple #[.slice none 0 0, .int .i64 er])) W := by subst h; exact ⟨_, rfl, LinesAt.nil, hb, [], AO.nil, rfl⟩
def padAll (l : List AL) : List Ln := l.map padL
theorem pad_inr {n : Int} {l : List AL} (h : checkM n l = 0) : ∀ x, x ∈ padAll l → x.inr := fun x hx => by
  obtain ⟨y, hy, rfl⟩ := List.mem_map.1 hx
  obtain ⟨h1, _, h3⟩ := check_fits h
  exact fits_inr (h3 y hy) (by omega)
theorem pad_len (l : List AL) : (padAll l).length = l.length := by unfold padAll; simp
theorem alAt_mem {l : List AL} {i : Nat} (h : i < l.length) : alAt l i ∈ l := by rw [alAt_get h]; exact List.getElem_mem h
theorem check_lens {n : Int} {l : List AL} (h : checkM n l = 0) : ∀ i, i < l.length → (alAt l i).a.length ≤ 6 := fun i hi => by
  obtain ⟨h1, _, h3⟩ := check_fits h
  have := fits_len (h3 _ (alAt_mem hi))
  omega
theorem OfPost.lns {l : List AL} {w w' : World} {b : Nat} (hb : w.heap.size ≤ b) (hl : l.length ≤ 1000000) (h : RowAt w' b 72 (rowL (ofD l l.length) l.length)) : LnsAt w' w'.heap.size (.slice (some ⟨b, 0, none⟩) l.length l.length) (padAll l) :=
  RdAt.of_own cells8 (by simp [padAll]) (OfPost.own hb hl h)
def withoutM (n : Int) (l : List AL) (i : Int) : List AL × Int :=
  if checkM n l ≠ 0 then ([], checkM n l) else if i < 0 ∨ n ≤ i then ([], 2)
  else if (leaveL (padAll l) i.toNat).2 ≠ 0 then ([], (leaveL (padAll l) i.toNat).2) else ((leaveL (padAll l) i.toNat).1.map (tellA (n - 1).toNat), 0)
set_option maxRecDepth 100000 in
set_option maxHeartbeats 4000000 in
theorem without_any (n i : Int) (v : Value) (l : List AL) (w : World) (h : LinesAt w w.heap.size v l) (hl : AlLens l) (hn : l.length ≤ 1000000) : Calls Try.prog 13 #[.int .i64 n, v, .int .i64 i] w (WiPost (withoutM n l i) w) := by
  have H := Lib.hid h
  have HCK := Lib.hid (check_any n v l w h hl hn)
  obtain ⟨A, c, rfl, hc⟩ := h.form
  clear h hl
  go_enter Try.func13, Try.ntmps13
  go_wp2_with fail
  refine HCK.out.mono ?_
  rintro e w1 ⟨rfl, hB⟩
  have HB1 := Lib.hid hB
  clear hB HCK
  by_cases hck : checkM n l = 0
  · have HC := Lib.hid hck
    rw [hck]
    have h0 : ((0 : Int) != 0) = false := rfl
    obtain ⟨hn5, hl1, _⟩ := check_fits hck
    have HM : Hid (withoutM n l i = if i < 0 ∨ n ≤ i then ([], 2) else if (leaveL (padAll l) i.toNat).2 ≠ 0 then ([], (leaveL (padAll l) i.toNat).2) else ((leaveL (padAll l) i.toNat).1.map (tellA (n - 1).toNat), 0)) := Lib.hid (by unfold withoutM; rw [if_neg (by simp [hck])])
    clear hck
    have herr : i < 0 ∨ n ≤ i → Hid (WiPost (withoutM n l i) w (.returned (.tuple #[.slice none 0 0, .int .i64 2])) w1) := fun q => Lib.hid (wi_none (by rw [HM.out, if_pos q]) HB1.out)
    by_cases hi1 : i < 0
    · have d1 : decide (i < 0) = true := decide_eq_true hi1
      have HP := herr (.inl hi1)
      clear herr hi1 HM
      go_wp2
      go_ret2
      exact HP.out
    · have d1 : decide (i < 0) = false := decide_eq_false hi1
      by_cases hi2 : n ≤ i
      · have d2 : decide (i ≥ n) = true := decide_eq_true hi2
        have d3 : decide (n ≤ i) = true := decide_eq_true hi2
        have HP := herr (.inr hi2)
        clear herr hi1 hi2 HM
        go_wp2
        go_ret2
        exact HP.out
      · have d2 : decide (i ≥ n) = false := decide_eq_false hi2
        have d3 : decide (n ≤ i) = false := decide_eq_false hi2
        have HM2 : Hid (withoutM n l i = if (leaveL (padAll l) i.toNat).2 ≠ 0 then ([], (leaveL (padAll l) i.toNat).2) else ((leaveL (padAll l) i.toNat).1.map (tellA (n - 1).toNat), 0)) := Lib.hid (by rw [HM.out, if_neg (by omega)])
        obtain ⟨j, rfl⟩ : ∃ j : Nat, i = (j : Int) := ⟨i.toNat, by omega⟩
        obtain ⟨m, rfl⟩ : ∃ m : Nat, n = (m : Int) := ⟨n.toNat, by omega⟩
        have hj4 : j ≤ 4 := by omega
        have d4 : decide (m ≤ j) = false := decide_eq_false (by omega)
        have hm5 : m ≤ 5 := by omega
        obtain ⟨q, hq⟩ : ∃ q : Nat, q = m - 1 := ⟨_, rfl⟩
        have wq : IntKind.i64.wrap ((m : Int) - 1) = (q : Int) := by rw [show (m : Int) - 1 = (q : Int) by omega]; exact IntWalk.i64_in _ (by omega)
        rw [Int.toNat_natCast, show ((m : Int) - 1).toNat = q by omega] at HM2
        clear herr hi1 hi2 HM hn5
        have HQ := Lib.hid hq
        clear hq
        have HOF := Lib.hid (of_any _ l w1 (H.out.bel HB1.out) (by omega) (check_lens HC.out))
        have HPI := Lib.hid (pad_inr HC.out)
        have HLL := Lib.hid (pad_len l)
        go_wp2_with fail
        refine HOF.out.mono ?_
        rintro e w2 ⟨b, rfl, hb, hB, hr⟩
        have HB2 := Lib.hid (HB1.out.trans hB)
        have HLV := Lib.hid (leave_any _ j (padAll l) w2 hj4 (OfPost.lns hb (by omega) hr) (by rw [pad_len]; omega) HPI.out)
        have HLI := Lib.hid (leave_len (padAll l) j)
        clear hb hB hr HOF
        go_wp2_with fail
        refine HLV.out.mono ?_
        rintro e w3 ⟨v3, rfl, hln, hB⟩
        have HB3 := Lib.hid (HB2.out.trans hB)
        clear hB HLV HB2
        generalize leaveL (padAll l) j = M at *
        obtain ⟨d, er⟩ := M
        dsimp only at hln HM2 HLI ⊢
        have HLN := Lib.hid hln
        obtain ⟨A3, c3, rfl, _⟩ := hln.form
        clear hln
        by_cases he : er = 0
        · subst he
          have HTO := Lib.hid (told_any q _ d w3 (by have := HQ.out; omega) HLN.out (by have := HLI.out; omega))
          have HM3 : Hid (withoutM m l j = (d.map (tellA q), 0)) := Lib.hid (by rw [HM2.out]; simp)
          unfold ToldPost at HTO
          clear HM2
          generalize d.map (tellA q) = ls at *
          go_wp2_with fail
          refine HTO.out.mono ?_
          rintro e w4 ⟨v4, rfl, hls, hB, L4, hL4, hm4⟩
          have HP : Hid (WiPost (withoutM m l j) w (.returned (.tuple #[v4, .int .i64 0])) w4) := Lib.hid ⟨_, by rw [HM3.out], by rw [HM3.out]; exact hls, HB3.out.trans hB, L4, hL4.base HB3.out.le, by rw [HM3.out]; exact hm4⟩
          obtain ⟨A4, c4, rfl, _⟩ := hls.form
          clear hls hB HTO HM3
          go_wp2
          go_ret2
          exact HP.out
        · have he0 : (er != 0) = true := by simp [he]
          have HP : Hid (WiPost (withoutM m l j) w (.returned (.tuple #[.slice none 0 0, .int .i64 er])) w3) := Lib.hid (wi_none (by rw [HM2.out, if_pos he]) HB3.out)
          clear he HM2
          go_wp2
          go_ret2
          exact HP.out
  · have h0 : (checkM n l != 0) = true := by simp [hck]
    have HP : Hid (WiPost (withoutM n l i) w (.returned (.tuple #[.slice none 0 0, .int .i64 (checkM n l)])) w1) := Lib.hid (by
      exact wi_none (by unfold withoutM; rw [if_pos hck]) HB1.out)
    clear hck
    generalize checkM n l = er at *
    go_wp2
    go_ret2
    exact HP.out
def EmptyM (n : Int) (l : List AL) : Bool × Int := if checkM n l ≠ 0 then (false, checkM n l) else emptyL n.toNat (padAll l)
set_option maxRecDepth 100000 in
set_option maxHeartbeats 4000000 in
theorem Empty_any (n : Int) (v : Value) (l : List AL) (w : World) (h : LinesAt w w.heap.size v l) (hl : AlLens l) (hn : l.length ≤ 1000000) : Calls Try.prog 18 #[.int .i64 n, v] w (BoPost (EmptyM n l) w) := by
  have H := Lib.hid h
  have HCK := Lib.hid (check_any n v l w h hl hn)
  obtain ⟨A, c, rfl, hc⟩ := h.form
  clear h hl
  go_enter Try.func18, Try.ntmps18
  go_wp2_with fail
  refine HCK.out.mono ?_
  rintro e w1 ⟨rfl, hB⟩
  have HB1 := Lib.hid hB
  clear hB HCK
  by_cases hck : checkM n l = 0
  · have HC := Lib.hid hck
    rw [hck]
    have h0 : ((0 : Int) != 0) = false := rfl
    obtain ⟨hn5, hl1, _⟩ := check_fits hck
    have HM : Hid (EmptyM n l = emptyL n.toNat (padAll l)) := Lib.hid (by unfold EmptyM; rw [if_neg (by simp [hck])])
    clear hck
    obtain ⟨m, rfl⟩ : ∃ m : Nat, n = (m : Int) := ⟨n.toNat, by omega⟩
    have hm5 : m ≤ 5 := by omega
    rw [Int.toNat_natCast] at HM
    clear hn5
    have HOF := Lib.hid (of_any _ l w1 (H.out.bel HB1.out) (by omega) (check_lens HC.out))
    have HPI := Lib.hid (pad_inr HC.out)
    go_wp2_with fail
    refine HOF.out.mono ?_
    rintro e w2 ⟨b, rfl, hb, hB, hr⟩
    have HB2 := Lib.hid (HB1.out.trans hB)
    have HEM := Lib.hid (emptyp_any _ (padAll l) m w2 hm5 (OfPost.lns hb (by omega) hr) (by rw [pad_len]; omega) HPI.out)
    clear hb hB hr HOF
    rw [← HM.out] at HEM
    clear HM
    generalize EmptyM m l = M at *
    obtain ⟨eb, er⟩ := M
    go_wp2_with fail
    refine HEM.out.mono ?_
    rintro e w3 ⟨rfl, hB⟩
    have HB3 := Lib.hid (HB2.out.trans hB)
    clear hB
    go_wp2
    go_ret2
    exact ⟨rfl, HB3.out⟩
  · have h0 : (checkM n l != 0) = true := by simp [hck]
    have HP : Hid (BoPost (EmptyM n l) w (.returned (.tuple #[.bool false, .int .i64 (checkM n l)])) w1) := Lib.hid (by
      have e : EmptyM n l = (false, checkM n l) := by unfold EmptyM; rw [if_pos hck]
      exact ⟨by rw [e], HB1.out⟩)
    clear hck
    generalize checkM n l = er at *
    go_wp2
    go_ret2
    exact HP.out
end Go.Proofs.Ytalphoebmefgoaa
/- poly: the opposite of a line. -/
namespace Go.Proofs.Ytalphoebmefgoaa
open Go.RowKit
def negK (x : Ln) (k : Nat) : Ln := ⟨if 0 < k then -x.a0 else x.a0, if 1 < k then -x.a1 else x.a1, if 2 < k then -x.a2 else x.a2, if 3 < k then -x.a3 else x.a3, if 4 < k then -x.a4 else x.a4, if 5 < k then -x.a5 else x.a5, x.b, x.s⟩
theorem negK_set (x : Ln) {k : Nat} (h : k < 6) : (negK x k).cells.set k (.int .i64 (-(ci x k))) = (negK x (k + 1)).cells := by
  have : k = 0 ∨ k = 1 ∨ k = 2 ∨ k = 3 ∨ k = 4 ∨ k = 5 := by omega
  rcases this with rfl | rfl | rfl | rfl | rfl | rfl <;> rfl
theorem negK_at (x : Ln) {k : Nat} (h : k < 6) : ci (negK x k) k = ci x k := by
  have : k = 0 ∨ k = 1 ∨ k = 2 ∨ k = 3 ∨ k = 4 ∨ k = 5 := by omega
  rcases this with rfl | rfl | rfl | rfl | rfl | rfl <;> rfl
set_option maxRecDepth 100000 in
set_option maxHeartbeats 4000000 in
theorem opposite_any (x : Ln) (w : World) (hx : x.inr) : Calls Try.prog 45 #[.agg #[.int .i64 x.a0, .int .i64 x.a1, .int .i64 x.a2, .int .i64 x.a3, .int .i64 x.a4, .int .i64 x.a5, .int .i64 x.b, .bool x.s]] w fun e w' => e = .returned (oppL x).V ∧ Bel w w' := by
  have HX := Lib.hid hx
  clear hx
  go_enter Try.func45, Try.ntmps45
  go_upto_region 1 with (fail)
  generalize hW : World.alloc (World.alloc w _) _ = w1 at *
  have hb : Bel w w1 := by rw [← hW]; exact (Bel.refl.alloc _).alloc _
  have r1 : RowAt w1 w.heap.size 72 (negK x 0).cells := by rw [← hW]; exact (RowAt.new _ _ _).alloc _
  have r2 : RowAt w1 (w.heap.size + 1) 72 zeroLn.cells := by
    rw [← hW, ← size_alV w (.cells #[.int .i64 x.a0, .int .i64 x.a1, .int .i64 x.a2, .int .i64 x.a3, .int .i64 x.a4, .int .i64 x.a5, .int .i64 x.b, .bool x.s] 72)]; exact RowAt.new _ _ _
  clear hW
  obtain ⟨b2, hb2⟩ : ∃ b2, b2 = w.heap.size + 1 := ⟨_, rfl⟩
  rw [← hb2] at r2 ⊢
  obtain ⟨b1, hb1⟩ : ∃ b1, b1 = w.heap.size := ⟨_, rfl⟩
  rw [← hb1] at r1 ⊢
  have HN : Hid (w.heap.size ≤ b1 ∧ w.heap.size ≤ b2 ∧ b1 ≠ b2) := Lib.hid (by omega)
  clear hb1 hb2
  have HR1 := Lib.hid r1
  have HR2 := Lib.hid r2
  have HB := Lib.hid hb
  clear r1 r2 hb
  go_wp2
  go_loopw [4] (fun s4 wq => ∃ (k : Nat) (y : Ext w), k ≤ 6 ∧ s4 = .int .i64 k ∧ wq = y.w ∧ RowAt y.w b1 72 (negK x k).cells ∧ RowAt y.w b2 72 zeroLn.cells) (fun s4 _ => 7 - (intOf s4).toNat)
  case atStart => exact ⟨0, ⟨_, HB.out⟩, by omega, rfl, rfl, HR1.out, HR2.out⟩
  case round =>
    clear HR1 HR2 HB
    obtain ⟨k, y, hk, rfl, rfl, hr1, hr2⟩ := hrel
    have HR1 := Lib.hid hr1
    have HR2 := Lib.hid hr2
    have HB := Lib.hid y.bel
    clear hr2
    by_cases hlt : k < 6
    · have hd : decide ((k : Int) < 6) = true := by simp; omega
      have hL : (k : Int) < 6 := by omega
      have wk : IntKind.i64.wrap ((k : Int) + 1) = ((k + 1 : Nat) : Int) := IntWalk.i64_in _ (by omega)
      have wn : IntKind.i64.wrap (-(ci x k)) = -(ci x k) := wrap_in (by have := HX.out.ci k; omega)
      have c := box_ci hr1 hlt
      rw [negK_at x hlt] at c
      have fz := hr1.frozen k
      have lz := hr1.lt
      have HN1 : Hid (RowAt (y.w.setCell ⟨b1, k, none⟩ (.int .i64 (-(ci x k)))) b1 72 (negK x (k + 1)).cells) := Lib.hid (by rw [← negK_set x hlt]; exact hr1.set k _)
      have HN2 : Hid (RowAt (y.w.setCell ⟨b1, k, none⟩ (.int .i64 (-(ci x k)))) b2 72 zeroLn.cells) := Lib.hid (HR2.out.far (a := ⟨b1, k, none⟩) (fun e => HN.out.2.2 e.symm) _)
      have HBN := Lib.hid (HB.out.set (p := ⟨b1, k, none⟩) HN.out.1 (.int .i64 (-(ci x k))))
      clear hr1
      go_wp2
      go_roundw
      case rel => exact ⟨k + 1, ⟨_, HBN.out⟩, hlt, by go_num, rfl, HN1.out, HN2.out⟩
      case measure => simp [intOf]; omega
    · obtain rfl : k = 6 := by omega
      have hd : decide (((6 : Nat) : Int) < 6) = false := by decide
      have wn : IntKind.i64.wrap (-x.b) = -x.b := wrap_in (by have := HX.out.b; omega)
      have c6 : y.w.cell? ⟨b1, 6, none⟩ = some (.int .i64 x.b) := hr1.cell (i := 6) rfl
      have c7 : y.w.cell? ⟨b1, 7, none⟩ = some (.bool x.s) := hr1.cell (i := 7) rfl
      have f6 := hr1.frozen 6
      have f7 := hr1.frozen 7
      have lz := hr1.lt
      clear hr1
      go_upto_region 7 with (fail)
      have HR3 := Lib.hid ((HR1.out.set 6 (.int .i64 (-x.b))).set 7 (.bool (!x.s)))
      have HR4 := Lib.hid ((HR2.out.far (a := ⟨b1, 6, none⟩) (fun e => HN.out.2.2 e.symm) (.int .i64 (-x.b))).far (a := ⟨b1, 7, none⟩) (fun e => HN.out.2.2 e.symm) (.bool (!x.s)))
      have HB3 := Lib.hid ((HB.out.set (p := ⟨b1, 6, none⟩) HN.out.1 (.int .i64 (-x.b))).set (p := ⟨b1, 7, none⟩) HN.out.1 (.bool (!x.s)))
      generalize World.setCell (World.setCell y.w _ _) _ _ = V at *
      clear c6 c7 f6 f7 lz HR1 HR2
      have HO : Hid (RowAt V b1 72 (oppL x).cells) := Lib.hid HR3.out
      clear HR3
      obtain ⟨Z, hZ⟩ : ∃ Z, oppL x = Z := ⟨_, rfl⟩
      rw [hZ] at HO
      have HZ := Lib.hid hZ
      clear hZ
      have x0 := HO.out.cell (i := 0) rfl
      have x1 := HO.out.cell (i := 1) rfl
      have x2 := HO.out.cell (i := 2) rfl
      have x3 := HO.out.cell (i := 3) rfl
      have x4 := HO.out.cell (i := 4) rfl
      have x5 := HO.out.cell (i := 5) rfl
      have x6 := HO.out.cell (i := 6) rfl
      have x7 := HO.out.cell (i := 7) rfl
      have z0 := HR4.out.cell (i := 0) rfl
      have z1 := HR4.out.cell (i := 1) rfl
      have z2 := HR4.out.cell (i := 2) rfl
      have z3 := HR4.out.cell (i := 3) rfl
      have z4 := HR4.out.cell (i := 4) rfl
      have z5 := HR4.out.cell (i := 5) rfl
      have z6 := HR4.out.cell (i := 6) rfl
      have z7 := HR4.out.cell (i := 7) rfl
      have fz := fun k => HR4.out.frozen k
      have l1 := HO.out.lt
      have l2 := HR4.out.lt
      go_wp2
      have r8 := box_set Z HR4.out
      have hb8 := bel_setL (o := 0) HB3.out HN.out.2.1 Z
      unfold setL at r8 hb8
      simp only [Nat.zero_add] at r8 hb8
      generalize World.setCell (World.setCell _ _ _) _ _ = W9 at *
      have q0 := r8.cell (i := 0) rfl
      have q1 := r8.cell (i := 1) rfl
      have q2 := r8.cell (i := 2) rfl
      have q3 := r8.cell (i := 3) rfl
      have q4 := r8.cell (i := 4) rfl
      have q5 := r8.cell (i := 5) rfl
      have q6 := r8.cell (i := 6) rfl
      have q7 := r8.cell (i := 7) rfl
      exact bodyPost_ret (v := Z.V) (by simp [results, Try.results45, go_sem, q0, q1, q2, q3, q4, q5, q6, q7]; rfl) rfl ⟨by rw [HZ.out], hb8⟩
end Go.Proofs.Ytalphoebmefgoaa
