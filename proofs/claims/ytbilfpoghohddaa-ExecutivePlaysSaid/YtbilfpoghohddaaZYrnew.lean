/- foliotref38.New. -/
import Derived.Test.YtbilfpoghohddaaZYrmem
import Derived.Test.YtbilfpoghohddaaZTakev
import Derived.Test.YtbilfpoghohddaaG13
import Derived.Deep.CutRange
namespace Go.Proofs.Ytbilfpoghohddaa
open Go.RowKit
theorem y_src {W : World} {g : Nat} {u : Value} (h : W.cell? ⟨g, 0, none⟩ = some u) : ∀ j u', [u][j]? = some u' → W.cell? ((⟨g, 0, none⟩ : Addr).add j) = some u' := by
  intro j u' hj
  match j with
  | 0 => simp at hj; subst hj; exact h
  | j + 1 => simp at hj
theorem Try.longInfo : (Try.prog.info? 2).map (fun i => (i.zero, i.size, i.bytes)) = some (some (.int .i64 0), 1, 8) := by kernel_rfl
def RNewPost (ws : World) (v xv : Value) (l : List Tsk) (xs : List Int) (w : World) (e : Ending) (w' : World) : Prop :=
  (chkT l xs ≠ 0 ∧ e = .returned (.tuple #[.pointer none, .int .i64 (chkT l xs)]) ∧ Bel w w') ∨
  (chkT l xs = 0 ∧ ∃ br nv rv fv, e = .returned (.tuple #[.pointer (some ⟨br, 0, none⟩), .int .i64 0]) ∧ RxAt w.heap.size ws w' br v xv nv rv fv l xs (ex0 l) ∧ Bel w w')
theorem rx_step {N : Nat} {ws W : World} {br i : Nat} {lv xv v1 v2 v3 : Value} {l : List Tsk} {xs : List Int} (h : RxAt N ws W br lv xv v1 v2 v3 l xs ⟨0, List.replicate i ⟨-1, 0, 0⟩ ++ [⟨-1, 0, 0⟩]⟩) : RxAt N ws W br lv xv v1 v2 v3 l xs ⟨0, List.replicate (i + 1) ⟨-1, 0, 0⟩⟩ := by
  rw [List.replicate_succ']; exact h
set_option maxRecDepth 100000 in
set_option maxHeartbeats 16000000 in
theorem rnew_any (v xv : Value) (l : List Tsk) (xs : List Int) (ws w : World) (h0 : TsksAt ws ws.heap.size v l) (hp0 : IntsAt ws ws.heap.size xv xs) (hb0 : Bel ws w) (hpl : xs.length ≤ 1000000) (hsz : Sized l) :
    Calls Try.prog 12 #[v, .agg #[xv]] w (RNewPost ws v xv l xs w) := by
  have HB0 := Lib.hid hb0
  have HT := Lib.hid h0
  have HP := Lib.hid hp0
  have HCK := Lib.hid (fun (W : World) (hW : Bel ws W) => rcheckT_any v xv l xs W (h0.keep hW.keeps hW.le) (hp0.keep hW.keeps hW.le) hpl hsz)
  obtain ⟨A, c, rfl, _⟩ := h0.form
  obtain ⟨Ax, cx, rfl, _⟩ := hp0.form
  clear h0 hp0 hb0
  go_enter Try.func12, Try.ntmps12
  go_wp2_with fail
  generalize hW : World.alloc w _ = w1 at *
  have r3 : RowAt w1 w.heap.size 25 [.slice Ax xs.length cx] := by rw [← hW]; exact RowAt.new _ _ _
  have hb1 : Bel w w1 := by rw [← hW]; exact Bel.refl.alloc _
  clear hW
  obtain ⟨n3, hn3⟩ : ∃ n, n = w.heap.size := ⟨_, rfl⟩
  rw [← hn3] at r3 ⊢
  clear hn3
  refine (HCK.out _ (HB0.out.trans hb1)).mono ?_
  rintro e w2 ⟨rfl, hb⟩
  have HR3 := Lib.hid (r3.bel hb)
  have HB2 := Lib.hid (hb1.trans hb)
  clear r3 hb1 hb HCK
  by_cases hck : chkT l xs = 0
  case neg =>
    have q1 : (chkT l xs == 0) = false := by simpa using hck
    have q2 : (chkT l xs != 0) = true := by simpa using hck
    have HP : Hid (RNewPost ws (.slice A l.length c) (.slice Ax xs.length cx) l xs w (.returned (.tuple #[.pointer none, .int .i64 (chkT l xs)])) w2) := Lib.hid (.inl ⟨hck, rfl, HB2.out⟩)
    generalize chkT l xs = ck at *
    clear hck
    go_wp2
    go_ret2
    exact HP.out
  have hok := ex0_ok hck
  have hl1 := hok.l1
  have hl8 := hok.l8
  have HCK := Lib.hid hck
  rw [hck]
  clear hok hck
  have x0 := HR3.out.cell (i := 0) rfl
  have x1 := HR3.out.lt
  go_upto_region 5 with (fail)
  generalize hW : World.alloc w2 _ = w3 at *
  have rb : RowAt w3 w2.heap.size 41 [.slice A l.length c, .slice Ax xs.length cx, .int .i64 0, .slice none 0 0, .slice none 0 0, .slice none 0 0] := by rw [← hW]; exact RowAt.new _ _ _
  have hb3 : Bel w2 w3 := by rw [← hW]; exact Bel.refl.alloc _
  clear hW x0 x1
  obtain ⟨br, hbr⟩ : ∃ n, n = w2.heap.size := ⟨_, rfl⟩
  rw [← hbr] at rb ⊢
  have HK : Hid (RxAt w.heap.size ws w3 br (.slice A l.length c) (.slice Ax xs.length cx) (.slice none 0 0) (.slice none 0 0) (.slice none 0 0) l xs ⟨0, List.replicate 0 ⟨-1, 0, 0⟩⟩) := Lib.hid
    ⟨(HB0.out.trans HB2.out).trans hb3, HB0.out.le, by rw [hbr]; exact HB2.out.le, HT.out, HP.out, rb, ⟨World.ownsRow_nil _ _ _ _, World.ownsRow_nil _ _ _ _, World.ownsRow_nil _ _ _ _, fun k e => (by cases e)⟩⟩
  have HB3 := Lib.hid (HB2.out.trans hb3)
  clear rb hb3 hbr HB2 HR3
  obtain ⟨z3, rfl⟩ := ext_of HB3.out
  clear HB3
  obtain ⟨iI, hiI, hz0, hz1, hz2⟩ := info_parts Try.infoInt
  obtain ⟨iL, hiL, hy0, hy1, hy2⟩ := info_parts Try.longInfo
  have HL8 := Lib.hid hl8
  clear hl1 hl8
  go_wp2
  go_loopw [8] (fun s8 wq => ∃ (i : Nat) (z : Ext w) (v1 v2 v3 : Value), i ≤ l.length ∧ s8 = .int .i64 i ∧ wq = z.w ∧ RxAt w.heap.size ws z.w br (.slice A l.length c) (.slice Ax xs.length cx) v1 v2 v3 l xs ⟨0, List.replicate i ⟨-1, 0, 0⟩⟩) (fun s8 _ => l.length - (intOf s8).toNat)
  case atStart => exact ⟨0, z3, _, _, _, Nat.zero_le _, rfl, rfl, HK.out⟩
  case round =>
    clear HK
    obtain ⟨i, z, v1, v2, v3, hi, rfl, rfl, hO⟩ := hrel
    have HO := Lib.hid hO
    clear hO
    have hl8 := HL8.out
    by_cases hlt : i < l.length
    · have hdl : decide ((i : Int) < (l.length : Int)) = true := by simp; omega
      have b3 := HO.out.row.cell (i := 3) rfl
      have b4 := HO.out.row.cell (i := 4) rfl
      have b5 := HO.out.row.cell (i := 5) rfl
      have bz := HO.out.lt
      have bo := HO.out.br_out
      have HS0 := Lib.hid (HO.out.start z.bel rfl)
      obtain ⟨A1, k1, rfl, _⟩ := own_slice HO.out.o.o1
      obtain ⟨A2, k2, rfl, _⟩ := own_slice HO.out.o.o2
      obtain ⟨A3, k3, rfl, _⟩ := own_slice HO.out.o.o3
      obtain ⟨rs, hrs⟩ : ∃ rs, rs = obL (.slice A1 ((List.replicate i (⟨-1, 0, 0⟩ : JobX)).map JobX.num).length k1) ++ obL (.slice A2 ((List.replicate i (⟨-1, 0, 0⟩ : JobX)).map JobX.rel).length k2) ++ obL (.slice A3 ((List.replicate i (⟨-1, 0, 0⟩ : JobX)).map JobX.lft).length k3) := ⟨_, rfl⟩
      have hjl : (List.replicate i (⟨-1, 0, 0⟩ : JobX)).length = i := by simp
      have HJL : Hid (((List.replicate i (⟨-1, 0, 0⟩ : JobX)).map JobX.num).length ≤ 8 ∧ ((List.replicate i (⟨-1, 0, 0⟩ : JobX)).map JobX.rel).length ≤ 8 ∧ ((List.replicate i (⟨-1, 0, 0⟩ : JobX)).map JobX.lft).length ≤ 8) := Lib.hid (by simp only [List.length_map, hjl]; omega)
      clear hjl
      obtain ⟨W0, hW0⟩ : ∃ W0, W0 = z.w.drew := ⟨_, rfl⟩
      rw [← hrs, ← hW0] at HS0
      rw [← hrs] at bo
      have HFIN := Lib.hid (fun (W : World) (u1 u2 u3 : Value) (h : St8 w.heap.size w ws z.w rs br [.slice A l.length c, .slice Ax xs.length cx, .int .i64 0, .slice A1 ((List.replicate i (⟨-1, 0, 0⟩ : JobX)).map JobX.num).length k1, .slice A2 ((List.replicate i (⟨-1, 0, 0⟩ : JobX)).map JobX.rel).length k2, .slice A3 ((List.replicate i (⟨-1, 0, 0⟩ : JobX)).map JobX.lft).length k3] ((List.replicate i (⟨-1, 0, 0⟩ : JobX)).map JobX.num ++ [-1]) ((List.replicate i (⟨-1, 0, 0⟩ : JobX)).map JobX.rel ++ [0]) ((List.replicate i (⟨-1, 0, 0⟩ : JobX)).map JobX.lft ++ [0]) u1 u2 u3 none none none W) => And.intro (rx_step (h.fin HT.out HP.out).1) (h.fin HT.out HP.out).2)
      dsimp only at HS0 HFIN
      generalize (List.replicate i (⟨-1, 0, 0⟩ : JobX)).map JobX.num = q1 at *
      generalize (List.replicate i (⟨-1, 0, 0⟩ : JobX)).map JobX.rel = q2 at *
      generalize (List.replicate i (⟨-1, 0, 0⟩ : JobX)).map JobX.lft = q3 at *
      have HRS := Lib.hid hrs
      clear hrs
      obtain ⟨hj1, hj2, hj3⟩ := HJL.out
      go_upto_region 8 with (fail)
      (refine wp_region_T (TV z.w rs [0, 3, 4, 5, 6, 7, 8, 9, 10, 11, 12, 13, 14, 15, 16, 17, 18, 19, 20]) (by kernel_rfl) ?_; refine anyT_takes (fun w' => ∃ y : Wld z.w, w' = y.w) 29 [1, 2] tv_0 (tv_i0 (by rfl)) (fun _ _ _ _ _ h => h) ⟨(_ : World), rfl⟩ (by kernel_rfl) (by rfl) ?_; simp only [opsOf, List.filterMap_cons, List.filterMap_nil, List.getElem?_toArray, List.getElem?_cons_succ, List.getElem?_cons_zero, List.foldl_cons, List.foldl_nil]; (repeat (any_goals (first | go_big_quiet_step (fail) | quiet_step (fail)))); refine wpQuiet_nil ?_; refine anyT_takes (fun w' => ∃ y : Grs z.w rs, w' = y.w) 21 [0, 3, 4, 5, 6, 9, 10, 11, 12, 15, 16, 17, 18] (tv_1 (by kernel_rfl)) tv_i (fun _ _ _ _ _ h => h) ⟨⟨_, grs_drew _ _⟩, rfl⟩ (by kernel_rfl) (by rfl) ?_; simp only [opsOf, List.filterMap_cons, List.filterMap_nil, List.getElem?_toArray, List.getElem?_cons_succ, List.getElem?_cons_zero, List.foldl_cons, List.foldl_nil]; (repeat (any_goals (first | go_big_quiet_step (fail) | quiet_step (fail)))); refine wpQuiet_nil ?_)
      rw [← hW0]
      have S0 := HS0
      clear HS0 hW0 b3 b4 b5
      -- TREE
      refine anyT_three 7 13 19 _ _ _ (by kernel_rfl) (by rfl) (by rfl) (by rfl) ?_ ?_ ?_
      · intro K hK
        go_simp
        have hs1 := S0.out.make1
        refine hK _ _ (fun _ => ⟨⟨_, hs1.gs⟩, rfl⟩) ?_
        clear hK K
        have S1 := Lib.hid hs1
        clear hs1
        generalize W0.alloc (.cells #[.int .i64 (-1)] 3) = W1 at *
        generalize W0.heap.size = g1 at *
        refine anyT_three 8 13 19 _ _ _ (by kernel_rfl) (by rfl) (by rfl) (by rfl) ?_ ?_ ?_
        · intro K hK
          rw [if_pos (by rfl)]
          obtain ⟨hc2, hl2, _, _⟩ := S1.out.c1 _ rfl
          refine wp_append_lies _ _ _ 23 rfl w.heap.size 3 iI _ 1 8 Try.underlying23 hiI hz0 hz1 hz2 rfl (by decide) _ _ _ rfl S1.out.o.o1 ⟨g1, 0, none⟩ 1 1 [.int .i64 (-1)] rfl rfl (y_src hc2) (by intro u hu; simp at hu; subst hu; rfl) (by decide) (by unfold maxLen; omega) (by omega) S1.out.nw _ rfl ?_
          intro a2 p2 W2 ho2 hg2 ha2 _
          have hs2 := S1.out.app1 ho2 hg2 ha2
          refine hK _ _ (fun _ => ⟨⟨_, hs2.gs⟩, rfl⟩) ?_
          clear hK K hc2 hl2 ho2 hg2 ha2
          have S2 := Lib.hid hs2
          clear hs2
          refine anyT_two 13 19 _ _ (by kernel_rfl) (by rfl) (by rfl) ?_ ?_
          · intro K hK
            go_simp
            have hs3 := S2.out.make2
            refine hK _ _ (fun _ => ⟨⟨_, hs3.gs⟩, rfl⟩) ?_
            clear hK K
            have S3 := Lib.hid hs3
            clear hs3
            generalize W2.alloc (.cells #[.int .i64 0] 2) = W3 at *
            generalize W2.heap.size = g2 at *
            refine anyT_two 14 19 _ _ (by kernel_rfl) (by rfl) (by rfl) ?_ ?_
            · intro K hK
              rw [if_pos (by rfl)]
              obtain ⟨hc4, hl4, _, _⟩ := S3.out.c2 _ rfl
              refine wp_append_lies _ _ _ 36 rfl w.heap.size 2 iL _ 1 8 Try.underlying36 hiL hy0 hy1 hy2 rfl (by decide) _ _ _ rfl S3.out.o.o2 ⟨g2, 0, none⟩ 1 1 [.int .i64 0] rfl rfl (y_src hc4) (by intro u hu; simp at hu; subst hu; rfl) (by decide) (by unfold maxLen; omega) (by omega) S3.out.nw _ rfl ?_
              intro a4 p4 W4 ho4 hg4 ha4 _
              have hs4 := S3.out.app2 ho4 hg4 ha4
              refine hK _ _ (fun _ => ⟨⟨_, hs4.gs⟩, rfl⟩) ?_
              clear hK K hc4 hl4 ho4 hg4 ha4
              have S4 := Lib.hid hs4
              clear hs4
              (refine anyT_one 19 _ (by kernel_rfl) (by rfl) (fun K hK => ?_))
              go_simp
              have hs5 := S4.out.make3
              refine hK _ _ (fun _ => ⟨⟨_, hs5.gs⟩, rfl⟩) ?_
              clear hK K
              have S5 := Lib.hid hs5
              clear hs5
              generalize W4.alloc (.cells #[.int .i64 0] 2) = W5 at *
              generalize W4.heap.size = g3 at *
              (refine anyT_one 20 _ (by kernel_rfl) (by rfl) (fun K hK => ?_))
              rw [if_pos (by rfl)]
              obtain ⟨hc6, hl6, _, _⟩ := S5.out.c3 _ rfl
              refine wp_append_lies _ _ _ 36 rfl w.heap.size 2 iL _ 1 8 Try.underlying36 hiL hy0 hy1 hy2 rfl (by decide) _ _ _ rfl S5.out.o.o3 ⟨g3, 0, none⟩ 1 1 [.int .i64 0] rfl rfl (y_src hc6) (by intro u hu; simp at hu; subst hu; rfl) (by decide) (by unfold maxLen; omega) (by omega) S5.out.nw _ rfl ?_
              intro a6 p6 W6 ho6 hg6 ha6 _
              have hs6 := S5.out.app3 ho6 hg6 ha6
              refine hK _ _ (fun _ => ⟨⟨_, hs6.gs⟩, rfl⟩) ?_
              clear hK K hc6 hl6 ho6 hg6 ha6
              have S6 := Lib.hid hs6
              clear hs6
              (refine anyT_tail 21 (tv_late (by rfl)) (by rfl) (by kernel_rfl) ?_; simp only [List.drop_succ_cons, List.drop_zero])
              have d0 := S6.out.row.lt
              have d1 := S6.out.row.frozen 3
              have d2 := S6.out.row.frozen 4
              have d3 := S6.out.row.frozen 5
              have d4 := S6.out.row.cell (i := 3) rfl
              have d5 := S6.out.row.cell (i := 4) rfl
              have d6 := S6.out.row.cell (i := 5) rfl
              have HIN := Lib.hid (HFIN.out _ _ _ _ S6.out)
              go_wp2
              refine NoPanic.normal ?_
              go_wp2
              generalize hWW : World.setCell _ _ _ = W99 at *
              clear hWW d0 d1 d2 d3 d4 d5 d6
              obtain ⟨z9, rfl⟩ := ext_of HIN.out.2
              go_roundw
              case rel => exact ⟨i + 1, z9, _, _, _, by omega, by go_num, rfl, HIN.out.1⟩
              case measure => simp [intOf]; omega
            · intro K hK
              go_simp
              have hs7 := S3.out.make3
              refine hK _ _ (fun _ => ⟨⟨_, hs7.gs⟩, rfl⟩) ?_
              clear hK K
              have S7 := Lib.hid hs7
              clear hs7
              generalize W3.alloc (.cells #[.int .i64 0] 2) = W7 at *
              generalize W3.heap.size = g3 at *
              (refine anyT_one 14 _ (by kernel_rfl) (by rfl) (fun K hK => ?_))
              rw [if_pos (by rfl)]
              obtain ⟨hc8, hl8, _, _⟩ := S7.out.c2 _ rfl
              refine wp_append_lies _ _ _ 36 rfl w.heap.size 2 iL _ 1 8 Try.underlying36 hiL hy0 hy1 hy2 rfl (by decide) _ _ _ rfl S7.out.o.o2 ⟨g2, 0, none⟩ 1 1 [.int .i64 0] rfl rfl (y_src hc8) (by intro u hu; simp at hu; subst hu; rfl) (by decide) (by unfold maxLen; omega) (by omega) S7.out.nw _ rfl ?_
              intro a8 p8 W8 ho8 hg8 ha8 _
              have hs8 := S7.out.app2 ho8 hg8 ha8
              refine hK _ _ (fun _ => ⟨⟨_, hs8.gs⟩, rfl⟩) ?_
              clear hK K hc8 hl8 ho8 hg8 ha8
              have S8 := Lib.hid hs8
              clear hs8
              (refine anyT_one 20 _ (by kernel_rfl) (by rfl) (fun K hK => ?_))
              rw [if_pos (by rfl)]
              obtain ⟨hc9, hl9, _, _⟩ := S8.out.c3 _ rfl
              refine wp_append_lies _ _ _ 36 rfl w.heap.size 2 iL _ 1 8 Try.underlying36 hiL hy0 hy1 hy2 rfl (by decide) _ _ _ rfl S8.out.o.o3 ⟨g3, 0, none⟩ 1 1 [.int .i64 0] rfl rfl (y_src hc9) (by intro u hu; simp at hu; subst hu; rfl) (by decide) (by unfold maxLen; omega) (by omega) S8.out.nw _ rfl ?_
              intro a9 p9 W9 ho9 hg9 ha9 _
              have hs9 := S8.out.app3 ho9 hg9 ha9
              refine hK _ _ (fun _ => ⟨⟨_, hs9.gs⟩, rfl⟩) ?_
              clear hK K hc9 hl9 ho9 hg9 ha9
              have S9 := Lib.hid hs9
              clear hs9
              (refine anyT_tail 21 (tv_late (by rfl)) (by rfl) (by kernel_rfl) ?_; simp only [List.drop_succ_cons, List.drop_zero])
              have d0 := S9.out.row.lt
              have d1 := S9.out.row.frozen 3
              have d2 := S9.out.row.frozen 4
              have d3 := S9.out.row.frozen 5
              have d4 := S9.out.row.cell (i := 3) rfl
              have d5 := S9.out.row.cell (i := 4) rfl
              have d6 := S9.out.row.cell (i := 5) rfl
              have HIN := Lib.hid (HFIN.out _ _ _ _ S9.out)
              go_wp2
              refine NoPanic.normal ?_
              go_wp2
              generalize hWW : World.setCell _ _ _ = W99 at *
              clear hWW d0 d1 d2 d3 d4 d5 d6
              obtain ⟨z9, rfl⟩ := ext_of HIN.out.2
              go_roundw
              case rel => exact ⟨i + 1, z9, _, _, _, by omega, by go_num, rfl, HIN.out.1⟩
              case measure => simp [intOf]; omega
          · intro K hK
            go_simp
            have hs10 := S2.out.make3
            refine hK _ _ (fun _ => ⟨⟨_, hs10.gs⟩, rfl⟩) ?_
            clear hK K
            have S10 := Lib.hid hs10
            clear hs10
            generalize W2.alloc (.cells #[.int .i64 0] 2) = W10 at *
            generalize W2.heap.size = g3 at *
            (refine anyT_one 13 _ (by kernel_rfl) (by rfl) (fun K hK => ?_))
            go_simp
            have hs11 := S10.out.make2
            refine hK _ _ (fun _ => ⟨⟨_, hs11.gs⟩, rfl⟩) ?_
            clear hK K
            have S11 := Lib.hid hs11
            clear hs11
            generalize W10.alloc (.cells #[.int .i64 0] 2) = W11 at *
            generalize W10.heap.size = g2 at *
            (refine anyT_one 14 _ (by kernel_rfl) (by rfl) (fun K hK => ?_))
            rw [if_pos (by rfl)]
            obtain ⟨hc12, hl12, _, _⟩ := S11.out.c2 _ rfl
            refine wp_append_lies _ _ _ 36 rfl w.heap.size 2 iL _ 1 8 Try.underlying36 hiL hy0 hy1 hy2 rfl (by decide) _ _ _ rfl S11.out.o.o2 ⟨g2, 0, none⟩ 1 1 [.int .i64 0] rfl rfl (y_src hc12) (by intro u hu; simp at hu; subst hu; rfl) (by decide) (by unfold maxLen; omega) (by omega) S11.out.nw _ rfl ?_
            intro a12 p12 W12 ho12 hg12 ha12 _
            have hs12 := S11.out.app2 ho12 hg12 ha12
            refine hK _ _ (fun _ => ⟨⟨_, hs12.gs⟩, rfl⟩) ?_
            clear hK K hc12 hl12 ho12 hg12 ha12
            have S12 := Lib.hid hs12
            clear hs12
            (refine anyT_one 20 _ (by kernel_rfl) (by rfl) (fun K hK => ?_))
            rw [if_pos (by rfl)]
            obtain ⟨hc13, hl13, _, _⟩ := S12.out.c3 _ rfl
            refine wp_append_lies _ _ _ 36 rfl w.heap.size 2 iL _ 1 8 Try.underlying36 hiL hy0 hy1 hy2 rfl (by decide) _ _ _ rfl S12.out.o.o3 ⟨g3, 0, none⟩ 1 1 [.int .i64 0] rfl rfl (y_src hc13) (by intro u hu; simp at hu; subst hu; rfl) (by decide) (by unfold maxLen; omega) (by omega) S12.out.nw _ rfl ?_
            intro a13 p13 W13 ho13 hg13 ha13 _
            have hs13 := S12.out.app3 ho13 hg13 ha13
            refine hK _ _ (fun _ => ⟨⟨_, hs13.gs⟩, rfl⟩) ?_
            clear hK K hc13 hl13 ho13 hg13 ha13
            have S13 := Lib.hid hs13
            clear hs13
            (refine anyT_tail 21 (tv_late (by rfl)) (by rfl) (by kernel_rfl) ?_; simp only [List.drop_succ_cons, List.drop_zero])
            have d0 := S13.out.row.lt
            have d1 := S13.out.row.frozen 3
            have d2 := S13.out.row.frozen 4
            have d3 := S13.out.row.frozen 5
            have d4 := S13.out.row.cell (i := 3) rfl
            have d5 := S13.out.row.cell (i := 4) rfl
            have d6 := S13.out.row.cell (i := 5) rfl
            have HIN := Lib.hid (HFIN.out _ _ _ _ S13.out)
            go_wp2
            refine NoPanic.normal ?_
            go_wp2
            generalize hWW : World.setCell _ _ _ = W99 at *
            clear hWW d0 d1 d2 d3 d4 d5 d6
            obtain ⟨z9, rfl⟩ := ext_of HIN.out.2
            go_roundw
            case rel => exact ⟨i + 1, z9, _, _, _, by omega, by go_num, rfl, HIN.out.1⟩
            case measure => simp [intOf]; omega
        · intro K hK
          go_simp
          have hs14 := S1.out.make2
          refine hK _ _ (fun _ => ⟨⟨_, hs14.gs⟩, rfl⟩) ?_
          clear hK K
          have S14 := Lib.hid hs14
          clear hs14
          generalize W1.alloc (.cells #[.int .i64 0] 2) = W14 at *
          generalize W1.heap.size = g2 at *
          refine anyT_two 8 19 _ _ (by kernel_rfl) (by rfl) (by rfl) ?_ ?_
          · intro K hK
            rw [if_pos (by rfl)]
            obtain ⟨hc15, hl15, _, _⟩ := S14.out.c1 _ rfl
            refine wp_append_lies _ _ _ 23 rfl w.heap.size 3 iI _ 1 8 Try.underlying23 hiI hz0 hz1 hz2 rfl (by decide) _ _ _ rfl S14.out.o.o1 ⟨g1, 0, none⟩ 1 1 [.int .i64 (-1)] rfl rfl (y_src hc15) (by intro u hu; simp at hu; subst hu; rfl) (by decide) (by unfold maxLen; omega) (by omega) S14.out.nw _ rfl ?_
            intro a15 p15 W15 ho15 hg15 ha15 _
            have hs15 := S14.out.app1 ho15 hg15 ha15
            refine hK _ _ (fun _ => ⟨⟨_, hs15.gs⟩, rfl⟩) ?_
            clear hK K hc15 hl15 ho15 hg15 ha15
            have S15 := Lib.hid hs15
            clear hs15
            refine anyT_two 14 19 _ _ (by kernel_rfl) (by rfl) (by rfl) ?_ ?_
            · intro K hK
              rw [if_pos (by rfl)]
              obtain ⟨hc16, hl16, _, _⟩ := S15.out.c2 _ rfl
              refine wp_append_lies _ _ _ 36 rfl w.heap.size 2 iL _ 1 8 Try.underlying36 hiL hy0 hy1 hy2 rfl (by decide) _ _ _ rfl S15.out.o.o2 ⟨g2, 0, none⟩ 1 1 [.int .i64 0] rfl rfl (y_src hc16) (by intro u hu; simp at hu; subst hu; rfl) (by decide) (by unfold maxLen; omega) (by omega) S15.out.nw _ rfl ?_
              intro a16 p16 W16 ho16 hg16 ha16 _
              have hs16 := S15.out.app2 ho16 hg16 ha16
              refine hK _ _ (fun _ => ⟨⟨_, hs16.gs⟩, rfl⟩) ?_
              clear hK K hc16 hl16 ho16 hg16 ha16
              have S16 := Lib.hid hs16
              clear hs16
              (refine anyT_one 19 _ (by kernel_rfl) (by rfl) (fun K hK => ?_))
              go_simp
              have hs17 := S16.out.make3
              refine hK _ _ (fun _ => ⟨⟨_, hs17.gs⟩, rfl⟩) ?_
              clear hK K
              have S17 := Lib.hid hs17
              clear hs17
              generalize W16.alloc (.cells #[.int .i64 0] 2) = W17 at *
              generalize W16.heap.size = g3 at *
              (refine anyT_one 20 _ (by kernel_rfl) (by rfl) (fun K hK => ?_))
              rw [if_pos (by rfl)]
              obtain ⟨hc18, hl18, _, _⟩ := S17.out.c3 _ rfl
              refine wp_append_lies _ _ _ 36 rfl w.heap.size 2 iL _ 1 8 Try.underlying36 hiL hy0 hy1 hy2 rfl (by decide) _ _ _ rfl S17.out.o.o3 ⟨g3, 0, none⟩ 1 1 [.int .i64 0] rfl rfl (y_src hc18) (by intro u hu; simp at hu; subst hu; rfl) (by decide) (by unfold maxLen; omega) (by omega) S17.out.nw _ rfl ?_
              intro a18 p18 W18 ho18 hg18 ha18 _
              have hs18 := S17.out.app3 ho18 hg18 ha18
              refine hK _ _ (fun _ => ⟨⟨_, hs18.gs⟩, rfl⟩) ?_
              clear hK K hc18 hl18 ho18 hg18 ha18
              have S18 := Lib.hid hs18
              clear hs18
              (refine anyT_tail 21 (tv_late (by rfl)) (by rfl) (by kernel_rfl) ?_; simp only [List.drop_succ_cons, List.drop_zero])
              have d0 := S18.out.row.lt
              have d1 := S18.out.row.frozen 3
              have d2 := S18.out.row.frozen 4
              have d3 := S18.out.row.frozen 5
              have d4 := S18.out.row.cell (i := 3) rfl
              have d5 := S18.out.row.cell (i := 4) rfl
              have d6 := S18.out.row.cell (i := 5) rfl
              have HIN := Lib.hid (HFIN.out _ _ _ _ S18.out)
              go_wp2
              refine NoPanic.normal ?_
              go_wp2
              generalize hWW : World.setCell _ _ _ = W99 at *
              clear hWW d0 d1 d2 d3 d4 d5 d6
              obtain ⟨z9, rfl⟩ := ext_of HIN.out.2
              go_roundw
              case rel => exact ⟨i + 1, z9, _, _, _, by omega, by go_num, rfl, HIN.out.1⟩
              case measure => simp [intOf]; omega
            · intro K hK
              go_simp
              have hs19 := S15.out.make3
              refine hK _ _ (fun _ => ⟨⟨_, hs19.gs⟩, rfl⟩) ?_
              clear hK K
              have S19 := Lib.hid hs19
              clear hs19
              generalize W15.alloc (.cells #[.int .i64 0] 2) = W19 at *
              generalize W15.heap.size = g3 at *
              (refine anyT_one 14 _ (by kernel_rfl) (by rfl) (fun K hK => ?_))
              rw [if_pos (by rfl)]
              obtain ⟨hc20, hl20, _, _⟩ := S19.out.c2 _ rfl
              refine wp_append_lies _ _ _ 36 rfl w.heap.size 2 iL _ 1 8 Try.underlying36 hiL hy0 hy1 hy2 rfl (by decide) _ _ _ rfl S19.out.o.o2 ⟨g2, 0, none⟩ 1 1 [.int .i64 0] rfl rfl (y_src hc20) (by intro u hu; simp at hu; subst hu; rfl) (by decide) (by unfold maxLen; omega) (by omega) S19.out.nw _ rfl ?_
              intro a20 p20 W20 ho20 hg20 ha20 _
              have hs20 := S19.out.app2 ho20 hg20 ha20
              refine hK _ _ (fun _ => ⟨⟨_, hs20.gs⟩, rfl⟩) ?_
              clear hK K hc20 hl20 ho20 hg20 ha20
              have S20 := Lib.hid hs20
              clear hs20
              (refine anyT_one 20 _ (by kernel_rfl) (by rfl) (fun K hK => ?_))
              rw [if_pos (by rfl)]
              obtain ⟨hc21, hl21, _, _⟩ := S20.out.c3 _ rfl
              refine wp_append_lies _ _ _ 36 rfl w.heap.size 2 iL _ 1 8 Try.underlying36 hiL hy0 hy1 hy2 rfl (by decide) _ _ _ rfl S20.out.o.o3 ⟨g3, 0, none⟩ 1 1 [.int .i64 0] rfl rfl (y_src hc21) (by intro u hu; simp at hu; subst hu; rfl) (by decide) (by unfold maxLen; omega) (by omega) S20.out.nw _ rfl ?_
              intro a21 p21 W21 ho21 hg21 ha21 _
              have hs21 := S20.out.app3 ho21 hg21 ha21
              refine hK _ _ (fun _ => ⟨⟨_, hs21.gs⟩, rfl⟩) ?_
              clear hK K hc21 hl21 ho21 hg21 ha21
              have S21 := Lib.hid hs21
              clear hs21
              (refine anyT_tail 21 (tv_late (by rfl)) (by rfl) (by kernel_rfl) ?_; simp only [List.drop_succ_cons, List.drop_zero])
              have d0 := S21.out.row.lt
              have d1 := S21.out.row.frozen 3
              have d2 := S21.out.row.frozen 4
              have d3 := S21.out.row.frozen 5
              have d4 := S21.out.row.cell (i := 3) rfl
              have d5 := S21.out.row.cell (i := 4) rfl
              have d6 := S21.out.row.cell (i := 5) rfl
              have HIN := Lib.hid (HFIN.out _ _ _ _ S21.out)
              go_wp2
              refine NoPanic.normal ?_
              go_wp2
              generalize hWW : World.setCell _ _ _ = W99 at *
              clear hWW d0 d1 d2 d3 d4 d5 d6
              obtain ⟨z9, rfl⟩ := ext_of HIN.out.2
              go_roundw
              case rel => exact ⟨i + 1, z9, _, _, _, by omega, by go_num, rfl, HIN.out.1⟩
              case measure => simp [intOf]; omega
          · intro K hK
            go_simp
            have hs22 := S14.out.make3
            refine hK _ _ (fun _ => ⟨⟨_, hs22.gs⟩, rfl⟩) ?_
            clear hK K
            have S22 := Lib.hid hs22
            clear hs22
            generalize W14.alloc (.cells #[.int .i64 0] 2) = W22 at *
            generalize W14.heap.size = g3 at *
            (refine anyT_one 8 _ (by kernel_rfl) (by rfl) (fun K hK => ?_))
            rw [if_pos (by rfl)]
            obtain ⟨hc23, hl23, _, _⟩ := S22.out.c1 _ rfl
            refine wp_append_lies _ _ _ 23 rfl w.heap.size 3 iI _ 1 8 Try.underlying23 hiI hz0 hz1 hz2 rfl (by decide) _ _ _ rfl S22.out.o.o1 ⟨g1, 0, none⟩ 1 1 [.int .i64 (-1)] rfl rfl (y_src hc23) (by intro u hu; simp at hu; subst hu; rfl) (by decide) (by unfold maxLen; omega) (by omega) S22.out.nw _ rfl ?_
            intro a23 p23 W23 ho23 hg23 ha23 _
            have hs23 := S22.out.app1 ho23 hg23 ha23
            refine hK _ _ (fun _ => ⟨⟨_, hs23.gs⟩, rfl⟩) ?_
            clear hK K hc23 hl23 ho23 hg23 ha23
            have S23 := Lib.hid hs23
            clear hs23
            (refine anyT_one 14 _ (by kernel_rfl) (by rfl) (fun K hK => ?_))
            rw [if_pos (by rfl)]
            obtain ⟨hc24, hl24, _, _⟩ := S23.out.c2 _ rfl
            refine wp_append_lies _ _ _ 36 rfl w.heap.size 2 iL _ 1 8 Try.underlying36 hiL hy0 hy1 hy2 rfl (by decide) _ _ _ rfl S23.out.o.o2 ⟨g2, 0, none⟩ 1 1 [.int .i64 0] rfl rfl (y_src hc24) (by intro u hu; simp at hu; subst hu; rfl) (by decide) (by unfold maxLen; omega) (by omega) S23.out.nw _ rfl ?_
            intro a24 p24 W24 ho24 hg24 ha24 _
            have hs24 := S23.out.app2 ho24 hg24 ha24
            refine hK _ _ (fun _ => ⟨⟨_, hs24.gs⟩, rfl⟩) ?_
            clear hK K hc24 hl24 ho24 hg24 ha24
            have S24 := Lib.hid hs24
            clear hs24
            (refine anyT_one 20 _ (by kernel_rfl) (by rfl) (fun K hK => ?_))
            rw [if_pos (by rfl)]
            obtain ⟨hc25, hl25, _, _⟩ := S24.out.c3 _ rfl
            refine wp_append_lies _ _ _ 36 rfl w.heap.size 2 iL _ 1 8 Try.underlying36 hiL hy0 hy1 hy2 rfl (by decide) _ _ _ rfl S24.out.o.o3 ⟨g3, 0, none⟩ 1 1 [.int .i64 0] rfl rfl (y_src hc25) (by intro u hu; simp at hu; subst hu; rfl) (by decide) (by unfold maxLen; omega) (by omega) S24.out.nw _ rfl ?_
            intro a25 p25 W25 ho25 hg25 ha25 _
            have hs25 := S24.out.app3 ho25 hg25 ha25
            refine hK _ _ (fun _ => ⟨⟨_, hs25.gs⟩, rfl⟩) ?_
            clear hK K hc25 hl25 ho25 hg25 ha25
            have S25 := Lib.hid hs25
            clear hs25
            (refine anyT_tail 21 (tv_late (by rfl)) (by rfl) (by kernel_rfl) ?_; simp only [List.drop_succ_cons, List.drop_zero])
            have d0 := S25.out.row.lt
            have d1 := S25.out.row.frozen 3
            have d2 := S25.out.row.frozen 4
            have d3 := S25.out.row.frozen 5
            have d4 := S25.out.row.cell (i := 3) rfl
            have d5 := S25.out.row.cell (i := 4) rfl
            have d6 := S25.out.row.cell (i := 5) rfl
            have HIN := Lib.hid (HFIN.out _ _ _ _ S25.out)
            go_wp2
            refine NoPanic.normal ?_
            go_wp2
            generalize hWW : World.setCell _ _ _ = W99 at *
            clear hWW d0 d1 d2 d3 d4 d5 d6
            obtain ⟨z9, rfl⟩ := ext_of HIN.out.2
            go_roundw
            case rel => exact ⟨i + 1, z9, _, _, _, by omega, by go_num, rfl, HIN.out.1⟩
            case measure => simp [intOf]; omega
        · intro K hK
          go_simp
          have hs26 := S1.out.make3
          refine hK _ _ (fun _ => ⟨⟨_, hs26.gs⟩, rfl⟩) ?_
          clear hK K
          have S26 := Lib.hid hs26
          clear hs26
          generalize W1.alloc (.cells #[.int .i64 0] 2) = W26 at *
          generalize W1.heap.size = g3 at *
          refine anyT_two 8 13 _ _ (by kernel_rfl) (by rfl) (by rfl) ?_ ?_
          · intro K hK
            rw [if_pos (by rfl)]
            obtain ⟨hc27, hl27, _, _⟩ := S26.out.c1 _ rfl
            refine wp_append_lies _ _ _ 23 rfl w.heap.size 3 iI _ 1 8 Try.underlying23 hiI hz0 hz1 hz2 rfl (by decide) _ _ _ rfl S26.out.o.o1 ⟨g1, 0, none⟩ 1 1 [.int .i64 (-1)] rfl rfl (y_src hc27) (by intro u hu; simp at hu; subst hu; rfl) (by decide) (by unfold maxLen; omega) (by omega) S26.out.nw _ rfl ?_
            intro a27 p27 W27 ho27 hg27 ha27 _
            have hs27 := S26.out.app1 ho27 hg27 ha27
            refine hK _ _ (fun _ => ⟨⟨_, hs27.gs⟩, rfl⟩) ?_
            clear hK K hc27 hl27 ho27 hg27 ha27
            have S27 := Lib.hid hs27
            clear hs27
            (refine anyT_one 13 _ (by kernel_rfl) (by rfl) (fun K hK => ?_))
            go_simp
            have hs28 := S27.out.make2
            refine hK _ _ (fun _ => ⟨⟨_, hs28.gs⟩, rfl⟩) ?_
            clear hK K
            have S28 := Lib.hid hs28
            clear hs28
            generalize W27.alloc (.cells #[.int .i64 0] 2) = W28 at *
            generalize W27.heap.size = g2 at *
            (refine anyT_one 14 _ (by kernel_rfl) (by rfl) (fun K hK => ?_))
            rw [if_pos (by rfl)]
            obtain ⟨hc29, hl29, _, _⟩ := S28.out.c2 _ rfl
            refine wp_append_lies _ _ _ 36 rfl w.heap.size 2 iL _ 1 8 Try.underlying36 hiL hy0 hy1 hy2 rfl (by decide) _ _ _ rfl S28.out.o.o2 ⟨g2, 0, none⟩ 1 1 [.int .i64 0] rfl rfl (y_src hc29) (by intro u hu; simp at hu; subst hu; rfl) (by decide) (by unfold maxLen; omega) (by omega) S28.out.nw _ rfl ?_
            intro a29 p29 W29 ho29 hg29 ha29 _
            have hs29 := S28.out.app2 ho29 hg29 ha29
            refine hK _ _ (fun _ => ⟨⟨_, hs29.gs⟩, rfl⟩) ?_
            clear hK K hc29 hl29 ho29 hg29 ha29
            have S29 := Lib.hid hs29
            clear hs29
            (refine anyT_one 20 _ (by kernel_rfl) (by rfl) (fun K hK => ?_))
            rw [if_pos (by rfl)]
            obtain ⟨hc30, hl30, _, _⟩ := S29.out.c3 _ rfl
            refine wp_append_lies _ _ _ 36 rfl w.heap.size 2 iL _ 1 8 Try.underlying36 hiL hy0 hy1 hy2 rfl (by decide) _ _ _ rfl S29.out.o.o3 ⟨g3, 0, none⟩ 1 1 [.int .i64 0] rfl rfl (y_src hc30) (by intro u hu; simp at hu; subst hu; rfl) (by decide) (by unfold maxLen; omega) (by omega) S29.out.nw _ rfl ?_
            intro a30 p30 W30 ho30 hg30 ha30 _
            have hs30 := S29.out.app3 ho30 hg30 ha30
            refine hK _ _ (fun _ => ⟨⟨_, hs30.gs⟩, rfl⟩) ?_
            clear hK K hc30 hl30 ho30 hg30 ha30
            have S30 := Lib.hid hs30
            clear hs30
            (refine anyT_tail 21 (tv_late (by rfl)) (by rfl) (by kernel_rfl) ?_; simp only [List.drop_succ_cons, List.drop_zero])
            have d0 := S30.out.row.lt
            have d1 := S30.out.row.frozen 3
            have d2 := S30.out.row.frozen 4
            have d3 := S30.out.row.frozen 5
            have d4 := S30.out.row.cell (i := 3) rfl
            have d5 := S30.out.row.cell (i := 4) rfl
            have d6 := S30.out.row.cell (i := 5) rfl
            have HIN := Lib.hid (HFIN.out _ _ _ _ S30.out)
            go_wp2
            refine NoPanic.normal ?_
            go_wp2
            generalize hWW : World.setCell _ _ _ = W99 at *
            clear hWW d0 d1 d2 d3 d4 d5 d6
            obtain ⟨z9, rfl⟩ := ext_of HIN.out.2
            go_roundw
            case rel => exact ⟨i + 1, z9, _, _, _, by omega, by go_num, rfl, HIN.out.1⟩
            case measure => simp [intOf]; omega
          · intro K hK
            go_simp
            have hs31 := S26.out.make2
            refine hK _ _ (fun _ => ⟨⟨_, hs31.gs⟩, rfl⟩) ?_
            clear hK K
            have S31 := Lib.hid hs31
            clear hs31
            generalize W26.alloc (.cells #[.int .i64 0] 2) = W31 at *
            generalize W26.heap.size = g2 at *
            (refine anyT_one 8 _ (by kernel_rfl) (by rfl) (fun K hK => ?_))
            rw [if_pos (by rfl)]
            obtain ⟨hc32, hl32, _, _⟩ := S31.out.c1 _ rfl
            refine wp_append_lies _ _ _ 23 rfl w.heap.size 3 iI _ 1 8 Try.underlying23 hiI hz0 hz1 hz2 rfl (by decide) _ _ _ rfl S31.out.o.o1 ⟨g1, 0, none⟩ 1 1 [.int .i64 (-1)] rfl rfl (y_src hc32) (by intro u hu; simp at hu; subst hu; rfl) (by decide) (by unfold maxLen; omega) (by omega) S31.out.nw _ rfl ?_
            intro a32 p32 W32 ho32 hg32 ha32 _
            have hs32 := S31.out.app1 ho32 hg32 ha32
            refine hK _ _ (fun _ => ⟨⟨_, hs32.gs⟩, rfl⟩) ?_
            clear hK K hc32 hl32 ho32 hg32 ha32
            have S32 := Lib.hid hs32
            clear hs32
            (refine anyT_one 14 _ (by kernel_rfl) (by rfl) (fun K hK => ?_))
            rw [if_pos (by rfl)]
            obtain ⟨hc33, hl33, _, _⟩ := S32.out.c2 _ rfl
            refine wp_append_lies _ _ _ 36 rfl w.heap.size 2 iL _ 1 8 Try.underlying36 hiL hy0 hy1 hy2 rfl (by decide) _ _ _ rfl S32.out.o.o2 ⟨g2, 0, none⟩ 1 1 [.int .i64 0] rfl rfl (y_src hc33) (by intro u hu; simp at hu; subst hu; rfl) (by decide) (by unfold maxLen; omega) (by omega) S32.out.nw _ rfl ?_
            intro a33 p33 W33 ho33 hg33 ha33 _
            have hs33 := S32.out.app2 ho33 hg33 ha33
            refine hK _ _ (fun _ => ⟨⟨_, hs33.gs⟩, rfl⟩) ?_
            clear hK K hc33 hl33 ho33 hg33 ha33
            have S33 := Lib.hid hs33
            clear hs33
            (refine anyT_one 20 _ (by kernel_rfl) (by rfl) (fun K hK => ?_))
            rw [if_pos (by rfl)]
            obtain ⟨hc34, hl34, _, _⟩ := S33.out.c3 _ rfl
            refine wp_append_lies _ _ _ 36 rfl w.heap.size 2 iL _ 1 8 Try.underlying36 hiL hy0 hy1 hy2 rfl (by decide) _ _ _ rfl S33.out.o.o3 ⟨g3, 0, none⟩ 1 1 [.int .i64 0] rfl rfl (y_src hc34) (by intro u hu; simp at hu; subst hu; rfl) (by decide) (by unfold maxLen; omega) (by omega) S33.out.nw _ rfl ?_
            intro a34 p34 W34 ho34 hg34 ha34 _
            have hs34 := S33.out.app3 ho34 hg34 ha34
            refine hK _ _ (fun _ => ⟨⟨_, hs34.gs⟩, rfl⟩) ?_
            clear hK K hc34 hl34 ho34 hg34 ha34
            have S34 := Lib.hid hs34
            clear hs34
            (refine anyT_tail 21 (tv_late (by rfl)) (by rfl) (by kernel_rfl) ?_; simp only [List.drop_succ_cons, List.drop_zero])
            have d0 := S34.out.row.lt
            have d1 := S34.out.row.frozen 3
            have d2 := S34.out.row.frozen 4
            have d3 := S34.out.row.frozen 5
            have d4 := S34.out.row.cell (i := 3) rfl
            have d5 := S34.out.row.cell (i := 4) rfl
            have d6 := S34.out.row.cell (i := 5) rfl
            have HIN := Lib.hid (HFIN.out _ _ _ _ S34.out)
            go_wp2
            refine NoPanic.normal ?_
            go_wp2
            generalize hWW : World.setCell _ _ _ = W99 at *
            clear hWW d0 d1 d2 d3 d4 d5 d6
            obtain ⟨z9, rfl⟩ := ext_of HIN.out.2
            go_roundw
            case rel => exact ⟨i + 1, z9, _, _, _, by omega, by go_num, rfl, HIN.out.1⟩
            case measure => simp [intOf]; omega
      · intro K hK
        go_simp
        have hs35 := S0.out.make2
        refine hK _ _ (fun _ => ⟨⟨_, hs35.gs⟩, rfl⟩) ?_
        clear hK K
        have S35 := Lib.hid hs35
        clear hs35
        generalize W0.alloc (.cells #[.int .i64 0] 2) = W35 at *
        generalize W0.heap.size = g2 at *
        refine anyT_two 7 19 _ _ (by kernel_rfl) (by rfl) (by rfl) ?_ ?_
        · intro K hK
          go_simp
          have hs36 := S35.out.make1
          refine hK _ _ (fun _ => ⟨⟨_, hs36.gs⟩, rfl⟩) ?_
          clear hK K
          have S36 := Lib.hid hs36
          clear hs36
          generalize W35.alloc (.cells #[.int .i64 (-1)] 3) = W36 at *
          generalize W35.heap.size = g1 at *
          refine anyT_two 8 19 _ _ (by kernel_rfl) (by rfl) (by rfl) ?_ ?_
          · intro K hK
            rw [if_pos (by rfl)]
            obtain ⟨hc37, hl37, _, _⟩ := S36.out.c1 _ rfl
            refine wp_append_lies _ _ _ 23 rfl w.heap.size 3 iI _ 1 8 Try.underlying23 hiI hz0 hz1 hz2 rfl (by decide) _ _ _ rfl S36.out.o.o1 ⟨g1, 0, none⟩ 1 1 [.int .i64 (-1)] rfl rfl (y_src hc37) (by intro u hu; simp at hu; subst hu; rfl) (by decide) (by unfold maxLen; omega) (by omega) S36.out.nw _ rfl ?_
            intro a37 p37 W37 ho37 hg37 ha37 _
            have hs37 := S36.out.app1 ho37 hg37 ha37
            refine hK _ _ (fun _ => ⟨⟨_, hs37.gs⟩, rfl⟩) ?_
            clear hK K hc37 hl37 ho37 hg37 ha37
            have S37 := Lib.hid hs37
            clear hs37
            refine anyT_two 14 19 _ _ (by kernel_rfl) (by rfl) (by rfl) ?_ ?_
            · intro K hK
              rw [if_pos (by rfl)]
              obtain ⟨hc38, hl38, _, _⟩ := S37.out.c2 _ rfl
              refine wp_append_lies _ _ _ 36 rfl w.heap.size 2 iL _ 1 8 Try.underlying36 hiL hy0 hy1 hy2 rfl (by decide) _ _ _ rfl S37.out.o.o2 ⟨g2, 0, none⟩ 1 1 [.int .i64 0] rfl rfl (y_src hc38) (by intro u hu; simp at hu; subst hu; rfl) (by decide) (by unfold maxLen; omega) (by omega) S37.out.nw _ rfl ?_
              intro a38 p38 W38 ho38 hg38 ha38 _
              have hs38 := S37.out.app2 ho38 hg38 ha38
              refine hK _ _ (fun _ => ⟨⟨_, hs38.gs⟩, rfl⟩) ?_
              clear hK K hc38 hl38 ho38 hg38 ha38
              have S38 := Lib.hid hs38
              clear hs38
              (refine anyT_one 19 _ (by kernel_rfl) (by rfl) (fun K hK => ?_))
              go_simp
              have hs39 := S38.out.make3
              refine hK _ _ (fun _ => ⟨⟨_, hs39.gs⟩, rfl⟩) ?_
              clear hK K
              have S39 := Lib.hid hs39
              clear hs39
              generalize W38.alloc (.cells #[.int .i64 0] 2) = W39 at *
              generalize W38.heap.size = g3 at *
              (refine anyT_one 20 _ (by kernel_rfl) (by rfl) (fun K hK => ?_))
              rw [if_pos (by rfl)]
              obtain ⟨hc40, hl40, _, _⟩ := S39.out.c3 _ rfl
              refine wp_append_lies _ _ _ 36 rfl w.heap.size 2 iL _ 1 8 Try.underlying36 hiL hy0 hy1 hy2 rfl (by decide) _ _ _ rfl S39.out.o.o3 ⟨g3, 0, none⟩ 1 1 [.int .i64 0] rfl rfl (y_src hc40) (by intro u hu; simp at hu; subst hu; rfl) (by decide) (by unfold maxLen; omega) (by omega) S39.out.nw _ rfl ?_
              intro a40 p40 W40 ho40 hg40 ha40 _
              have hs40 := S39.out.app3 ho40 hg40 ha40
              refine hK _ _ (fun _ => ⟨⟨_, hs40.gs⟩, rfl⟩) ?_
              clear hK K hc40 hl40 ho40 hg40 ha40
              have S40 := Lib.hid hs40
              clear hs40
              (refine anyT_tail 21 (tv_late (by rfl)) (by rfl) (by kernel_rfl) ?_; simp only [List.drop_succ_cons, List.drop_zero])
              have d0 := S40.out.row.lt
              have d1 := S40.out.row.frozen 3
              have d2 := S40.out.row.frozen 4
              have d3 := S40.out.row.frozen 5
              have d4 := S40.out.row.cell (i := 3) rfl
              have d5 := S40.out.row.cell (i := 4) rfl
              have d6 := S40.out.row.cell (i := 5) rfl
              have HIN := Lib.hid (HFIN.out _ _ _ _ S40.out)
              go_wp2
              refine NoPanic.normal ?_
              go_wp2
              generalize hWW : World.setCell _ _ _ = W99 at *
              clear hWW d0 d1 d2 d3 d4 d5 d6
              obtain ⟨z9, rfl⟩ := ext_of HIN.out.2
              go_roundw
              case rel => exact ⟨i + 1, z9, _, _, _, by omega, by go_num, rfl, HIN.out.1⟩
              case measure => simp [intOf]; omega
            · intro K hK
              go_simp
              have hs41 := S37.out.make3
              refine hK _ _ (fun _ => ⟨⟨_, hs41.gs⟩, rfl⟩) ?_
              clear hK K
              have S41 := Lib.hid hs41
              clear hs41
              generalize W37.alloc (.cells #[.int .i64 0] 2) = W41 at *
              generalize W37.heap.size = g3 at *
              (refine anyT_one 14 _ (by kernel_rfl) (by rfl) (fun K hK => ?_))
              rw [if_pos (by rfl)]
              obtain ⟨hc42, hl42, _, _⟩ := S41.out.c2 _ rfl
              refine wp_append_lies _ _ _ 36 rfl w.heap.size 2 iL _ 1 8 Try.underlying36 hiL hy0 hy1 hy2 rfl (by decide) _ _ _ rfl S41.out.o.o2 ⟨g2, 0, none⟩ 1 1 [.int .i64 0] rfl rfl (y_src hc42) (by intro u hu; simp at hu; subst hu; rfl) (by decide) (by unfold maxLen; omega) (by omega) S41.out.nw _ rfl ?_
              intro a42 p42 W42 ho42 hg42 ha42 _
              have hs42 := S41.out.app2 ho42 hg42 ha42
              refine hK _ _ (fun _ => ⟨⟨_, hs42.gs⟩, rfl⟩) ?_
              clear hK K hc42 hl42 ho42 hg42 ha42
              have S42 := Lib.hid hs42
              clear hs42
              (refine anyT_one 20 _ (by kernel_rfl) (by rfl) (fun K hK => ?_))
              rw [if_pos (by rfl)]
              obtain ⟨hc43, hl43, _, _⟩ := S42.out.c3 _ rfl
              refine wp_append_lies _ _ _ 36 rfl w.heap.size 2 iL _ 1 8 Try.underlying36 hiL hy0 hy1 hy2 rfl (by decide) _ _ _ rfl S42.out.o.o3 ⟨g3, 0, none⟩ 1 1 [.int .i64 0] rfl rfl (y_src hc43) (by intro u hu; simp at hu; subst hu; rfl) (by decide) (by unfold maxLen; omega) (by omega) S42.out.nw _ rfl ?_
              intro a43 p43 W43 ho43 hg43 ha43 _
              have hs43 := S42.out.app3 ho43 hg43 ha43
              refine hK _ _ (fun _ => ⟨⟨_, hs43.gs⟩, rfl⟩) ?_
              clear hK K hc43 hl43 ho43 hg43 ha43
              have S43 := Lib.hid hs43
              clear hs43
              (refine anyT_tail 21 (tv_late (by rfl)) (by rfl) (by kernel_rfl) ?_; simp only [List.drop_succ_cons, List.drop_zero])
              have d0 := S43.out.row.lt
              have d1 := S43.out.row.frozen 3
              have d2 := S43.out.row.frozen 4
              have d3 := S43.out.row.frozen 5
              have d4 := S43.out.row.cell (i := 3) rfl
              have d5 := S43.out.row.cell (i := 4) rfl
              have d6 := S43.out.row.cell (i := 5) rfl
              have HIN := Lib.hid (HFIN.out _ _ _ _ S43.out)
              go_wp2
              refine NoPanic.normal ?_
              go_wp2
              generalize hWW : World.setCell _ _ _ = W99 at *
              clear hWW d0 d1 d2 d3 d4 d5 d6
              obtain ⟨z9, rfl⟩ := ext_of HIN.out.2
              go_roundw
              case rel => exact ⟨i + 1, z9, _, _, _, by omega, by go_num, rfl, HIN.out.1⟩
              case measure => simp [intOf]; omega
          · intro K hK
            go_simp
            have hs44 := S36.out.make3
            refine hK _ _ (fun _ => ⟨⟨_, hs44.gs⟩, rfl⟩) ?_
            clear hK K
            have S44 := Lib.hid hs44
            clear hs44
            generalize W36.alloc (.cells #[.int .i64 0] 2) = W44 at *
            generalize W36.heap.size = g3 at *
            (refine anyT_one 8 _ (by kernel_rfl) (by rfl) (fun K hK => ?_))
            rw [if_pos (by rfl)]
            obtain ⟨hc45, hl45, _, _⟩ := S44.out.c1 _ rfl
            refine wp_append_lies _ _ _ 23 rfl w.heap.size 3 iI _ 1 8 Try.underlying23 hiI hz0 hz1 hz2 rfl (by decide) _ _ _ rfl S44.out.o.o1 ⟨g1, 0, none⟩ 1 1 [.int .i64 (-1)] rfl rfl (y_src hc45) (by intro u hu; simp at hu; subst hu; rfl) (by decide) (by unfold maxLen; omega) (by omega) S44.out.nw _ rfl ?_
            intro a45 p45 W45 ho45 hg45 ha45 _
            have hs45 := S44.out.app1 ho45 hg45 ha45
            refine hK _ _ (fun _ => ⟨⟨_, hs45.gs⟩, rfl⟩) ?_
            clear hK K hc45 hl45 ho45 hg45 ha45
            have S45 := Lib.hid hs45
            clear hs45
            (refine anyT_one 14 _ (by kernel_rfl) (by rfl) (fun K hK => ?_))
            rw [if_pos (by rfl)]
            obtain ⟨hc46, hl46, _, _⟩ := S45.out.c2 _ rfl
            refine wp_append_lies _ _ _ 36 rfl w.heap.size 2 iL _ 1 8 Try.underlying36 hiL hy0 hy1 hy2 rfl (by decide) _ _ _ rfl S45.out.o.o2 ⟨g2, 0, none⟩ 1 1 [.int .i64 0] rfl rfl (y_src hc46) (by intro u hu; simp at hu; subst hu; rfl) (by decide) (by unfold maxLen; omega) (by omega) S45.out.nw _ rfl ?_
            intro a46 p46 W46 ho46 hg46 ha46 _
            have hs46 := S45.out.app2 ho46 hg46 ha46
            refine hK _ _ (fun _ => ⟨⟨_, hs46.gs⟩, rfl⟩) ?_
            clear hK K hc46 hl46 ho46 hg46 ha46
            have S46 := Lib.hid hs46
            clear hs46
            (refine anyT_one 20 _ (by kernel_rfl) (by rfl) (fun K hK => ?_))
            rw [if_pos (by rfl)]
            obtain ⟨hc47, hl47, _, _⟩ := S46.out.c3 _ rfl
            refine wp_append_lies _ _ _ 36 rfl w.heap.size 2 iL _ 1 8 Try.underlying36 hiL hy0 hy1 hy2 rfl (by decide) _ _ _ rfl S46.out.o.o3 ⟨g3, 0, none⟩ 1 1 [.int .i64 0] rfl rfl (y_src hc47) (by intro u hu; simp at hu; subst hu; rfl) (by decide) (by unfold maxLen; omega) (by omega) S46.out.nw _ rfl ?_
            intro a47 p47 W47 ho47 hg47 ha47 _
            have hs47 := S46.out.app3 ho47 hg47 ha47
            refine hK _ _ (fun _ => ⟨⟨_, hs47.gs⟩, rfl⟩) ?_
            clear hK K hc47 hl47 ho47 hg47 ha47
            have S47 := Lib.hid hs47
            clear hs47
            (refine anyT_tail 21 (tv_late (by rfl)) (by rfl) (by kernel_rfl) ?_; simp only [List.drop_succ_cons, List.drop_zero])
            have d0 := S47.out.row.lt
            have d1 := S47.out.row.frozen 3
            have d2 := S47.out.row.frozen 4
            have d3 := S47.out.row.frozen 5
            have d4 := S47.out.row.cell (i := 3) rfl
            have d5 := S47.out.row.cell (i := 4) rfl
            have d6 := S47.out.row.cell (i := 5) rfl
            have HIN := Lib.hid (HFIN.out _ _ _ _ S47.out)
            go_wp2
            refine NoPanic.normal ?_
            go_wp2
            generalize hWW : World.setCell _ _ _ = W99 at *
            clear hWW d0 d1 d2 d3 d4 d5 d6
            obtain ⟨z9, rfl⟩ := ext_of HIN.out.2
            go_roundw
            case rel => exact ⟨i + 1, z9, _, _, _, by omega, by go_num, rfl, HIN.out.1⟩
            case measure => simp [intOf]; omega
        · intro K hK
          go_simp
          have hs48 := S35.out.make3
          refine hK _ _ (fun _ => ⟨⟨_, hs48.gs⟩, rfl⟩) ?_
          clear hK K
          have S48 := Lib.hid hs48
          clear hs48
          generalize W35.alloc (.cells #[.int .i64 0] 2) = W48 at *
          generalize W35.heap.size = g3 at *
          (refine anyT_one 7 _ (by kernel_rfl) (by rfl) (fun K hK => ?_))
          go_simp
          have hs49 := S48.out.make1
          refine hK _ _ (fun _ => ⟨⟨_, hs49.gs⟩, rfl⟩) ?_
          clear hK K
          have S49 := Lib.hid hs49
          clear hs49
          generalize W48.alloc (.cells #[.int .i64 (-1)] 3) = W49 at *
          generalize W48.heap.size = g1 at *
          (refine anyT_one 8 _ (by kernel_rfl) (by rfl) (fun K hK => ?_))
          rw [if_pos (by rfl)]
          obtain ⟨hc50, hl50, _, _⟩ := S49.out.c1 _ rfl
          refine wp_append_lies _ _ _ 23 rfl w.heap.size 3 iI _ 1 8 Try.underlying23 hiI hz0 hz1 hz2 rfl (by decide) _ _ _ rfl S49.out.o.o1 ⟨g1, 0, none⟩ 1 1 [.int .i64 (-1)] rfl rfl (y_src hc50) (by intro u hu; simp at hu; subst hu; rfl) (by decide) (by unfold maxLen; omega) (by omega) S49.out.nw _ rfl ?_
          intro a50 p50 W50 ho50 hg50 ha50 _
          have hs50 := S49.out.app1 ho50 hg50 ha50
          refine hK _ _ (fun _ => ⟨⟨_, hs50.gs⟩, rfl⟩) ?_
          clear hK K hc50 hl50 ho50 hg50 ha50
          have S50 := Lib.hid hs50
          clear hs50
          (refine anyT_one 14 _ (by kernel_rfl) (by rfl) (fun K hK => ?_))
          rw [if_pos (by rfl)]
          obtain ⟨hc51, hl51, _, _⟩ := S50.out.c2 _ rfl
          refine wp_append_lies _ _ _ 36 rfl w.heap.size 2 iL _ 1 8 Try.underlying36 hiL hy0 hy1 hy2 rfl (by decide) _ _ _ rfl S50.out.o.o2 ⟨g2, 0, none⟩ 1 1 [.int .i64 0] rfl rfl (y_src hc51) (by intro u hu; simp at hu; subst hu; rfl) (by decide) (by unfold maxLen; omega) (by omega) S50.out.nw _ rfl ?_
          intro a51 p51 W51 ho51 hg51 ha51 _
          have hs51 := S50.out.app2 ho51 hg51 ha51
          refine hK _ _ (fun _ => ⟨⟨_, hs51.gs⟩, rfl⟩) ?_
          clear hK K hc51 hl51 ho51 hg51 ha51
          have S51 := Lib.hid hs51
          clear hs51
          (refine anyT_one 20 _ (by kernel_rfl) (by rfl) (fun K hK => ?_))
          rw [if_pos (by rfl)]
          obtain ⟨hc52, hl52, _, _⟩ := S51.out.c3 _ rfl
          refine wp_append_lies _ _ _ 36 rfl w.heap.size 2 iL _ 1 8 Try.underlying36 hiL hy0 hy1 hy2 rfl (by decide) _ _ _ rfl S51.out.o.o3 ⟨g3, 0, none⟩ 1 1 [.int .i64 0] rfl rfl (y_src hc52) (by intro u hu; simp at hu; subst hu; rfl) (by decide) (by unfold maxLen; omega) (by omega) S51.out.nw _ rfl ?_
          intro a52 p52 W52 ho52 hg52 ha52 _
          have hs52 := S51.out.app3 ho52 hg52 ha52
          refine hK _ _ (fun _ => ⟨⟨_, hs52.gs⟩, rfl⟩) ?_
          clear hK K hc52 hl52 ho52 hg52 ha52
          have S52 := Lib.hid hs52
          clear hs52
          (refine anyT_tail 21 (tv_late (by rfl)) (by rfl) (by kernel_rfl) ?_; simp only [List.drop_succ_cons, List.drop_zero])
          have d0 := S52.out.row.lt
          have d1 := S52.out.row.frozen 3
          have d2 := S52.out.row.frozen 4
          have d3 := S52.out.row.frozen 5
          have d4 := S52.out.row.cell (i := 3) rfl
          have d5 := S52.out.row.cell (i := 4) rfl
          have d6 := S52.out.row.cell (i := 5) rfl
          have HIN := Lib.hid (HFIN.out _ _ _ _ S52.out)
          go_wp2
          refine NoPanic.normal ?_
          go_wp2
          generalize hWW : World.setCell _ _ _ = W99 at *
          clear hWW d0 d1 d2 d3 d4 d5 d6
          obtain ⟨z9, rfl⟩ := ext_of HIN.out.2
          go_roundw
          case rel => exact ⟨i + 1, z9, _, _, _, by omega, by go_num, rfl, HIN.out.1⟩
          case measure => simp [intOf]; omega
      · intro K hK
        go_simp
        have hs53 := S0.out.make3
        refine hK _ _ (fun _ => ⟨⟨_, hs53.gs⟩, rfl⟩) ?_
        clear hK K
        have S53 := Lib.hid hs53
        clear hs53
        generalize W0.alloc (.cells #[.int .i64 0] 2) = W53 at *
        generalize W0.heap.size = g3 at *
        refine anyT_two 7 13 _ _ (by kernel_rfl) (by rfl) (by rfl) ?_ ?_
        · intro K hK
          go_simp
          have hs54 := S53.out.make1
          refine hK _ _ (fun _ => ⟨⟨_, hs54.gs⟩, rfl⟩) ?_
          clear hK K
          have S54 := Lib.hid hs54
          clear hs54
          generalize W53.alloc (.cells #[.int .i64 (-1)] 3) = W54 at *
          generalize W53.heap.size = g1 at *
          refine anyT_two 8 13 _ _ (by kernel_rfl) (by rfl) (by rfl) ?_ ?_
          · intro K hK
            rw [if_pos (by rfl)]
            obtain ⟨hc55, hl55, _, _⟩ := S54.out.c1 _ rfl
            refine wp_append_lies _ _ _ 23 rfl w.heap.size 3 iI _ 1 8 Try.underlying23 hiI hz0 hz1 hz2 rfl (by decide) _ _ _ rfl S54.out.o.o1 ⟨g1, 0, none⟩ 1 1 [.int .i64 (-1)] rfl rfl (y_src hc55) (by intro u hu; simp at hu; subst hu; rfl) (by decide) (by unfold maxLen; omega) (by omega) S54.out.nw _ rfl ?_
            intro a55 p55 W55 ho55 hg55 ha55 _
            have hs55 := S54.out.app1 ho55 hg55 ha55
            refine hK _ _ (fun _ => ⟨⟨_, hs55.gs⟩, rfl⟩) ?_
            clear hK K hc55 hl55 ho55 hg55 ha55
            have S55 := Lib.hid hs55
            clear hs55
            (refine anyT_one 13 _ (by kernel_rfl) (by rfl) (fun K hK => ?_))
            go_simp
            have hs56 := S55.out.make2
            refine hK _ _ (fun _ => ⟨⟨_, hs56.gs⟩, rfl⟩) ?_
            clear hK K
            have S56 := Lib.hid hs56
            clear hs56
            generalize W55.alloc (.cells #[.int .i64 0] 2) = W56 at *
            generalize W55.heap.size = g2 at *
            (refine anyT_one 14 _ (by kernel_rfl) (by rfl) (fun K hK => ?_))
            rw [if_pos (by rfl)]
            obtain ⟨hc57, hl57, _, _⟩ := S56.out.c2 _ rfl
            refine wp_append_lies _ _ _ 36 rfl w.heap.size 2 iL _ 1 8 Try.underlying36 hiL hy0 hy1 hy2 rfl (by decide) _ _ _ rfl S56.out.o.o2 ⟨g2, 0, none⟩ 1 1 [.int .i64 0] rfl rfl (y_src hc57) (by intro u hu; simp at hu; subst hu; rfl) (by decide) (by unfold maxLen; omega) (by omega) S56.out.nw _ rfl ?_
            intro a57 p57 W57 ho57 hg57 ha57 _
            have hs57 := S56.out.app2 ho57 hg57 ha57
            refine hK _ _ (fun _ => ⟨⟨_, hs57.gs⟩, rfl⟩) ?_
            clear hK K hc57 hl57 ho57 hg57 ha57
            have S57 := Lib.hid hs57
            clear hs57
            (refine anyT_one 20 _ (by kernel_rfl) (by rfl) (fun K hK => ?_))
            rw [if_pos (by rfl)]
            obtain ⟨hc58, hl58, _, _⟩ := S57.out.c3 _ rfl
            refine wp_append_lies _ _ _ 36 rfl w.heap.size 2 iL _ 1 8 Try.underlying36 hiL hy0 hy1 hy2 rfl (by decide) _ _ _ rfl S57.out.o.o3 ⟨g3, 0, none⟩ 1 1 [.int .i64 0] rfl rfl (y_src hc58) (by intro u hu; simp at hu; subst hu; rfl) (by decide) (by unfold maxLen; omega) (by omega) S57.out.nw _ rfl ?_
            intro a58 p58 W58 ho58 hg58 ha58 _
            have hs58 := S57.out.app3 ho58 hg58 ha58
            refine hK _ _ (fun _ => ⟨⟨_, hs58.gs⟩, rfl⟩) ?_
            clear hK K hc58 hl58 ho58 hg58 ha58
            have S58 := Lib.hid hs58
            clear hs58
            (refine anyT_tail 21 (tv_late (by rfl)) (by rfl) (by kernel_rfl) ?_; simp only [List.drop_succ_cons, List.drop_zero])
            have d0 := S58.out.row.lt
            have d1 := S58.out.row.frozen 3
            have d2 := S58.out.row.frozen 4
            have d3 := S58.out.row.frozen 5
            have d4 := S58.out.row.cell (i := 3) rfl
            have d5 := S58.out.row.cell (i := 4) rfl
            have d6 := S58.out.row.cell (i := 5) rfl
            have HIN := Lib.hid (HFIN.out _ _ _ _ S58.out)
            go_wp2
            refine NoPanic.normal ?_
            go_wp2
            generalize hWW : World.setCell _ _ _ = W99 at *
            clear hWW d0 d1 d2 d3 d4 d5 d6
            obtain ⟨z9, rfl⟩ := ext_of HIN.out.2
            go_roundw
            case rel => exact ⟨i + 1, z9, _, _, _, by omega, by go_num, rfl, HIN.out.1⟩
            case measure => simp [intOf]; omega
          · intro K hK
            go_simp
            have hs59 := S54.out.make2
            refine hK _ _ (fun _ => ⟨⟨_, hs59.gs⟩, rfl⟩) ?_
            clear hK K
            have S59 := Lib.hid hs59
            clear hs59
            generalize W54.alloc (.cells #[.int .i64 0] 2) = W59 at *
            generalize W54.heap.size = g2 at *
            (refine anyT_one 8 _ (by kernel_rfl) (by rfl) (fun K hK => ?_))
            rw [if_pos (by rfl)]
            obtain ⟨hc60, hl60, _, _⟩ := S59.out.c1 _ rfl
            refine wp_append_lies _ _ _ 23 rfl w.heap.size 3 iI _ 1 8 Try.underlying23 hiI hz0 hz1 hz2 rfl (by decide) _ _ _ rfl S59.out.o.o1 ⟨g1, 0, none⟩ 1 1 [.int .i64 (-1)] rfl rfl (y_src hc60) (by intro u hu; simp at hu; subst hu; rfl) (by decide) (by unfold maxLen; omega) (by omega) S59.out.nw _ rfl ?_
            intro a60 p60 W60 ho60 hg60 ha60 _
            have hs60 := S59.out.app1 ho60 hg60 ha60
            refine hK _ _ (fun _ => ⟨⟨_, hs60.gs⟩, rfl⟩) ?_
            clear hK K hc60 hl60 ho60 hg60 ha60
            have S60 := Lib.hid hs60
            clear hs60
            (refine anyT_one 14 _ (by kernel_rfl) (by rfl) (fun K hK => ?_))
            rw [if_pos (by rfl)]
            obtain ⟨hc61, hl61, _, _⟩ := S60.out.c2 _ rfl
            refine wp_append_lies _ _ _ 36 rfl w.heap.size 2 iL _ 1 8 Try.underlying36 hiL hy0 hy1 hy2 rfl (by decide) _ _ _ rfl S60.out.o.o2 ⟨g2, 0, none⟩ 1 1 [.int .i64 0] rfl rfl (y_src hc61) (by intro u hu; simp at hu; subst hu; rfl) (by decide) (by unfold maxLen; omega) (by omega) S60.out.nw _ rfl ?_
            intro a61 p61 W61 ho61 hg61 ha61 _
            have hs61 := S60.out.app2 ho61 hg61 ha61
            refine hK _ _ (fun _ => ⟨⟨_, hs61.gs⟩, rfl⟩) ?_
            clear hK K hc61 hl61 ho61 hg61 ha61
            have S61 := Lib.hid hs61
            clear hs61
            (refine anyT_one 20 _ (by kernel_rfl) (by rfl) (fun K hK => ?_))
            rw [if_pos (by rfl)]
            obtain ⟨hc62, hl62, _, _⟩ := S61.out.c3 _ rfl
            refine wp_append_lies _ _ _ 36 rfl w.heap.size 2 iL _ 1 8 Try.underlying36 hiL hy0 hy1 hy2 rfl (by decide) _ _ _ rfl S61.out.o.o3 ⟨g3, 0, none⟩ 1 1 [.int .i64 0] rfl rfl (y_src hc62) (by intro u hu; simp at hu; subst hu; rfl) (by decide) (by unfold maxLen; omega) (by omega) S61.out.nw _ rfl ?_
            intro a62 p62 W62 ho62 hg62 ha62 _
            have hs62 := S61.out.app3 ho62 hg62 ha62
            refine hK _ _ (fun _ => ⟨⟨_, hs62.gs⟩, rfl⟩) ?_
            clear hK K hc62 hl62 ho62 hg62 ha62
            have S62 := Lib.hid hs62
            clear hs62
            (refine anyT_tail 21 (tv_late (by rfl)) (by rfl) (by kernel_rfl) ?_; simp only [List.drop_succ_cons, List.drop_zero])
            have d0 := S62.out.row.lt
            have d1 := S62.out.row.frozen 3
            have d2 := S62.out.row.frozen 4
            have d3 := S62.out.row.frozen 5
            have d4 := S62.out.row.cell (i := 3) rfl
            have d5 := S62.out.row.cell (i := 4) rfl
            have d6 := S62.out.row.cell (i := 5) rfl
            have HIN := Lib.hid (HFIN.out _ _ _ _ S62.out)
            go_wp2
            refine NoPanic.normal ?_
            go_wp2
            generalize hWW : World.setCell _ _ _ = W99 at *
            clear hWW d0 d1 d2 d3 d4 d5 d6
            obtain ⟨z9, rfl⟩ := ext_of HIN.out.2
            go_roundw
            case rel => exact ⟨i + 1, z9, _, _, _, by omega, by go_num, rfl, HIN.out.1⟩
            case measure => simp [intOf]; omega
        · intro K hK
          go_simp
          have hs63 := S53.out.make2
          refine hK _ _ (fun _ => ⟨⟨_, hs63.gs⟩, rfl⟩) ?_
          clear hK K
          have S63 := Lib.hid hs63
          clear hs63
          generalize W53.alloc (.cells #[.int .i64 0] 2) = W63 at *
          generalize W53.heap.size = g2 at *
          (refine anyT_one 7 _ (by kernel_rfl) (by rfl) (fun K hK => ?_))
          go_simp
          have hs64 := S63.out.make1
          refine hK _ _ (fun _ => ⟨⟨_, hs64.gs⟩, rfl⟩) ?_
          clear hK K
          have S64 := Lib.hid hs64
          clear hs64
          generalize W63.alloc (.cells #[.int .i64 (-1)] 3) = W64 at *
          generalize W63.heap.size = g1 at *
          (refine anyT_one 8 _ (by kernel_rfl) (by rfl) (fun K hK => ?_))
          rw [if_pos (by rfl)]
          obtain ⟨hc65, hl65, _, _⟩ := S64.out.c1 _ rfl
          refine wp_append_lies _ _ _ 23 rfl w.heap.size 3 iI _ 1 8 Try.underlying23 hiI hz0 hz1 hz2 rfl (by decide) _ _ _ rfl S64.out.o.o1 ⟨g1, 0, none⟩ 1 1 [.int .i64 (-1)] rfl rfl (y_src hc65) (by intro u hu; simp at hu; subst hu; rfl) (by decide) (by unfold maxLen; omega) (by omega) S64.out.nw _ rfl ?_
          intro a65 p65 W65 ho65 hg65 ha65 _
          have hs65 := S64.out.app1 ho65 hg65 ha65
          refine hK _ _ (fun _ => ⟨⟨_, hs65.gs⟩, rfl⟩) ?_
          clear hK K hc65 hl65 ho65 hg65 ha65
          have S65 := Lib.hid hs65
          clear hs65
          (refine anyT_one 14 _ (by kernel_rfl) (by rfl) (fun K hK => ?_))
          rw [if_pos (by rfl)]
          obtain ⟨hc66, hl66, _, _⟩ := S65.out.c2 _ rfl
          refine wp_append_lies _ _ _ 36 rfl w.heap.size 2 iL _ 1 8 Try.underlying36 hiL hy0 hy1 hy2 rfl (by decide) _ _ _ rfl S65.out.o.o2 ⟨g2, 0, none⟩ 1 1 [.int .i64 0] rfl rfl (y_src hc66) (by intro u hu; simp at hu; subst hu; rfl) (by decide) (by unfold maxLen; omega) (by omega) S65.out.nw _ rfl ?_
          intro a66 p66 W66 ho66 hg66 ha66 _
          have hs66 := S65.out.app2 ho66 hg66 ha66
          refine hK _ _ (fun _ => ⟨⟨_, hs66.gs⟩, rfl⟩) ?_
          clear hK K hc66 hl66 ho66 hg66 ha66
          have S66 := Lib.hid hs66
          clear hs66
          (refine anyT_one 20 _ (by kernel_rfl) (by rfl) (fun K hK => ?_))
          rw [if_pos (by rfl)]
          obtain ⟨hc67, hl67, _, _⟩ := S66.out.c3 _ rfl
          refine wp_append_lies _ _ _ 36 rfl w.heap.size 2 iL _ 1 8 Try.underlying36 hiL hy0 hy1 hy2 rfl (by decide) _ _ _ rfl S66.out.o.o3 ⟨g3, 0, none⟩ 1 1 [.int .i64 0] rfl rfl (y_src hc67) (by intro u hu; simp at hu; subst hu; rfl) (by decide) (by unfold maxLen; omega) (by omega) S66.out.nw _ rfl ?_
          intro a67 p67 W67 ho67 hg67 ha67 _
          have hs67 := S66.out.app3 ho67 hg67 ha67
          refine hK _ _ (fun _ => ⟨⟨_, hs67.gs⟩, rfl⟩) ?_
          clear hK K hc67 hl67 ho67 hg67 ha67
          have S67 := Lib.hid hs67
          clear hs67
          (refine anyT_tail 21 (tv_late (by rfl)) (by rfl) (by kernel_rfl) ?_; simp only [List.drop_succ_cons, List.drop_zero])
          have d0 := S67.out.row.lt
          have d1 := S67.out.row.frozen 3
          have d2 := S67.out.row.frozen 4
          have d3 := S67.out.row.frozen 5
          have d4 := S67.out.row.cell (i := 3) rfl
          have d5 := S67.out.row.cell (i := 4) rfl
          have d6 := S67.out.row.cell (i := 5) rfl
          have HIN := Lib.hid (HFIN.out _ _ _ _ S67.out)
          go_wp2
          refine NoPanic.normal ?_
          go_wp2
          generalize hWW : World.setCell _ _ _ = W99 at *
          clear hWW d0 d1 d2 d3 d4 d5 d6
          obtain ⟨z9, rfl⟩ := ext_of HIN.out.2
          go_roundw
          case rel => exact ⟨i + 1, z9, _, _, _, by omega, by go_num, rfl, HIN.out.1⟩
          case measure => simp [intOf]; omega
      -- EERT
    · obtain rfl : i = l.length := by omega
      have hdl : decide ((l.length : Int) < (l.length : Int)) = false := by simp
      have HPO : Hid (RNewPost ws (.slice A l.length c) (.slice Ax xs.length cx) l xs w (.returned (.tuple #[.pointer (some ⟨br, 0, none⟩), .int .i64 0])) z.w) := Lib.hid (.inr ⟨HCK.out, br, _, _, _, rfl, HO.out, z.bel⟩)
      go_wp2
      go_ret2
      exact HPO.out
end Go.Proofs.Ytbilfpoghohddaa
