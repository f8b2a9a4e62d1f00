import Derived.Test.YtehifcgfgejjcaaRmidr
import Derived.Test.YtehifcgfgejjcaaOwng
import Derived.Deep.LoopGhost
namespace Go.Proofs.Ytehifcgfgejjcaa
open Go.RowKit
theorem Try.infoI64 : (Try.prog.info? 2).map (fun i => (i.zero, i.size, i.bytes)) = some (some (.int .i64 0), 1, 8) := by kernel_rfl
theorem pmake_at (n d : Int) (W : World) (hn : i64 n) (hd : i64 d) : Calls Try.prog 28 #[.int .i64 n, .int .i64 d] W fun e' w' => e' = .returned (.tuple #[.agg #[.int .i64 (rmake n d).1.num, .int .i64 (rmake n d).1.den], .int .i64 (rmake n d).2]) ∧ Bel W w' := pmake_any n d W hn hd
set_option maxRecDepth 100000 in
set_option maxHeartbeats 8000000 in
theorem prmid_any (a b : Rt) (w : World) (ha : a.wf) (hb : b.wf) : Calls Try.prog 9 #[a.V, b.V] w fun e w' => e = .returned (rresV (rmid a b)) ∧ Bel w w' := by
  have HC := fun W => prcmp_any a b W ha hb
  have hc := rcmp_cases a b
  have hok := fun h1 h2 => rmid_ok (a := a) (b := b) h1 h2
  have hbad := fun h => rmid_bad (a := a) (b := b) h
  have hst := fun h1 h2 h3 => cf_start (a := a) (b := b) h1 h2 h3
  obtain ⟨an, ad⟩ := a
  obtain ⟨bn, bd⟩ := b
  unfold intV Rt.V at *
  generalize (rcmp ⟨an, ad⟩ ⟨bn, bd⟩).1 = c at *
  generalize (rcmp ⟨an, ad⟩ ⟨bn, bd⟩).2 = e at *
  simp only at *
  clear ha hb
  have hcc : (rmid ⟨an, ad⟩ ⟨bn, bd⟩ = (⟨0, 0⟩, 2) ∧ ((e = 2 ∧ c = 0) ∨ (e = 0 ∧ c = 0) ∨ (e = 0 ∧ c = 1))) ∨ (e = 0 ∧ c = -1 ∧ Cf an ad bn bd ∧ (ad + bd).toNat < 4294967297 ∧ rmid ⟨an, ad⟩ ⟨bn, bd⟩ = rmake (cfold (cfF 4294967297 an ad bn bd)).1 (cfold (cfF 4294967297 an ad bn bd)).2) := by
    rcases hc with ⟨h1, h2⟩ | ⟨va, vb, h1, h2⟩
    · exact .inl ⟨hbad (by omega), .inl ⟨h1, h2⟩⟩
    · rcases h2 with ⟨h3, h4⟩ | ⟨h3, h4⟩ | ⟨h3, h4⟩
      · exact .inr ⟨h1, h4, (hst va vb h3).1, (hst va vb h3).2, hok h1 h4⟩
      · exact .inl ⟨hbad (by omega), .inr (.inl ⟨h1, h4⟩)⟩
      · exact .inl ⟨hbad (by omega), .inr (.inr ⟨h1, h4⟩)⟩
  clear hc hok hbad hst
  rcases hcc with ⟨hr, h2⟩ | ⟨rfl, rfl, hcf, hfu, hr⟩
  · replace hr := Lib.hid hr
    rcases h2 with ⟨rfl, rfl⟩ | ⟨rfl, rfl⟩ | ⟨rfl, rfl⟩
    all_goals
      replace HC := Lib.hid HC
      go_enter Try.func9, Try.ntmps9
      go_upto_region 1 with (fail)
      (generalize hW : World.alloc _ _ = wb; have q0_0 := (congrArg (fun W : World => W.cell? ⟨w.heap.size, 0, none⟩) hW).symm; simp [go_sem] at q0_0; have qf0_0 := (congrArg (fun W : World => W.frozen? ⟨w.heap.size, 0, none⟩) hW).symm; simp [go_sem] at qf0_0; have q0_1 := (congrArg (fun W : World => W.cell? ⟨w.heap.size, 1, none⟩) hW).symm; simp [go_sem] at q0_1; have qf0_1 := (congrArg (fun W : World => W.frozen? ⟨w.heap.size, 1, none⟩) hW).symm; simp [go_sem] at qf0_1; have qz0 : w.heap.size < wb.heap.size := (by rw [← hW]; simp [go_sem]; try omega); have q1_0 := (congrArg (fun W : World => W.cell? ⟨w.heap.size + 1, 0, none⟩) hW).symm; simp [go_sem] at q1_0; have qf1_0 := (congrArg (fun W : World => W.frozen? ⟨w.heap.size + 1, 0, none⟩) hW).symm; simp [go_sem] at qf1_0; have q1_1 := (congrArg (fun W : World => W.cell? ⟨w.heap.size + 1, 1, none⟩) hW).symm; simp [go_sem] at q1_1; have qf1_1 := (congrArg (fun W : World => W.frozen? ⟨w.heap.size + 1, 1, none⟩) hW).symm; simp [go_sem] at qf1_1; have qz1 : w.heap.size + 1 < wb.heap.size := (by rw [← hW]; simp [go_sem]; try omega); have q2_0 := (congrArg (fun W : World => W.cell? ⟨w.heap.size + 1 + 1, 0, none⟩) hW).symm; simp [go_sem] at q2_0; have qf2_0 := (congrArg (fun W : World => W.frozen? ⟨w.heap.size + 1 + 1, 0, none⟩) hW).symm; simp [go_sem] at qf2_0; have q2_1 := (congrArg (fun W : World => W.cell? ⟨w.heap.size + 1 + 1, 1, none⟩) hW).symm; simp [go_sem] at q2_1; have qf2_1 := (congrArg (fun W : World => W.frozen? ⟨w.heap.size + 1 + 1, 1, none⟩) hW).symm; simp [go_sem] at qf2_1; have qz2 : w.heap.size + 1 + 1 < wb.heap.size := (by rw [← hW]; simp [go_sem]; try omega); have HBW : Hid (Bel w wb) := Lib.hid (by rw [← hW]; (repeat (first | exact Ext.bel _ | exact Bel.refl | refine Bel.alloc ?_ _ | refine Bel.drew ?_ | refine Bel.drewN ?_ _))); clear hW; have hkw := HBW.out.cells)
      go_wp2_with (go_at_call 16; (with_reducible refine (HC.out _).mono ?_); rintro e w2 ⟨rfl, hb2⟩; obtain ⟨x, rfl⟩ : ∃ x : Ext wb, w2 = x.w := ext_of (hb2.after (by (repeat (first | exact Ext.bel _ | exact Bel.refl | refine Bel.alloc ?_ _ | refine Bel.drew ?_ | refine Bel.drewN ?_ _)))); clear hb2)
      refine bodyPost_ret (v := .tuple #[.agg #[.int .i64 0, .int .i64 0], .int .i64 2]) (by simp [results, Try.results9, go_sem, q2_0, q2_1, qz2]) rfl ⟨by rw [hr.out]; rfl, ?_⟩
      (repeat (first | exact HBW.out.trans x.bel | refine Bel.alloc ?_ _ | refine Bel.drew ?_ | refine Bel.drewN ?_ _ | refine Bel.set ?_ (by first | exact Nat.le_refl _ | (simp; done) | (simp; omega) | omega) _))
  · replace HC := Lib.hid HC
    replace hr := Lib.hid hr
    obtain ⟨i0, hi, hz0, hz1, hz2⟩ := info_parts Try.infoI64
    go_enter Try.func9, Try.ntmps9
    go_upto_region 1 with (fail)
    (generalize hW : World.alloc _ _ = wb; have q0_0 := (congrArg (fun W : World => W.cell? ⟨w.heap.size, 0, none⟩) hW).symm; simp [go_sem] at q0_0; have qf0_0 := (congrArg (fun W : World => W.frozen? ⟨w.heap.size, 0, none⟩) hW).symm; simp [go_sem] at qf0_0; have q0_1 := (congrArg (fun W : World => W.cell? ⟨w.heap.size, 1, none⟩) hW).symm; simp [go_sem] at q0_1; have qf0_1 := (congrArg (fun W : World => W.frozen? ⟨w.heap.size, 1, none⟩) hW).symm; simp [go_sem] at qf0_1; have qz0 : w.heap.size < wb.heap.size := (by rw [← hW]; simp [go_sem]; try omega); have q1_0 := (congrArg (fun W : World => W.cell? ⟨w.heap.size + 1, 0, none⟩) hW).symm; simp [go_sem] at q1_0; have qf1_0 := (congrArg (fun W : World => W.frozen? ⟨w.heap.size + 1, 0, none⟩) hW).symm; simp [go_sem] at qf1_0; have q1_1 := (congrArg (fun W : World => W.cell? ⟨w.heap.size + 1, 1, none⟩) hW).symm; simp [go_sem] at q1_1; have qf1_1 := (congrArg (fun W : World => W.frozen? ⟨w.heap.size + 1, 1, none⟩) hW).symm; simp [go_sem] at qf1_1; have qz1 : w.heap.size + 1 < wb.heap.size := (by rw [← hW]; simp [go_sem]; try omega); have q2_0 := (congrArg (fun W : World => W.cell? ⟨w.heap.size + 1 + 1, 0, none⟩) hW).symm; simp [go_sem] at q2_0; have qf2_0 := (congrArg (fun W : World => W.frozen? ⟨w.heap.size + 1 + 1, 0, none⟩) hW).symm; simp [go_sem] at qf2_0; have q2_1 := (congrArg (fun W : World => W.cell? ⟨w.heap.size + 1 + 1, 1, none⟩) hW).symm; simp [go_sem] at q2_1; have qf2_1 := (congrArg (fun W : World => W.frozen? ⟨w.heap.size + 1 + 1, 1, none⟩) hW).symm; simp [go_sem] at qf2_1; have qz2 : w.heap.size + 1 + 1 < wb.heap.size := (by rw [← hW]; simp [go_sem]; try omega); have HBW : Hid (Bel w wb) := Lib.hid (by rw [← hW]; (repeat (first | exact Ext.bel _ | exact Bel.refl | refine Bel.alloc ?_ _ | refine Bel.drew ?_ | refine Bel.drewN ?_ _))); clear hW; have hkw := HBW.out.cells)
    go_upto_region 5 with (go_at_call 16; (with_reducible refine (HC.out _).mono ?_); rintro e w2 ⟨rfl, hb2⟩; obtain ⟨x, rfl⟩ : ∃ x : Ext wb, w2 = x.w := ext_of (hb2.after (by (repeat (first | exact Ext.bel _ | exact Bel.refl | refine Bel.alloc ?_ _ | refine Bel.drew ?_ | refine Bel.drewN ?_ _)))); clear hb2)
    (refine wp_region_ext (wb := wb) (by (repeat (first | exact Ext.bel _ | exact Bel.refl | refine Bel.alloc ?_ _ | refine Bel.drew ?_ | refine Bel.drewN ?_ _))) (by kernel_rfl) (by kernel_rfl) ?_; (repeat (any_goals (first | go_big_quiet_step (fail) | quiet_step (fail) | (refine wpQuiet_step (fun K hK => ?_); go_simp; split <;> (refine hK _ ?_; clear hK K))))); all_goals (refine wpQuiet_nil ?_; intro _ hw'; obtain ⟨y, hw''⟩ := hw'; subst hw''))
    go_wp2
    go_loopw [8, 9, 10, 11, 12] (fun u sn sd sm se wr => ∃ (L : List Int) (n d m e : Int) (f : Nat) (z : Ext wb), Cf n d m e ∧ (d + e).toNat < f ∧ L.length + f = 4294967297 ∧ sn = .int .i64 n ∧ sd = .int .i64 d ∧ sm = .int .i64 m ∧ se = .int .i64 e ∧ wr = z.w ∧ z.w.ownsRow wb.heap.size 2 1 u L.length (L.map (Value.int .i64)) ∧ L ++ cfF f n d m e = cfF 4294967297 an ad bn bd) (fun _ _ sd _ se _ => (intOf sd + intOf se).toNat)
    case atStart => exact ⟨[], an, ad, bn, bd, 4294967297, y, hcf, hfu, rfl, rfl, rfl, rfl, rfl, rfl, World.ownsRow_nil _ _ _ _, rfl⟩
    case round =>
      clear y hcf hfu
      obtain ⟨L, n, d, m, e, f, z, hcf, hf, hLf, rfl, rfl, rfl, rfl, rfl, hown, hL⟩ := hrel
      obtain ⟨f, rfl⟩ : ∃ g, f = g + 1 := ⟨f - 1, by omega⟩
      have hk := hcf.k
      have hkd := hcf.kd
      have hke := hcf.ke
      have hke1 := hcf.ke1
      have HF := Lib.hid fun W => pfloor_any n d W (by have := hcf.n1; have := hcf.n2; unfold i64; omega) hcf.d1 (by have := hcf.d1; have := hcf.d2; unfold i64; omega)
      have hle := z.bel.le
      by_cases hs : e = 0 ∨ (n / d + 1) * e < m
      · have HLn : Hid (L ++ [n / d + 1] = cfF 4294967297 an ad bn bd) := Lib.hid (by rw [← hL, cfF_stop hs])
        obtain ⟨n1, n2, d1, d2, m1, m2, e1, e2, _⟩ := hcf
        have hss : ((e == 0) = true) ∨ ((e == 0) = false ∧ (n / d + 1) * e < m) := by
          by_cases h0 : e = 0
          · exact .inl (by simpa using h0)
          · exact .inr ⟨by simpa using h0, by omega⟩
        clear hs hL
        generalize n / d = k at *
        have hx1 : -4611686020574871551 ≤ (k + 1) * e := by omega
        have hx2 : (k + 1) * e ≤ 4611686020574871551 := by omega
        replace hke1 := Lib.hid hke1
        rcases hss with hz | ⟨hz, hge⟩
        all_goals
          go_wp2_with (first | (go_at_call 39; (with_reducible refine (HF.out _).mono ?_); rintro e w2 ⟨rfl, rfl⟩) | (at_builtin; go_must (refine wpList_append_own _ rfl _ _ 44 rfl wb.heap.size 2 i0 (.int .i64 0) 1 8 Try.underlying44 hi hz0 hz1 hz2 rfl (by decide) _ _ _ rfl (hown.alloc _) ⟨z.w.heap.size, 0, none⟩ 1 1 [.int .i64 (k + 1)] rfl rfl ?c1 ?c2 ?c3 ?c4 ?c5 ?_)))
          case c1 => exact cells_new _ [.int .i64 (k + 1)] _
          case c2 => intro u hu; simp at hu; subst hu; rfl
          case c3 => unfold maxLen; omega
          case c4 => omega
          case c5 => simp; omega
          intro v' w1 hown1 hg1 _
          have hbel := bel_grown (z.bel.alloc _) (hown.alloc _) hg1
          obtain ⟨y, rfl⟩ := ext_of hbel
          have HO : Hid (y.w.ownsRow wb.heap.size 2 1 v' (L ++ [k + 1]).length ((L ++ [k + 1]).map (Value.int .i64))) := Lib.hid (by rw [List.length_append, List.map_append]; exact hown1)
          have hlen : (L ++ [k + 1]).length ≤ 4294967297 := by simp; omega
          clear hown1 hg1 hbel hown hle
          have hpos : 0 < (L ++ [k + 1]).length := by simp
          rw [HLn.out] at HO hlen hpos
          clear HLn HF
          generalize cfF 4294967297 an ad bn bd = LL at *
          rcases HO.out.2 with ⟨hv, h0⟩ | ⟨g, cap, cur, hv, hg, hgg, hcap, hmx, hcs, htk⟩
          · exfalso; omega
          · have HCL : Hid (∀ j, j < LL.length → y.w.cell? ⟨g, j, none⟩ = some (.int .i64 (LL.getD j 0))) := Lib.hid (fun j hj => by
              have := HO.out.cells (g := g) (by rw [hv]; rfl) j (.int .i64 (LL.getD j 0)) (by simp [List.getD, hj])
              rw [add_ofs] at this
              exact this)
            have hv2 := hv
            clear HO hgg hmx hcs htk
            subst hv2
            go_wp2
            go_loop [14, 15, 16] (fun p q i => ∃ (j : Nat) (I P Q : Int), Hid (I + 1 = (j : Int)) ∧ -1 ≤ I ∧ I < LL.length ∧ i64 P ∧ i64 Q ∧ p = .int .i64 P ∧ q = .int .i64 Q ∧ i = .int .i64 I ∧ (LL.take j).foldr cstep (P, Q) = cfold LL) (fun _ _ i => (intOf i + 1).toNat)
            case atStart => exact ⟨LL.length, (LL.length : Int) - 1, 1, 0, Lib.hid (by omega), by omega, by omega, by unfold i64; omega, by unfold i64; omega, rfl, rfl, rfl, by rw [List.take_length]; rfl⟩
            case round =>
              obtain ⟨j, I, P, Q, HI, hI1, hI2, hP, hQ, rfl, rfl, rfl, hfo⟩ := hrel
              have HP := Lib.hid hP
              have HQ := Lib.hid hQ
              clear hP hQ
              by_cases hj : j = 0
              · subst hj
                obtain rfl : I = -1 := by have := HI.out; omega
                have hpq : (P, Q) = cfold LL := by rw [← hfo]; rfl
                have HR : Hid (rmid ⟨an, ad⟩ ⟨bn, bd⟩ = rmake P Q) := Lib.hid (by rw [hr.out, ← hpq])
                have HM := fun W => pmake_at P Q W HP.out HQ.out
                clear hfo hpq hr
                generalize rmake P Q = rr at *
                obtain ⟨⟨rn, rd⟩, re⟩ := rr
                simp only at HM
                replace HM := Lib.hid HM
                go_wp2_with (go_at_call 28; (with_reducible refine (HM.out _).mono ?_); rintro e w2 ⟨rfl, hb2⟩; obtain ⟨x, rfl⟩ : ∃ x : Ext wb, w2 = x.w := ext_of (hb2.after (by (repeat (first | exact Ext.bel _ | exact Bel.refl | refine Bel.alloc ?_ _ | refine Bel.drew ?_ | refine Bel.drewN ?_ _)))); clear hb2)
                refine bodyPost_ret (v := .tuple #[.agg #[.int .i64 rn, .int .i64 rd], .int .i64 re]) (by simp [results, Try.results9, go_sem, q2_0, q2_1, qz2]) rfl ⟨by rw [HR.out]; rfl, ?_⟩
                (repeat (first | exact HBW.out.trans x.bel | refine Bel.alloc ?_ _ | refine Bel.drew ?_ | refine Bel.drewN ?_ _ | refine Bel.set ?_ (by first | exact Nat.le_refl _ | (simp; done) | (simp; omega) | omega) _))
              · obtain ⟨j, rfl⟩ : ∃ i, j = i + 1 := ⟨j - 1, by omega⟩
                obtain rfl : I = (j : Int) := by have := HI.out; omega
                have hjl : j < LL.length := by omega
                have hcj := HCL.out j hjl
                have HFO : Hid ((LL.take j).foldr cstep (wrap64 (wrap64 (LL.getD j 0 * P) + Q), P) = cfold LL) := Lib.hid (by
                  rw [← hfo, List.take_succ_eq_append_getElem hjl, List.foldr_append]
                  simp [cstep, List.getD, hjl])
                generalize LL.getD j 0 = xj at *
                clear hfo hr HI
                go_wp2
                go_round
                case rel => exact ⟨j, (j : Int) - 1, _, P, Lib.hid (by omega), by omega, by omega, wrap_i64 _, HP.out, rfl, rfl, rfl, HFO.out⟩
                case measure => simp [intOf]
      · obtain ⟨hn, hlt⟩ := hcf.next hs
        have HN := Lib.hid hn
        have hd0 := hn.d1
        have he0 := hn.e1
        have HLn : Hid ((L ++ [n / d]) ++ cfF f e (m - n / d * e) d (n - n / d * d) = cfF 4294967297 an ad bn bd) := Lib.hid (by rw [← hL, cfF_go hs]; simp)
        obtain ⟨n1, n2, d1, d2, m1, m2, e1, e2, _⟩ := hcf
        have hz : (e == 0) = false := by simp; omega
        have hge : ¬ (n / d + 1) * e < m := by omega
        clear hs hn hL
        generalize n / d = k at *
        have hx1 : -4611686020574871551 ≤ (k + 1) * e := by omega
        have hx2 : (k + 1) * e ≤ 4611686020574871551 := by omega
        replace hke1 := Lib.hid hke1
        have hw1 : IntKind.i64.wrap (k * e) = k * e := IntWalk.i64_in _ (by omega)
        have hw2 : IntKind.i64.wrap (k * d) = k * d := IntWalk.i64_in _ (by omega)
        have hw3 : IntKind.i64.wrap (m - k * e) = m - k * e := IntWalk.i64_in _ (by omega)
        have hw4 : IntKind.i64.wrap (n - k * d) = n - k * d := IntWalk.i64_in _ (by omega)
        go_wp2_with (first | (go_at_call 39; (with_reducible refine (HF.out _).mono ?_); rintro e w2 ⟨rfl, rfl⟩) | (at_builtin; go_must (refine wpList_append_own _ rfl _ _ 44 rfl wb.heap.size 2 i0 (.int .i64 0) 1 8 Try.underlying44 hi hz0 hz1 hz2 rfl (by decide) _ _ _ rfl (hown.alloc _) ⟨z.w.heap.size, 0, none⟩ 1 1 [.int .i64 k] rfl rfl ?c1 ?c2 ?c3 ?c4 ?c5 ?_)))
        case c1 => exact cells_new _ [.int .i64 k] _
        case c2 => intro u hu; simp at hu; subst hu; rfl
        case c3 => unfold maxLen; omega
        case c4 => omega
        case c5 => simp; omega
        intro v' w1 hown1 hg1 _
        have hbel := bel_grown (z.bel.alloc _) (hown.alloc _) hg1
        obtain ⟨y, rfl⟩ := ext_of hbel
        have HO : Hid (y.w.ownsRow wb.heap.size 2 1 v' (L ++ [k]).length ((L ++ [k]).map (Value.int .i64))) := Lib.hid (by rw [List.length_append, List.map_append]; exact hown1)
        clear hown1 hg1 hbel
        go_wp2
        go_roundw
        case rel => exact ⟨L ++ [k], e, m - k * e, d, n - k * d, f, y, HN.out, by omega, by simp; omega, rfl, rfl, rfl, rfl, rfl, HO.out, HLn.out⟩
        case measure => simp [intOf]; omega
end Go.Proofs.Ytehifcgfgejjcaa
