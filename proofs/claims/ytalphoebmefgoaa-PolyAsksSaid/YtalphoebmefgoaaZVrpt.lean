/- poly, the reference: Point. -/
import Derived.Test.YtalphoebmefgoaaZVrch
import Derived.Test.YtalphoebmefgoaaZVrim
import Derived.Test.YtalphoebmefgoaaZVpt
import Derived.Test.YtalphoebmefgoaaZVpcs
namespace Go.Proofs.Ytalphoebmefgoaa
open Go.RowKit
theorem pt_empty {n : Int} {l : List AL} (h : (EmptyM n l).2 ≠ 0) : pointM n l = ([], (EmptyM n l).2) := by
  unfold EmptyM at h ⊢
  unfold pointM
  split
  · rfl
  · rename_i hc
    rw [if_neg hc] at h
    unfold emptyL at h ⊢
    unfold pointT
    rw [if_pos h]
theorem pt_true {n : Int} {l : List AL} (h : EmptyM n l = (true, 0)) : pointM n l = ([], 4) := by
  unfold EmptyM at h
  unfold pointM
  split
  · rename_i hc; rw [if_pos hc] at h; cases h
  · rename_i hc
    rw [if_neg hc] at h
    unfold emptyL at h
    simp only [Prod.mk.injEq] at h
    obtain ⟨h1, h2⟩ := h
    rw [h2] at h1
    simp at h1
    unfold pointT
    rw [if_neg (by simp [h2]), if_pos h1]
theorem pt_false {n : Int} {l : List AL} (h : EmptyM n l = (false, 0)) : checkM n l = 0 ∧ (downL 0 n.toNat (tidyL (padAll l))).2 = 0 ∧ pointM n l = pointG (tidyL (padAll l)) n.toNat n.toNat 0 [] := by
  unfold EmptyM at h
  unfold pointM
  split at h
  · rename_i hc; simp only [Prod.mk.injEq] at h; exact absurd h.2 hc
  · rename_i hc
    unfold emptyL at h
    simp only [Prod.mk.injEq] at h
    obtain ⟨h1, h2⟩ := h
    rw [h2] at h1
    simp at h1
    refine ⟨by simpa using hc, h2, ?_⟩
    rw [if_neg hc]
    unfold pointT
    rw [if_neg (by simp [h2]), if_neg (by simp [h1])]
theorem al_drop_pad {D : List AL} {j : Nat} (h : j < D.length) : padAll (D.drop j) = padL (alAt D j) :: padAll (D.drop (j + 1)) := by rw [al_drop h]; rfl
theorem ends_skip {p : List Rt} {x : Ln} {t : List Ln} {lo hi : En} (h : ci x p.length = 0) : endsF p (x :: t) lo hi = endsF p t lo hi := by
  conv => lhs; unfold endsF
  rw [if_pos h]
theorem ends_bad {p : List Rt} {x : Ln} {t : List Ln} {lo hi : En} (h : ci x p.length ≠ 0) (hv : valE x p = none) : endsF p (x :: t) lo hi = (zeroE, zeroE, 7) := by
  conv => lhs; unfold endsF
  rw [if_neg h, hv]
theorem ends_put {p : List Rt} {x : Ln} {t : List Ln} {lo hi : En} {r : Rt} (h : ci x p.length ≠ 0) (hv : valE x p = some r) :
    endsF p (x :: t) lo hi = endsF p t (if 0 < ci x p.length then lo else nearM lo r x.s (-1)) (if 0 < ci x p.length then nearM hi r x.s 1 else hi) := by
  conv => lhs; unfold endsF
  rw [if_neg h, hv]
  dsimp only
  split <;> rfl
theorem bd_wf {lo hi : En} {x : Ln} {p : List Rt} {r : Rt} (h1 : lo.at_.wf) (h2 : hi.at_.wf) (hv : valE x p = some r) (c : Prop) [Decidable c] (o : Bool) :
    (if c then lo else nearM lo r o (-1)).at_.wf ∧ (if c then nearM hi r o 1 else hi).at_.wf := by
  split
  · exact ⟨h1, near_wf h2 (val_wf hv) _ _⟩
  · exact ⟨near_wf h1 (val_wf hv) _ _, h2⟩
set_option maxRecDepth 100000 in
set_option maxHeartbeats 16000000 in
theorem rpoint_any (n : Int) (v : Value) (l : List AL) (w : World) (h : LinesAt w w.heap.size v l) (hl : AlLens l) (hn : l.length ≤ 1000000) :
    Calls Try.prog 34 #[.int .i64 n, v] w (PtPost (pointM n l) w) := by
  have H := Lib.hid h
  have HEM := Lib.hid (rEmpty_any n v l w h hl hn)
  have HE1 := Lib.hid (pt_empty (n := n) (l := l))
  have HE2 := Lib.hid (pt_true (n := n) (l := l))
  have HE3 := Lib.hid (pt_false (n := n) (l := l))
  obtain ⟨A, c, rfl, hc⟩ := h.form
  clear h hl
  unfold BoPost at HEM
  generalize EmptyM n l = M at *
  obtain ⟨eb, er⟩ := M
  dsimp only at HEM HE1
  go_enter Try.func34, Try.ntmps34
  go_wp2_with fail
  refine HEM.out.mono ?_
  rintro e w1 ⟨rfl, hB⟩
  have HB1 := Lib.hid hB
  clear hB HEM
  by_cases her : er = 0
  · subst her
    have h0 : ((0 : Int) != 0) = false := rfl
    cases eb
    · obtain ⟨hck, hd0, hM⟩ := HE3.out rfl
      obtain ⟨hn5, hl1, _⟩ := check_fits hck
      obtain ⟨m, rfl⟩ : ∃ m : Nat, n = (m : Int) := ⟨n.toNat, by omega⟩
      have hm5 : m ≤ 5 := by omega
      rw [Int.toNat_natCast] at hd0 hM
      have hlnA := check_lenA hck
      rw [Int.toNat_natCast] at hlnA
      have hinA := check_inrA hck
      have hT := tidy_pad (n := m) (by omega) hlnA
      have HTN := Lib.hid hT.2
      have HTP := Lib.hid hT.1
      have HTL := Lib.hid (tidyA_len (n := m) (by omega) hlnA)
      have HTI := Lib.hid (tidyA_inr (n := m) (by omega) hlnA hinA)
      have HD0 := Lib.hid hd0
      have HM := Lib.hid hM
      have HTD := Lib.hid (fun W (hW : Bel w W) => rtidy_any m (.slice A l.length c) l W (H.out.bel hW) (by omega) (by omega) (fun x hx => by have := hlnA x hx; omega) (fun x hx => (hinA x hx).wf))
      clear hck hd0 hM hn5 hlnA hinA hT HE1 HE2 HE3 H
      unfold LinPost at HTD
      generalize tidyA m l = TA at *
      generalize tidyL (padAll l) = T at *
      go_wp2
      go_loopw [8, 9] (fun s8 s9 wq => ∃ (k : Nat) (y : Ext w1) (p : List Rt), k ≤ m ∧ s9 = .int .i64 k ∧ wq = y.w ∧ y.w.ownsRow w1.heap.size 41 2 s8 p.length (p.flatMap Rt.cells) ∧ p.length = k ∧ (∀ r, r ∈ p → r.wf) ∧ pointG T m (m - k) k p = pointM m l) (fun _ s9 _ => m + 1 - (intOf s9).toNat)
      case atStart => exact ⟨0, ⟨_, Bel.refl⟩, [], Nat.zero_le _, rfl, rfl, World.ownsRow_nil _ _ _ _, rfl, by simp, by rw [Nat.sub_zero]; exact HM.out.symm⟩
      case round =>
        clear HM
        obtain ⟨k, y, p, hk, rfl, rfl, ho, hpk, hpw, hf⟩ := hrel
        have HO := Lib.hid ho
        have HPK := Lib.hid hpk
        have HPW := Lib.hid hpw
        have HF := Lib.hid hf
        have HBY := Lib.hid (HB1.out.trans y.bel)
        obtain ⟨As, cs, rfl, hcs⟩ := own_slice ho
        clear ho hpk hpw hf
        by_cases hlt : k < m
        · have hd : decide ((k : Int) < (m : Int)) = true := decide_eq_true (by omega)
          have wk : IntKind.i64.wrap ((k : Int) + 1) = ((k + 1 : Nat) : Int) := IntWalk.i64_in _ (by omega)
          go_wp2_with fail
          refine (HTD.out _ HBY.out).mono ?_
          rintro e w2 ⟨v2, rfl, hlt2, hB⟩
          have HB2 := Lib.hid hB
          have HLT := Lib.hid hlt2
          obtain ⟨A2, c2, rfl, _⟩ := hlt2.form
          have hdp := down_pad (k + 1) (m - (k + 1)) (l := TA) (by omega) (fun x hx => by have := HTN.out x hx; omega)
          rw [HTP.out] at hdp
          have HDN := Lib.hid (rdown_any _ TA (k + 1) (m - (k + 1)) m w2 (by omega) hm5 HLT.out (by have := HTL.out; omega) HTN.out HTI.out)
          have hde : (downL (k + 1) (m - (k + 1)) T).2 = 0 := down_all (by omega) HD0.out
          have hDI : ∀ x, x ∈ (downA (k + 1) (m - (k + 1)) TA).1 → x.inr := by
            refine (inr_padAll (fun x hx => by have := hdp.2.2 x hx; omega)).1 ?_
            rw [hdp.1, ← HTP.out]
            exact down_inr (k + 1) _ ((inr_padAll (fun x hx => by have := HTN.out x hx; omega)).2 HTI.out)
          have hDL : (downA (k + 1) (m - (k + 1)) TA).1.length ≤ 2000 := by
            rw [← pad_len, hdp.1, ← HTP.out]
            exact down_len (k + 1) _ (by decide) (by rw [pad_len]; have := HTL.out; omega)
          have HPK1 : Hid (pickE T m k p = chosenE (endsM p (padAll (downA (k + 1) (m - (k + 1)) TA).1))) := Lib.hid (by unfold pickE; rw [Nat.sub_sub, hdp.1])
          have hE0 := hdp.2.1.trans hde
          have HDX := Lib.hid hdp.2.2
          have HDI := Lib.hid hDI
          have HMF : Hid (pointG T m (m - k) k p = if (pickE T m k p).2 ≠ 0 then ([], 7) else pointG T m (m - (k + 1)) (k + 1) (p ++ [(pickE T m k p).1])) := Lib.hid (by
            rw [show m - k = (m - (k + 1)) + 1 by omega]; rfl)
          rw [HF.out, HPK1.out] at HMF
          clear hB hlt2 hdp hde hDI HF HPK1
          generalize downA (k + 1) (m - (k + 1)) TA = DM at *
          obtain ⟨D, de⟩ := DM
          dsimp only at hE0 hDL HDX HDI HMF
          subst hE0
          go_wp2_with fail
          refine HDN.out.mono ?_
          rintro e w3 ⟨v3, rfl, hld, hB⟩
          have HB3 := Lib.hid (HB2.out.trans hB)
          have HLD := Lib.hid hld
          obtain ⟨A3, c3, rfl, _⟩ := hld.form
          have HO3 := Lib.hid (ownsRow_bel HO.out HB3.out)
          have HB03 := Lib.hid (HBY.out.trans HB3.out)
          clear hB hld HDN HLT HB2
          go_upto_region 14 with (fail)
          generalize hW : World.alloc w3 _ = w4 at *
          have re : RowAt w4 w3.heap.size 87 (enC zeroE zeroE) := by rw [← hW]; exact RowAt.new w3 87 (enC zeroE zeroE)
          have hb4 : Bel w3 w4 := by rw [← hW]; exact Bel.refl.alloc _
          clear hW
          obtain ⟨pb, hpb⟩ : ∃ q, q = w3.heap.size := ⟨_, rfl⟩
          rw [← hpb] at re ⊢
          have HPB : Hid (w3.heap.size ≤ pb) := Lib.hid (by omega)
          clear hpb
          have HE4 := Lib.hid re
          have HB4 := Lib.hid hb4
          clear re hb4
          go_wp2
          go_loopw [13] (fun s13 wr => ∃ (j : Nat) (z : Ext w3) (lo hi : En), j ≤ D.length ∧ s13 = .int .i64 j ∧ wr = z.w ∧ RowAt z.w pb 87 (enC lo hi) ∧ lo.at_.wf ∧ hi.at_.wf ∧ endsF p (padAll (D.drop j)) lo hi = endsM p (padAll D)) (fun s13 _ => D.length + 1 - (intOf s13).toNat)
          case atStart => exact ⟨0, ⟨_, HB4.out⟩, zeroE, zeroE, Nat.zero_le _, rfl, rfl, HE4.out, zeroE_wf, zeroE_wf, rfl⟩
          case round =>
            clear HE4 HB4
            obtain ⟨j, z, lo, hi, hj, rfl, rfl, hre, hlw, hhw, hen⟩ := hrel
            have HRE := Lib.hid hre
            have HEN := Lib.hid hen
            have HBZ := Lib.hid (HB03.out.trans z.bel)
            clear hre hen
            by_cases hjl : j < D.length
            · have hjd : decide ((j : Int) < (D.length : Int)) = true := decide_eq_true (by omega)
              have hjL : (j : Int) < (D.length : Int) := by omega
              have wj : IntKind.i64.wrap ((j : Int) + 1) = ((j + 1 : Nat) : Int) := IntWalk.i64_in _ (by omega)
              obtain ⟨g, off, rfl, hg0, hcl⟩ := HLD.out.at_ (by omega)
              obtain ⟨rv, ⟨d0, d1, d2⟩, hrv⟩ := hcl j hjl
              have x0 := (z.bel.cells _ _ hg0).trans d0
              have x1 := (z.bel.cells _ _ hg0).trans d1
              have x2 := (z.bel.cells _ _ hg0).trans d2
              have hg := Nat.lt_of_lt_of_le hg0 z.bel.le
              have HXI := Lib.hid (hrv.keep z.bel.keeps z.bel.le)
              have HXN := Lib.hid (HDX.out _ (alAt_mem hjl))
              have HXR := Lib.hid (HDI.out _ (alAt_mem hjl))
              rw [al_drop_pad hjl] at HEN
              obtain ⟨Ax, cx, rfl, _⟩ := hrv.form
              clear hcl d0 d1 d2 hrv hg0
              generalize alAt D j = X at *
              obtain ⟨gx, ox, rfl, hgx, hcx⟩ := HXI.out.at_ (by have := HXN.out; omega)
              have yc := hcx k (by have := HXN.out; omega)
              rw [show X.a.getD k 0 = cA X k from rfl] at yc
              have hcip : ci (padL X) p.length = cA X k := by rw [ci_pad (by have := HXN.out; omega), HPK.out]
              have HCI := Lib.hid hcip
              have hki : (k : Int) < (X.a.length : Int) := by have := HXN.out; omega
              clear hcx hcip
              by_cases hz : cA X k = 0
              · have dz : (cA X k == 0) = true := by simp [hz]
                have HEN2 : Hid (endsF p (padAll (D.drop (j + 1))) lo hi = endsM p (padAll D)) := Lib.hid (by rw [← HEN.out, ends_skip (by rw [HCI.out]; exact hz)])
                clear hz HEN HCI
                generalize cA X k = ck at *
                go_wp2
                go_roundw
                case rel => exact ⟨j + 1, z, lo, hi, hjl, by go_num, rfl, HRE.out, hlw, hhw, HEN2.out⟩
                case measure => simp [intOf]; omega
              · have dz : (cA X k == 0) = false := by simp [hz]
                have HNZ : Hid (ci (padL X) p.length ≠ 0) := Lib.hid (by rw [HCI.out]; exact hz)
                have HBD := Lib.hid (rbounds_any pb lo hi X (.slice (some ⟨gx, ox, none⟩) X.a.length cx) (.slice As p.length cs) p z.w HRE.out hlw hhw HXI.out (by have := HXN.out; omega) (by have := HPK.out; have := HXN.out; omega) HXR.out (RdAt.of_own rcells_len rfl (ownsRow_bel HO3.out z.bel)) HPW.out)
                have hcc : cA X p.length = ci (padL X) p.length := (ci_pad (by have := HXN.out; omega) p.length).symm
                unfold BdPost at HBD
                rw [hcc] at HBD
                have HPS : Hid ((padL X).s = X.s) := Lib.hid rfl
                clear hz HCI hcc
                generalize cA X k = ck at *
                go_wp2_with fail
                refine HBD.out.mono ?_
                rintro e w5 (⟨hvn, er, her, rfl, hgr⟩ | ⟨r, hvs, rfl, hgr, hrw⟩)
                · have HEE := Lib.hid (ends_bad (t := padAll (D.drop (j + 1))) (lo := lo) (hi := hi) HNZ.out hvn)
                  have HM3 : Hid (pointM m l = ([], 7)) := Lib.hid (by
                    rw [HMF.out, ← HEN.out, HEE.out]; rfl)
                  have t1 : (er != 0) = true := by simp [her]
                  have HB5 := Lib.hid (HB03.out.trans (grs_bel2 z.bel HPB.out hgr))
                  clear hvn her hgr HEE HEN HMF HBD x0 x1 x2 hg yc hgx
                  go_wp2
                  go_ret2
                  exact pt_err HM3.out HB5.out
                · have HEE := Lib.hid (ends_put (t := padAll (D.drop (j + 1))) (lo := lo) (hi := hi) HNZ.out hvs)
                  have HWW := Lib.hid (bd_wf hlw hhw hvs (0 < ci (padL X) p.length) X.s)
                  have t1 : ((0 : Int) != 0) = false := rfl
                  rw [HPS.out] at HEE
                  have HRW := Lib.hid hrw
                  have HB5 := Lib.hid (grs_bel2 z.bel HPB.out hgr)
                  have HEN2 := Lib.hid (HEE.out.symm.trans HEN.out)
                  clear hvs hgr hrw HEE HEN HBD x0 x1 x2 hg yc hgx hlw hhw
                  generalize (if 0 < ci (padL X) p.length then lo else nearM lo r X.s (-1)) = lo2 at *
                  generalize (if 0 < ci (padL X) p.length then nearM hi r X.s 1 else hi) = hi2 at *
                  go_wp2
                  go_roundw
                  case rel => exact ⟨j + 1, ⟨_, HB5.out⟩, lo2, hi2, hjl, by go_num, rfl, HRW.out, HWW.out.1, HWW.out.2, HEN2.out⟩
                  case measure => simp [intOf]; omega
            · obtain rfl : j = D.length := by omega
              have hjd : decide ((D.length : Int) < (D.length : Int)) = false := by simp
              have HEM : Hid (endsM p (padAll D) = (lo, hi, 0)) := Lib.hid (by rw [← HEN.out, List.drop_length]; rfl)
              rw [HEM.out] at HMF
              have HCH := Lib.hid (rchosen_any pb lo hi z.w HRE.out hlw hhw)
              have HCW := Lib.hid (chosen_wf (lo, hi, 0) hlw hhw)
              unfold ChPost at HCH
              clear HEN HEM hlw hhw
              generalize chosenE (lo, hi, 0) = C at *
              obtain ⟨⟨cn, cd⟩, ce⟩ := C
              dsimp only at HCH HCW HMF
              go_wp2_with fail
              refine HCH.out.mono ?_
              rintro e w5 ⟨rfl, hB⟩
              have HB5 := Lib.hid (z.bel.trans hB)
              clear hB HCH HRE
              go_upto_region 22 with (fail)
              generalize hW : World.alloc w5 _ = w6 at *
              have r15 : RowAt w6 w5.heap.size 41 (Rt.cells ⟨cn, cd⟩) := by rw [← hW]; exact RowAt.new w5 41 (Rt.cells ⟨cn, cd⟩)
              have hb6 : Bel w5 w6 := by rw [← hW]; exact Bel.refl.alloc _
              clear hW
              obtain ⟨p15, hp15⟩ : ∃ q, q = w5.heap.size := ⟨_, rfl⟩
              rw [← hp15] at r15 ⊢
              clear hp15
              have HR15 := Lib.hid r15
              have HB6 := Lib.hid (HB5.out.trans hb6)
              have HB06 := Lib.hid (HB3.out.trans HB6.out)
              have HO6 := Lib.hid (ownsRow_bel HO3.out HB6.out)
              clear r15 hb6 HB5
              by_cases hce : ce = 0
              · subst hce
                have t0 : ((0 : Int) != 0) = false := rfl
                have HM3 : Hid (pointG T m (m - (k + 1)) (k + 1) (p ++ [⟨cn, cd⟩]) = pointM m l) := Lib.hid (by rw [HMF.out]; simp)
                clear HMF
                have q0 := HR15.out.cell (i := 0) rfl
                have q1 := HR15.out.cell (i := 1) rfl
                have lq := HR15.out.lt
                dsimp only at q0 q1
                have hpl : p.length ≤ 1000000 := by have := HPK.out; omega
                obtain ⟨A', c', W', hap, ho', hb', _⟩ := own_ratio (w0 := w1) (p := p) (r := ⟨cn, cd⟩) ((y.bel.trans HB06.out).alloc (.cells #[.int .i64 cn, .int .i64 cd] 41)) (ownsRow_bel HO6.out (Bel.refl.alloc _)) hpl (RowAt.new w6 41 (Rt.cells ⟨cn, cd⟩))
                have HO2 := Lib.hid ho'
                have HB2 := Lib.hid hb'
                clear ho' hb' HO HO3 HO6
                go_wp2_with (at_builtin; go_must (refine wpList_append_run rfl _ _ 26 rfl _ _ _ rfl rfl hap ?_))
                go_roundw
                case rel => exact ⟨k + 1, ⟨W', HB2.out⟩, p ++ [(⟨cn, cd⟩ : Rt)], hlt, by go_num, rfl, HO2.out, by rw [List.length_append, HPK.out]; rfl, fun r hr => by
                  rcases List.mem_append.1 hr with hr | hr
                  · exact HPW.out r hr
                  · obtain rfl : r = ⟨cn, cd⟩ := by simpa using hr
                    exact HCW.out, HM3.out⟩
                case measure => simp [intOf]; omega
              · have t0 : (ce != 0) = true := by simp [hce]
                have HM3 : Hid (pointM m l = ([], 7)) := Lib.hid (by rw [HMF.out, if_pos hce])
                clear hce HMF
                go_wp2
                go_ret2
                exact pt_err HM3.out (HBY.out.trans HB06.out)
        · have hd : decide ((k : Int) < (m : Int)) = false := decide_eq_false (by omega)
          have HM3 : Hid (pointM m l = (p, 0)) := Lib.hid (by rw [← HF.out, show m - k = 0 by omega]; rfl)
          have HRA := Lib.hid (RdAt.of_own rcells_len rfl HO.out)
          go_wp2
          go_ret2
          exact pt_ok HM3.out HRA.out HBY.out
    · have HM3 := Lib.hid (HE2.out rfl)
      go_wp2
      go_ret2
      exact pt_err HM3.out HB1.out
  · have h0 : (er != 0) = true := by simp [her]
    have HM3 := Lib.hid (HE1.out her)
    clear her HE1 HE2 HE3
    go_wp2
    go_ret2
    exact pt_err HM3.out HB1.out
end Go.Proofs.Ytalphoebmefgoaa
