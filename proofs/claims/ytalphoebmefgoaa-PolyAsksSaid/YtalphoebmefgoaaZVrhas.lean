/- poly, the reference: Has. -/
import Derived.Test.YtalphoebmefgoaaZVrtot
import Derived.Test.YtalphoebmefgoaaG40
import Derived.Test.YtalphoebmefgoaaG45
namespace Go.Proofs.Ytalphoebmefgoaa
open Go.RowKit
theorem zip_app : ∀ (a z : List Int) (p : List Rt), p.length ≤ a.length → (a ++ z).zip p = a.zip p
  | [], z, [], _ => by simp
  | [], _, _ :: _, h => by simp at h
  | x :: a, z, [], _ => by simp
  | x :: a, z, y :: p, h => by
    simp only [List.cons_append, List.zip_cons_cons]
    rw [zip_app a z p (by simpa using h)]
theorem zip_pad {x : AL} {p : List Rt} (h6 : x.a.length ≤ 6) (hp : p.length ≤ x.a.length) : totL (padL x).a p = totL x.a p := by
  unfold totL
  rw [pad_a h6, zip_app _ _ _ hp]
theorem pad_drop {l : List AL} {k : Nat} (h : k < l.length) : (padAll l).drop k = padL (alAt l k) :: (padAll l).drop (k + 1) := by
  unfold padAll
  rw [List.drop_eq_getElem_cons (by simpa using h), List.getElem_map, alAt_get h]
theorem bo_post {M : Bool × Int} {w W : World} {b : Bool} {er : Int} (h : M = (b, er)) (hb : Bel w W) : BoPost M w (.returned (.tuple #[.bool b, .int .i64 er])) W := by subst h; exact ⟨rfl, hb⟩
set_option maxRecDepth 100000 in
set_option maxHeartbeats 8000000 in
theorem rhas_any (n : Int) (v pv : Value) (l : List AL) (p : List Rt) (w : World) (h : LinesAt w w.heap.size v l) (hl : AlLens l) (hn : l.length ≤ 1000000) (hp : RatsAt w w.heap.size pv p) (hpl : p.length ≤ 1000000) (hw : ∀ r, r ∈ p → r.wf) :
    Calls Try.prog 33 #[.int .i64 n, v, pv] w (BoPost (hasM n l p) w) := by
  have H := Lib.hid h
  have HP := Lib.hid hp
  have HW := Lib.hid hw
  have HCK := Lib.hid (rcheck_any n v l w h hl hn)
  obtain ⟨A, c, rfl, hc⟩ := h.form
  obtain ⟨A2, c2, rfl, hc2⟩ := hp.form
  clear h hl hp hw
  go_enter Try.func33, Try.ntmps33
  go_wp2_with fail
  refine HCK.out.mono ?_
  rintro e w1 ⟨rfl, hB⟩
  have HB1 := Lib.hid hB
  clear hB HCK
  by_cases hck : checkM n l = 0
  · have HC := Lib.hid hck
    rw [hck]
    have h0 : ((0 : Int) != 0) = false := rfl
    have HM : Hid (hasM n l p = if (p.length : Int) ≠ n ∨ p.any badR = true then (false, 2) else hasF p (padAll l) true) := Lib.hid (by unfold hasM; rw [if_neg (by simp [hck])])
    clear hck
    by_cases hpn : (p.length : Int) = n
    · have hd1 : ((p.length : Int) != n) = false := by simp [hpn]
      have HPN := Lib.hid hpn
      clear hpn
      go_wp2
      clear hd1 h0
      go_loopw [9] (fun s9 wq => ∃ (k : Nat) (y : Ext w), k ≤ p.length ∧ s9 = .int .i64 k ∧ wq = y.w ∧ (p.drop k).any badR = p.any badR) (fun s9 _ => p.length - (intOf s9).toNat)
      case atStart => exact ⟨0, ⟨_, HB1.out⟩, Nat.zero_le _, rfl, rfl, rfl⟩
      case round =>
        obtain ⟨k, y, hk, rfl, rfl, ha⟩ := hrel
        have HA := Lib.hid ha
        clear ha
        by_cases hlt : k < p.length
        · have hd : decide ((k : Int) < (p.length : Int)) = true := by simp; omega
          have hL : (k : Int) < (p.length : Int) := by omega
          have wk : IntKind.i64.wrap ((k : Int) + 1) = (k : Int) + 1 := IntWalk.i64_in _ (by omega)
          obtain ⟨g, off, rfl, hg, hcl⟩ := (HP.out.keep y.bel.keeps y.bel.le).at_ (by omega)
          obtain ⟨x0, x1⟩ := rd_rat hcl hlt
          clear hcl
          have HRW := Lib.hid (HW.out _ (rtAt_mem hlt))
          have HD : Hid ((rtAt p k :: p.drop (k + 1)).any badR = p.any badR) := Lib.hid (by rw [← rats_drop hlt]; exact HA.out)
          clear HA
          generalize rtAt p k = R at *
          have HVA := Lib.hid (rval_any R y.w HRW.out)
          unfold Rt.V at HVA
          cases hv : rval R
          · have HM2 : Hid (hasM n l p = (false, 2)) := Lib.hid (by rw [HM.out, if_pos (.inr (by rw [← HD.out, List.any_cons]; unfold badR; rw [hv]; rfl))])
            rw [hv] at HVA
            clear hv
            go_wp2_with fail
            refine HVA.out.mono ?_
            rintro e w2 ⟨rfl, hB⟩
            have HB2 := Lib.hid (y.bel.trans hB)
            clear hB HVA
            go_wp2
            go_ret2
            exact bo_post HM2.out HB2.out
          · have HD2 : Hid ((p.drop (k + 1)).any badR = p.any badR) := Lib.hid (by rw [← HD.out, List.any_cons]; unfold badR; rw [hv]; rfl)
            rw [hv] at HVA
            clear hv
            go_wp2_with fail
            refine HVA.out.mono ?_
            rintro e w2 ⟨rfl, hB⟩
            have HB2 := Lib.hid (y.bel.trans hB)
            clear hB HVA
            go_wp2
            go_roundw
            case rel => exact ⟨k + 1, ⟨_, HB2.out⟩, by omega, by go_num, rfl, HD2.out⟩
            case measure => simp [intOf]; omega
        · obtain rfl : k = p.length := by omega
          have hd : decide ((p.length : Int) < (p.length : Int)) = false := by simp
          have HM2 : Hid (hasM n l p = hasF p (padAll l) true) := Lib.hid (by
            rw [HM.out, if_neg]
            rintro (q | q)
            · exact q HPN.out
            · have := HA.out; rw [List.drop_length] at this; rw [q] at this; cases this)
          clear HM HA
          go_wp2
          go_loopw [10, 11] (fun s10 s11 wq => ∃ (k : Nat) (y : Ext w) (all : Bool), k ≤ l.length ∧ s10 = .bool all ∧ s11 = .int .i64 k ∧ wq = y.w ∧ hasF p ((padAll l).drop k) all = hasM n l p) (fun _ s11 _ => l.length - (intOf s11).toNat)
          case atStart => exact ⟨0, y, true, Nat.zero_le _, rfl, rfl, rfl, HM2.out.symm⟩
          case round =>
            obtain ⟨k, y, all, hk, rfl, rfl, rfl, hf⟩ := hrel
            have HF := Lib.hid hf
            clear hf
            by_cases hlt2 : k < l.length
            · have hd2 : decide ((k : Int) < (l.length : Int)) = true := by simp; omega
              have hL2 : (k : Int) < (l.length : Int) := by omega
              have wk : IntKind.i64.wrap ((k : Int) + 1) = (k : Int) + 1 := IntWalk.i64_in _ (by omega)
              obtain ⟨b, off, rfl, hb, hA⟩ := (H.out.keep y.bel.keeps y.bel.le).at_ (by omega)
              obtain ⟨rv, ⟨c0, c1, c2⟩, hrv⟩ := hA k hlt2
              have hfx := (check_fits HC.out).2.2 _ (alAt_mem hlt2)
              have hxl := fits_len hfx
              have hn5 := (check_fits HC.out).1
              have HXI := Lib.hid (fits_inrA hfx)
              have HTO := Lib.hid (rtotal_any (alAt l k) rv _ p y.w HXI.out hrv (by have := HPN.out; omega) (by omega) (HP.out.keep y.bel.keeps y.bel.le) HW.out)
              have HF2 : Hid ((if (totL (alAt l k).a p).2 ≠ 0 then (false, (totL (alAt l k).a p).2) else hasF p ((padAll l).drop (k + 1)) (all && meetB (totL (alAt l k).a p).1 (alAt l k).b (alAt l k).s)) = hasM n l p) := Lib.hid (by
                rw [← HF.out, pad_drop hlt2, hasF, zip_pad (by omega) (by have := HPN.out; omega)]; rfl)
              have HTW := Lib.hid (tot_wf (alAt l k).a p)
              obtain ⟨Ar, kr, rfl, _⟩ := hrv.form
              clear hA hrv hfx hxl hn5 HF
              generalize totL (alAt l k).a p = T at *
              generalize alAt l k = X at *
              obtain ⟨Xa, Xb, Xs⟩ := X
              obtain ⟨⟨tn, td⟩, te⟩ := T
              unfold rresV Rt.V at HTO
              dsimp only at *
              go_wp2_with fail
              refine HTO.out.mono ?_
              rintro e w2 ⟨rfl, hB⟩
              have hbb : b < w2.heap.size := Nat.lt_of_lt_of_le hb hB.le
              have g0 := (hB.cells b _ hb).trans c0
              have g1 := (hB.cells b _ hb).trans c1
              have g2 := (hB.cells b _ hb).trans c2
              have HB2 := Lib.hid (y.bel.trans hB)
              clear hB HTO c0 c1 c2 hb
              by_cases hte : te = 0
              · subst hte
                have h0 : ((0 : Int) != 0) = false := rfl
                have HF3 : Hid (hasF p ((padAll l).drop (k + 1)) (all && meetB ⟨tn, td⟩ Xb Xs) = hasM n l p) := Lib.hid (by rw [← HF2.out]; simp)
                clear HF2
                go_upto_region 16 with (fail)
                generalize hWW : World.alloc w2 _ = w3 at *
                have r12 : RowAt w3 w2.heap.size 41 (Rt.cells ⟨tn, td⟩) := by rw [← hWW]; exact RowAt.new _ _ _
                have hb3 : Bel w2 w3 := by rw [← hWW]; exact Bel.refl.alloc _
                clear hWW
                have q0 := r12.cell (i := 0) rfl
                have q1 := r12.cell (i := 1) rfl
                have lq := r12.lt
                have l0 := (hb3.cells b _ hbb).trans g0
                have l1 := (hb3.cells b _ hbb).trans g1
                have l2 := (hb3.cells b _ hbb).trans g2
                have lb := Nat.lt_of_lt_of_le hbb hb3.le
                have HB3 := Lib.hid (HB2.out.trans hb3)
                dsimp only at q0 q1
                clear r12 hb3 g0 g1 g2 hbb
                generalize w2.heap.size = p12 at *
                have HCM := Lib.hid (fun W => rrcmp_any ⟨tn, td⟩ ⟨Xb, 1⟩ W HTW.out (one_wf HXI.out.b))
                unfold intV Rt.V at HCM
                have HMB : Hid (meetB ⟨tn, td⟩ Xb Xs = (decide ((rcmp ⟨tn, td⟩ ⟨Xb, 1⟩).1 < 0) || decide ((rcmp ⟨tn, td⟩ ⟨Xb, 1⟩).1 = 0) && !Xs)) := Lib.hid rfl
                dsimp only at HCM
                generalize rcmp ⟨tn, td⟩ ⟨Xb, 1⟩ = K at *
                obtain ⟨ck, ce⟩ := K
                dsimp only at *
                have HEND : Hid (∀ all' : Bool, all' = (all && meetB ⟨tn, td⟩ Xb Xs) → hasF p ((padAll l).drop (k + 1)) all' = hasM n l p) := Lib.hid (fun a' h => by rw [h]; exact HF3.out)
                rw [HMB.out] at HEND
                clear HMB HF3
                go_upto_region 18 with (fail)
                (refine wp_region_ext (wb := w3) (by (repeat (first | exact Ext.bel _ | exact Bel.refl | refine Bel.alloc ?_ _ | refine Bel.drew ?_ | refine Bel.drewN ?_ _))) (by kernel_rfl) (by kernel_rfl) ?_; (repeat (any_goals (first | go_big_quiet_step ((go_at_call 22; with_reducible exact ext_call (HCM.out _))) | quiet_step ((go_at_call 22; with_reducible exact ext_call (HCM.out _))) | (refine wpQuiet_step (fun K hK => ?_); go_simp; split <;> (refine hK _ ?_; clear hK K))))); all_goals (refine wpQuiet_nil ?_; intro _ hw'; obtain ⟨y, hw''⟩ := hw'; subst hw''))
                have l0' := (y.bel.cells b _ lb).trans l0
                have HBZ := Lib.hid (HB3.out.trans y.bel)
                have l2' := (y.bel.cells b _ lb).trans l2
                have lb' := Nat.lt_of_lt_of_le lb y.bel.le
                clear q0 q1 lq l0 l1 l2 lb HCM
                generalize y.w = wz at *
                cases all
                · go_wp2
                  go_roundw
                  case rel => exact ⟨k + 1, ⟨_, HBZ.out⟩, _, by omega, rfl, by go_num, rfl, HEND.out _ rfl⟩
                  case measure => simp [intOf]; omega
                · by_cases hc1 : ck < 0
                  · have e1 : decide (ck < 0) = true := decide_eq_true hc1
                    rw [e1] at HEND
                    clear hc1
                    go_wp2
                    go_roundw
                    case rel => exact ⟨k + 1, ⟨_, HBZ.out⟩, _, by omega, rfl, by go_num, rfl, HEND.out _ rfl⟩
                    case measure => simp [intOf]; omega
                  · have e1 : decide (ck < 0) = false := decide_eq_false hc1
                    rw [e1] at HEND
                    by_cases hc2 : ck = 0
                    · have e2 : (ck == 0) = true := by simp [hc2]
                      have e3 : decide (ck = 0) = true := decide_eq_true hc2
                      rw [e3] at HEND
                      clear hc1 hc2 e3
                      go_wp2
                      go_roundw
                      case rel => exact ⟨k + 1, ⟨_, HBZ.out⟩, _, by omega, rfl, by go_num, rfl, HEND.out _ (by cases Xs <;> rfl)⟩
                      case measure => simp [intOf]; omega
                    · have e2 : (ck == 0) = false := by simp [hc2]
                      have e3 : decide (ck = 0) = false := decide_eq_false hc2
                      rw [e3] at HEND
                      clear hc1 hc2 e3
                      go_wp2
                      go_roundw
                      case rel => exact ⟨k + 1, ⟨_, HBZ.out⟩, _, by omega, rfl, by go_num, rfl, HEND.out _ rfl⟩
                      case measure => simp [intOf]; omega
              · have h0 : (te != 0) = true := by simp [hte]
                have HM3 : Hid (hasM n l p = (false, te)) := Lib.hid (by rw [← HF2.out, if_pos hte])
                clear hte HF2
                go_wp2
                go_ret2
                exact bo_post HM3.out (HB2.out.alloc _)
            · obtain rfl : k = l.length := by omega
              have hd2 : decide ((l.length : Int) < (l.length : Int)) = false := by simp
              have HM3 : Hid (hasM n l p = (all, 0)) := Lib.hid (by rw [← HF.out, List.drop_eq_nil_of_le (by rw [pad_len]; exact Nat.le_refl _)]; rfl)
              clear HF
              go_wp2
              go_ret2
              exact bo_post HM3.out y.bel
    · have hd1 : ((p.length : Int) != n) = true := by simp [hpn]
      have HM2 : Hid (hasM n l p = (false, 2)) := Lib.hid (by rw [HM.out, if_pos (.inl hpn)])
      clear hpn
      go_wp2
      go_ret2
      exact bo_post HM2.out HB1.out
  · have h0 : (checkM n l != 0) = true := by simp [hck]
    have HM : Hid (hasM n l p = (false, checkM n l)) := Lib.hid (by unfold hasM; rw [if_pos hck])
    clear hck
    go_wp2
    go_ret2
    exact bo_post HM.out HB1.out
end Go.Proofs.Ytalphoebmefgoaa
