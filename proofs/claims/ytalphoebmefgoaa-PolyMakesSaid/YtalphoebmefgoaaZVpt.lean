/- poly.Point. -/
import Derived.Test.YtalphoebmefgoaaG41
import Derived.Test.YtalphoebmefgoaaG38
import Derived.Deep.CutBlock
namespace Go.Proofs.Ytalphoebmefgoaa
open Go.RowKit
def PtPost (M : List Rt × Int) (w : World) (e : Ending) (w' : World) : Prop := ∃ v', e = .returned (.tuple #[v', .int .i64 M.2]) ∧ RatsAt w' w'.heap.size v' M.1 ∧ Bel w w'
theorem pt_err {M : List Rt × Int} {w W : World} {er : Int} (h : M = ([], er)) (hb : Bel w W) : PtPost M w (.returned (.tuple #[.slice none 0 0, .int .i64 er])) W := by subst h; exact ⟨_, rfl, RdAt.nil, hb⟩
theorem pt_ok {M : List Rt × Int} {w W : World} {p : List Rt} {v : Value} (h : M = (p, 0)) (hr : RatsAt W W.heap.size v p) (hb : Bel w W) : PtPost M w (.returned (.tuple #[v, .int .i64 0])) W := by subst h; exact ⟨_, rfl, hr, hb⟩
theorem zo_ok : (⟨0, 1⟩ : Rt).wf := ⟨i64_lit' (by decide) (by decide), i64_lit' (by decide) (by decide)⟩
theorem chosen_wf (M : En × En × Int) (h1 : M.1.at_.wf) (h2 : M.2.1.at_.wf) : (chosenE M).1.wf := by
  unfold chosenE
  repeat' split
  all_goals first | exact h1 | exact h2 | exact rmid_wf _ _ | exact radd_wf _ _ | exact rsub_wf _ _ | exact zo_ok
theorem one_ok : (⟨1, 1⟩ : Rt).wf := ⟨i64_lit' (by decide) (by decide), i64_lit' (by decide) (by decide)⟩
set_option maxRecDepth 100000 in
set_option maxHeartbeats 8000000 in
theorem point_any (n : Int) (v : Value) (l : List AL) (w : World) (h : LinesAt w w.heap.size v l) (hl : AlLens l) (hn : l.length ≤ 1000000) :
    Calls Try.prog 26 #[.int .i64 n, v] w (PtPost (pointM n l) w) := by
  have H := Lib.hid h
  have HCK := Lib.hid (check_any n v l w h hl hn)
  obtain ⟨A, c, rfl, hc⟩ := h.form
  clear h hl
  go_enter Try.func26, Try.ntmps26
  go_wp2_with fail
  refine HCK.out.mono ?_
  rintro e w1 ⟨rfl, hB⟩
  have HB1 := Lib.hid hB
  clear hB HCK
  by_cases hck : checkM n l = 0
  · have HC := Lib.hid hck
    rw [hck]
    have h0 : ((0 : Int) != 0) = false := rfl
    obtain ⟨hn5, hl1, _⟩ := check_fits hck
    have HM : Hid (pointM n l = pointT n.toNat (tidyL (padAll l))) := Lib.hid (by unfold pointM; rw [if_neg (by simp [hck])])
    obtain ⟨m, rfl⟩ : ∃ m : Nat, n = (m : Int) := ⟨n.toNat, by omega⟩
    have hm5 : m ≤ 5 := by omega
    rw [Int.toNat_natCast] at HM
    clear hck hn5
    have wm1 : IntKind.i64.wrap ((m : Int) + 1) = (m : Int) + 1 := IntWalk.i64_in _ (by omega)
    have hmk := make_lists (m + 1) (by omega) w1
    rw [show ((m + 1 : Nat) : Int) = (m : Int) + 1 by push_cast; rfl] at hmk
    obtain ⟨XS, hXS⟩ : ∃ XS, (List.range (m + 1)).map (fun _ => Value.slice none 0 0) = XS := ⟨_, rfl⟩
    rw [hXS] at hmk
    go_upto_region 5 with (fail)
    clear hmk
    generalize hW : World.alloc w1 _ = w2 at *
    have hrow : RowAt w2 w1.heap.size 61 ((List.range (m + 1)).map (fun _ => Value.slice none 0 0)) := by rw [hXS, ← hW]; exact RowAt.new _ _ _
    have hb2 : Bel w1 w2 := by rw [← hW]; exact Bel.refl.alloc _
    clear hW
    obtain ⟨pl, hpl⟩ : ∃ p, p = w1.heap.size := ⟨_, rfl⟩
    rw [← hpl] at hrow ⊢
    have HN : Hid (w.heap.size ≤ pl) := Lib.hid (by have := HB1.out.le; omega)
    clear hpl
    have HB2 := Lib.hid (HB1.out.trans hb2)
    have HP2 : Hid (PtAt w2 pl m (m + 1) (tidyL (padAll l)) (fun _ => Value.slice none 0 0)) := Lib.hid ⟨hrow, fun i h1 h2 => absurd h1 (by omega), fun i => ⟨_, _, _, rfl⟩⟩
    clear hrow hb2 HB1 hXS
    have HOF := Lib.hid (of_any _ l w2 (H.out.bel HB2.out) (by omega) (check_lens HC.out))
    go_wp2_with fail
    refine HOF.out.mono ?_
    rintro e w3 ⟨q3, rfl, hq3, hB, hr⟩
    have HB3 := Lib.hid (HB2.out.trans hB)
    have HP3 := Lib.hid (HP2.out.bel hB)
    have HL3 := Lib.hid (OfPost.lns hq3 (by omega) hr)
    have hpa := pad_len l
    have HPI := Lib.hid (pad_inr HC.out)
    rw [← hpa] at hl1 HL3 ⊢
    clear hq3 hB hr HOF hpa HB2 HP2
    generalize padAll l = la at *
    have HTD := Lib.hid (tidy_any _ la w3 HL3.out (by omega) (fun z hz => (HPI.out z hz).wf))
    unfold TdyPost at HTD
    have HTL := Lib.hid (tidy_len la)
    have HTI := Lib.hid (tidy_inr HPI.out)
    generalize tidyL la = T at *
    go_wp2_with fail
    refine HTD.out.mono ?_
    rintro e w4 ⟨v4, rfl, hln, hB⟩
    have HB4 := Lib.hid (HB3.out.trans hB)
    have HP4 := Lib.hid (HP3.out.bel hB)
    have HLN := Lib.hid hln
    obtain ⟨A4, c4, rfl, _⟩ := hln.form
    clear hB hln HTD HB3 HP3 HL3
    have cm := HP4.out.get (Nat.le_refl m)
    have fm := HP4.out.row.frozen m
    have lm := HP4.out.row.lt
    have hm1 : (m : Int) < (m : Int) + 1 := by omega
    have HP5 := Lib.hid (HP4.out.put (j := m) (Nat.le_refl m) (.inl rfl) (by rw [Nat.sub_self]; exact HLN.out))
    have HB5 := Lib.hid (HB4.out.set (p := ⟨pl, m, none⟩) HN.out (.slice A4 T.length c4))
    clear HP4 HB4 HLN
    go_upto_region 6 with (fail)
    generalize World.setCell w4 _ _ = w5 at *
    clear cm fm lm hm1 wm1
    have wm2 : IntKind.i64.wrap ((m : Int) - 1) = (m : Int) - 1 := IntWalk.i64_in _ (by omega)
    go_wp2
    clear wm2
    go_loopw [8] (fun s8 wq => ∃ (j : Nat) (y : Ext w) (f : Nat → Value) (z : Int), j ≤ m ∧ z = (j : Int) - 1 ∧ s8 = .int .i64 z ∧ wq = y.w ∧ PtAt y.w pl m j T f ∧ (downL j (m - j) T).2 = 0) (fun s8 _ => (intOf s8 + 2).toNat)
    case atStart => exact ⟨m, ⟨_, HB5.out⟩, _, _, Nat.le_refl _, rfl, rfl, rfl, HP5.out, by rw [Nat.sub_self]; rfl⟩
    case round =>
      clear HP5 HB5
      obtain ⟨j, y, f, z, hj, hz, rfl, rfl, hp, hd0⟩ := hrel
      have HP := Lib.hid hp
      have HB := Lib.hid y.bel
      have HZ := Lib.hid hz
      clear hp hz
      cases j with
      | zero =>
        have dz : decide (z ≥ 0) = false := decide_eq_false (by have := HZ.out; omega)
        have dz2 : decide (0 ≤ z) = false := decide_eq_false (by have := HZ.out; omega)
        obtain rfl : z = -1 := by have := HZ.out; simpa using this
        clear HZ
        have c0 := HP.out.get (Nat.zero_le m)
        have HL0 := Lib.hid (HP.out.at_ 0 (Nat.le_refl _) (Nat.zero_le m))
        obtain ⟨A0, k0, e0, _⟩ := HL0.out.form
        rw [e0] at c0
        have lm := HP.out.row.lt
        have b0 : (0 : Int) < (m : Int) + 1 := by omega
        rw [Nat.sub_zero] at hd0 c0 HL0
        by_cases hlen : 0 < (downL 0 m T).1.length
        · have hD : decide (((downL 0 m T).1.length : Int) > 0) = true := decide_eq_true (by omega)
          have hD2 : decide (0 < ((downL 0 m T).1.length : Int)) = true := decide_eq_true (by omega)
          have hD3 : decide (0 < (downL 0 m T).1.length) = true := decide_eq_true hlen
          have HM2 : Hid (pointM m l = ([], 4)) := Lib.hid (by rw [HM.out]; unfold pointT; rw [if_neg (by simp [hd0]), if_pos hlen])
          generalize (downL 0 m T).1.length = L0 at *
          go_wp2
          go_ret2
          exact pt_err HM2.out HB.out
        · have hD : decide (((downL 0 m T).1.length : Int) > 0) = false := decide_eq_false (by omega)
          have hD2 : decide (0 < ((downL 0 m T).1.length : Int)) = false := decide_eq_false (by omega)
          have hD3 : decide (0 < (downL 0 m T).1.length) = false := decide_eq_false hlen
          have HM2 : Hid (pointM m l = pointG T m m 0 []) := Lib.hid (by rw [HM.out]; unfold pointT; rw [if_neg (by simp [hd0]), if_neg hlen])
          generalize (downL 0 m T).1.length = L0 at *
          go_upto_region 16 with (fail)
          generalize hW : World.alloc y.w _ = w8
          have r10 : RowAt w8 y.w.heap.size 41 (Rt.cells ⟨1, 1⟩) := by rw [← hW]; exact RowAt.new y.w 41 (Rt.cells ⟨1, 1⟩)
          have hb8 : Bel y.w w8 := by rw [← hW]; exact Bel.refl.alloc _
          clear hW
          obtain ⟨p10, hp10⟩ : ∃ p, p = y.w.heap.size := ⟨_, rfl⟩
          rw [← hp10] at r10 ⊢
          have HN10 : Hid (w.heap.size ≤ p10) := Lib.hid (by have := HB.out.le; omega)
          have HR8 := Lib.hid r10
          have HB8 := Lib.hid (HB.out.trans hb8)
          have HP8 := Lib.hid (HP.out.bel hb8)
          clear hp10 r10 hb8 HP HB c0 lm b0
          obtain ⟨xs0, hx0, hmk⟩ := make_rats 0 m (Nat.zero_le _) (by omega) w8
          rw [show ((0 : Nat) : Int) = 0 from rfl] at hmk
          go_upto_region 17 with (fail)
          clear hmk
          generalize hW : World.alloc w8 _ = w9
          have r11 : RowAt w9 w8.heap.size 41 xs0 := by rw [← hW]; exact RowAt.new w8 41 xs0
          have hb9 : Bel w8 w9 := by rw [← hW]; exact Bel.refl.alloc _
          clear hW
          obtain ⟨p11, hp11⟩ : ∃ p, p = w8.heap.size := ⟨_, rfl⟩
          rw [← hp11] at r11 ⊢
          have HO9 := Lib.hid (own_none (B := w8.heap.size) r11 hx0 (by omega) (by omega))
          have HR9 := Lib.hid (HR8.out.bel hb9)
          have HB9 := Lib.hid (HB8.out.trans hb9)
          have HB89 := Lib.hid hb9
          have HP9 := Lib.hid (HP8.out.bel hb9)
          clear hp11 r11 hb9 HP9 HB9 HR9 hx0
          go_wp2
          go_loopw [11, 63] (fun s11 s63 wq => ∃ (k : Nat) (y2 : Ext w8) (p : List Rt), k ≤ m ∧ s63 = .int .i64 k ∧ wq = y2.w ∧ y2.w.ownsRow w8.heap.size 41 2 s11 p.length (p.flatMap Rt.cells) ∧ p.length = k ∧ (∀ r, r ∈ p → r.wf) ∧ pointG T m (m - k) k p = pointM m l) (fun _ s63 _ => m + 1 - (intOf s63).toNat)
          case atStart => exact ⟨0, ⟨_, HB89.out⟩, [], Nat.zero_le _, rfl, rfl, HO9.out, rfl, by simp, by rw [Nat.sub_zero]; exact HM2.out.symm⟩
          case round =>
            clear HO9 HB89
            obtain ⟨k, y2, p, hk, rfl, rfl, ho, hpk, hpw, hf⟩ := hrel
            have HO := Lib.hid ho
            have HPK := Lib.hid hpk
            have HPW := Lib.hid hpw
            have HF := Lib.hid hf
            clear ho hpk hpw hf
            by_cases hlt : k < m
            · have hd : decide ((k : Int) < (m : Int)) = true := decide_eq_true (by omega)
              have wk : IntKind.i64.wrap ((k : Int) + 1) = (k : Int) + 1 := IntWalk.i64_in _ (by omega)
              have b1 : (k : Int) + 1 < (m : Int) + 1 := by omega
              have b3 : ¬ (k : Int) + 1 < 0 := by omega
              have b4 : ((k : Int) + 1).toNat = k + 1 := by omega
              have HPY := Lib.hid (HP8.out.bel y2.bel)
              have HRY := Lib.hid (HR8.out.bel y2.bel)
              have HBY := Lib.hid (HB8.out.trans y2.bel)
              have HLK := Lib.hid (HPY.out.at_ (k + 1) (Nat.zero_le _) (by omega))
              have ck := HPY.out.get (show k + 1 ≤ m by omega)
              obtain ⟨Ak, nk, kk, hfk⟩ := HPY.out.sl (k + 1)
              rw [hfk] at ck HLK
              have lm := HPY.out.row.lt
              have HPR := Lib.hid (RdAt.of_own rcells_len rfl HO.out)
              have HEN := Lib.hid (fun W (hW : Bel y2.w W) => ends_any _ _ _ p W (HLK.out.bel hW) (Nat.le_trans (down_len (k + 1) (m - (k + 1)) (b := 2000) (by decide) (by have := HTL.out; omega)) (by decide)) (down_inr (k + 1) _ HTI.out) (RatsAt.bel HPR.out hW) (by have := HPK.out; omega) HPW.out)
              go_upto_region 20 with (fail)
              go_cut [13, 14, 15, 63] from 63 to 141 (fun s13 s14 s15 s63 wx => ∃ (z : Ext y2.w) (p13 p14 : Nat), wx = z.w ∧ s63 = .int .i64 k ∧ s13 = .pointer (some ⟨p13, 0, none⟩) ∧ s14 = .pointer (some ⟨p14, 0, none⟩) ∧ s15 = .int .i64 (endsM p (downL (k + 1) (m - (k + 1)) T).1).2.2 ∧ y2.w.heap.size ≤ p13 ∧ y2.w.heap.size ≤ p14 ∧ p13 ≠ p14 ∧ RowAt z.w p13 76 (endsM p (downL (k + 1) (m - (k + 1)) T).1).1.cells ∧ RowAt z.w p14 76 (endsM p (downL (k + 1) (m - (k + 1)) T).1).2.1.cells)
              case first =>
                go_wp2_with fail
                refine (HEN.out _ Bel.refl).mono ?_
                rintro e w10 ⟨rfl, hB⟩
                have HB10 := Lib.hid hB
                clear hB HEN
                generalize endsM p (downL (k + 1) (m - (k + 1)) T).1 = M at *
                obtain ⟨⟨n1, d1, i1, o1⟩, ⟨n2, d2, i2, o2⟩, er⟩ := M
                unfold En.V
                dsimp only
                go_wp2
                go_meet
                case rel => exact ⟨⟨_, (HB10.out.alloc _).alloc _⟩, w10.heap.size, w10.heap.size + 1, rfl, rfl, rfl, rfl, rfl, HB10.out.le, by have := HB10.out.le; omega, by omega, (RowAt.new w10 76 (En.cells ⟨n1, d1, i1, o1⟩)).alloc _, by
                  rw [← size_alV w10 (.cells #[.int .i64 n1, .int .i64 d1, .bool i1, .bool o1] 76)]; exact RowAt.new _ 76 (En.cells ⟨n2, d2, i2, o2⟩)⟩
              case rest =>
                obtain ⟨z, p13, p14, rfl, rfl, rfl, rfl, rfl, q13, q14, q34, h13, h14⟩ := hcut
                have HWF := Lib.hid (ends_wf p (downL (k + 1) (m - (k + 1)) T).1 zeroE zeroE zeroE_wf zeroE_wf)
                have HPK1 : Hid (pickE T m k p = chosenE (endsM p (downL (k + 1) (m - (k + 1)) T).1)) := Lib.hid (by unfold pickE; rw [Nat.sub_sub])
                have HMF : Hid (pointG T m (m - k) k p = if (pickE T m k p).2 ≠ 0 then ([], 7) else pointG T m (m - (k + 1)) (k + 1) (p ++ [(pickE T m k p).1])) := Lib.hid (by
                  rw [show m - k = (m - (k + 1)) + 1 by omega]; rfl)
                rw [HF.out, HPK1.out] at HMF
                change Hid ((endsM p (downL (k + 1) (m - (k + 1)) T).1).1.at_.wf ∧ (endsM p (downL (k + 1) (m - (k + 1)) T).1).2.1.at_.wf) at HWF
                clear HEN HF HPK1 ck lm b1 b3 b4
                generalize endsM p (downL (k + 1) (m - (k + 1)) T).1 = M at *
                go_upto_block 4 with (fail)
                generalize hW : World.alloc z.w _ = wa
                have r16 : RowAt wa z.w.heap.size 41 (Rt.cells ⟨0, 1⟩) := by rw [← hW]; exact RowAt.new z.w 41 (Rt.cells ⟨0, 1⟩)
                have hba : Bel z.w wa := by rw [← hW]; exact Bel.refl.alloc _
                clear hW
                obtain ⟨p16, hp16⟩ : ∃ p, p = z.w.heap.size := ⟨_, rfl⟩
                rw [← hp16] at r16 ⊢
                have HN16 : Hid (z.w.heap.size ≤ p16 ∧ p13 ≠ p16 ∧ p14 ≠ p16) := Lib.hid (by have := h13.lt; have := h14.lt; omega)
                have HRA := Lib.hid r16
                have HBA := Lib.hid hba
                have H13 := Lib.hid (h13.bel hba)
                have H14 := Lib.hid (h14.bel hba)
                have HRO := Lib.hid ((HRY.out.bel z.bel).bel hba)
                clear hp16 r16 hba h13 h14
                go_cut [15, 63] from 63 to 141 (fun s15 s63 wx => ∃ (z2 : Ext z.w), wx = z2.w ∧ s63 = .int .i64 k ∧ s15 = .int .i64 (chosenE M).2 ∧ RowAt z2.w p16 41 (chosenE M).1.cells)
                case first =>
                  obtain ⟨⟨n1, d1, i1, o1⟩, ⟨n2, d2, i2, o2⟩, er⟩ := M
                  dsimp only [En.at_] at HWF
                  have a0 := H13.out.cell (i := 0) rfl
                  have a1 := H13.out.cell (i := 1) rfl
                  have a2 := H13.out.cell (i := 2) rfl
                  have a3 := H13.out.cell (i := 3) rfl
                  have b0 := H14.out.cell (i := 0) rfl
                  have b1 := H14.out.cell (i := 1) rfl
                  have b2 := H14.out.cell (i := 2) rfl
                  have b3 := H14.out.cell (i := 3) rfl
                  have e0 := HRO.out.cell (i := 0) rfl
                  have e1 := HRO.out.cell (i := 1) rfl
                  have q0 := HRA.out.cell (i := 0) rfl
                  have q1 := HRA.out.cell (i := 1) rfl
                  have fq := fun q => HRA.out.frozen q
                  have lq := HRA.out.lt
                  have la := H13.out.lt
                  have lb := H14.out.lt
                  have le := HRO.out.lt
                  dsimp only at a0 a1 a2 a3 b0 b1 b2 b3 e0 e1 q0 q1
                  by_cases her : er = 0
                  · subst her
                    have t0 : ((0 : Int) != 0) = false := rfl
                    cases i1
                    · cases i2
                      · go_wp2
                        go_meet
                        case rel => exact ⟨⟨_, HBA.out⟩, rfl, rfl, rfl, HRA.out⟩
                      · cases o2
                        · go_wp2
                          go_meet
                          case rel => exact ⟨⟨_, (HBA.out.set (p := ⟨p16, 0, none⟩) HN16.out.1 (.int .i64 n2)).set (p := ⟨p16, 1, none⟩) HN16.out.1 (.int .i64 d2)⟩, rfl, rfl, rfl, (HRA.out.set 0 (.int .i64 n2)).set 1 (.int .i64 d2)⟩
                        · have HCL := Lib.hid (fun W => prsub_any ⟨n2, d2⟩ ⟨1, 1⟩ W HWF.out.2 one_ok)
                          unfold rresV Rt.V at HCL
                          generalize hZ : rsub ⟨n2, d2⟩ ⟨1, 1⟩ = Z at HCL
                          have HZ := Lib.hid hZ
                          clear hZ
                          obtain ⟨⟨yn, yd⟩, ye⟩ := Z
                          simp only at HCL
                          go_wp2_with fail
                          refine (HCL.out _).mono ?_
                          rintro e w11 ⟨rfl, hB⟩
                          have HB11 := Lib.hid (HBA.out.trans hB)
                          have HR11 := Lib.hid (HRA.out.bel hB)
                          clear hB HCL a0 a1 a2 a3 b0 b1 b2 b3 e0 e1 q0 q1 fq lq la lb le
                          have q0 := HR11.out.cell (i := 0) rfl
                          have q1 := HR11.out.cell (i := 1) rfl
                          have fq := fun q => HR11.out.frozen q
                          have lq := HR11.out.lt
                          dsimp only at q0 q1
                          go_wp2
                          go_meet
                          case rel => exact ⟨⟨_, (HB11.out.set (p := ⟨p16, 0, none⟩) HN16.out.1 (.int .i64 yn)).set (p := ⟨p16, 1, none⟩) HN16.out.1 (.int .i64 yd)⟩, rfl, rfl, by show Value.int IntKind.i64 ye = Value.int IntKind.i64 (rsub ⟨n2, d2⟩ ⟨1, 1⟩).2; rw [HZ.out], by
                            show RowAt _ p16 41 (rsub ⟨n2, d2⟩ ⟨1, 1⟩).1.cells
                            rw [HZ.out]; exact (HR11.out.set 0 (.int .i64 yn)).set 1 (.int .i64 yd)⟩
                    · cases o1
                      · go_wp2
                        go_meet
                        case rel => exact ⟨⟨_, (HBA.out.set (p := ⟨p16, 0, none⟩) HN16.out.1 (.int .i64 n1)).set (p := ⟨p16, 1, none⟩) HN16.out.1 (.int .i64 d1)⟩, rfl, rfl, rfl, (HRA.out.set 0 (.int .i64 n1)).set 1 (.int .i64 d1)⟩
                      · cases i2
                        · have HCL := Lib.hid (fun W => pradd_any ⟨n1, d1⟩ ⟨1, 1⟩ W HWF.out.1 one_ok)
                          unfold rresV Rt.V at HCL
                          generalize hZ : radd ⟨n1, d1⟩ ⟨1, 1⟩ = Z at HCL
                          have HZ := Lib.hid hZ
                          clear hZ
                          obtain ⟨⟨yn, yd⟩, ye⟩ := Z
                          simp only at HCL
                          go_wp2_with fail
                          refine (HCL.out _).mono ?_
                          rintro e w11 ⟨rfl, hB⟩
                          have HB11 := Lib.hid (HBA.out.trans hB)
                          have HR11 := Lib.hid (HRA.out.bel hB)
                          clear hB HCL a0 a1 a2 a3 b0 b1 b2 b3 e0 e1 q0 q1 fq lq la lb le
                          have q0 := HR11.out.cell (i := 0) rfl
                          have q1 := HR11.out.cell (i := 1) rfl
                          have fq := fun q => HR11.out.frozen q
                          have lq := HR11.out.lt
                          dsimp only at q0 q1
                          go_wp2
                          go_meet
                          case rel => exact ⟨⟨_, (HB11.out.set (p := ⟨p16, 0, none⟩) HN16.out.1 (.int .i64 yn)).set (p := ⟨p16, 1, none⟩) HN16.out.1 (.int .i64 yd)⟩, rfl, rfl, by show Value.int IntKind.i64 ye = Value.int IntKind.i64 (radd ⟨n1, d1⟩ ⟨1, 1⟩).2; rw [HZ.out], by
                            show RowAt _ p16 41 (radd ⟨n1, d1⟩ ⟨1, 1⟩).1.cells
                            rw [HZ.out]; exact (HR11.out.set 0 (.int .i64 yn)).set 1 (.int .i64 yd)⟩
                        · have HCL := Lib.hid (fun W => prmid_any ⟨n1, d1⟩ ⟨n2, d2⟩ W HWF.out.1 HWF.out.2)
                          unfold rresV Rt.V at HCL
                          generalize hZ : rmid ⟨n1, d1⟩ ⟨n2, d2⟩ = Z at HCL
                          have HZ := Lib.hid hZ
                          clear hZ
                          obtain ⟨⟨yn, yd⟩, ye⟩ := Z
                          simp only at HCL
                          go_wp2_with fail
                          refine (HCL.out _).mono ?_
                          rintro e w11 ⟨rfl, hB⟩
                          have HB11 := Lib.hid (HBA.out.trans hB)
                          have HR11 := Lib.hid (HRA.out.bel hB)
                          clear hB HCL a0 a1 a2 a3 b0 b1 b2 b3 e0 e1 q0 q1 fq lq la lb le
                          have q0 := HR11.out.cell (i := 0) rfl
                          have q1 := HR11.out.cell (i := 1) rfl
                          have fq := fun q => HR11.out.frozen q
                          have lq := HR11.out.lt
                          dsimp only at q0 q1
                          go_wp2
                          go_meet
                          case rel => exact ⟨⟨_, (HB11.out.set (p := ⟨p16, 0, none⟩) HN16.out.1 (.int .i64 yn)).set (p := ⟨p16, 1, none⟩) HN16.out.1 (.int .i64 yd)⟩, rfl, rfl, by show Value.int IntKind.i64 ye = Value.int IntKind.i64 (rmid ⟨n1, d1⟩ ⟨n2, d2⟩).2; rw [HZ.out], by
                            show RowAt _ p16 41 (rmid ⟨n1, d1⟩ ⟨n2, d2⟩).1.cells
                            rw [HZ.out]; exact (HR11.out.set 0 (.int .i64 yn)).set 1 (.int .i64 yd)⟩
                  · have t0 : (er != 0) = true := by simp [her]
                    have HE : Hid (chosenE (⟨n1, d1, i1, o1⟩, ⟨n2, d2, i2, o2⟩, er) = (⟨0, 1⟩, er)) := Lib.hid (by unfold chosenE; rw [if_pos her])
                    clear her
                    go_wp2
                    go_meet
                    case rel => exact ⟨⟨_, HBA.out⟩, rfl, rfl, by rw [HE.out], by rw [HE.out]; exact HRA.out⟩
                case rest =>
                  obtain ⟨z2, rfl, rfl, rfl, hr16⟩ := hcut
                  have HCW := Lib.hid (chosen_wf M HWF.out.1 HWF.out.2)
                  have HR16 := Lib.hid hr16
                  have HBZ := Lib.hid (y2.bel.trans (z.bel.trans z2.bel))
                  have HOZ := Lib.hid (ownsRow_bel HO.out (z.bel.trans z2.bel))
                  clear hr16 HWF H13 H14 HRO HRA HBA HN16 q13 q14 q34 HPY HRY HLK
                  generalize chosenE M = C at *
                  obtain ⟨⟨cn, cd⟩, ce⟩ := C
                  dsimp only at HMF HCW HR16 ⊢
                  by_cases hce : ce = 0
                  · subst hce
                    have t0 : ((0 : Int) != 0) = false := rfl
                    have HM3 : Hid (pointG T m (m - (k + 1)) (k + 1) (p ++ [⟨cn, cd⟩]) = pointM m l) := Lib.hid (by rw [HMF.out]; simp)
                    clear HMF
                    obtain ⟨As, cs, rfl, hcs⟩ := own_slice HO.out
                    have q0 := HR16.out.cell (i := 0) rfl
                    have q1 := HR16.out.cell (i := 1) rfl
                    have lq := HR16.out.lt
                    dsimp only at q0 q1
                    have hpl : p.length ≤ 1000000 := by have := HPK.out; omega
                    obtain ⟨A', c', W', hap, ho', hb', _⟩ := own_ratio (w0 := w8) (p := p) (r := ⟨cn, cd⟩) (HBZ.out.alloc (.cells #[.int .i64 cn, .int .i64 cd] 41)) (ownsRow_bel HOZ.out (Bel.refl.alloc _)) hpl (RowAt.new z2.w 41 (Rt.cells ⟨cn, cd⟩))
                    have HO2 := Lib.hid ho'
                    have HB2 := Lib.hid hb'
                    clear ho' hb' HO HOZ HPR
                    go_wp2_with (at_builtin; go_must (refine wpList_append_run rfl _ _ 26 rfl _ _ _ rfl rfl hap ?_))
                    go_roundw
                    case rel => exact ⟨k + 1, ⟨W', HB2.out⟩, p ++ [(⟨cn, cd⟩ : Rt)], hlt, by go_num, rfl, HO2.out, by rw [List.length_append, HPK.out]; rfl, fun r hr => by
                      rcases List.mem_append.1 hr with hr | hr
                      · exact HPW.out r hr
                      · obtain rfl : r = ⟨cn, cd⟩ := by simpa using hr
                        exact HCW.out, HM3.out⟩
                    case measure => simp [intOf]; omega
                  · have t0 : (ce != 0) = true := by simp [hce]
                    have HM3 : Hid (pointM m l = ([], 7)) := Lib.hid (by rw [HMF.out, if_pos hce])
                    clear hce HMF
                    go_wp2
                    go_ret2
                    exact pt_err HM3.out (HB8.out.trans HBZ.out)
            · have hd : decide ((k : Int) < (m : Int)) = false := decide_eq_false (by omega)
              have HM3 : Hid (pointM m l = (p, 0)) := Lib.hid (by rw [← HF.out, show m - k = 0 by omega]; rfl)
              have HRA := Lib.hid (RdAt.of_own rcells_len rfl HO.out)
              go_wp2
              go_ret2
              exact pt_ok HM3.out HRA.out (HB8.out.trans y2.bel)
      | succ j =>
        have dz : decide (z ≥ 0) = true := decide_eq_true (by have := HZ.out; omega)
        have dz2 : decide (0 ≤ z) = true := decide_eq_true (by have := HZ.out; omega)
        obtain rfl : z = (j : Int) := by have := HZ.out; omega
        clear HZ
        have wz : IntKind.i64.wrap ((j : Int) + 1) = (j : Int) + 1 := IntWalk.i64_in _ (by omega)
        have wz2 : IntKind.i64.wrap ((j : Int) - 1) = (j : Int) - 1 := IntWalk.i64_in _ (by omega)
        have HU := Lib.hid (down_ok hj hd0)
        have c1 := HP.out.get hj
        obtain ⟨Aj, nj, cj, hfj⟩ := HP.out.sl (j + 1)
        have HLJ := Lib.hid (HP.out.at_ (j + 1) (Nat.le_refl _) hj)
        rw [hfj] at c1 HLJ
        have lm := HP.out.row.lt
        have b1 : (j : Int) + 1 < (m : Int) + 1 := by omega
        have b2 : (j : Int) < (m : Int) + 1 := by omega
        have b3 : ¬ (j : Int) + 1 < 0 := by omega
        have b4 : ((j : Int) + 1).toNat = j + 1 := by omega
        have HLV := Lib.hid (leave_any _ j _ y.w (by omega) HLJ.out (down_len (j + 1) _ (by decide) (by have := HTL.out; omega)) (down_inr (j + 1) _ HTI.out))
        unfold LvPost at HLV
        rw [← HU.out] at HLV
        go_wp2_with fail
        refine HLV.out.mono ?_
        rintro e w6 ⟨v6, rfl, hln, hB⟩
        have HB6 := Lib.hid (HB.out.trans hB)
        have HP6 := Lib.hid (HP.out.bel hB)
        have HLN := Lib.hid hln
        obtain ⟨A6, k6, rfl, _⟩ := hln.form
        clear hB hln HLV c1 lm
        have cm := HP6.out.get (show j ≤ m by omega)
        have fm := HP6.out.row.frozen j
        have lm := HP6.out.row.lt
        have HP7 := Lib.hid (HP6.out.put (j := j) (by omega) (.inl rfl) HLN.out)
        generalize hER : (downL j (m - j) T).2 = er at *
        generalize hLE : (downL j (m - j) T).1.length = Le at *
        have HB7 := Lib.hid (HB6.out.set (p := ⟨pl, j, none⟩) HN.out (.slice A6 Le k6))
        go_upto_region 11 with (fail)
        generalize World.setCell w6 _ _ = w7 at *
        clear cm fm lm
        by_cases her : er = 0
        · subst her
          clear wz b1 b2 b3 b4
          go_wp2
          go_roundw
          case rel => exact ⟨j, ⟨_, HB7.out⟩, _, _, by omega, rfl, rfl, rfl, HP7.out, hER⟩
          case measure =>
            simp only [intOf]
            omega
        · have t1 : (er != 0) = true := by simp [her]
          have HM2 : Hid (pointM m l = ([], er)) := Lib.hid (by
            have hb := down_bad (m := m) (T := T) j (by omega) (by rw [hER]; exact her)
            rw [HM.out]; unfold pointT; rw [hb, if_pos (by rw [hER]; exact her), hER])
          clear her hER
          go_wp2
          go_ret2
          exact pt_err HM2.out HB7.out
  · have h0 : (checkM n l != 0) = true := by simp [hck]
    have HM : Hid (pointM n l = ([], checkM n l)) := Lib.hid (by unfold pointM; rw [if_pos hck])
    clear hck
    go_wp2
    go_ret2
    exact pt_err HM.out HB1.out
end Go.Proofs.Ytalphoebmefgoaa
