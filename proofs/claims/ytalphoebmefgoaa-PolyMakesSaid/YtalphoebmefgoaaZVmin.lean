/- poly.Minus. -/
import Derived.Test.YtalphoebmefgoaaZVms
import Derived.Test.YtalphoebmefgoaaZVpcs
import Derived.Test.YtalphoebmefgoaaZVinc
namespace Go.Proofs.Ytalphoebmefgoaa
open Go.RowKit
theorem minus_M {n : Nat} {a b : List AL} (h : check2 n a b = 0) : minusM n a b = ((minusF n (padAll a) (padAll b) []).1.map (fun l => l.map (tellA n)), (minusF n (padAll a) (padAll b) []).2) := by
  unfold minusM; rw [if_neg (by simp [h]), Int.toNat_natCast]
theorem minusF_step {n : Nat} {lb rest : List Ln} {out : List (List Ln)} {k : Nat} (hk : k < lb.length) (h : ¬ 1000 ≤ rest.length) (he : (emptyL n (tidyL (rest ++ [oppL (lnAt lb k)]))).2 = 0) :
    minusF n rest (lb.drop k) out = minusF n (rest ++ [lnAt lb k]) (lb.drop (k + 1)) (if (emptyL n (tidyL (rest ++ [oppL (lnAt lb k)]))).1 then out else out ++ [tidyL (rest ++ [oppL (lnAt lb k)])]) := by
  rw [lns_drop hk]
  conv => lhs; unfold minusF
  rw [if_neg h, if_neg (by simp [he])]
set_option maxRecDepth 100000 in
set_option maxHeartbeats 8000000 in
theorem minus_any (n : Int) (va vb : Value) (a b : List AL) (w : World) (ha : LinesAt w w.heap.size va a) (hb : LinesAt w w.heap.size vb b) (hla : AlLens a) (hlb : AlLens b) (hna : a.length ≤ 1000000) (hnb : b.length ≤ 1000000) :
    Calls Try.prog 23 #[.int .i64 n, va, vb] w (MsPost (minusM n a b) w) := by
  have HA := Lib.hid ha
  have HBB := Lib.hid hb
  obtain ⟨Aa, ca, rfl, _⟩ := ha.form
  obtain ⟨Ab, cb, rfl, _⟩ := hb.form
  have HRQ := RowAt.new w 22 [.slice Aa a.length ca, .slice Ab b.length cb]
  have hbq : Bel w (w.alloc (.cells [.slice Aa a.length ca, .slice Ab b.length cb].toArray 22)) := Bel.refl.alloc _
  have HCK := Lib.hid (checked_any n _ _ _ a b _ HRQ (ha.bel hbq) (hb.bel hbq) hla hlb hna hnb)
  have HBQ := Lib.hid hbq
  clear ha hb HRQ hbq
  go_enter Try.func23, Try.ntmps23
  go_wp2_with fail
  refine HCK.out.mono ?_
  rintro e w1 ⟨rfl, hB⟩
  have HB1 := Lib.hid (HBQ.out.trans hB)
  clear hB HCK HBQ
  by_cases hck : check2 n a b = 0
  · obtain ⟨hca, hcb⟩ := check2_both hck
    have HCA := Lib.hid hca
    have HCB := Lib.hid hcb
    obtain ⟨hn5, hl1, _⟩ := check_fits hca
    obtain ⟨_, hl2, _⟩ := check_fits hcb
    obtain ⟨m, rfl⟩ : ∃ m : Nat, n = (m : Int) := ⟨n.toNat, by omega⟩
    have HM := Lib.hid (minus_M hck)
    rw [hck]
    have h0 : ((0 : Int) != 0) = false := rfl
    have hm5 : m ≤ 5 := by omega
    clear hck hca hcb hn5
    have HOA := Lib.hid (of_any _ a w1 (HA.out.bel HB1.out) (by omega) (check_lens HCA.out))
    go_wp2_with fail
    refine HOA.out.mono ?_
    rintro e w2 ⟨q2, rfl, hq2, hB, hr⟩
    have HB2 := Lib.hid (HB1.out.trans hB)
    have HB12 := Lib.hid hB
    have hra := OfPost.own hq2 (by omega) hr
    have HQ2 : Hid (q2 < w2.heap.size) := Lib.hid hr.lt
    have HOB := Lib.hid (of_any _ b w2 (HBB.out.bel HB2.out) (by omega) (check_lens HCB.out))
    have HRA := Lib.hid hra
    clear hq2 hB hr hra HOA
    go_wp2_with fail
    refine HOB.out.mono ?_
    rintro e w3 ⟨q3, rfl, hq3, hB, hr⟩
    have HB3 := Lib.hid (HB2.out.trans hB)
    have HB13 := Lib.hid (HB12.out.trans hB)
    have HMI : Hid (MiAt w3 w1.heap.size (.slice (some ⟨q3, 0, none⟩) b.length b.length) (.slice (some ⟨q2, 0, none⟩) a.length a.length) (.slice none 0 0) (b.map padL) (a.map padL) []) := Lib.hid ⟨by
      have := own_base (OfPost.own hq3 (by omega) hr) HB12.out.le
      rwa [List.length_map], by
      have := ownsRow_bel HRA.out hB
      rwa [List.length_map], fun g h1 h2 => by
        have e1 : q3 = g := by simpa [Value.ownBlock] using h1
        have e2 : q2 = g := by simpa [Value.ownBlock] using h2
        have := HQ2.out
        omega, MsAt.nil⟩
    have hpa := pad_len a
    have hpb := pad_len b
    have HPA := Lib.hid (pad_inr HCA.out)
    have HPB := Lib.hid (pad_inr HCB.out)
    change Hid (MiAt w3 w1.heap.size _ _ _ (padAll b) (padAll a) []) at HMI
    rw [← hpa] at hl1 HMI ⊢
    rw [← hpb] at hl2 HMI ⊢
    clear hq3 hB hr HOB hpa hpb HRA HQ2 HB12 HB2
    generalize padAll a = la at *
    generalize padAll b = lb at *
    have HLA : Hid (la.length ≤ 1000) := Lib.hid hl1
    have HLB : Hid (lb.length ≤ 1000) := Lib.hid hl2
    go_wp2
    go_loopw [9, 10, 29] (fun s9 s10 s29 wq => ∃ (k : Nat) (y : Ext w1) (rest : List Ln) (out : List (List Ln)) (L : List (Value × List (Value × AL))), k ≤ lb.length ∧ s29 = .int .i64 k ∧ wq = y.w ∧ MiAt y.w w1.heap.size (.slice (some ⟨q3, 0, none⟩) lb.length lb.length) s10 s9 lb rest L ∧ rest.length ≤ 1000 + k ∧ L.length ≤ k ∧ (∀ x, x ∈ rest → x.inr) ∧ L.map (fun p => p.2.map Prod.snd) = out.map (fun l => l.map (tellA m)) ∧ minusF m rest (lb.drop k) out = minusF m la lb []) (fun _ _ s29 _ => lb.length + 1 - (intOf s29).toNat)
    case atStart => exact ⟨0, ⟨_, HB13.out⟩, la, [], [], Nat.zero_le _, rfl, rfl, HMI.out, by omega, Nat.le_refl _, HPA.out, rfl, rfl⟩
    case round =>
      clear HMI HB13 HB3
      obtain ⟨k, y, rest, out, L, hk, rfl, rfl, hmi, hrl, hLk, hin, hLo, hf⟩ := hrel
      have HMI := Lib.hid hmi
      have HRL := Lib.hid hrl
      have HLK := Lib.hid hLk
      have HIN := Lib.hid hin
      have HLO := Lib.hid hLo
      have HF := Lib.hid hf
      have HB := Lib.hid (HB1.out.trans y.bel)
      obtain ⟨A9, c9, rfl, _⟩ := hmi.out.form
      obtain ⟨A10, c10, rfl, _⟩ := own_slice hmi.rest
      clear hmi hrl hLk hin hLo hf
      by_cases hlt : k < lb.length
      · have hd : decide ((k : Int) < (lb.length : Int)) = true := by simp; omega
        have hL : (k : Int) < (lb.length : Int) := by omega
        have wk : IntKind.i64.wrap ((k : Int) + 1) = ((k + 1 : Nat) : Int) := IntWalk.i64_in _ (by omega)
        obtain ⟨g, off, e1, hg, hcl⟩ := (RdAt.of_own cells8 rfl HMI.out.lb).at_ (by omega)
        injection e1 with e1
        injection e1 with e1 e2
        subst e1; subst e2
        obtain ⟨x0, x1, x2, x3, x4, x5, x6, x7⟩ := rd_line hcl hlt
        simp only [Nat.zero_add] at x0 x1 x2 x3 x4 x5 x6 x7
        clear hcl
        have HXI := Lib.hid (HPB.out _ (lnAt_mem hlt))
        have HST := Lib.hid (fun h he => minusF_step (n := m) (rest := rest) (out := out) hlt h he)
        have HER : Hid (¬ 1000 ≤ rest.length → (emptyL m (tidyL (rest ++ [oppL (lnAt lb k)]))).2 ≠ 0 → minusF m rest (lb.drop k) out = ([], (emptyL m (tidyL (rest ++ [oppL (lnAt lb k)]))).2)) := Lib.hid (fun h he => by
          rw [lns_drop hlt]; unfold minusF; rw [if_neg h, if_pos he])
        have HLG : Hid (1000 ≤ rest.length → minusF m rest (lb.drop k) out = ([], 3)) := Lib.hid (fun h => by
          rw [lns_drop hlt]; unfold minusF; rw [if_pos h])
        rw [HF.out] at HST HER HLG
        generalize lnAt lb k = X at *
        go_upto_region 9 with (fail)
        have hBW : Bel y.w (World.alloc y.w (.cells X.cells.toArray 72)) := Bel.refl.alloc _
        have rx : RowAt (World.alloc y.w (.cells X.cells.toArray 72)) y.w.heap.size 72 X.cells := RowAt.new _ _ _
        unfold Ln.cells at rx hBW
        generalize hW : World.alloc y.w _ = w4 at *
        clear hW
        obtain ⟨px, hpx⟩ : ∃ p, p = y.w.heap.size := ⟨_, rfl⟩
        rw [← hpx] at rx ⊢
        clear hpx
        have HRX := Lib.hid rx
        have HB4 := Lib.hid (HB.out.trans hBW)
        have HBY := Lib.hid (y.bel.trans hBW)
        have HM4 := Lib.hid (HMI.out.bel hBW)
        clear x0 x1 x2 x3 x4 x5 x6 x7 hg rx hBW HMI
        by_cases hbig : 1000 ≤ rest.length
        · have hD : decide ((rest.length : Int) ≥ 1000) = true := decide_eq_true (by omega)
          have hD2 : decide ((1000 : Int) ≤ (rest.length : Int)) = true := decide_eq_true (by omega)
          have hD3 : decide (1000 ≤ rest.length) = true := decide_eq_true hbig
          have HM2 : Hid (minusM m a b = ([], 3)) := Lib.hid (by rw [HM.out, HLG.out hbig]; rfl)
          generalize rest.length = LR at *
          go_wp2
          go_ret2
          exact ms_nil HM2.out HB4.out
        · have hD : decide ((rest.length : Int) ≥ 1000) = false := decide_eq_false (by omega)
          have hD2 : decide ((1000 : Int) ≤ (rest.length : Int)) = false := decide_eq_false (by omega)
          have hD3 : decide (1000 ≤ rest.length) = false := decide_eq_false hbig
          have x0 := HRX.out.cell (i := 0) rfl
          have x1 := HRX.out.cell (i := 1) rfl
          have x2 := HRX.out.cell (i := 2) rfl
          have x3 := HRX.out.cell (i := 3) rfl
          have x4 := HRX.out.cell (i := 4) rfl
          have x5 := HRX.out.cell (i := 5) rfl
          have x6 := HRX.out.cell (i := 6) rfl
          have x7 := HRX.out.cell (i := 7) rfl
          have lx := HRX.out.lt
          go_upto_region 11 with (fail)
          (refine wp_region_E 7 none (by kernel_rfl) ?_; refine anyE_takes [0, 2] (fun _ _ _ _ _ h => h) ⟨⟨_, gro_drew (gro_refl _)⟩, rfl⟩ (by kernel_rfl) (by rfl) ?_; simp only [opsOf, List.filterMap_cons, List.filterMap_nil, List.getElem?_toArray, List.getElem?_cons_succ, List.getElem?_cons_zero, List.foldl_cons, List.foldl_nil]; (repeat (any_goals (first | go_big_quiet_step (fail) | quiet_step (fail)))); refine wpQuiet_nil ?_)
          have HM5 := Lib.hid (HM4.out.bel Bel.refl.drew)
          have HB5 := Lib.hid HB4.out.drew
          have HBY5 := Lib.hid HBY.out.drew
          have HRX5 := Lib.hid HRX.out.drew
          have G5 : Hid (w4.grownBy w4.drew none) := Lib.hid (gro_drew (gro_refl _))
          clear x0 x1 x2 x3 x4 x5 x6 x7 lx HM4 HB4 HBY HRX
          generalize w4.drew = w5 at *
          have HCL := Lib.hid (cloneLn_any _ _ _ w5 (lns_src (RdAt.of_own cells8 rfl HM5.out.rest)) (by rw [flat_len cells8]) flat_one (by omega))
          (refine anyE_one 1 _ (by kernel_rfl) (by rfl) (fun K hK => ?_))
          rw [if_pos (by rfl)]
          go_simp
          refine HCL.out.mono ?_
          rintro _ w6 ⟨u, rfl, ho, hB⟩
          have G6 := Lib.hid (gro_then G5.out hB)
          refine hK _ _ (fun _ => ⟨⟨_, G6.out⟩, rfl⟩) ?_
          clear hK K HCL
          have HO6 := Lib.hid ho
          have HB56 := Lib.hid hB
          have HOP := Lib.hid (opposite_any X w6 HXI.out)
          clear ho hB
          (refine anyE_one 3 _ (by kernel_rfl) (by rfl) (fun K hK => ?_))
          rw [if_pos (by rfl)]
          go_simp
          refine HOP.out.mono ?_
          rintro _ w7 ⟨rfl, hB⟩
          have G7 := Lib.hid (gro_then G6.out hB)
          refine hK _ _ (fun _ => ⟨⟨_, G7.out⟩, rfl⟩) ?_
          clear hK K HOP
          have HO7 := Lib.hid (ownsRow_bel HO6.out hB)
          have HB57 := Lib.hid (HB56.out.trans hB)
          clear hB HO6 HB56
          have HOI := Lib.hid (opp_inr HXI.out)
          generalize oppL X = Z at *
          unfold Ln.V
          (refine anyE_one 4 _ (by kernel_rfl) (by rfl) (fun K hK => ?_))
          rw [if_pos (by rfl)]
          go_simp
          have G8 := Lib.hid (gro_alloc G7.out (.cells Z.cells.toArray 72))
          refine hK _ _ (fun _ => ⟨⟨_, G8.out⟩, rfl⟩) ?_
          clear hK K
          obtain ⟨A9', c9', w9, hap, ho9, hb9, hg9⟩ := own_snoc (w0 := w5) (HB57.out.alloc (.cells Z.cells.toArray 72)) (ownsRow_bel HO7.out (Bel.refl.alloc _)) (by omega) (RowAt.new w7 72 Z.cells)
          unfold Ln.cells at hap
          (refine anyE_one 5 _ (by kernel_rfl) (by rfl) (fun K hK => ?_))
          rw [if_pos (by rfl)]
          have G9 : Hid (w4.grownBy w9 none) := Lib.hid (G5.out.trans (gro_of_bel2 hb9))
          refine oper_append_run _ _ 61 rfl _ _ _ rfl rfl hap (hK _ _ (fun _ => ⟨⟨_, G9.out⟩, rfl⟩) ?_)
          simp only [Act.put, List.setIfInBounds_toArray]
          clear hK K hap
          have HB59 := Lib.hid hb9
          have hll : (rest ++ [Z]).length = rest.length + 1 := by simp
          have hln : LnsAt w9 w9.heap.size (.slice A9' (rest.length + 1) c9') (rest ++ [Z]) := RdAt.of_own cells8 rfl ho9
          have hri : ∀ z, z ∈ rest ++ [Z] → z.inr := fun z hz => by
            rcases List.mem_append.1 hz with hz | hz
            · exact HIN.out z hz
            · rw [show z = Z by simpa using hz]; exact HOI.out
          have HTD := Lib.hid (tidy_any _ (rest ++ [Z]) w9 hln (by omega) (fun z hz => (hri z hz).wf))
          have HTL : Hid ((tidyL (rest ++ [Z])).length ≤ 1000) := Lib.hid (by have := tidy_len (rest ++ [Z]); omega)
          have HTI := Lib.hid (tidy_inr hri)
          unfold TdyPost at HTD
          clear ho9 hb9 hg9 hln hll hri
          generalize tidyL (rest ++ [Z]) = PT at *
          (refine anyE_one 6 _ (by kernel_rfl) (by rfl) (fun K hK => ?_))
          rw [if_pos (by rfl)]
          go_simp
          refine HTD.out.mono ?_
          rintro _ w10 ⟨v10, rfl, hln, hB⟩
          have G10 := Lib.hid (gro_then G9.out hB)
          refine hK _ _ (fun _ => ⟨⟨_, G10.out⟩, rfl⟩) ?_
          clear hK K
          have HLN10 := Lib.hid hln
          have hb10 := HB59.out.trans hB
          have HB10 := Lib.hid (HB5.out.trans hb10)
          have HBY10 := Lib.hid (HBY5.out.trans hb10)
          have HM10 := Lib.hid (HM5.out.bel hb10)
          have HRX10 := Lib.hid (HRX5.out.bel hb10)
          clear HTD hln hB hb10 HB59 HB5 HBY5 HM5 HRX5 HO7 HB57
          obtain ⟨A13, k13, rfl, _⟩ := HLN10.out.form
          (refine anyE_tail 7 (by decide) (by rfl) (by kernel_rfl) ?_; simp only [List.drop_succ_cons, List.drop_zero])
          go_wp2
          refine NoPanic.normal ?_
          have HEM := Lib.hid (emptyp_any _ PT m w10 hm5 HLN10.out (by have := HTL.out; omega) HTI.out)
          have HST2 := Lib.hid (HST.out hbig)
          have HER2 := Lib.hid (HER.out hbig)
          clear HST HER HLG G5 G6 G7 G8 G9 G10
          unfold BoPost at HEM
          generalize hE : emptyL m PT = ME at *
          have HE := Lib.hid hE
          clear hE
          obtain ⟨eb, er⟩ := ME
          dsimp only at HEM HST2 HER2
          go_wp2_with fail
          refine HEM.out.mono ?_
          rintro e w11 ⟨rfl, hB⟩
          have HB11 := Lib.hid (HB10.out.trans hB)
          have HBY11 := Lib.hid (HBY10.out.trans hB)
          have HM11 := Lib.hid (HM10.out.bel hB)
          have HRX11 := Lib.hid (HRX10.out.bel hB)
          have HLN11 := Lib.hid (HLN10.out.bel hB)
          clear HEM hB HB10 HBY10 HM10 HRX10 HLN10
          by_cases her : er = 0
          · subst her
            have t0 : ((0 : Int) != 0) = false := rfl
            have HF3 := Lib.hid (HST2.out rfl)
            clear HST2 HER2
            cases eb
            · have HF4 : Hid (minusF m (rest ++ [X]) (lb.drop (k + 1)) (out ++ [PT]) = minusF m la lb []) := Lib.hid (by have := HF3.out; simpa using this.symm)
              clear HF3
              have HTO := Lib.hid (told_any m _ PT w11 (by omega) HLN11.out (by have := HTL.out; omega))
              unfold ToldPost at HTO
              go_wp2_with fail
              refine HTO.out.mono ?_
              rintro e w12 ⟨v12, rfl, hla12, hB, L12, hL12, hm12⟩
              have HB12 := Lib.hid (HB11.out.trans hB)
              have HBY12 := Lib.hid (HBY11.out.trans hB)
              have HM12 := Lib.hid (HM11.out.bel hB)
              have HRX12 := Lib.hid (HRX11.out.bel hB)
              have HAO12 := Lib.hid (hL12.base HBY11.out.le)
              obtain ⟨A12, k12, rfl, _⟩ := own_slice hL12.own
              have HLM12 := Lib.hid hm12
              clear HTO hB hla12 hL12 hm12 HB11 HBY11 HM11 HRX11 HLN11
              obtain ⟨A16, k16, W16, hap, hm16, hb16, hg16⟩ := mi_out (w0 := w1) (p := (.slice A12 L12.length k12, L12)) (HBY12.out.alloc (.cells [.slice A12 L12.length k12].toArray 22)) (HM12.out.bel (Bel.refl.alloc _)) (by have := HLK.out; omega) (RowAt.new w12 22 [.slice A12 L12.length k12]) (HAO12.out.bel (Bel.refl.alloc _))
              have HRX16 : Hid (RowAt W16 px 72 X.cells) := Lib.hid (by
                have h1 := HRX12.out.bel (Bel.refl.alloc (.cells [.slice A12 L12.length k12].toArray 22))
                exact h1.gro hg16 (box_row_ne h1 (HM12.out.bel (Bel.refl.alloc (.cells [.slice A12 L12.length k12].toArray 22))).out.own ln_ne_ls))
              have HM16 := Lib.hid hm16
              have HB16 := Lib.hid hb16
              clear hm16 hb16 hg16 HRX12 HM12 HBY12 HB12 HAO12
              go_upto_region 17 with (at_builtin; go_must (refine wpList_append_run rfl _ _ 50 rfl _ _ _ rfl rfl hap ?_))
              clear hap
              have x0 := HRX16.out.cell (i := 0) rfl
              have x1 := HRX16.out.cell (i := 1) rfl
              have x2 := HRX16.out.cell (i := 2) rfl
              have x3 := HRX16.out.cell (i := 3) rfl
              have x4 := HRX16.out.cell (i := 4) rfl
              have x5 := HRX16.out.cell (i := 5) rfl
              have x6 := HRX16.out.cell (i := 6) rfl
              have x7 := HRX16.out.cell (i := 7) rfl
              have lx := HRX16.out.lt
              obtain ⟨g17, c17, W17, hap, hm17, hb17⟩ := mi_rest (w0 := w1) (HB16.out.alloc (.cells X.cells.toArray 72)) (HM16.out.bel (Bel.refl.alloc _)) (by have := HRL.out; omega) (RowAt.new W16 72 X.cells)
              unfold Ln.cells at hap
              have HM17 := Lib.hid hm17
              have HB17 := Lib.hid hb17
              clear hm17 hb17
              go_wp2_with (at_builtin; go_must (refine wpList_append_run rfl _ _ 61 rfl _ _ _ rfl rfl hap ?_))
              go_roundw
              case rel => exact ⟨k + 1, ⟨W17, HB17.out⟩, rest ++ [X], out ++ [PT], L ++ [((Value.slice A12 L12.length k12, L12) : Value × List (Value × AL))], hlt, by go_num, rfl, HM17.out, by have := HRL.out; simp; omega, by have := HLK.out; simp; omega, fun z hz => by
                rcases List.mem_append.1 hz with hz | hz
                · exact HIN.out z hz
                · rw [show z = X by simpa using hz]; exact HXI.out, by rw [List.map_append, List.map_append, HLO.out]; simp [HLM12.out], HF4.out⟩
              case measure => simp [intOf]; omega
            · have HF4 : Hid (minusF m (rest ++ [X]) (lb.drop (k + 1)) out = minusF m la lb []) := Lib.hid (by have := HF3.out; simpa using this.symm)
              clear HF3
              go_upto_region 17 with (fail)
              have x0 := HRX11.out.cell (i := 0) rfl
              have x1 := HRX11.out.cell (i := 1) rfl
              have x2 := HRX11.out.cell (i := 2) rfl
              have x3 := HRX11.out.cell (i := 3) rfl
              have x4 := HRX11.out.cell (i := 4) rfl
              have x5 := HRX11.out.cell (i := 5) rfl
              have x6 := HRX11.out.cell (i := 6) rfl
              have x7 := HRX11.out.cell (i := 7) rfl
              have lx := HRX11.out.lt
              obtain ⟨g17, c17, W17, hap, hm17, hb17⟩ := mi_rest (w0 := w1) (HBY11.out.alloc (.cells X.cells.toArray 72)) (HM11.out.bel (Bel.refl.alloc _)) (by have := HRL.out; omega) (RowAt.new w11 72 X.cells)
              unfold Ln.cells at hap
              have HM17 := Lib.hid hm17
              have HB17 := Lib.hid hb17
              clear hm17 hb17
              go_wp2_with (at_builtin; go_must (refine wpList_append_run rfl _ _ 61 rfl _ _ _ rfl rfl hap ?_))
              go_roundw
              case rel => exact ⟨k + 1, ⟨W17, HB17.out⟩, rest ++ [X], out, L, hlt, by go_num, rfl, HM17.out, by have := HRL.out; simp; omega, by have := HLK.out; omega, fun z hz => by
                rcases List.mem_append.1 hz with hz | hz
                · exact HIN.out z hz
                · rw [show z = X by simpa using hz]; exact HXI.out, HLO.out, HF4.out⟩
              case measure => simp [intOf]; omega
          · have t0 : (er != 0) = true := by simp [her]
            have HM2 : Hid (minusM m a b = ([], er)) := Lib.hid (by rw [HM.out, HER2.out her]; rfl)
            clear her HST2 HER2
            go_wp2
            go_ret2
            exact ms_nil HM2.out HB11.out
      · obtain rfl : k = lb.length := by omega
        have hd : decide ((lb.length : Int) < (lb.length : Int)) = false := by simp
        have HP : Hid (MsPost (minusM m a b) w (.returned (.tuple #[.slice A9 L.length c9, .int .i64 0])) y.w) := Lib.hid (by
          have hF := HF.out
          rw [List.drop_length] at hF
          refine ⟨_, L, ?_, HMI.out.out.base HB1.out.le, ?_, HB.out⟩
          · rw [HM.out, ← hF]; rfl
          · rw [HM.out, ← hF, HLO.out]; rfl)
        go_wp2
        go_ret2
        exact HP.out
  · have h0 : (check2 n a b != 0) = true := by simp [hck]
    have HM : Hid (minusM n a b = ([], check2 n a b)) := Lib.hid (by unfold minusM; rw [if_pos hck])
    clear hck
    generalize check2 n a b = er at *
    go_wp2
    go_ret2
    exact ms_nil HM.out HB1.out
end Go.Proofs.Ytalphoebmefgoaa
