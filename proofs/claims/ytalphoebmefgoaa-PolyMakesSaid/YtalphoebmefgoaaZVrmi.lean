/- poly, the reference: Minus. -/
import Derived.Test.YtalphoebmefgoaaZVrti0
import Derived.Test.YtalphoebmefgoaaZVrim
import Derived.Test.YtalphoebmefgoaaZVpcs
namespace Go.Proofs.Ytalphoebmefgoaa
open Go.RowKit
/-- Minus, as the reference computes it -/
def minusR (n : Nat) : List AL → List AL → List (List AL) → List (List AL) × Int
  | _, [], out => (out, 0)
  | rest, x :: bs, out =>
    if 1000 ≤ rest.length then ([], 3) else if (emptyL n (padAll (tidyA n (rest ++ [oppA x])))).2 ≠ 0 then ([], (emptyL n (padAll (tidyA n (rest ++ [oppA x])))).2)
    else minusR n (rest ++ [x]) bs (if (emptyL n (padAll (tidyA n (rest ++ [oppA x])))).1 then out else out ++ [tidyA n (rest ++ [oppA x])])
theorem minusR_eq {n : Nat} (hn : n ≤ 5) : ∀ (bs rest : List AL) (out : List (List AL)), (∀ x, x ∈ bs → x.a.length = n) → (∀ x, x ∈ rest → x.a.length = n) → (∀ l, l ∈ out → ∀ x, x ∈ l → x.a.length = n) →
    minusR n rest bs out = ((minusF n (padAll rest) (padAll bs) (out.map padAll)).1.map (fun l => l.map (tellA n)), (minusF n (padAll rest) (padAll bs) (out.map padAll)).2)
  | [], rest, out, _, _, ho => by
    unfold minusR
    show (out, 0) = (((out.map padAll).map (fun l => l.map (tellA n))), 0)
    rw [List.map_map]
    congr 1
    conv => lhs; rw [← List.map_id out]
    exact List.map_congr_left (fun l hl => (tell_padAll (by omega) (ho l hl)).symm)
  | x :: bs, rest, out, hb, hr, ho => by
    have hx := hb x (List.mem_cons_self ..)
    have hb2 : ∀ y, y ∈ bs → y.a.length = n := fun y hy => hb y (List.mem_cons_of_mem _ hy)
    have hr1 : ∀ y, y ∈ rest ++ [oppA x] → y.a.length = n := fun y hy => by
      rcases List.mem_append.1 hy with q | q
      · exact hr y q
      · rw [show y = oppA x by simpa using q, oppA_len]; exact hx
    have hr2 : ∀ y, y ∈ rest ++ [x] → y.a.length = n := fun y hy => by
      rcases List.mem_append.1 hy with q | q
      · exact hr y q
      · rw [show y = x by simpa using q]; exact hx
    obtain ⟨t1, t2⟩ := tidy_pad (n := n) (by omega) hr1
    have hp : padAll (rest ++ [oppA x]) = padAll rest ++ [oppL (padL x)] := by rw [pad_snoc, oppA_pad (by omega)]
    rw [hp] at t1
    show minusR n rest (x :: bs) out = _
    have e : padAll (x :: bs) = padL x :: padAll bs := rfl
    rw [e]
    unfold minusR minusF
    rw [t1, pad_len]
    split
    · rfl
    · split
      · rfl
      · have hih := minusR_eq hn bs (rest ++ [x]) (if (emptyL n (tidyL (padAll rest ++ [oppL (padL x)]))).1 then out else out ++ [tidyA n (rest ++ [oppA x])]) hb2 hr2 (fun l hl => by
          split at hl
          · exact ho l hl
          · rcases List.mem_append.1 hl with q | q
            · exact ho l q
            · rw [show l = tidyA n (rest ++ [oppA x]) by simpa using q]; exact t2)
        rw [hih, pad_snoc]
        have e2 : (if (emptyL n (tidyL (padAll rest ++ [oppL (padL x)]))).1 then out else out ++ [tidyA n (rest ++ [oppA x])]).map padAll = (if (emptyL n (tidyL (padAll rest ++ [oppL (padL x)]))).1 then out.map padAll else out.map padAll ++ [tidyL (padAll rest ++ [oppL (padL x)])]) := by
          split
          · rfl
          · rw [List.map_append, ← t1]; rfl
        rw [e2]
theorem minusM_R {n : Nat} {a b : List AL} (ha : checkM n a = 0) (hb : checkM n b = 0) : minusM n a b = minusR n a b [] := by
  have hc2 : check2 n a b = 0 := by unfold check2; rw [if_neg (by simp [ha]), hb]
  have hn := (check_fits ha).1
  have l1 := check_lenA ha
  have l2 := check_lenA hb
  rw [Int.toNat_natCast] at l1 l2
  rw [minusR_eq (by omega) b a [] l2 l1 (by simp)]
  unfold minusM
  rw [if_neg (by simp [hc2]), Int.toNat_natCast]
  rfl
/-- the lines that are left: those of the argument, or a row of the call's own -/
def RestK (w W : World) (v : Value) (l : List AL) : Prop := LinesAt w w.heap.size v l ∨ ∃ R, AR W w.heap.size v R ∧ R.map Prod.snd = l
theorem RestK.bel {w W W' : World} {v : Value} {l : List AL} (h : RestK w W v l) (hb : Bel W W') (hs : w.heap.size ≤ W.heap.size) : RestK w W' v l :=
  h.imp id (fun ⟨R, a, m⟩ => ⟨R, a.bel hb hs, m⟩)
theorem RestK.grow {w W W' : World} {v : Value} {l : List AL} (h : RestK w W v l) (hg : ∀ vr R, AR W w.heap.size vr R → AR W' w.heap.size vr R) : RestK w W' v l :=
  h.imp id (fun ⟨R, a, m⟩ => ⟨R, hg _ _ a, m⟩)
theorem RestK.k {w W : World} {v : Value} {l : List AL} (h : RestK w W v l) (hb : Bel w W) : LinesK W w.heap.size v l := by
  rcases h with h | ⟨R, a, rfl⟩
  · exact LinesK.of h hb
  · exact a.linesK
theorem RestK.form {w W : World} {v : Value} {l : List AL} (h : RestK w W v l) : ∃ A c, v = .slice A l.length c ∧ l.length ≤ c := by
  rcases h with h | ⟨R, a, rfl⟩
  · exact h.form
  · rw [List.length_map]; exact a.form
theorem minusR_step {n k : Nat} {b rest : List AL} {out : List (List AL)} (hk : k < b.length) (h : ¬ 1000 ≤ rest.length) (he : (emptyL n (padAll (tidyA n (rest ++ [oppA (alAt b k)])))).2 = 0) :
    minusR n rest (b.drop k) out = minusR n (rest ++ [alAt b k]) (b.drop (k + 1)) (if (emptyL n (padAll (tidyA n (rest ++ [oppA (alAt b k)])))).1 then out else out ++ [tidyA n (rest ++ [oppA (alAt b k)])]) := by
  rw [al_drop hk]
  conv => lhs; unfold minusR
  rw [if_neg h, if_neg (by simp [he])]
set_option maxRecDepth 100000 in
set_option maxHeartbeats 8000000 in
theorem rminus_any (n : Int) (va vb : Value) (a b : List AL) (w : World) (ha : LinesAt w w.heap.size va a) (hb : LinesAt w w.heap.size vb b) (hla : AlLens a) (hlb : AlLens b) (hna : a.length ≤ 1000000) (hnb : b.length ≤ 1000000) :
    Calls Try.prog 24 #[.int .i64 n, va, vb] w (M0Post (minusM n a b) w) := by
  have HA := Lib.hid ha
  have HBB := Lib.hid hb
  have HCA := Lib.hid (rcheck_any n va a w ha hla hna)
  have HCB := Lib.hid (fun W (hW : Bel w W) => rcheck_any n vb b W (hb.bel hW) hlb hnb)
  obtain ⟨Aa, ca, rfl, _⟩ := ha.form
  obtain ⟨Ab, cb, rfl, _⟩ := hb.form
  clear ha hb hla hlb
  go_enter Try.func24, Try.ntmps24
  go_wp2_with fail
  refine HCA.out.mono ?_
  rintro e w1 ⟨rfl, hB⟩
  have HB1 := Lib.hid hB
  clear hB HCA
  by_cases hca : checkM n a = 0
  · have h0 : ((0 : Int) == 0) = true := rfl
    rw [hca]
    go_wp2_with fail
    refine (HCB.out _ HB1.out).mono ?_
    rintro e w2 ⟨rfl, hB⟩
    have HB2 := Lib.hid (HB1.out.trans hB)
    clear hB HCB HB1
    by_cases hcb : checkM n b = 0
    · have h1 : ((0 : Int) != 0) = false := rfl
      rw [hcb]
      obtain ⟨hn5, hl1, _⟩ := check_fits hca
      obtain ⟨_, hl2, _⟩ := check_fits hcb
      obtain ⟨m, rfl⟩ : ∃ m : Nat, n = (m : Int) := ⟨n.toNat, by omega⟩
      have hm5 : m ≤ 5 := by omega
      have HM := Lib.hid (minusM_R hca hcb)
      have HLA := Lib.hid (check_lenA hca)
      have HLB := Lib.hid (check_lenA hcb)
      have HIA := Lib.hid (check_inrA hca)
      have HIB := Lib.hid (check_inrA hcb)
      rw [Int.toNat_natCast] at HLA HLB
      clear hca hcb hn5
      go_wp2
      go_loopw [9, 10, 11] (fun s9 s10 s11 wq => ∃ (k : Nat) (y : Ext w) (rest : List AL) (out : List (List AL)) (L : List (Value × List (Value × AL))), k ≤ b.length ∧ s11 = .int .i64 k ∧ wq = y.w ∧ Ms0 y.w w.heap.size s9 L ∧ RestK w y.w s10 rest ∧ rest.length ≤ 1000 + k ∧ L.length ≤ k ∧ (∀ x, x ∈ rest → x.a.length = m) ∧ (∀ x, x ∈ rest → x.inr) ∧ L.map (fun p => p.2.map Prod.snd) = out ∧ minusR m rest (b.drop k) out = minusR m a b []) (fun _ _ s11 _ => b.length + 1 - (intOf s11).toNat)
      case atStart => exact ⟨0, ⟨_, HB2.out⟩, a, [], [], Nat.zero_le _, rfl, rfl, Ms0.nil, .inl HA.out, by omega, Nat.le_refl _, HLA.out, HIA.out, rfl, rfl⟩
      case round =>
        clear HB2
        obtain ⟨k, y, rest, out, L, hk, rfl, rfl, hms, hrk, hrl, hLk, hlen, hinr, hlo, hf⟩ := hrel
        have HMS := Lib.hid hms
        have HRK := Lib.hid hrk
        have HRL := Lib.hid hrl
        have HLK := Lib.hid hLk
        have HLN := Lib.hid hlen
        have HIN := Lib.hid hinr
        have HLO := Lib.hid hlo
        have HF := Lib.hid hf
        have HB := Lib.hid y.bel
        obtain ⟨A9, c9, rfl, _⟩ := hms.form
        obtain ⟨A10, c10, rfl, _⟩ := hrk.form
        clear hms hrk hrl hLk hlen hinr hlo hf
        by_cases hlt : k < b.length
        · have hd : decide ((k : Int) < (b.length : Int)) = true := by simp; omega
          have hL : (k : Int) < (b.length : Int) := by omega
          have wk : IntKind.i64.wrap ((k : Int) + 1) = ((k + 1 : Nat) : Int) := IntWalk.i64_in _ (by omega)
          have wr : IntKind.i64.wrap ((rest.length : Int) + 1) = (rest.length : Int) + 1 := IntWalk.i64_in _ (by have := HRL.out; omega)
          obtain ⟨g, off, rfl, hg0, hcl⟩ := HBB.out.at_ (by omega)
          obtain ⟨rv, ⟨d0, d1, d2⟩, hrv⟩ := hcl k hlt
          have HXI0 := Lib.hid hrv
          have HXN := Lib.hid (HLB.out _ (alAt_mem hlt))
          have HXR := Lib.hid (HIB.out _ (alAt_mem hlt))
          have HST := Lib.hid (fun h he => minusR_step (n := m) (rest := rest) (out := out) hlt h he)
          have HER : Hid (¬ 1000 ≤ rest.length → (emptyL m (padAll (tidyA m (rest ++ [oppA (alAt b k)])))).2 ≠ 0 → minusR m rest (b.drop k) out = ([], (emptyL m (padAll (tidyA m (rest ++ [oppA (alAt b k)])))).2)) := Lib.hid (fun h he => by
            rw [al_drop hlt]; unfold minusR; rw [if_neg h, if_pos he])
          have HLG : Hid (1000 ≤ rest.length → minusR m rest (b.drop k) out = ([], 3)) := Lib.hid (fun h => by
            rw [al_drop hlt]; unfold minusR; rw [if_pos h])
          rw [HF.out] at HST HER HLG
          obtain ⟨Ax, cx, rfl, _⟩ := hrv.form
          clear hcl hrv
          generalize alAt b k = X at *
          by_cases hbig : 1000 ≤ rest.length
          · have hD : decide ((rest.length : Int) + 1 > 1000) = true := decide_eq_true (by omega)
            have hD3 : decide ((1000 : Int) ≤ (rest.length : Int)) = true := decide_eq_true (by omega)
            have hD4 : decide (1000 ≤ rest.length) = true := decide_eq_true hbig
            have hD5 : decide (1000 < rest.length + 1) = true := decide_eq_true (by omega)
            have hD2 : decide ((1000 : Int) < (rest.length : Int) + 1) = true := decide_eq_true (by omega)
            have HM2 : Hid (minusM m a b = ([], 3)) := Lib.hid (by rw [HM.out, HLG.out hbig])
            generalize rest.length = LR at *
            go_wp2
            go_ret2
            exact m0_nil HM2.out HB.out
          · have hD : decide ((rest.length : Int) + 1 > 1000) = false := decide_eq_false (by omega)
            have hD3 : decide ((1000 : Int) ≤ (rest.length : Int)) = false := decide_eq_false (by omega)
            have hD4 : decide (1000 ≤ rest.length) = false := decide_eq_false hbig
            have hD5 : decide (1000 < rest.length + 1) = false := decide_eq_false (by omega)
            have hD2 : decide ((1000 : Int) < (rest.length : Int) + 1) = false := decide_eq_false (by omega)
            have HST2 := Lib.hid (HST.out hbig)
            have HER2 := Lib.hid (HER.out hbig)
            clear HST HER HLG
            have x0 := (y.bel.cells _ _ hg0).trans d0
            have x1 := (y.bel.cells _ _ hg0).trans d1
            have x2 := (y.bel.cells _ _ hg0).trans d2
            have hg := Nat.lt_of_lt_of_le hg0 y.bel.le
            have HOP := Lib.hid (ropp_any X _ y.w (HXI0.out.keep y.bel.keeps y.bel.le) (by have := HXN.out; omega) HXR.out)
            have HL1 : Hid (∀ z, z ∈ rest ++ [oppA X] → z.a.length = m) := Lib.hid (fun z hz => by
              rcases List.mem_append.1 hz with q | q
              · exact HLN.out z q
              · rw [show z = oppA X by simpa using q, oppA_len]; exact HXN.out)
            have HI1 : Hid (∀ z, z ∈ rest ++ [oppA X] → z.inr) := Lib.hid (fun z hz => by
              rcases List.mem_append.1 hz with q | q
              · exact HIN.out z q
              · rw [show z = oppA X by simpa using q]; exact oppA_inr HXR.out)
            have HLS : Hid (∀ z, z ∈ rest ++ [X] → z.a.length = m) := Lib.hid (fun z hz => by
              rcases List.mem_append.1 hz with q | q
              · exact HLN.out z q
              · rw [show z = X by simpa using q]; exact HXN.out)
            have HIS : Hid (∀ z, z ∈ rest ++ [X] → z.inr) := Lib.hid (fun z hz => by
              rcases List.mem_append.1 hz with q | q
              · exact HIN.out z q
              · rw [show z = X by simpa using q]; exact HXR.out)
            unfold AlPost at HOP
            generalize oppA X = Z at *
            go_wp2_with fail
            refine HOP.out.mono ?_
            rintro e w4 ⟨rv4, rfl, hro, hB⟩
            have HB4 := Lib.hid (HB.out.trans hB)
            have HM4 := Lib.hid (HMS.out.bel hB y.bel.le)
            have HRK4 := Lib.hid (HRK.out.bel hB y.bel.le)
            have HIZ : Hid (IntsK w4 w.heap.size rv4 Z.a) := Lib.hid (.inr (own_base hro y.bel.le))
            obtain ⟨Az, cz, rfl, _⟩ := own_slice hro
            clear hro hB HOP x0 x1 x2 hg HMS HRK
            have HBH := Lib.hid (rbehindB_any w.heap.size _ _ rest Z w4 HB4.out.le (RestK.k HRK4.out HB4.out) (by omega) HIZ.out)
            unfold BhPost at HBH
            go_wp2_with fail
            refine HBH.out.mono ?_
            rintro e w5 ⟨v5, R5, rfl, har, hm5', hB⟩
            have HB5 := Lib.hid (HB4.out.trans hB)
            have HM5 := Lib.hid (HM4.out.bel hB HB4.out.le)
            have HRK5 := Lib.hid (HRK4.out.bel hB HB4.out.le)
            have hln := har.lines HB5.out.le
            rw [hm5'] at hln
            have HLZ := Lib.hid hln
            have hlz : (rest ++ [Z]).length ≤ 1000 := by simp; omega
            clear har hm5' hB HBH hln HIZ HM4 HRK4
            have hT := tidy_pad (n := m) (by omega) HL1.out
            have HTN := Lib.hid hT.2
            have HTL := Lib.hid (tidyA_len (n := m) (by omega) HL1.out)
            have HTI := Lib.hid (tidyA_inr (n := m) (by omega) HL1.out HI1.out)
            have HTD := Lib.hid (rtidz_any m _ (rest ++ [Z]) w5 HLZ.out (by omega) (by omega) (fun x hx => by have := HL1.out x hx; omega) (fun x hx => (HI1.out x hx).wf))
            unfold TiPost at HTD
            obtain ⟨A5, k5, rfl, _⟩ := HLZ.out.form
            clear hT HLZ HL1 HI1
            generalize hZ : rest ++ [Z] = LZ at *
            clear hZ
            generalize tidyA m LZ = PT at *
            go_wp2_with fail
            refine HTD.out.mono ?_
            rintro e w6 ⟨v6, L6, rfl, ha6, hm6, hB⟩
            have HB6 := Lib.hid (HB5.out.trans hB)
            have HM6 := Lib.hid (HM5.out.bel hB HB5.out.le)
            have HRK6 := Lib.hid (HRK5.out.bel hB HB5.out.le)
            have HA6 := Lib.hid (ha6.base HB5.out.le)
            have HLM6 := Lib.hid hm6
            have hln6 := ha6.lines hB.le
            rw [hm6] at hln6
            have HLP := Lib.hid hln6
            obtain ⟨A6, k6, rfl, _⟩ := ha6.form
            clear ha6 hm6 hB HTD hln6 HM5 HRK5
            have HEM := Lib.hid (rempty_any _ PT m w6 hm5 HLP.out (by have := HTL.out; omega) HTN.out HTI.out)
            unfold BoPost at HEM
            generalize emptyL m (padAll PT) = ME at *
            obtain ⟨eb, er⟩ := ME
            dsimp only at HEM HST2 HER2
            go_wp2_with fail
            refine HEM.out.mono ?_
            rintro e w7 ⟨rfl, hB⟩
            have HB7 := Lib.hid (HB6.out.trans hB)
            have HM7 := Lib.hid (HM6.out.bel hB HB6.out.le)
            have HRK7 := Lib.hid (HRK6.out.bel hB HB6.out.le)
            have HA7 := Lib.hid (HA6.out.bel hB HB6.out.le)
            clear hB HEM HM6 HRK6 HA6 HLP
            by_cases her : er = 0
            · subst her
              have t0 : ((0 : Int) != 0) = false := rfl
              have HF3 := Lib.hid (HST2.out rfl)
              clear HST2 HER2
              cases eb
              · have HF4 : Hid (minusR m (rest ++ [X]) (b.drop (k + 1)) (out ++ [PT]) = minusR m a b []) := Lib.hid (by have := HF3.out; simpa using this.symm)
                clear HF3
                obtain ⟨A16, k16, W16, hap, hm16, hb16, hgr⟩ := ms0_append (w0 := w) (p := (.slice A6 L6.length k6, L6)) (HB7.out.alloc (.cells [.slice A6 L6.length k6].toArray 22)) (HM7.out.bel (Bel.refl.alloc _) HB7.out.le) (by have := HLK.out; omega) (RowAt.new w7 22 [.slice A6 L6.length k6]) (HA7.out.bel (Bel.refl.alloc _) HB7.out.le)
                have HRK16 : Hid (RestK w W16 (.slice A10 rest.length c10) rest) := Lib.hid ((HRK7.out.bel (Bel.refl.alloc (.cells [.slice A6 L6.length k6].toArray 22)) HB7.out.le).grow hgr)
                have HM16 := Lib.hid hm16
                have HB16 := Lib.hid hb16
                clear hm16 hb16 hgr HM7 HRK7 HA7
                go_upto_region 19 with (at_builtin; go_must (refine wpList_append_run rfl _ _ 50 rfl _ _ _ rfl rfl (hap _) ?_))
                clear hap
                have hb2 := HB16.out
                have x0 := (hb2.cells _ _ hg0).trans d0
                have x1 := (hb2.cells _ _ hg0).trans d1
                have x2 := (hb2.cells _ _ hg0).trans d2
                have hg := Nat.lt_of_lt_of_le hg0 hb2.le
                have HBH := Lib.hid (rbehindB_any w.heap.size _ (.slice Ax X.a.length cx) rest X W16 hb2.le (RestK.k HRK16.out hb2) (by have := HRL.out; omega) (IntsK.below HXI0.out hb2))
                unfold BhPost at HBH
                clear hb2
                go_wp2_with fail
                refine HBH.out.mono ?_
                rintro e W19 ⟨v19, R19, rfl, har, hm19, hB⟩
                have HB19 := Lib.hid (HB16.out.trans hB)
                have HM19 := Lib.hid (HM16.out.bel hB HB16.out.le)
                have HRK19 : Hid (RestK w W19 v19 (rest ++ [X])) := Lib.hid (.inr ⟨R19, har, hm19⟩)
                obtain ⟨A19, c19, rfl, _⟩ := har.form
                clear har hm19 hB HBH x0 x1 x2 hg
                go_wp2
                go_roundw
                case rel => exact ⟨k + 1, ⟨W19, HB19.out⟩, rest ++ [X], out ++ [PT], L ++ [((Value.slice A6 L6.length k6, L6) : Value × List (Value × AL))], hlt, by go_num, rfl, HM19.out, HRK19.out, by have := HRL.out; simp; omega, by have := HLK.out; simp; omega, HLS.out, HIS.out, by rw [List.map_append, HLO.out]; simp [HLM6.out], HF4.out⟩
                case measure => simp [intOf]; omega
              · have HF4 : Hid (minusR m (rest ++ [X]) (b.drop (k + 1)) out = minusR m a b []) := Lib.hid (by have := HF3.out; simpa using this.symm)
                clear HF3
                go_upto_region 19 with (fail)
                have hb2 := HB7.out
                have x0 := (hb2.cells _ _ hg0).trans d0
                have x1 := (hb2.cells _ _ hg0).trans d1
                have x2 := (hb2.cells _ _ hg0).trans d2
                have hg := Nat.lt_of_lt_of_le hg0 hb2.le
                have HBH := Lib.hid (rbehindB_any w.heap.size _ (.slice Ax X.a.length cx) rest X w7 hb2.le (RestK.k HRK7.out hb2) (by have := HRL.out; omega) (IntsK.below HXI0.out hb2))
                unfold BhPost at HBH
                clear hb2
                go_wp2_with fail
                refine HBH.out.mono ?_
                rintro e W19 ⟨v19, R19, rfl, har, hm19, hB⟩
                have HB19 := Lib.hid (HB7.out.trans hB)
                have HM19 := Lib.hid (HM7.out.bel hB HB7.out.le)
                have HRK19 : Hid (RestK w W19 v19 (rest ++ [X])) := Lib.hid (.inr ⟨R19, har, hm19⟩)
                obtain ⟨A19, c19, rfl, _⟩ := har.form
                clear har hm19 hB HBH x0 x1 x2 hg
                go_wp2
                go_roundw
                case rel => exact ⟨k + 1, ⟨W19, HB19.out⟩, rest ++ [X], out, L, hlt, by go_num, rfl, HM19.out, HRK19.out, by have := HRL.out; simp; omega, by have := HLK.out; omega, HLS.out, HIS.out, HLO.out, HF4.out⟩
                case measure => simp [intOf]; omega
            · have t0 : (er != 0) = true := by simp [her]
              have HM2 : Hid (minusM m a b = ([], er)) := Lib.hid (by rw [HM.out, HER2.out her])
              clear her HST2 HER2
              go_wp2
              go_ret2
              exact m0_nil HM2.out HB7.out
        · obtain rfl : k = b.length := by omega
          have hd : decide ((b.length : Int) < (b.length : Int)) = false := by simp
          have HP : Hid (M0Post (minusM m a b) w (.returned (.tuple #[.slice A9 L.length c9, .int .i64 0])) y.w) := Lib.hid (by
            have hF := HF.out
            rw [List.drop_length] at hF
            refine ⟨_, L, ?_, HMS.out, ?_, HB.out⟩
            · rw [HM.out, ← hF]; rfl
            · rw [HM.out, ← hF, HLO.out]; rfl)
          go_wp2
          go_ret2
          exact HP.out
    · have h1 : (checkM n b != 0) = true := by simp [hcb]
      have HF : Hid (minusM n a b = ([], checkM n b)) := Lib.hid (by
        have hc2 : check2 n a b = checkM n b := by unfold check2; rw [if_neg (by simp [hca])]
        unfold minusM
        rw [if_pos (by rw [hc2]; exact hcb), hc2])
      clear hca hcb
      generalize checkM n b = er at *
      go_wp2
      go_ret2
      exact m0_nil HF.out HB2.out
  · have h0 : (checkM n a == 0) = false := by simp [hca]
    have h1 : (checkM n a != 0) = true := by simp [hca]
    have HF : Hid (minusM n a b = ([], checkM n a)) := Lib.hid (by
      have hc2 : check2 n a b = checkM n a := by unfold check2; rw [if_pos hca]
      unfold minusM
      rw [if_pos (by rw [hc2]; exact hca), hc2])
    clear hca
    generalize checkM n a = er at *
    go_wp2
    go_ret2
    exact m0_nil HF.out HB1.out
end Go.Proofs.Ytalphoebmefgoaa
