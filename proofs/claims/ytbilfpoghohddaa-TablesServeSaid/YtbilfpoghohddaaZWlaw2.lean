/- TablesServe: the walk. -/
import Derived.Test.YtbilfpoghohddaaZWlaw1
import Derived.Test.YtbilfpoghohddaaZWtab2
import Derived.Test.YtbilfpoghohddaaZSfix
import Derived.Test.YtbilfpoghohddaaZSrdem
import Derived.Test.YtbilfpoghohddaaZTpick
import Derived.Deep.CutRange
namespace Go.Proofs.Ytbilfpoghohddaa
open Go.RowKit
def grB (l : List Tsk) (k : Nat) : Bool := if k = 1 then (fixedM l).2.1 else (demandM l).1
theorem dem_ok {l : List Tsk} (h : (demandM l).1 = true) : (demandM l).2.2 = 0 := by
  unfold demandM at h ⊢
  split <;> (try split) <;> (try split) <;> (try split) <;> simp_all
theorem grants {l : List Tsk} (h0 : rchk l = 0) (he : (hyp l).2 = 0) (ho : offsB l = false) {k : Nat} (hk : k = 1 ∨ k = 2) (hg : grB l k = true) : (makeT l k).2 = 0 := by
  unfold grB at hg
  rcases hk with rfl | rfl
  · exact make_fixed h0 he ho hg
  · exact make_demand h0 he ho hg
set_option maxRecDepth 100000 in
set_option maxHeartbeats 16000000 in
theorem serve_any (v : Value) (l : List Tsk) (at_ : Int) (w : World) (h : TsksAt w w.heap.size v l) (hl : l.length ≤ 9223372036854775807)
    (hs : ∀ i, i < l.length → (tskAt l i).secs.length ≤ 9223372036854775807 ∧ (tskAt l i).name.size ≤ 9223372036854775807) (hwf : ∀ i, i < l.length → (tskAt l i).wf) (hat : i64 at_) :
    Calls Try.prog 7 #[v, .int .i64 at_] w fun e w' => e = .returned (.bool true) ∧ Bel w w' := by
  have HS := Lib.hid hs
  have HW := Lib.hid hwf
  have HT := Lib.hid h
  have HAT := Lib.hid hat
  obtain ⟨A, c, rfl, _⟩ := h.form
  clear h hs hwf hat
  go_enter Try.func7, Try.ntmps7
  go_wp2_with fail
  refine (shown37_any _).mono ?_
  rintro e w2 ⟨rfl, hB⟩
  have HT2 := Lib.hid (HT.out.keep hB.keeps hB.le)
  have HB2 := Lib.hid hB
  clear hB HT
  go_wp2_with fail
  refine (beyond_any _ l w2 HT2.out HS.out hl).mono ?_
  rintro e w2' ⟨rfl, hw⟩
  obtain rfl : w2' = w2 := hw
  cases hbe : beyond l
  case true =>
    go_wp2
    go_ret
    exact ⟨rfl, HB2.out⟩
  have HZ := Lib.hid (sized_of hbe HW.out)
  clear hbe
  go_wp2_with fail
  refine (rcheck_any _ l w2' HT2.out HZ.out.len HZ.out.parts).mono ?_
  rintro e w3 ⟨rfl, hB⟩
  have HT3 := Lib.hid (HT2.out.keep hB.keeps hB.le)
  have HB3 := Lib.hid (HB2.out.trans hB)
  clear hB HT2 HB2
  by_cases h0 : rchk l = 0
  case neg =>
    have q1 : (rchk l == 0) = false := by simpa using h0
    have q2 : (rchk l != 0) = true := by simpa using h0
    generalize rchk l = rc at *
    clear h0
    go_wp2
    go_ret
    exact ⟨rfl, HB3.out⟩
  rw [h0]
  have H0 := Lib.hid h0
  clear h0
  go_wp2_with fail
  refine (long_any _ l w3 HT3.out HZ.out).mono ?_
  rintro e w4 ⟨rfl, hB⟩
  have HT4 := Lib.hid (HT3.out.keep hB.keeps hB.le)
  have HB4 := Lib.hid (HB3.out.trans hB)
  clear hB HT3 HB3
  cases hlo : longB l
  case true =>
    go_wp2
    go_ret
    exact ⟨rfl, HB4.out⟩
  clear hlo
  go_wp2_with fail
  refine (rhyper_any _ l w4 HT4.out HZ.out.len HZ.out.parts).mono ?_
  rintro e w5 ⟨rfl, hB⟩
  have HT5 := Lib.hid (HT4.out.keep hB.keeps hB.le)
  have HB5 := Lib.hid (HB4.out.trans hB)
  clear hB HT4 HB4
  by_cases he : (hyp l).2 = 0
  case neg =>
    have HR : Hid ((makeT l 1).2 = 7) := Lib.hid (make_range H0.out he)
    have q1 : ((hyp l).2 == 0) = false := by simpa using he
    have q2 : ((hyp l).2 != 0) = true := by simpa using he
    generalize (hyp l).2 = er at *
    generalize (hyp l).1 = hh at *
    clear he
    go_wp2_with fail
    refine (make_any _ l 1 w5 HT5.out HZ.out).mono ?_
    rintro e w6 ⟨va, rfl, hm, hB⟩
    rw [HR.out]
    obtain ⟨Aa, ca, rfl, _⟩ := hm.ints.form
    have HB6 := Lib.hid (HB5.out.trans hB)
    clear hm hB
    generalize (makeT l 1).1.length = N1 at *
    go_wp2
    go_ret
    exact ⟨rfl, HB6.out.alloc _⟩
  rw [he]
  have HE := Lib.hid he
  clear he
  generalize (hyp l).1 = hh at *
  go_wp2_with fail
  refine (rfixed_any _ l w5 HT5.out HZ.out).mono ?_
  rintro e w6 ⟨vf, rfl, hvf, hB, _⟩
  obtain ⟨Af, cf, rfl, _⟩ := hvf.form
  have HT6 := Lib.hid (HT5.out.keep hB.keeps hB.le)
  have HB6 := Lib.hid (HB5.out.trans hB)
  clear hvf hB HT5 HB5
  generalize (fixedM l).1.length = NF at *
  generalize (fixedM l).2.2 = ef at *
  go_wp2_with fail
  refine (rDemand_any _ l w6 HT6.out HZ.out).mono ?_
  rintro e w7 ⟨rfl, hB⟩
  have HT7 := Lib.hid (HT6.out.keep hB.keeps hB.le)
  have HB7 := Lib.hid (HB6.out.trans hB)
  clear hB HT6 HB6
  generalize (demandM l).2.1 = dt at *
  have HDO : Hid ((demandM l).1 = true → (demandM l).2.2 = 0) := Lib.hid dem_ok
  have HG1 : Hid (grB l 1 = (fixedM l).2.1) := Lib.hid rfl
  have HG2 : Hid (grB l 2 = (demandM l).1) := Lib.hid rfl
  have HGR : Hid (∀ k : Nat, k = 1 ∨ k = 2 → offsB l = false → grB l k = true → (makeT l k).2 = 0) := Lib.hid (fun k hk ho hg => grants H0.out HE.out ho hk hg)
  generalize (demandM l).2.2 = de at *
  generalize (demandM l).1 = dm at *
  generalize (fixedM l).2.1 = fx at *
  go_wp2
  go_loopw [15] (fun s15 wr => ∃ (k : Nat) (z : Ext w7), 1 ≤ k ∧ k ≤ 3 ∧ s15 = .int .i64 k ∧ wr = z.w) (fun s15 _ => 3 - (intOf s15).toNat)
  case atStart => exact ⟨1, ⟨_, Bel.refl⟩, by omega, by omega, rfl, rfl⟩
  case round =>
    obtain ⟨k, z, hk1, hk3, rfl, rfl⟩ := hrel
    by_cases hk : k = 3
    · subst hk
      go_wp2
      go_ret
      exact ⟨rfl, HB7.out.trans z.bel⟩
    have hk12 : k = 1 ∨ k = 2 := by omega
    have HK := Lib.hid hk12
    have hd : decide ((k : Int) ≤ 2) = true := by simp; omega
    clear hk
    go_wp2_with fail
    refine (make_any _ l k z.w (HT7.out.keep z.bel.keeps z.bel.le) HZ.out).mono ?_
    rintro e w8 ⟨va, rfl, hm, hB⟩
    obtain ⟨Aa, ca, rfl, _⟩ := hm.ints.form
    have HM8 := Lib.hid hm
    have HB8 := Lib.hid (z.bel.trans hB)
    clear hm hB
    go_upto_region 15 with (fail)
    generalize hW : World.alloc w8 _ = w9 at *
    have hB : Bel w8 w9 := by rw [← hW]; exact Bel.refl.alloc _
    have r16 : RowAt w9 w8.heap.size 25 [.slice Aa (makeT l k).1.length ca] := by rw [← hW]; exact RowAt.new _ _ _
    clear hW
    have HR := Lib.hid r16
    have HM9 := Lib.hid (HM8.out.bel hB)
    have HB9 := Lib.hid (HB8.out.trans hB)
    have HN16 : Hid (w7.heap.size ≤ w8.heap.size) := Lib.hid HB8.out.le
    clear r16 hB HM8 HB8
    generalize w8.heap.size = n16 at *
    go_cut [18] from 70 to 85 (fun s18 wx => s18 = .bool (grB l k) ∧ wx = w9)
    case first =>
      rcases HK.out with rfl | rfl
      · cases fx
        all_goals
          go_wp2
          go_meet
          case rel => exact ⟨by rw [HG1.out], rfl⟩
      · cases dm
        · go_wp2
          go_meet
          case rel => exact ⟨by rw [HG2.out], rfl⟩
        · obtain rfl := HDO.out rfl
          go_wp2
          go_meet
          case rel => exact ⟨by rw [HG2.out], rfl⟩
    case rest =>
    obtain ⟨rfl, rfl⟩ := hcut
    obtain ⟨z9, rfl⟩ := ext_of HB9.out
    have HGK := Lib.hid (HGR.out k HK.out)
    clear HGR HDO HG1 HG2
    generalize grB l k = gr at *
    have x0 := HR.out.cell (i := 0) rfl
    have x1 := HR.out.lt
    have HOF := Lib.hid (roffs_any _ l z9.w (HT7.out.keep z9.bel.keeps z9.bel.le) HZ.out.len)
    by_cases hmk : (makeT l k).2 = 0
    case neg =>
      have hno := make_no H0.out HE.out hmk
      have HNO := Lib.hid hno
      clear hno
      have q1 : ((makeT l k).2 == 0) = false := by simpa using hmk
      have q2 : ((makeT l k).2 != 0) = true := by simpa using hmk
      have HGF : Hid (gr = true → offsB l = true) := Lib.hid (fun hg => by
        cases ho : offsB l
        · exact absurd (HGK.out ho hg) hmk
        · rfl)
      have HEE := Lib.hid HNO.out.2
      have HLL : Hid ((makeT l k).1.length = 0) := Lib.hid (by rw [HNO.out.1]; rfl)
      clear HGK hmk HM9 HNO
      generalize (makeT l k).2 = er at *
      generalize (makeT l k).1.length = N1 at *
      obtain rfl : N1 = 0 := HLL.out
      cases gr
      · rcases HEE.out with rfl | rfl
        all_goals
          go_wp2
          go_roundw
          case rel => exact ⟨k + 1, _, by omega, by omega, by go_num, rfl⟩
          case measure => simp [intOf]; omega
      · rw [HGF.out rfl] at HOF
        rcases HEE.out with rfl | rfl
        all_goals
          clear x0 x1
          go_wp2_with fail
          refine HOF.out.mono ?_
          rintro e w10 ⟨rfl, hB⟩
          have x0 := (HR.out.bel hB).cell (i := 0) rfl
          have x1 := (HR.out.bel hB).lt
          obtain ⟨z10, rfl⟩ := ext_of (z9.bel.trans hB)
          clear hB
          go_wp2
          go_roundw
          case rel => exact ⟨k + 1, _, by omega, by omega, by go_num, rfl⟩
          case measure => simp [intOf]; omega
    have HCH : Hid (chkT l (makeT l k).1 = 0) := Lib.hid (make_chk hmk)
    have HSP : Hid (∀ q, q < (makeT l k).1.length → chkT l ((makeT l k).1.set q (if (makeT l k).1.getD q 0 < 0 then 0 else -1)) = 370) := Lib.hid (fun q hq => make_spoilt hmk hq)
    obtain ⟨H, hH1, hH2, hlen⟩ : ∃ H : Nat, 1 ≤ H ∧ H ≤ 20000 ∧ (makeT l k).1.length = H := by
      obtain ⟨H, _, _, a, b, _, _, _, e, _⟩ := make_ok hmk
      exact ⟨H, a, b, by rw [e, tabN_len]⟩
    rw [hmk]
    have HM10 := HM9
    clear HM9 hmk HGK
    generalize (makeT l k).1 = xs at *
    subst hlen
    obtain ⟨br, rfl, rfl, hbr, hrow⟩ : ∃ br, Aa = some ⟨br, 0, none⟩ ∧ ca = xs.length ∧ w7.heap.size ≤ br ∧ RowAt z9.w br 3 (intsC xs) := by
      rcases HM10.out with ⟨_, e⟩ | ⟨b, e, hb, hr⟩
      · rw [e] at hH1; simp at hH1
      · injection e with e1 e2 e3
        exact ⟨b, e1, e3, Nat.le_trans z.bel.le hb, hr⟩
    have HNE : Hid (br ≠ n16) := Lib.hid (fun e => by
      have h1 := HR.out
      unfold RowAt at h1
      unfold RowAt at hrow
      rw [e, h1] at hrow
      injection hrow with hrow
      injection hrow with _ hrow
      exact absurd hrow (by decide))
    have HRW := Lib.hid hrow
    have HBR := Lib.hid hbr
    clear hrow hbr HM10 x0 x1
    go_upto_region 16 with (fail)
    go_cut [95] from 86 to 95 (fun s95 wx => s95 = .bool false ∧ Bel z9.w wx)
    case first =>
      cases gr
      · go_wp2
        go_meet
        case rel => exact ⟨rfl, Bel.refl⟩
      · generalize offsB l = ob at *
        cases ob
        all_goals
          go_wp2_with fail
          refine HOF.out.mono ?_
          rintro e w10 ⟨rfl, hB⟩
          have HB := Lib.hid hB
          clear hB
          go_wp2
          go_meet
          case rel => exact ⟨rfl, HB.out⟩
    case rest =>
    obtain ⟨rfl, hB⟩ := hcut
    have HR10 := Lib.hid (HR.out.bel hB)
    have HRW10 := Lib.hid (HRW.out.bel hB)
    have HB10 := Lib.hid (z9.bel.trans hB)
    clear hB HR HRW HOF
    have x0 := HR10.out.cell (i := 0) rfl
    have x1 := HR10.out.lt
    go_wp2_with fail
    refine (checkT_any _ _ l xs wc (HT7.out.keep HB10.out.keeps HB10.out.le) (IntsAt.of_row HRW10.out) (by omega) HZ.out).mono ?_
    rintro e w11 ⟨rfl, hB⟩
    rw [HCH.out]
    have HR11 := Lib.hid (HR10.out.bel hB)
    have HRW11 := Lib.hid (HRW10.out.bel hB)
    have HB11 := Lib.hid (HB10.out.trans hB)
    clear hB HR10 HRW10 HB10 x0 x1 HCH
    have x0 := HR11.out.cell (i := 0) rfl
    have x1 := HR11.out.lt
    go_wp2_with fail
    refine (pick_any at_ xs.length w11 (by omega) (by omega) HAT.out).mono ?_
    rintro e w12 ⟨⟨q, hq, rfl⟩, hB⟩
    have HR12 := Lib.hid (HR11.out.bel hB)
    have HRW12 := Lib.hid (HRW11.out.bel hB)
    have HB12 := Lib.hid (HB11.out.trans hB)
    clear hB HR11 HRW11 HB11 x0 x1
    have hql : q < xs.length := by omega
    have HSQ := Lib.hid (HSP.out q hql)
    clear HSP
    obtain ⟨u, hu⟩ : ∃ u, xs[q]? = some u := ⟨_, List.getElem?_eq_getElem hql⟩
    have hgd : xs.getD q 0 = u := by simp [List.getD, hu]
    rw [hgd] at HSQ
    have x0 := HR12.out.cell (i := 0) rfl
    have x1 := HR12.out.lt
    have a0 := HRW12.out.cell (i := q) (v := .int .i64 u) (by unfold intsC; rw [List.getElem?_map, hu]; rfl)
    have a1 := HRW12.out.frozen q
    have a2 := HRW12.out.lt
    have hset : ∀ (W : World) (x : Int) (ys : List Int), RowAt W br 3 (intsC ys) → RowAt (W.setCell ⟨br, q, none⟩ (.int .i64 x)) br 3 (intsC (ys.set q x)) := fun W x ys h => by unfold intsC; rw [List.map_set]; exact h.set _ _
    have R1 := Lib.hid (hset _ (-1) _ HRW12.out)
    have X1 := Lib.hid (HR12.out.far (a := ⟨br, q, none⟩) (Ne.symm HNE.out) (.int .i64 (-1)))
    have B1 := Lib.hid (HB12.out.set (p := ⟨br, q, none⟩) HBR.out (.int .i64 (-1)))
    have HST := Lib.hid hset
    have HU := Lib.hid hu
    clear hgd hu hset HR12 HRW12 HB12
    by_cases hneg : u < 0
    · have hdn : decide (u < 0) = true := by simpa using hneg
      rw [if_pos hneg] at HSQ
      clear hneg
      go_upto_region 26 with (fail)
      generalize hW : World.setCell w12 _ _ = w13 at *
      clear hW x0 x1 a0 a1 a2
      have b0 := X1.out.cell (i := 0) rfl
      have b1 := X1.out.lt
      have a0 := R1.out.cell (i := q) (v := .int .i64 (-1)) (by unfold intsC; rw [List.getElem?_map, List.getElem?_set_self hql]; rfl)
      have a1 := R1.out.frozen q
      have a2 := R1.out.lt
      have R2 : Hid (RowAt (w13.setCell ⟨br, q, none⟩ (.int .i64 0)) br 3 (intsC (xs.set q 0))) := Lib.hid (by
        have := HST.out _ 0 _ R1.out
        rw [List.set_set] at this; exact this)
      have X2 := Lib.hid (X1.out.far (a := ⟨br, q, none⟩) (Ne.symm HNE.out) (.int .i64 0))
      have B2 := Lib.hid (B1.out.set (p := ⟨br, q, none⟩) HBR.out (.int .i64 0))
      clear R1 X1 B1
      go_upto_region 28 with (fail)
      generalize hW : World.setCell w13 _ _ = w14 at *
      clear hW b0 b1 a0 a1 a2
      have b0 := X2.out.cell (i := 0) rfl
      have b1 := X2.out.lt
      have hci := IntsAt.of_row R2.out
      rw [List.length_set] at hci
      go_wp2_with fail
      refine (checkT_any _ _ l (xs.set q 0) w14 (HT7.out.keep B2.out.keeps B2.out.le) hci (by rw [List.length_set]; omega) HZ.out).mono ?_
      rintro e w15 ⟨rfl, hB⟩
      rw [HSQ.out]
      obtain ⟨z15, rfl⟩ := ext_of (B2.out.trans hB)
      clear hB hci b0 b1 B2 X2 R2
      go_wp2
      go_roundw
      case rel => exact ⟨k + 1, z15, by omega, by omega, by go_num, rfl⟩
      case measure => simp [intOf]; omega
    · have hdn : decide (u < 0) = false := by simpa using hneg
      rw [if_neg hneg] at HSQ
      clear hneg
      go_upto_region 28 with (fail)
      generalize hW : World.setCell w12 _ _ = w13 at *
      clear hW x0 x1 a0 a1 a2
      have b0 := X1.out.cell (i := 0) rfl
      have b1 := X1.out.lt
      have hci := IntsAt.of_row R1.out
      rw [List.length_set] at hci
      go_wp2_with fail
      refine (checkT_any _ _ l (xs.set q (-1)) w13 (HT7.out.keep B1.out.keeps B1.out.le) hci (by rw [List.length_set]; omega) HZ.out).mono ?_
      rintro e w15 ⟨rfl, hB⟩
      rw [HSQ.out]
      obtain ⟨z15, rfl⟩ := ext_of (B1.out.trans hB)
      clear hB hci b0 b1 B1 X1 R1
      go_wp2
      go_roundw
      case rel => exact ⟨k + 1, z15, by omega, by omega, by go_num, rfl⟩
      case measure => simp [intOf]; omega
end Go.Proofs.Ytbilfpoghohddaa
