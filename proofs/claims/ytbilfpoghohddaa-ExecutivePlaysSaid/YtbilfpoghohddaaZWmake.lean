/- tables.Make. -/
import Derived.Test.YtbilfpoghohddaaG12
import Derived.Test.YtbilfpoghohddaaG13
import Derived.Test.YtbilfpoghohddaaZHrun
import Derived.Deep.CutRange
namespace Go.Proofs.Ytbilfpoghohddaa
open Go.RowKit
/-- a fresh slice of ints that may be written -/
def MadeAt (base : Nat) (w : World) (v : Value) (xs : List Int) : Prop :=
  (v = .slice none 0 0 ∧ xs = []) ∨ ∃ b, v = .slice (some ⟨b, 0, none⟩) xs.length xs.length ∧ base ≤ b ∧ RowAt w b 3 (intsC xs)
def MakePost (M : List Int × Int) (w : World) (e : Ending) (w' : World) : Prop :=
  ∃ v, e = .returned (.tuple #[.agg #[v], .int .i64 M.2]) ∧ MadeAt w.heap.size w' v M.1 ∧ Bel w w'
theorem sched_len (l : List Tsk) (pol ticks : Int) : (scheduleM l pol ticks).1.length ≤ 1000000 ∧ (scheduleM l pol ticks).2.1.length ≤ 1000000 := by
  by_cases h0 : rchk l = 0
  · by_cases hp : (pol ≠ 1 ∧ (pol ≠ 2 ∨ secsB l = true)) ∨ ticks < 0
    · unfold scheduleM; rw [if_pos h0, if_pos hp]; simp
    · by_cases ht : 20000 < ticks
      · unfold scheduleM; rw [if_pos h0, if_neg hp, if_pos ht]; simp
      · obtain ⟨n, rfl⟩ : ∃ n : Nat, ticks = n := ⟨ticks.toNat, by omega⟩
        rw [sched_ok h0 (fun h => hp (.inl h)) (by omega)]
        have := upTo_len h0 pol (n := n) (by omega)
        simp; omega
  · unfold scheduleM; rw [if_neg h0]; simp
theorem makePost_err {w w' : World} {M : List Int × Int} {c : Int} (hM : M = ([], c)) (hb : Bel w w') : MakePost M w (.returned (.tuple #[.agg #[.slice none 0 0], .int .i64 c])) w' := by
  subst hM
  exact ⟨_, rfl, .inl ⟨rfl, rfl⟩, hb⟩
set_option maxRecDepth 100000 in
set_option maxHeartbeats 8000000 in
theorem make_any (v : Value) (l : List Tsk) (pol : Int) (w : World) (h : TsksAt w w.heap.size v l) (hs : Sized l) :
    Calls Try.prog 24 #[v, .int .i64 pol] w (MakePost (makeT l pol) w) := by
  have HH := Lib.hid (fun (W : World) (hW : Bel w W) => hyperO_any v l W (h.keep hW.keeps hW.le) hs)
  have HRUN := Lib.hid (fun (W : World) (hW : Bel w W) (t : Int) => run_any v l pol t W (h.keep hW.keeps hW.le) hs)
  obtain ⟨A, c, rfl, hlc⟩ := h.form
  clear h
  go_enter Try.func24, Try.ntmps24
  go_wp2_with fail
  generalize hW : World.alloc w _ = W1 at *
  have r4 : RowAt W1 w.heap.size 25 [.slice none 0 0] := by rw [← hW]; exact RowAt.new _ _ _
  have hb1 : Bel w W1 := by rw [← hW]; exact Bel.refl.alloc _
  clear hW
  obtain ⟨n4, hn4⟩ : ∃ n, n = w.heap.size := ⟨_, rfl⟩
  rw [← hn4] at r4 ⊢
  have HN4 := Lib.hid hn4
  clear hn4
  refine (HH.out _ hb1).mono ?_
  rintro e w2 ⟨rfl, hb⟩
  have HB2 := Lib.hid (hb1.trans hb)
  have HR42 := Lib.hid (r4.bel hb)
  clear hb hb1 r4 HH
  by_cases he : (hypO l).2 = 0
  case neg =>
    have HM : Hid (makeT l pol = ([], (hypO l).2)) := Lib.hid (by unfold makeT; rw [if_neg he])
    have q1 : ((hypO l).2 == 0) = false := by simpa using he
    have q2 : ((hypO l).2 != 0) = true := by simpa using he
    generalize (hypO l).2 = er at *
    generalize (hypO l).1 = H at *
    clear he
    have e0 := HR42.out.cell (i := 0) rfl
    have g0 := HR42.out.frozen 0
    have ez := HR42.out.lt
    have R := Lib.hid (HR42.out.set 0 (.slice none 0 0))
    have B := Lib.hid (HB2.out.set (p := ⟨n4, 0, none⟩) (by rw [HN4.out]; exact Nat.le_refl _) (.slice none 0 0))
    go_wp2
    generalize World.setCell _ ⟨n4, 0, none⟩ _ = W5 at *
    have w0 := R.out.cell (i := 0) rfl
    exact bodyPost_ret (v := .tuple #[.agg #[.slice none 0 0], .int .i64 er]) (by simp [results, Try.results24, go_sem, w0]) rfl (makePost_err HM.out B.out)
  have h0 : rchk l = 0 := rchk_pos_e (by
    unfold hypO at he
    split at he
    · cases he
    · exact he)
  have hH : hypO l = hyp l := by
    unfold hypO at he ⊢
    split at he
    · cases he
    · next hn => rw [if_neg hn]
  have hhd := hyp_dvd h0 (by rw [← hH]; exact he)
  rw [← hH] at hhd
  have hh1 := hhd.2.1
  have hh2 := hhd.2.2
  have HM : Hid (makeT l pol = if (scheduleM l pol (hypO l).1).2.2 = 0 then if (scheduleM l pol (hypO l).1).2.1.any missD then ([], 370) else (paintS (scheduleM l pol (hypO l).1).1 (List.replicate (hypO l).1.toNat (-1)), 0)
    else ([], (scheduleM l pol (hypO l).1).2.2)) := Lib.hid (by unfold makeT; rw [if_pos he])
  rw [he]
  clear hhd hH he
  obtain ⟨H, hHn⟩ : ∃ H : Nat, (hypO l).1 = H := ⟨(hypO l).1.toNat, by omega⟩
  rw [hHn] at hh1 hh2 HM ⊢
  clear hHn
  rw [Int.toNat_natCast] at HM
  have hHm : H ≤ 20000 := by omega
  clear hh2
  have H0 := Lib.hid h0
  clear h0
  go_wp2_with fail
  refine (HRUN.out _ HB2.out (H : Int)).mono ?_
  rintro e w3 ⟨vs, vj, rfl, hvs, hvj, hb⟩
  have HSI := Lib.hid (fun (s : Stn) (hs : s ∈ (scheduleM l pol (H : Int)).1) => stints_in H0.out pol hHm hs)
  have HLN : (scheduleM l pol (H : Int)).1.length ≤ 1000000 ∧ (scheduleM l pol (H : Int)).2.1.length ≤ 1000000 := sched_len l pol H
  generalize scheduleM l pol (H : Int) = M at *
  obtain ⟨ss, js, er⟩ := M
  dsimp only at hvs hvj HM HSI HLN ⊢
  obtain ⟨A1, c1, rfl, _⟩ := hvs.form
  obtain ⟨A2, c2, rfl, _⟩ := hvj.form
  have HVS := Lib.hid hvs
  have HVJ := Lib.hid hvj
  have HB3 := Lib.hid (HB2.out.trans hb)
  have HR43 := Lib.hid (HR42.out.bel hb)
  clear hvs hvj hb HB2 HR42 HRUN
  go_upto_region 5 with (fail)
  generalize hW : World.alloc w3 _ = w4 at *
  have r8 : RowAt w4 w3.heap.size 74 [.slice A1 ss.length c1, .slice A2 js.length c2] := by rw [← hW]; exact RowAt.new _ _ _
  have hB : Bel w3 w4 := by rw [← hW]; exact Bel.refl.alloc _
  clear hW
  have HR8 := Lib.hid r8
  have HVS4 := Lib.hid (HVS.out.keep hB.keeps hB.le)
  have HVJ4 := Lib.hid (HVJ.out.keep hB.keeps hB.le)
  have HB4 := Lib.hid (HB3.out.trans hB)
  have HR44 := Lib.hid (HR43.out.bel hB)
  have HN8 : Hid (w.heap.size ≤ w3.heap.size) := Lib.hid HB3.out.le
  clear r8 hB HVS HVJ HB3 HR43
  generalize w3.heap.size = n8 at *
  by_cases her : er = 0
  case neg =>
    have HM2 : Hid (makeT l pol = ([], er)) := Lib.hid (by rw [HM.out, if_neg her])
    have q1 : (er == 0) = false := by simpa using her
    have q2 : (er != 0) = true := by simpa using her
    clear her
    have e0 := HR44.out.cell (i := 0) rfl
    have g0 := HR44.out.frozen 0
    have ez := HR44.out.lt
    have R := Lib.hid (HR44.out.set 0 (.slice none 0 0))
    have B := Lib.hid (HB4.out.set (p := ⟨n4, 0, none⟩) (by rw [HN4.out]; exact Nat.le_refl _) (.slice none 0 0))
    go_wp2
    generalize World.setCell _ ⟨n4, 0, none⟩ _ = W5 at *
    have w0 := R.out.cell (i := 0) rfl
    exact bodyPost_ret (v := .tuple #[.agg #[.slice none 0 0], .int .i64 er]) (by simp [results, Try.results24, go_sem, w0]) rfl (makePost_err HM2.out B.out)
  subst her
  have HM2 : Hid (makeT l pol = if js.any missD then ([], 370) else (paintS ss (List.replicate H (-1)), 0)) := Lib.hid (by rw [HM.out, if_pos rfl])
  clear HM
  have HJ := Lib.hid (mk1_has _ js w4 HVJ4.out HLN.2)
  have x0 := HR8.out.cell (i := 0) rfl
  have x1 := HR8.out.cell (i := 1) rfl
  have xz := HR8.out.lt
  go_wp2_with fail
  refine HJ.out.mono ?_
  rintro e w5 ⟨rfl, hb⟩
  have HVS5 := Lib.hid (HVS4.out.keep hb.keeps hb.le)
  have HB5 := Lib.hid (HB4.out.trans hb)
  have HR45 := Lib.hid (HR44.out.bel hb)
  have HR85 := Lib.hid (HR8.out.bel hb)
  clear hb HVS4 HVJ4 HB4 HR44 HR8 x0 x1 xz HJ
  cases hms : js.any missD
  case true =>
    have HM3 : Hid (makeT l pol = ([], 370)) := Lib.hid (by rw [HM2.out, hms]; rfl)
    clear hms HM2
    have e0 := HR45.out.cell (i := 0) rfl
    have g0 := HR45.out.frozen 0
    have ez := HR45.out.lt
    have R := Lib.hid (HR45.out.set 0 (.slice none 0 0))
    have B := Lib.hid (HB5.out.set (p := ⟨n4, 0, none⟩) (by rw [HN4.out]; exact Nat.le_refl _) (.slice none 0 0))
    go_wp2
    generalize World.setCell _ ⟨n4, 0, none⟩ _ = W5 at *
    have w0 := R.out.cell (i := 0) rfl
    exact bodyPost_ret (v := .tuple #[.agg #[.slice none 0 0], .int .i64 370]) (by simp [results, Try.results24, go_sem, w0]) rfl (makePost_err HM3.out B.out)
  have HM3 : Hid (makeT l pol = (paintS ss (List.replicate H (-1)), 0)) := Lib.hid (by rw [HM2.out, hms]; rfl)
  clear hms HM2
  go_wp2_with fail
  refine (filled_any H (-1) w5 (by omega)).mono ?_
  rintro e w6 ⟨rfl, hrow, hb⟩
  have HROW := Lib.hid hrow
  have HB6 := Lib.hid hb
  have hnr : ∃ nr, nr = w5.heap.size := ⟨_, rfl⟩
  obtain ⟨nr, hnr⟩ := hnr
  have HNR : Hid (w5.heap.size ≤ nr) := Lib.hid (Nat.le_of_eq hnr.symm)
  rw [← hnr] at HROW ⊢
  clear hrow hb hnr
  go_upto_region 10 with (fail)
  generalize hW : World.alloc w6 _ = w7 at *
  have r9 : RowAt w7 w6.heap.size 25 [.slice (some ⟨nr, 0, none⟩) H H] := by rw [← hW]; exact RowAt.new _ _ _
  have hB : Bel w6 w7 := by rw [← hW]; exact Bel.refl.alloc _
  clear hW
  have HR97 := Lib.hid r9
  have HROW7 := Lib.hid (HROW.out.bel hB)
  have HN9 : Hid (w5.heap.size ≤ w6.heap.size) := Lib.hid HB6.out.le
  obtain ⟨x, rfl⟩ := ext_of (HB6.out.trans hB)
  clear r9 hB HROW HB6
  generalize w6.heap.size = n9 at *
  have HNE : Hid (n9 ≠ nr) := Lib.hid (by
    intro e
    have h1 := HR97.out
    have h2 := HROW7.out
    unfold RowAt at h1 h2
    rw [e, h2] at h1
    injection h1 with h1
    injection h1 with _ h1
    exact absurd h1 (by decide))
  have b0 := HR85.out.cell (i := 0) rfl
  have bz := HR85.out.lt
  go_wp2_with fail
  have HPL : Hid (paintS (ss.drop 0) (List.replicate H (-1)) = paintS ss (List.replicate H (-1))) := Lib.hid rfl
  have HRW0 : Hid (RowAt x.w nr 3 (intsC (List.replicate H (-1)))) := Lib.hid (by unfold intsC; rw [List.map_replicate]; exact HROW7.out)
  clear HROW7 b0 bz
  go_loopw [43] (fun si wr => ∃ (i : Nat) (z : Ext w5) (xs : List Int), i ≤ ss.length ∧ si = .int .i64 i ∧ wr = z.w ∧ RowAt z.w nr 3 (intsC xs) ∧ RowAt z.w n9 25 [.slice (some ⟨nr, 0, none⟩) H H] ∧ xs.length = H ∧ paintS (ss.drop i) xs = paintS ss (List.replicate H (-1))) (fun si _ => ss.length - (intOf si).toNat)
  case atStart => exact ⟨0, x, _, by omega, rfl, rfl, HRW0.out, HR97.out, by simp, HPL.out⟩
  case round =>
    clear HRW0 HR97 HPL
    obtain ⟨i, z, xs, hi, rfl, rfl, hrw, hr9, hxl, hpl⟩ := hrel
    by_cases hlt : i < ss.length
    · obtain ⟨bs, os, rfl, hbs, hS⟩ := HVS5.out.at_ (by omega)
      obtain ⟨s0, s1, s2, s3⟩ := rd_stn hlt hS
      clear hS
      have hmem : stAt ss i ∈ ss := by simp [stAt, List.getD, hlt]
      obtain ⟨f1, f2, f3, f4, f5⟩ := HSI.out _ hmem
      have hl8 := (rchk_ok H0.out).1
      have hdr : ss.drop i = stAt ss i :: ss.drop (i + 1) := by rw [List.drop_eq_getElem_cons hlt]; simp [stAt, List.getD, hlt]
      rw [hdr] at hpl
      simp only [paintS] at hpl
      generalize stAt ss i = st at *
      obtain ⟨tk, jb, frm, to_⟩ := st
      dsimp only at s0 s1 s2 s3 f1 f2 f3 f4 f5 hpl
      have HPL := Lib.hid hpl
      have HRW := Lib.hid hrw
      have HR9 := Lib.hid hr9
      have HXL := Lib.hid hxl
      clear hpl hrw hr9 hxl hmem hdr
      obtain ⟨F, rfl⟩ : ∃ F : Nat, frm = F := ⟨frm.toNat, by omega⟩
      obtain ⟨T, rfl⟩ : ∃ T : Nat, to_ = T := ⟨to_.toNat, by omega⟩
      obtain ⟨d, rfl⟩ : ∃ d : Nat, T = F + d := ⟨T - F, by omega⟩
      have hfd : F + d ≤ H := by omega
      go_upto_region 13 with (fail)
      generalize hW : World.alloc z.w _ = w8 at *
      have r11 : RowAt w8 z.w.heap.size 90 [.int .i64 tk, .int .i64 jb, .int .i64 F, .int .i64 (F + d : Nat)] := by rw [← hW]; exact RowAt.new _ _ _
      have hB : Bel z.w w8 := by rw [← hW]; exact Bel.refl.alloc _
      clear hW s0 s1 s2 s3 HVS5
      have HR11 := Lib.hid r11
      have HR9w := Lib.hid (HR9.out.bel hB)
      have HRWw := Lib.hid (HRW.out.bel hB)
      have HN11 : Hid (z.w.heap.size ≠ nr ∧ z.w.heap.size ≠ n9) := Lib.hid ⟨Nat.ne_of_gt HRW.out.lt, Nat.ne_of_gt HR9.out.lt⟩
      obtain ⟨y, rfl⟩ := ext_of (z.bel.trans hB)
      clear r11 hB HR9 HRW
      generalize z.w.heap.size = n11 at *
      have y2 := HR11.out.cell (i := 2) rfl
      have y3 := HR11.out.cell (i := 3) rfl
      have yz := HR11.out.lt
      go_upto_region 14 with (fail)
      rw [show (F : Int) + (d : Int) - (F : Int) = (d : Int) from by omega]
      have HF0 : Hid (fillS tk (d - 0) (F + 0) xs = fillS tk d F xs) := Lib.hid rfl
      clear y2 y3 yz
      go_loopw [52] (fun ti wr => ∃ (t : Nat) (z2 : Ext w5) (ys : List Int), t ≤ d ∧ ti = .int .i64 t ∧ wr = z2.w ∧ RowAt z2.w nr 3 (intsC ys) ∧ RowAt z2.w n9 25 [.slice (some ⟨nr, 0, none⟩) H H] ∧ RowAt z2.w n11 90 [.int .i64 tk, .int .i64 jb, .int .i64 F, .int .i64 (F + d : Nat)] ∧ ys.length = H ∧ fillS tk (d - t) (F + t) ys = fillS tk d F xs) (fun ti _ => d - (intOf ti).toNat)
      case atStart => exact ⟨0, y, xs, by omega, rfl, rfl, HRWw.out, HR9w.out, HR11.out, HXL.out, HF0.out⟩
      case round =>
        clear HRWw HR9w HR11 HF0
        obtain ⟨t, z2, ys, ht, rfl, rfl, hrw, hr9, hr11, hyl, hf⟩ := hrel
        by_cases hlt2 : t < d
        · obtain ⟨g, hg⟩ : ∃ g, d - t = g + 1 := ⟨d - t - 1, by omega⟩
          rw [hg] at hf
          simp only [fillS] at hf
          rw [show F + t + 1 = F + (t + 1) by omega, show g = d - (t + 1) by omega] at hf
          clear hg
          have a0 := hr9.cell (i := 0) rfl
          have a1 := hr9.lt
          have a2 := hr11.cell (i := 2) rfl
          have a3 := hr11.cell (i := 0) rfl
          have a4 := hr11.lt
          have a5 := hrw.lt
          have a6 := hrw.frozen (F + t)
          obtain ⟨q, hq⟩ : ∃ q, ys[F + t]? = some q := ⟨_, List.getElem?_eq_getElem (by omega)⟩
          have a7 := hrw.cell (i := F + t) (v := .int .i64 q) (by unfold intsC; rw [List.getElem?_map, hq]; rfl)
          have hb1 : (F : Int) + (t : Int) < (H : Int) := by omega
          have HR9n := Lib.hid (hr9.far (a := ⟨nr, F + t, none⟩) HNE.out (.int .i64 tk))
          have HR11n := Lib.hid (hr11.far (a := ⟨nr, F + t, none⟩) HN11.out.1 (.int .i64 tk))
          have HRWn : Hid (RowAt (z2.w.setCell ⟨nr, F + t, none⟩ (.int .i64 tk)) nr 3 (intsC (ys.set (F + t) tk))) := Lib.hid (by unfold intsC; rw [List.map_set]; exact hrw.set _ _)
          have HYL : Hid ((ys.set (F + t) tk).length = H) := Lib.hid (by rw [List.length_set]; exact hyl)
          have HBN := Lib.hid (z2.bel.set (p := ⟨nr, F + t, none⟩) HNR.out (.int .i64 tk))
          have HFF := Lib.hid hf
          clear hrw hr9 hr11 hyl hf hq
          go_wp2
          generalize hW9 : World.setCell z2.w _ _ = w9 at *
          obtain ⟨z3, rfl⟩ := ext_of HBN.out
          clear hW9
          go_roundw
          case rel => exact ⟨t + 1, z3, _, by omega, by go_num, rfl, HRWn.out, HR9n.out, HR11n.out, HYL.out, HFF.out⟩
          case measure => simp [intOf]; omega
        · obtain rfl : t = d := by omega
          have HPN : Hid (paintS (ss.drop (i + 1)) ys = paintS ss (List.replicate H (-1))) := Lib.hid (by
            rw [← HPL.out, Int.toNat_natCast, show ((F + t : Nat) : Int) - (F : Int) = (t : Int) by omega, Int.toNat_natCast, ← hf, Nat.sub_self]; rfl)
          have HR9n := Lib.hid hr9
          have HRWn := Lib.hid hrw
          have HYL := Lib.hid hyl
          clear hf hr9 hrw hyl hr11
          go_wp2
          go_roundw
          case rel => exact ⟨i + 1, z2, ys, by omega, by go_num, rfl, HRWn.out, HR9n.out, HYL.out, HPN.out⟩
          case measure => simp [intOf]; omega
    · obtain rfl : i = ss.length := by omega
      have HP : Hid (makeT l pol = (xs, 0)) := Lib.hid (by rw [HM3.out, ← hpl, List.drop_length]; rfl)
      have HRW := Lib.hid hrw
      have HXL := Lib.hid hxl
      have e0 := hr9.cell (i := 0) rfl
      have e1 := hr9.lt
      have r4 := HR45.out.bel z.bel
      have g0 := r4.frozen 0
      have g1 := r4.cell (i := 0) rfl
      have g2 := r4.lt
      have R := Lib.hid (r4.set 0 (.slice (some ⟨nr, 0, none⟩) H H))
      have B := Lib.hid ((HB5.out.trans z.bel).set (p := ⟨n4, 0, none⟩) (by rw [HN4.out]; exact Nat.le_refl _) (.slice (some ⟨nr, 0, none⟩) H H))
      have RW := Lib.hid (hrw.far (a := ⟨n4, 0, none⟩) (fun (e : nr = n4) => by
        have h1 := r4
        unfold RowAt at h1
        unfold RowAt at hrw
        rw [e, h1] at hrw
        injection hrw with hrw
        injection hrw with _ hrw
        exact absurd hrw (by decide)) (.slice (some ⟨nr, 0, none⟩) H H))
      clear hpl hrw hr9 hxl r4
      go_wp2
      generalize World.setCell _ ⟨n4, 0, none⟩ _ = W5 at *
      have w0 := R.out.cell (i := 0) rfl
      refine bodyPost_ret (v := .tuple #[.agg #[.slice (some ⟨nr, 0, none⟩) H H], .int .i64 0]) (by simp [results, Try.results24, go_sem, w0]) rfl ?_
      rw [HP.out]
      exact ⟨_, rfl, .inr ⟨nr, by rw [HXL.out], Nat.le_trans HB5.out.le HNR.out, RW.out⟩, B.out⟩
end Go.Proofs.Ytbilfpoghohddaa
