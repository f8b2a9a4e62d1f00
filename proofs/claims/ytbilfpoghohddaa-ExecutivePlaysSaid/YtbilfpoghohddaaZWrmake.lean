/- foliotref37.Make. -/
import Derived.Test.YtbilfpoghohddaaZWmake
import Derived.Test.YtbilfpoghohddaaZHrrun
import Derived.Test.YtbilfpoghohddaaG9
import Derived.Test.YtbilfpoghohddaaG4
import Derived.Test.YtbilfpoghohddaaG1
import Derived.Test.YtbilfpoghohddaaG6
namespace Go.Proofs.Ytbilfpoghohddaa
open Go.RowKit
theorem makeT_on {l : List Tsk} {pol : Int} (h : (hyp l).2 = 0) (ho : offsB l = false) : makeT l pol = if (scheduleM l pol (hyp l).1).2.2 = 0 then if (scheduleM l pol (hyp l).1).2.1.any missD then ([], 370) else (paintS (scheduleM l pol (hyp l).1).1 (List.replicate (hyp l).1.toNat (-1)), 0)
    else ([], (scheduleM l pol (hyp l).1).2.2) := by
  have e : hypO l = hyp l := by unfold hypO; rw [if_neg (fun q => by rw [ho] at q; cases q.2)]
  unfold makeT; rw [e, if_pos h]
theorem makeT_err {l : List Tsk} {pol : Int} (h : (hyp l).2 ≠ 0) : makeT l pol = ([], (hyp l).2) := by
  have e : hypO l = hyp l := by unfold hypO; rw [if_neg (fun q => h q.1)]
  unfold makeT; rw [e, if_neg h]
theorem makeT_off {l : List Tsk} {pol : Int} (h : (hyp l).2 = 0) (ho : offsB l = true) : makeT l pol = ([], 2) := by
  have e : hypO l = ((hyp l).1, 2) := by unfold hypO; rw [if_pos ⟨h, ho⟩]
  unfold makeT; rw [e]; rfl
def polB (l : List Tsk) (pol : Int) : Bool := decide (pol = 1) || (decide (pol = 2) && !secsB l)
theorem sched_bad {l : List Tsk} {pol : Int} {n : Nat} (h0 : rchk l = 0) (hp : polB l pol = false) : scheduleM l pol n = ([], [], 2) := by
  unfold scheduleM
  rw [if_pos h0, if_pos]
  left
  unfold polB at hp
  simp at hp
  refine ⟨hp.1, ?_⟩
  by_cases h : pol = 2
  · right; exact hp.2 h
  · left; exact h
theorem sched_good {l : List Tsk} {pol : Int} {n : Nat} (h0 : rchk l = 0) (hp : polB l pol = true) (hn : n ≤ 20000) : (scheduleM l pol n).2.2 = 0 := by
  rw [sched_ok h0 _ hn]
  intro h
  unfold polB at hp
  simp at hp
  rcases hp with hp | hp
  · exact h.1 hp
  · rcases h.2 with h | h
    · exact h hp.1
    · rw [h] at hp; cases hp.2
theorem bad_split {ob pb : Bool} (h : false = (ob || !pb)) : ob = false ∧ pb = true := by cases ob <;> cases pb <;> simp at h ⊢
set_option maxRecDepth 100000 in
set_option maxHeartbeats 16000000 in
theorem rmake_any (v : Value) (l : List Tsk) (pol : Int) (w : World) (h : TsksAt w w.heap.size v l) (hs : Sized l) :
    Calls Try.prog 25 #[v, .int .i64 pol] w (MakePost (makeT l pol) w) := by
  have HH := Lib.hid (fun (W : World) (hW : Bel w W) => rhyper_any v l W (h.keep hW.keeps hW.le) hs.len hs.parts)
  have HO := Lib.hid (fun (W : World) (hW : Bel w W) => roffs_any v l W (h.keep hW.keeps hW.le) hs.len)
  have HAL := Lib.hid (fun (W : World) (hW : Bel w W) => allowed_any v l pol W (h.keep hW.keeps hW.le) hs.len)
  have HRUN := Lib.hid (fun (W : World) (hW : Bel w W) (t : Int) => rrun_any v l pol t W (h.keep hW.keeps hW.le) hs)
  obtain ⟨A, c, rfl, hlc⟩ := h.form
  clear h
  go_enter Try.func25, Try.ntmps25
  go_wp2_with fail
  generalize hW : World.alloc w _ = W1 at *
  have r4 : RowAt W1 w.heap.size 25 [.slice none 0 0] := by rw [← hW]; exact RowAt.new _ _ _
  have hb1 : Bel w W1 := by rw [← hW]; exact Bel.refl.alloc _
  clear hW
  obtain ⟨n4, hn4⟩ : ∃ n, n = w.heap.size := ⟨_, rfl⟩
  rw [← hn4] at r4 ⊢
  have HN4 := Lib.hid hn4
  clear hn4
  refine (HH.out _ hb1).mono ?_
  rintro e w2 ⟨rfl, hb⟩
  have HB2 := Lib.hid (hb1.trans hb)
  have HR42 := Lib.hid (r4.bel hb)
  clear hb hb1 r4 HH
  by_cases he : (hyp l).2 = 0
  case neg =>
    have HM : Hid (makeT l pol = ([], (hyp l).2)) := Lib.hid (makeT_err he)
    have q1 : ((hyp l).2 == 0) = false := by simpa using he
    have q2 : ((hyp l).2 != 0) = true := by simpa using he
    generalize (hyp l).2 = er at *
    generalize (hyp l).1 = H at *
    clear he
    have e0 := HR42.out.cell (i := 0) rfl
    have g0 := HR42.out.frozen 0
    have ez := HR42.out.lt
    have R := Lib.hid (HR42.out.set 0 (.slice none 0 0))
    have B := Lib.hid (HB2.out.set (p := ⟨n4, 0, none⟩) (by rw [HN4.out]; exact Nat.le_refl _) (.slice none 0 0))
    go_wp2
    generalize World.setCell _ ⟨n4, 0, none⟩ _ = W5 at *
    have w0 := R.out.cell (i := 0) rfl
    exact bodyPost_ret (v := .tuple #[.agg #[.slice none 0 0], .int .i64 er]) (by simp [results, Try.results25, go_sem, w0]) rfl (makePost_err HM.out B.out)
  have h0 : rchk l = 0 := rchk_pos_e he
  have hhd := hyp_dvd h0 he
  have hh1 := hhd.2.1
  have hh2 := hhd.2.2
  have HON : Hid (offsB l = false → makeT l pol = if (scheduleM l pol (hyp l).1).2.2 = 0 then if (scheduleM l pol (hyp l).1).2.1.any missD then ([], 370) else (paintS (scheduleM l pol (hyp l).1).1 (List.replicate (hyp l).1.toNat (-1)), 0)
    else ([], (scheduleM l pol (hyp l).1).2.2)) := Lib.hid (fun q => makeT_on he q)
  have HOF : Hid (offsB l = true → makeT l pol = ([], 2)) := Lib.hid (fun q => makeT_off he q)
  rw [he]
  clear hhd he
  obtain ⟨H, hHn⟩ : ∃ H : Nat, (hyp l).1 = H := ⟨(hyp l).1.toNat, by omega⟩
  rw [hHn] at hh1 hh2 HON ⊢
  clear hHn
  rw [Int.toNat_natCast] at HON
  have hHm : H ≤ 20000 := by omega
  clear hh2
  have H0 := Lib.hid h0
  clear h0
  -- offsets, policy
  obtain ⟨bad, hbad⟩ : ∃ bad, bad = (offsB l || !polB l pol) := ⟨_, rfl⟩
  have HOB := Lib.hid hbad
  have HALL : Hid (∀ (W : World), Bel w W → Calls Try.prog 44 #[.slice A l.length c, .int .i64 pol] W fun e w' => e = .returned (.bool (polB l pol)) ∧ Bel W w') := HAL
  clear hbad HAL
  generalize hob : offsB l = ob at *
  generalize hpb : polB l pol = pb at *
  have HPB := Lib.hid hpb
  have HOBB := Lib.hid hob
  clear hob hpb
  go_upto_region 4 with (fail)
  go_cut [31] from 24 (fun sl wx => sl = .bool bad ∧ ∃ x : Ext w2, wx = x.w)
  case first =>
    have hb := HOB.out
    go_wp2_with fail
    refine (HO.out _ HB2.out).mono ?_
    rintro e w3 ⟨rfl, hb3⟩
    obtain ⟨x3, rfl⟩ := ext_of hb3
    clear hb3
    cases ob
    · obtain rfl : bad = !pb := by rw [hb]; rfl
      clear hb
      go_wp2_with fail
      refine (HALL.out _ (HB2.out.trans x3.bel)).mono ?_
      rintro e w4 ⟨rfl, hb4⟩
      obtain ⟨x4, rfl⟩ := ext_of (x3.bel.trans hb4)
      clear hb4
      go_wp2
      go_meet
      case rel => exact ⟨rfl, _, rfl⟩
    · obtain rfl : bad = true := by rw [hb]; rfl
      clear hb
      go_wp2
      go_meet
      case rel => exact ⟨rfl, _, rfl⟩
  case rest =>
  obtain ⟨rfl, x, rfl⟩ := hcut
  have HBX := Lib.hid (HB2.out.trans x.bel)
  have HR4x := Lib.hid (HR42.out.bel x.bel)
  clear HB2 HR42 HO HALL
  cases bad
  case true =>
    have HM : Hid (makeT l pol = ([], 2)) := Lib.hid (by
      cases ob
      · have hp : pb = false := by have := HOB.out; simpa using this
        rw [HON.out rfl, sched_bad H0.out (by rw [HPB.out]; exact hp)]
        rfl
      · exact HOF.out rfl)
    clear HOF HON HOB
    have e0 := HR4x.out.cell (i := 0) rfl
    have g0 := HR4x.out.frozen 0
    have ez := HR4x.out.lt
    have R := Lib.hid (HR4x.out.set 0 (.slice none 0 0))
    have B := Lib.hid (HBX.out.set (p := ⟨n4, 0, none⟩) (by rw [HN4.out]; exact Nat.le_refl _) (.slice none 0 0))
    go_wp2
    generalize World.setCell _ ⟨n4, 0, none⟩ _ = W5 at *
    have w0 := R.out.cell (i := 0) rfl
    exact bodyPost_ret (v := .tuple #[.agg #[.slice none 0 0], .int .i64 2]) (by simp [results, Try.results25, go_sem, w0]) rfl (makePost_err HM.out B.out)
  obtain ⟨rfl, hpb⟩ := bad_split HOB.out
  have HM : Hid (makeT l pol = if (scheduleM l pol H).2.1.any missD then ([], 370) else (paintS (scheduleM l pol H).1 (List.replicate H (-1)), 0)) := Lib.hid (by
    rw [HON.out rfl, if_pos (sched_good H0.out (by rw [HPB.out, hpb]) hHm)])
  have HE0 : Hid ((scheduleM l pol (H : Int)).2.2 = 0) := Lib.hid (sched_good H0.out (by rw [HPB.out, hpb]) hHm)
  clear hpb HON HOF HOB HOBB
  go_wp2_with fail
  refine (HRUN.out _ HBX.out (H : Int)).mono ?_
  rintro e w3 ⟨vs, vj, rfl, hvs, hvj, hb⟩
  have HSI := Lib.hid (fun (s : Stn) (hs : s ∈ (scheduleM l pol (H : Int)).1) => stints_in H0.out pol hHm hs)
  have HLN : (scheduleM l pol (H : Int)).1.length ≤ 1000000 ∧ (scheduleM l pol (H : Int)).2.1.length ≤ 1000000 := sched_len l pol H
  generalize scheduleM l pol (H : Int) = M at *
  obtain ⟨ss, js, er⟩ := M
  dsimp only at hvs hvj HM HSI HLN HE0 ⊢
  obtain rfl : er = 0 := HE0.out
  obtain ⟨A1, c1, rfl, _⟩ := hvs.form
  obtain ⟨A2, c2, rfl, _⟩ := hvj.form
  have HVS := Lib.hid hvs
  have HVJ := Lib.hid hvj
  have HB3 := Lib.hid (HBX.out.trans hb)
  have HR43 := Lib.hid (HR4x.out.bel hb)
  clear hvs hvj hb HBX HR4x HRUN HE0
  go_upto_region 7 with (fail)
  generalize hW : World.alloc w3 _ = w4 at *
  have r8 : RowAt w4 w3.heap.size 74 [.slice A1 ss.length c1, .slice A2 js.length c2] := by rw [← hW]; exact RowAt.new _ _ _
  have hB : Bel w3 w4 := by rw [← hW]; exact Bel.refl.alloc _
  clear hW
  have HR8 := Lib.hid r8
  have HVS4 := Lib.hid (HVS.out.keep hB.keeps hB.le)
  have HVJ4 := Lib.hid (HVJ.out.keep hB.keeps hB.le)
  have HB4 := Lib.hid (HB3.out.trans hB)
  have HR44 := Lib.hid (HR43.out.bel hB)
  have HN8 : Hid (w.heap.size ≤ w3.heap.size) := Lib.hid HB3.out.le
  clear r8 hB HVS HVJ HB3 HR43
  generalize w3.heap.size = n8 at *
  have x0 := HR8.out.cell (i := 0) rfl
  have x1 := HR8.out.cell (i := 1) rfl
  have xz := HR8.out.lt
  have HMD : Hid ((js.drop 0).any missD = js.any missD) := Lib.hid rfl
  go_wp2
  go_loop [10] (fun si => ∃ (j : Nat), j ≤ js.length ∧ si = .int .i64 j ∧ (js.drop j).any missD = js.any missD) (fun si => js.length - (intOf si).toNat)
  case atStart => exact ⟨0, by omega, rfl, HMD.out⟩
  case round =>
    clear HMD
    obtain ⟨j, hj, rfl, hd⟩ := hrel
    by_cases hlt : j < js.length
    · obtain ⟨bj, oj, rfl, hbj, hA⟩ := HVJ4.out.at_ (by omega)
      obtain ⟨d0, d1, d2, d3, d4⟩ := rd_don hlt hA
      rw [dn_drop hlt, List.any_cons] at hd
      clear hA d0 d1 d2 d3
      generalize hm : (dnAt js j).miss = ms at *
      have hm2 : missD (dnAt js j) = ms := hm
      rw [hm2] at hd
      clear hm hm2
      cases ms
      · have HD : Hid ((js.drop (j + 1)).any missD = js.any missD) := Lib.hid (by rw [← hd, Bool.false_or])
        clear hd
        go_wp2
        go_round
        case rel => exact ⟨j + 1, by omega, by go_num, HD.out⟩
        case measure => simp [intOf]; omega
      · have HM3 : Hid (makeT l pol = ([], 370)) := Lib.hid (by rw [HM.out, ← hd, Bool.true_or]; rfl)
        clear hd HM
        have e0 := HR44.out.cell (i := 0) rfl
        have g0 := HR44.out.frozen 0
        have ez := HR44.out.lt
        have R := Lib.hid (HR44.out.set 0 (.slice none 0 0))
        have B := Lib.hid (HB4.out.set (p := ⟨n4, 0, none⟩) (by rw [HN4.out]; exact Nat.le_refl _) (.slice none 0 0))
        go_wp2
        generalize World.setCell _ ⟨n4, 0, none⟩ _ = W5 at *
        have w0 := R.out.cell (i := 0) rfl
        exact bodyPost_ret (v := .tuple #[.agg #[.slice none 0 0], .int .i64 370]) (by simp [results, Try.results25, go_sem, w0]) rfl (makePost_err HM3.out B.out)
    · obtain rfl : j = js.length := by omega
      have HM3 : Hid (makeT l pol = (paintS ss (List.replicate H (-1)), 0)) := Lib.hid (by rw [HM.out, ← hd, List.drop_length]; rfl)
      clear hd HM
      have HVS5 := HVS4
      have HB5 := HB4
      have HR85 := HR8
      have HR45 := HR44
      clear HVS4 HB4 HR8 HR44 HVJ4
      obtain ⟨ii, hi, hz0, hz1, hz2⟩ := info_parts Try.infoInt
      have hmk := make_ints (P := Try.prog) Try.underlying23 hi hz0 hz1 hz2 H (by omega) w4
      have hr := row_made w4 3 H
      have hb : Bel w4 (w4.alloc (.cells (madeCells (Value.int .i64 0).cells (H * 1)) 3)) := Bel.refl.alloc _
      generalize w4.alloc (.cells (madeCells (Value.int .i64 0).cells (H * 1)) 3) = w6 at *
      clear hi hz0 hz1 hz2
      obtain ⟨nr, hnr⟩ : ∃ nr, nr = w4.heap.size := ⟨_, rfl⟩
      rw [← hnr] at hmk hr
      have HNR : Hid (w4.heap.size ≤ nr) := Lib.hid (Nat.le_of_eq hnr.symm)
      have HRW := Lib.hid hr
      have HB6 := Lib.hid hb
      clear hnr hr hb
      go_upto_region 13 with (fail)
      clear hmk x1
      generalize hW : World.alloc w6 _ = w7 at *
      have r11 : RowAt w7 w6.heap.size 25 [.slice (some ⟨nr, 0, none⟩) H H] := by rw [← hW]; exact RowAt.new _ _ _
      have hB : Bel w6 w7 := by rw [← hW]; exact Bel.refl.alloc _
      clear hW
      have HR11 := Lib.hid r11
      have HRW7 : Hid (RowAt w7 nr 3 (filledL H 0 (-1))) := Lib.hid (by have := HRW.out.bel hB; simpa [filledL] using this)
      have HN11 : Hid (w4.heap.size ≤ w6.heap.size) := Lib.hid HB6.out.le
      obtain ⟨x7, rfl⟩ := ext_of (HB6.out.trans hB)
      clear r11 hB HRW HB6
      generalize w6.heap.size = n11 at *
      have HNE : Hid (n11 ≠ nr) := Lib.hid (by
        intro e
        have h1 := HR11.out
        have h2 := HRW7.out
        unfold RowAt at h1 h2
        rw [e, h2] at h1
        injection h1 with h1
        injection h1 with _ h1
        exact absurd h1 (by decide))
      go_wp2
      go_loopw [12] (fun si wr => ∃ (k : Nat) (z : Ext w4), k ≤ H ∧ si = .int .i64 k ∧ wr = z.w ∧ RowAt z.w nr 3 (filledL H k (-1)) ∧ RowAt z.w n11 25 [.slice (some ⟨nr, 0, none⟩) H H]) (fun si _ => H - (intOf si).toNat)
      case atStart => exact ⟨0, x7, by omega, rfl, rfl, HRW7.out, HR11.out⟩
      case round =>
        clear HRW7 HR11
        obtain ⟨k, z, hk, rfl, rfl, hr, hr11⟩ := hrel
        have b0 := hr11.cell (i := 0) rfl
        have b1 := hr11.lt
        by_cases hlt : k < H
        · have e0 := hr.cell (i := k) (v := .int .i64 0) (by unfold filledL; rw [List.getElem?_append_right (by simp), List.length_replicate, Nat.sub_self, List.getElem?_replicate, if_pos (by omega)])
          have g0 := hr.frozen k
          have ez := hr.lt
          have HR : Hid (RowAt (z.w.setCell ⟨nr, k, none⟩ (.int .i64 (-1))) nr 3 (filledL H (k + 1) (-1))) := Lib.hid (by rw [← filledL_set (-1) hlt]; exact hr.set k _)
          have HR11 := Lib.hid (hr11.far (a := ⟨nr, k, none⟩) HNE.out (.int .i64 (-1)))
          have HB := Lib.hid (z.bel.set (p := ⟨nr, k, none⟩) HNR.out (.int .i64 (-1)))
          clear hr hr11
          go_wp2
          generalize hW9 : World.setCell z.w _ _ = w9 at *
          obtain ⟨z3, rfl⟩ := ext_of HB.out
          clear hW9
          go_roundw
          case rel => exact ⟨k + 1, z3, by omega, by go_num, rfl, HR.out, HR11.out⟩
          case measure => simp [intOf]; omega
        · obtain rfl : k = H := by omega
          have HRW0 : Hid (RowAt z.w nr 3 (intsC (List.replicate k (-1)))) := Lib.hid (by unfold intsC; rw [List.map_replicate]; simpa [filledL] using hr)
          have HR97 := Lib.hid hr11
          have HPL : Hid (paintS (ss.drop 0) (List.replicate k (-1)) = paintS ss (List.replicate k (-1))) := Lib.hid rfl
          clear hr hr11
          go_wp2
          clear b0 b1
          go_loopw [13] (fun si wr => ∃ (i : Nat) (z : Ext w4) (xs : List Int), i ≤ ss.length ∧ si = .int .i64 i ∧ wr = z.w ∧ RowAt z.w nr 3 (intsC xs) ∧ RowAt z.w n11 25 [.slice (some ⟨nr, 0, none⟩) k k] ∧ xs.length = k ∧ paintS (ss.drop i) xs = paintS ss (List.replicate k (-1))) (fun si _ => ss.length - (intOf si).toNat)
          case atStart => exact ⟨0, z, _, by omega, rfl, rfl, HRW0.out, HR97.out, by simp, HPL.out⟩
          case round =>
            clear HRW0 HR97 HPL
            obtain ⟨i, z, xs, hi, rfl, rfl, hrw, hr9, hxl, hpl⟩ := hrel
            by_cases hlt : i < ss.length
            · obtain ⟨bs, os, rfl, hbs, hS⟩ := HVS5.out.at_ (by omega)
              obtain ⟨s0, s1, s2, s3⟩ := rd_stn hlt hS
              clear hS
              have hmem : stAt ss i ∈ ss := by simp [stAt, List.getD, hlt]
              obtain ⟨f1, f2, f3, f4, f5⟩ := HSI.out _ hmem
              have hl8 := (rchk_ok H0.out).1
              have hdr : ss.drop i = stAt ss i :: ss.drop (i + 1) := by rw [List.drop_eq_getElem_cons hlt]; simp [stAt, List.getD, hlt]
              rw [hdr] at hpl
              simp only [paintS] at hpl
              generalize stAt ss i = st at *
              obtain ⟨tk, jb, frm, to_⟩ := st
              dsimp only at s0 s1 s2 s3 f1 f2 f3 f4 f5 hpl
              obtain ⟨F, rfl⟩ : ∃ F : Nat, frm = F := ⟨frm.toNat, by omega⟩
              obtain ⟨T, rfl⟩ : ∃ T : Nat, to_ = T := ⟨to_.toNat, by omega⟩
              have HPL : Hid (paintS (ss.drop (i + 1)) (fillS tk (T - F) F xs) = paintS ss (List.replicate k (-1))) := Lib.hid (by rw [← hpl, Int.toNat_natCast, show ((T : Int) - (F : Int)).toNat = T - F by omega])
              have HRWw := Lib.hid hrw
              have HR9w := Lib.hid hr9
              have HXL := Lib.hid hxl
              clear hpl hrw hr9 hxl hmem hdr s1
              have hft : F ≤ T := by omega
              have htk : T ≤ k := by omega
              go_wp2
              go_loopw [14] (fun ti wr => ∃ (t : Nat) (z2 : Ext w4) (ys : List Int), F ≤ t ∧ t ≤ T ∧ ti = .int .i64 t ∧ wr = z2.w ∧ RowAt z2.w nr 3 (intsC ys) ∧ RowAt z2.w n11 25 [.slice (some ⟨nr, 0, none⟩) k k] ∧ ys.length = k ∧ fillS tk (T - t) t ys = fillS tk (T - F) F xs) (fun ti _ => T - (intOf ti).toNat)
              case atStart => exact ⟨F, z, xs, by omega, by omega, rfl, rfl, HRWw.out, HR9w.out, HXL.out, rfl⟩
              case round =>
                clear HRWw HR9w
                obtain ⟨t, z2, ys, hFt, ht, rfl, rfl, hrw, hr9, hyl, hf⟩ := hrel
                by_cases hlt2 : t < T
                · obtain ⟨g, hg⟩ : ∃ g, T - t = g + 1 := ⟨T - t - 1, by omega⟩
                  rw [hg] at hf
                  simp only [fillS] at hf
                  rw [show g = T - (t + 1) by omega] at hf
                  clear hg
                  have htk2 : t < k := by omega
                  obtain ⟨q, hq⟩ : ∃ q, ys[t]? = some q := ⟨_, List.getElem?_eq_getElem (by omega)⟩
                  have HRW2 := Lib.hid hrw
                  have HR92 := Lib.hid hr9
                  have HQ := Lib.hid hq
                  have HYL : Hid ((ys.set t tk).length = k) := Lib.hid (by rw [List.length_set]; exact hyl)
                  have HFF := Lib.hid hf
                  clear hrw hr9 hyl hf hq
                  go_upto_region 23 with (fail)
                  have HZB := Lib.hid z2.bel
                  have a0 := HR92.out.cell (i := 0) rfl
                  have a1 := HR92.out.lt
                  have t0 := (z2.bel.cells _ (os + i * 4) hbs).trans s0
                  have t1 := (z2.bel.cells _ 0 xz).trans x0
                  have t2 : n8 < z2.w.heap.size := ext_lt z2 xz
                  have t3 : bs < z2.w.heap.size := ext_lt z2 hbs
                  generalize z2.w = wz at *
                  (refine wp_region_qtail 10 (wb := wz) (by (repeat (first | exact Ext.bel _ | exact Bel.refl | refine Bel.alloc ?_ _ | refine Bel.drew ?_ | refine Bel.drewN ?_ _))) (by kernel_rfl) (by kernel_rfl) ?_; simp only [List.take_succ_cons, List.take_zero, List.drop_succ_cons, List.drop_zero]; (repeat (any_goals (first | go_big_quiet_step (fail) | quiet_step (fail) | (refine wpQuiet_step (fun K hK => ?_); go_simp; split <;> (refine hK _ ?_; clear hK K))))); all_goals (refine wpQuiet_nil ?_; intro _ hw'; obtain ⟨y, hw''⟩ := hw'; subst hw''))
                  have q1 := HRW2.out.bel y.bel
                  have a5 := q1.lt
                  have a6 := q1.frozen t
                  have a7 := q1.cell (i := t) (v := .int .i64 q) (by unfold intsC; rw [List.getElem?_map, HQ.out]; rfl)
                  have HRWn : Hid (RowAt (y.w.setCell ⟨nr, t, none⟩ (.int .i64 tk)) nr 3 (intsC (ys.set t tk))) := Lib.hid (by unfold intsC; rw [List.map_set]; exact q1.set _ _)
                  have HR9n := Lib.hid ((HR92.out.bel y.bel).far (a := ⟨nr, t, none⟩) HNE.out (.int .i64 tk))
                  have HBN := Lib.hid ((HZB.out.trans y.bel).set (p := ⟨nr, t, none⟩) HNR.out (.int .i64 tk))
                  clear q1
                  go_wp2
                  generalize hW9 : World.setCell y.w _ _ = w9 at *
                  obtain ⟨z3, rfl⟩ := ext_of HBN.out
                  clear hW9
                  go_roundw
                  case rel => exact ⟨t + 1, z3, _, by omega, by omega, by go_num, rfl, HRWn.out, HR9n.out, HYL.out, HFF.out⟩
                  case measure => simp [intOf]; omega
                · obtain rfl : t = T := by omega
                  have HPN : Hid (paintS (ss.drop (i + 1)) ys = paintS ss (List.replicate k (-1))) := Lib.hid (by
                    rw [← HPL.out, ← hf, Nat.sub_self]; rfl)
                  have HR9n := Lib.hid hr9
                  have HRWn := Lib.hid hrw
                  have HYL := Lib.hid hyl
                  clear hf hr9 hrw hyl
                  go_wp2
                  go_roundw
                  case rel => exact ⟨i + 1, z2, ys, by omega, by go_num, rfl, HRWn.out, HR9n.out, HYL.out, HPN.out⟩
                  case measure => simp [intOf]; omega
            · obtain rfl : i = ss.length := by omega
              have HP : Hid (makeT l pol = (xs, 0)) := Lib.hid (by rw [HM3.out, ← hpl, List.drop_length]; rfl)
              have HRW := Lib.hid hrw
              have HXL := Lib.hid hxl
              have e0 := hr9.cell (i := 0) rfl
              have e1 := hr9.lt
              have r4 := HR45.out.bel z.bel
              have g0 := r4.frozen 0
              have g1 := r4.cell (i := 0) rfl
              have g2 := r4.lt
              have R := Lib.hid (r4.set 0 (.slice (some ⟨nr, 0, none⟩) k k))
              have B := Lib.hid ((HB5.out.trans z.bel).set (p := ⟨n4, 0, none⟩) (by rw [HN4.out]; exact Nat.le_refl _) (.slice (some ⟨nr, 0, none⟩) k k))
              have RW := Lib.hid (hrw.far (a := ⟨n4, 0, none⟩) (fun (e : nr = n4) => by
                have h1 := r4
                unfold RowAt at h1
                unfold RowAt at hrw
                rw [e, h1] at hrw
                injection hrw with hrw
                injection hrw with _ hrw
                exact absurd hrw (by decide)) (.slice (some ⟨nr, 0, none⟩) k k))
              clear hpl hrw hr9 hxl r4
              go_wp2
              generalize World.setCell _ ⟨n4, 0, none⟩ _ = W5 at *
              have w0 := R.out.cell (i := 0) rfl
              refine bodyPost_ret (v := .tuple #[.agg #[.slice (some ⟨nr, 0, none⟩) k k], .int .i64 0]) (by simp [results, Try.results25, go_sem, w0]) rfl ?_
              rw [HP.out]
              exact ⟨_, rfl, .inr ⟨nr, by rw [HXL.out], Nat.le_trans HB5.out.le HNR.out, RW.out⟩, B.out⟩
end Go.Proofs.Ytbilfpoghohddaa
