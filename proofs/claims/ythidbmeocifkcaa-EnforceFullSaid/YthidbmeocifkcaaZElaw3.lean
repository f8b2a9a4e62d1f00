/- EnforceFull: the walk. -/
import Derived.Test.YthidbmeocifkcaaZEfulm
import Derived.Test.YthidbmeocifkcaaZEshow
namespace Go.Proofs.Ythidbmeocifkcaa
open Go.RowKit
theorem size_al1 (V : World) (o : Obj) : (V.alloc o).heap.size = V.heap.size + 1 := by simp [go_sem]
theorem newP (b : Nat) (W : World) (h : BoolsAt W W.heap.size (.slice (some ⟨b, 0, none⟩) 1 1) [false]) : Calls Try.prog 16 #[.agg #[.int .i64 1, .int .i64 0, .int .i64 0, .slice (some ⟨b, 0, none⟩) 1 1, .slice none 0 0]] W (NewPost W fP) :=
  new_any fP (.slice (some ⟨b, 0, none⟩) 1 1) (.slice none 0 0) W ⟨h, edges0 W _⟩ fP_sized
theorem newQ (b c : Nat) (W : World) (h : BoolsAt W W.heap.size (.slice (some ⟨b, 0, none⟩) 1 1) [true]) (he : EdgesAt W W.heap.size (.slice (some ⟨c, 0, none⟩) 1 1) [⟨0, 0, 0, [], []⟩]) : Calls Try.prog 16 #[.agg #[.int .i64 1, .int .i64 0, .int .i64 0, .slice (some ⟨b, 0, none⟩) 1 1, .slice (some ⟨c, 0, none⟩) 1 1]] W (NewPost W fQ) :=
  new_any fQ (.slice (some ⟨b, 0, none⟩) 1 1) (.slice (some ⟨c, 0, none⟩) 1 1) W ⟨h, he⟩ fQ_sized
theorem u16_of {n : Int} (h : (Lit.int .u16 n).wf = true) : 0 ≤ n ∧ n ≤ 65535 := by
  have e1 : IntKind.u16.min = 0 := by decide
  have e2 : IntKind.u16.max = 65535 := by decide
  simp only [Lit.wf, e1, e2, Bool.and_eq_true, decide_eq_true_eq] at h
  exact h
theorem fI (i : Nat) (h : i ≤ 250) : i64 (i : Int) ∧ i64 0 := by unfold i64; omega
set_option maxRecDepth 100000 in
set_option maxHeartbeats 4000000 in
theorem efull_any (m : Int) (W : World) (hm0 : 0 ≤ m) (hm1 : m ≤ 65535) : Calls Try.prog 5 #[.int .u16 m] W fun e w' => e = .returned (.bool true) ∧ Bel W w' := by
  go_enter Try.func5, Try.ntmps5
  go_wp2_with fail
  refine (shown36_any W).mono ?_
  rintro e W2 ⟨rfl, hB⟩
  have HB2 := Lib.hid hB
  clear hB
  go_upto_region 4 with (fail)
  generalize hW : World.alloc (World.alloc W2 _) _ = W3 at *
  have r1 : RowAt W3 W2.heap.size 4 [.bool false] := by rw [← hW]; exact (RowAt.new _ _ _).alloc _
  have r2 : RowAt W3 (W2.heap.size + 1) 25 [.int .i64 1, .int .i64 0, .int .i64 0, .slice (some ⟨W2.heap.size, 0, none⟩) 1 1, .slice none 0 0] := by
    rw [← hW, ← size_al1 W2 (.cells #[.bool false] 4)]; exact RowAt.new _ _ _
  have hB : Bel W2 W3 := by rw [← hW]; exact (Bel.refl.alloc _).alloc _
  clear hW
  have HB3 := Lib.hid (HB2.out.trans hB)
  have HR2 := Lib.hid r2
  have HBO := Lib.hid (bools1 r1)
  clear r1 r2 hB HB2
  generalize W2.heap.size + 1 = b2 at *
  generalize W2.heap.size = b1 at *
  go_upto_region 5 with (fail)
  generalize hW : World.alloc (World.alloc (World.alloc W3 _) _) _ = W4 at *
  have r3 : RowAt W4 W3.heap.size 4 [.bool true] := by rw [← hW]; exact ((RowAt.new _ _ _).alloc _).alloc _
  have r4 : RowAt W4 (W3.heap.size + 1) 55 [.int .i64 0, .int .i64 0, .int .i64 0, .slice none 0 0, .slice none 0 0] := by
    rw [← hW, ← size_al1 W3 (.cells #[.bool true] 4)]; exact (RowAt.new _ _ _).alloc _
  have r5 : RowAt W4 (W3.heap.size + 1 + 1) 25 [.int .i64 1, .int .i64 0, .int .i64 0, .slice (some ⟨W3.heap.size, 0, none⟩) 1 1, .slice (some ⟨W3.heap.size + 1, 0, none⟩) 1 1] := by
    rw [← hW, ← size_al1 W3 (.cells #[.bool true] 4), ← size_al1 (W3.alloc (.cells #[.bool true] 4)) (.cells #[.int .i64 0, .int .i64 0, .int .i64 0, .slice none 0 0, .slice none 0 0] 55)]
    exact RowAt.new _ _ _
  have hB : Bel W3 W4 := by rw [← hW]; exact ((Bel.refl.alloc _).alloc _).alloc _
  clear hW
  have HB4 := Lib.hid (HB3.out.trans hB)
  have HR4 := Lib.hid (HR2.out.bel hB)
  have HBO4 := Lib.hid (bools_up HBO.out hB)
  have HR5 := Lib.hid r5
  have HBQ := Lib.hid (bools1 r3)
  have HEQ := Lib.hid (edges1 r4)
  clear r3 r4 r5 hB HB3 HR2 HBO
  generalize W3.heap.size + 1 + 1 = b5 at *
  generalize W3.heap.size + 1 = b4 at *
  generalize W3.heap.size = b3 at *
  have q0 := HR4.out.cell (i := 0) rfl
  have q1 := HR4.out.cell (i := 1) rfl
  have q2 := HR4.out.cell (i := 2) rfl
  have q3 := HR4.out.cell (i := 3) rfl
  have q4 := HR4.out.cell (i := 4) rfl
  have qz := HR4.out.lt
  go_wp2_with fail
  refine (newP b1 W4 HBO4.out).mono ?_
  rintro e W5 hN
  clear q0 q1 q2 q3 q4 qz
  rcases hN with ⟨hc, _⟩ | ⟨_, bf, bmf, wm, rfl, hbm, hE⟩
  · exact absurd fP_ok hc
  have hB5 : Bel W4 W5 := hbm.trans hE.b.bel
  have HBM := Lib.hid (HB4.out.trans hbm)
  have HB5 := Lib.hid (HB4.out.trans hB5)
  have HE5 := Lib.hid hE
  have HR5b := Lib.hid (HR5.out.bel hB5)
  have HBQ5 := Lib.hid (bools_up HBQ.out hB5)
  have HEQ5 := Lib.hid (HEQ.out.keep hB5.keeps hB5.le)
  clear hbm hB5 hE HB4 HR4 HBO4 HR5 HBQ HEQ
  have q0 := HR5b.out.cell (i := 0) rfl
  have q1 := HR5b.out.cell (i := 1) rfl
  have q2 := HR5b.out.cell (i := 2) rfl
  have q3 := HR5b.out.cell (i := 3) rfl
  have q4 := HR5b.out.cell (i := 4) rfl
  have qz := HR5b.out.lt
  go_wp2_with fail
  refine (newQ b3 b4 W5 HBQ5.out HEQ5.out).mono ?_
  rintro e W6 hN
  clear q0 q1 q2 q3 q4 qz
  rcases hN with ⟨hc, _⟩ | ⟨_, bg, bmg, V, rfl, hbv, hG⟩
  · exact absurd fQ_ok hc
  have hB6 : Bel W5 W6 := hbv.trans hG.b.bel
  have HF2 : Hid (F2 wm V W6 bf bmf bg bmg (en0 fP) (en0 fQ) (.slice none 0 0) (.slice none 0 0) (.slice none 0 0) (.slice none 0 0)) := Lib.hid
    ⟨HE5.out.after hB6, hG, fun k hk hm => by
      have h1 : k = bf := by
        rcases mem_ownL.mp hk with e | e | e
        · exact e
        · simp [Value.ownBlock] at e
        · simp [Value.ownBlock] at e
      have h2 : k = bg := by
        rcases mem_ownL.mp hm with e | e | e
        · exact e
        · simp [Value.ownBlock] at e
        · simp [Value.ownBlock] at e
      have h3 := HE5.out.b.row.lt
      have h4 := hG.b.nb
      have h5 := hbv.le
      omega, by have h3 := HE5.out.b.row.lt; have h5 := hbv.le; omega, fun k hk => by
      rcases mem_ownL.mp hk with e | e | e
      · exact .inl e
      · simp [Value.ownBlock] at e
      · simp [Value.ownBlock] at e, by have h3 := HE5.out.b.bel.le; have h5 := hbv.le; omega⟩
  have HVF : Hid (PValid fP fP.clks.toNat) := Lib.hid (pvalid_of fP_ok)
  have HVQ : Hid (PValid fQ fQ.clks.toNat) := Lib.hid (pvalid_of fQ_ok)
  have HB6 := Lib.hid (HB5.out.trans hB6)
  clear hbv hG hB6 HE5 HR5b HBQ5 HEQ5
  obtain ⟨N, hN⟩ : ∃ N : Nat, (N : Int) = Int.tmod m 250 := ⟨(Int.tmod m 250).toNat, by rw [Int.tmod_eq_emod_of_nonneg hm0]; omega⟩
  have hN250 : N < 250 := by rw [Int.tmod_eq_emod_of_nonneg hm0] at hN; omega
  have HN250 := Lib.hid hN250
  have hmw : IntKind.i64.wrap m = m := IntWalk.i64_in _ (by omega)
  have hN3 : m % 250 = (N : Int) := by rw [hN, Int.tmod_eq_emod_of_nonneg hm0]
  have hmw2 : IntKind.i64.wrap (Int.tmod m 250) = (N : Int) := by rw [← hN]; exact IntWalk.i64_in _ (by omega)
  have HFN := Lib.hid hN
  clear hN
  go_wp2
  rw [hN3]
  clear hmw hmw2 hN3
  go_loopw [10] (fun s10 wq => ∃ (i : Nat) (U : World) (sf sg : EnS) (hv ov hv' ov' : Value), i ≤ N ∧ s10 = .int .i64 i ∧ Bel W wq ∧ F2 wm U wq bf bmf bg bmg sf sg hv ov hv' ov' ∧ FI i sf ∧ GI i sg ∧ EnOk fP sf ∧ EnOk fQ sg) (fun s10 _ => N - (intOf s10).toNat)
  case atStart => exact ⟨0, V, en0 fP, en0 fQ, _, _, _, _, Nat.zero_le _, rfl, HB6.out, HF2.out, f_start, g_start, en0_ok, en0_ok⟩
  case round =>
    obtain ⟨i, U, sf, sg, hv, ov, hv', ov', hi, rfl, hbq, hF, hfi, hgi, hof, hog⟩ := hrel
    have HBQ := Lib.hid hbq
    have HF := Lib.hid hF
    have HFI := Lib.hid hfi
    have HGI := Lib.hid hgi
    have HOF := Lib.hid hof
    have HOG := Lib.hid hog
    clear hbq hF hfi hgi hof hog
    by_cases hlt : i < N
    · have hd : decide ((i : Int) < (N : Int)) = true := by simp; omega
      have hw : IntKind.i64.wrap ((i : Int) + 1) = ((i + 1 : Nat) : Int) := by rw [show (i : Int) + 1 = ((i + 1 : Nat) : Int) by omega]; exact IntWalk.i64_in _ (by have := HN250.out; omega)
      have HFS := Lib.hid (f_step HFI.out (show i ≤ 250 by have := HN250.out; omega))
      have HGS := Lib.hid (g_step HGI.out (show i ≤ 250 by have := HN250.out; omega))
      have HEV := Lib.hid (event_any ⟨i, 0⟩ HF.out.f HOF.out HVF.out fP_sized (by decide) (fI i (by have := HN250.out; omega)) (fun _ _ => fP_puts))
      go_wp2_with fail
      refine HEV.out.mono ?_
      rintro e w1 ⟨v, hv2, ov2, rfl, hE, hg, hn, hown, _⟩
      obtain ⟨A5, c5, rfl, _⟩ := own_slice hown
      obtain ⟨U2, hF2⟩ := HF.out.first hE hg hn
      have HBQ1 := Lib.hid (bel_grs2 HBQ.out hg (fun k hk => Nat.le_trans HBM.out.le (HF.out.f.b.big k hk).1))
      have HF2b := Lib.hid hF2
      have HOF2 := Lib.hid (event_okP HVF.out HOF.out ⟨i, 0⟩)
      have HEV2 := Lib.hid (event_any ⟨i, 0⟩ hF2.g HOG.out HVQ.out fQ_sized (by decide) (fI i (by have := HN250.out; omega)) (fun _ _ => by
        rw [HGI.out.held]; exact fQ_puts))
      have hr0 : (eventP fP sf ⟨i, 0⟩).2 = ([], if i < 40 then 0 else 5) := HFS.out.1
      obtain ⟨cf, hcf⟩ : ∃ cf : Int, (if i < 40 then 0 else 5) = cf := ⟨_, rfl⟩
      rw [hcf] at hr0
      have HCF := Lib.hid hcf
      rw [hr0] at hown ⊢
      clear hcf
      clear hE hg hn hown hF2 hr0 HEV HF
      go_wp2_with fail
      refine HEV2.out.mono ?_
      rintro e w2 ⟨v, hv3, ov3, rfl, hE, hg, hn, hown, _⟩
      obtain ⟨A6, c6, rfl, _⟩ := own_slice hown
      have HF3 := Lib.hid (HF2b.out.second hE hg hn)
      have HBQ2 := Lib.hid (bel_grs2 HBQ1.out hg (fun k hk => Nat.le_trans (Nat.le_trans HBM.out.le HF2b.out.le) (HF2b.out.g.b.big k hk).1))
      have HOG2 := Lib.hid (event_okP HVQ.out HOG.out ⟨i, 0⟩)
      have hr0 : (eventP fQ sg ⟨i, 0⟩).2 = (if i < 200 then [⟨i, 0⟩] else [], if i < 200 then 0 else 5) := HGS.out.1
      obtain ⟨lg, hlg⟩ : ∃ lg : List PS, (if i < 200 then [⟨i, 0⟩] else []) = lg := ⟨_, rfl⟩
      obtain ⟨cg, hcg⟩ : ∃ cg : Int, (if i < 200 then 0 else 5) = cg := ⟨_, rfl⟩
      rw [hlg, hcg] at hr0
      rw [hr0] at hown ⊢
      have HLG := Lib.hid hlg
      have HCG := Lib.hid hcg
      clear hE hg hn hown hr0 HEV2 HF2b hlg hcg
      by_cases h40 : i < 40
      · have h200 : i < 200 := by omega
        have d40 : decide ((i : Int) < 40) = true := by simp; omega
        have d200 : decide ((i : Int) < 200) = true := by simp; omega
        obtain rfl : cf = 0 := by rw [← HCF.out, if_pos h40]
        obtain rfl : cg = 0 := by rw [← HCG.out, if_pos h200]
        obtain rfl : lg = [⟨i, 0⟩] := by rw [← HLG.out, if_pos h200]
        go_wp2
        go_roundw
        case rel => exact ⟨i + 1, U2, _, _, _, _, _, _, hlt, by go_num, HBQ2.out, HF3.out, HFS.out.2, HGS.out.2, HOF2.out, HOG2.out⟩
        case measure => simp [intOf]; omega
      · have d40 : decide ((i : Int) < 40) = false := by simp; omega
        obtain rfl : cf = 5 := by rw [← HCF.out, if_neg h40]
        by_cases h200 : i < 200
        · have d200 : decide ((i : Int) < 200) = true := by simp; omega
          obtain rfl : cg = 0 := by rw [← HCG.out, if_pos h200]
          obtain rfl : lg = [⟨i, 0⟩] := by rw [← HLG.out, if_pos h200]
          go_wp2
          go_roundw
          case rel => exact ⟨i + 1, U2, _, _, _, _, _, _, hlt, by go_num, HBQ2.out, HF3.out, HFS.out.2, HGS.out.2, HOF2.out, HOG2.out⟩
          case measure => simp [intOf]; omega
        · have d200 : decide ((i : Int) < 200) = false := by simp; omega
          obtain rfl : cg = 5 := by rw [← HCG.out, if_neg h200]
          obtain rfl : lg = [] := by rw [← HLG.out, if_neg h200]
          go_wp2
          go_roundw
          case rel => exact ⟨i + 1, U2, _, _, _, _, _, _, hlt, by go_num, HBQ2.out, HF3.out, HFS.out.2, HGS.out.2, HOF2.out, HOG2.out⟩
          case measure => simp [intOf]; omega
    · obtain rfl : i = N := by omega
      have hd : decide ((i : Int) < (i : Int)) = false := by simp
      by_cases h40 : i ≤ 40
      · have h200 : i ≤ 200 := by omega
        have d40b : decide ((40 : Int) < (i : Int)) = false := by simp; omega
        have d200b : decide ((200 : Int) < (i : Int)) = false := by simp; omega
        have e1 : sf.held.length = i := by rw [HFI.out.held, List.length_replicate]; omega
        have e2 : sf.out = [] := HFI.out.out
        have e3 : sg.held.length = 0 := by rw [HGI.out.held]; rfl
        have e4 : sg.out.length = i := by rw [HGI.out.out]; omega
        have q1 : (((i : Nat) : Int) == (i : Int)) = true := by simp
        have q2 : (((i : Nat) : Int) == (i : Int)) = true := by simp
        have HH1 := eheld_any HF.out.f
        rw [e1] at HH1
        have HHH := Lib.hid HH1
        clear HH1
        have HE2 := Lib.hid e2
        have HE3 := Lib.hid e3
        have HE4 := Lib.hid e4
        clear e1 e2 e3 e4
        go_wp2_with fail
        refine HHH.out.mono ?_
        rintro e w1 ⟨rfl, rfl⟩
        go_wp2_with fail
        refine (eout_any HF.out.f (by rw [HE2.out]; simp)).mono ?_
        rintro e w2 ⟨v, rfl, hown, hb2⟩
        rw [HE2.out] at hown
        obtain ⟨A5, c5, rfl, _⟩ := own_slice hown
        have HF2 := Lib.hid (HF.out.after hb2)
        have HB2 := Lib.hid (HBQ.out.trans hb2)
        have HK := eheld_any HF2.out.g
        rw [HE3.out] at HK
        have HHK := Lib.hid HK
        clear hown hb2 HK HF HHH HBQ
        go_wp2_with fail
        refine HHK.out.mono ?_
        rintro e w3 ⟨rfl, rfl⟩
        go_wp2_with fail
        refine (eout_any HF2.out.g (by rw [HE4.out]; have := HN250.out; omega)).mono ?_
        rintro e w4 ⟨v, rfl, hown, hb4⟩
        rw [HE4.out] at hown
        obtain ⟨A6, c6, rfl, _⟩ := own_slice hown
        have HB4 := Lib.hid (HB2.out.trans hb4)
        clear hown hb4 HF2 HHK
        go_wp2
        go_ret
        exact ⟨rfl, HB4.out⟩
      · by_cases h200 : i ≤ 200
        · have d40b : decide ((40 : Int) < (i : Int)) = true := by simp; omega
          have d200b : decide ((200 : Int) < (i : Int)) = false := by simp; omega
          have e1 : sf.held.length = 40 := by rw [HFI.out.held, List.length_replicate]; omega
          have e2 : sf.out = [] := HFI.out.out
          have e3 : sg.held.length = 0 := by rw [HGI.out.held]; rfl
          have e4 : sg.out.length = i := by rw [HGI.out.out]; omega
          have q1 : (((40 : Nat) : Int) == 40) = true := by simp
          have q2 : (((i : Nat) : Int) == (i : Int)) = true := by simp
          have HH1 := eheld_any HF.out.f
          rw [e1] at HH1
          have HHH := Lib.hid HH1
          clear HH1
          have HE2 := Lib.hid e2
          have HE3 := Lib.hid e3
          have HE4 := Lib.hid e4
          clear e1 e2 e3 e4
          go_wp2_with fail
          refine HHH.out.mono ?_
          rintro e w1 ⟨rfl, rfl⟩
          go_wp2_with fail
          refine (eout_any HF.out.f (by rw [HE2.out]; simp)).mono ?_
          rintro e w2 ⟨v, rfl, hown, hb2⟩
          rw [HE2.out] at hown
          obtain ⟨A5, c5, rfl, _⟩ := own_slice hown
          have HF2 := Lib.hid (HF.out.after hb2)
          have HB2 := Lib.hid (HBQ.out.trans hb2)
          have HK := eheld_any HF2.out.g
          rw [HE3.out] at HK
          have HHK := Lib.hid HK
          clear hown hb2 HK HF HHH HBQ
          go_wp2_with fail
          refine HHK.out.mono ?_
          rintro e w3 ⟨rfl, rfl⟩
          go_wp2_with fail
          refine (eout_any HF2.out.g (by rw [HE4.out]; have := HN250.out; omega)).mono ?_
          rintro e w4 ⟨v, rfl, hown, hb4⟩
          rw [HE4.out] at hown
          obtain ⟨A6, c6, rfl, _⟩ := own_slice hown
          have HB4 := Lib.hid (HB2.out.trans hb4)
          clear hown hb4 HF2 HHK
          go_wp2
          go_ret
          exact ⟨rfl, HB4.out⟩
        · have d40b : decide ((40 : Int) < (i : Int)) = true := by simp; omega
          have d200b : decide ((200 : Int) < (i : Int)) = true := by simp; omega
          have e1 : sf.held.length = 40 := by rw [HFI.out.held, List.length_replicate]; omega
          have e2 : sf.out = [] := HFI.out.out
          have e3 : sg.held.length = 0 := by rw [HGI.out.held]; rfl
          have e4 : sg.out.length = 200 := by rw [HGI.out.out]; omega
          have q1 : (((40 : Nat) : Int) == 40) = true := by simp
          have q2 : (((200 : Nat) : Int) == 200) = true := by simp
          have HH1 := eheld_any HF.out.f
          rw [e1] at HH1
          have HHH := Lib.hid HH1
          clear HH1
          have HE2 := Lib.hid e2
          have HE3 := Lib.hid e3
          have HE4 := Lib.hid e4
          clear e1 e2 e3 e4
          go_wp2_with fail
          refine HHH.out.mono ?_
          rintro e w1 ⟨rfl, rfl⟩
          go_wp2_with fail
          refine (eout_any HF.out.f (by rw [HE2.out]; simp)).mono ?_
          rintro e w2 ⟨v, rfl, hown, hb2⟩
          rw [HE2.out] at hown
          obtain ⟨A5, c5, rfl, _⟩ := own_slice hown
          have HF2 := Lib.hid (HF.out.after hb2)
          have HB2 := Lib.hid (HBQ.out.trans hb2)
          have HK := eheld_any HF2.out.g
          rw [HE3.out] at HK
          have HHK := Lib.hid HK
          clear hown hb2 HK HF HHH HBQ
          go_wp2_with fail
          refine HHK.out.mono ?_
          rintro e w3 ⟨rfl, rfl⟩
          go_wp2_with fail
          refine (eout_any HF2.out.g (by rw [HE4.out]; have := HN250.out; omega)).mono ?_
          rintro e w4 ⟨v, rfl, hown, hb4⟩
          rw [HE4.out] at hown
          obtain ⟨A6, c6, rfl, _⟩ := own_slice hown
          have HB4 := Lib.hid (HB2.out.trans hb4)
          clear hown hb4 HF2 HHK
          go_wp2
          go_ret
          exact ⟨rfl, HB4.out⟩
end Go.Proofs.Ythidbmeocifkcaa
