import Derived.Test.YthidbmeocifkcaaZPspan
namespace Go.Proofs.Ythidbmeocifkcaa
open Go.RowKit
theorem sp_drop {l : List (Int × Int)} {k : Nat} (h : k < l.length) : l.drop k = l.getD k (0, 0) :: l.drop (k + 1) := by
  rw [List.drop_eq_getElem_cons h]; simp [List.getD, h]
set_option maxRecDepth 100000 in
set_option maxHeartbeats 8000000 in
theorem ptog_any (evs ini : Int) (n : Nat) (gv ev av bv : Value) (la lb : List PC) (w : World) (hn : n ≤ 3) (ha : ConsAt w w.heap.size av la) (hb : ConsAt w w.heap.size bv lb)
    (hla : la.length ≤ 1000000) (hlb : lb.length ≤ 1000000) (hga : ∀ c ∈ la, pcBad n c = false) (hgb : ∀ c ∈ lb, pcBad n c = false) :
    Calls Try.prog 51 #[.agg #[.int .i64 evs, .int .i64 n, .int .i64 ini, gv, ev], av, bv] w fun e w' => e = .returned (.bool (togP n la lb)) ∧ Bel w w' := by
  have HSA := Lib.hid fun (x : Ext w) => spans_any evs ini n gv ev av la x.w hn (ha.keep x.bel.keeps x.bel.le) hla hga
  have HSB := Lib.hid fun (x : Ext w) => spans_any evs ini n gv ev bv lb x.w hn (hb.keep x.bel.keeps x.bel.le) hlb hgb
  have HT : Hid (togP n la lb = togS (spansM n la) (spansM n lb)) := Lib.hid rfl
  have lx : (spansM n la).length = n := by rw [spansM_len]; simp
  have ly : (spansM n lb).length = n := by rw [spansM_len]; simp
  unfold SpansPost at *
  generalize spansM n la = X at *
  generalize spansM n lb = Y at *
  clear ha hb hga hgb
  go_enter Try.func51, Try.ntmps51
  go_upto_region 1 with (fail)
  (generalize hW : World.alloc _ _ = wb; have q0_0 := (congrArg (fun W : World => W.cell? ⟨w.heap.size, 0, none⟩) hW).symm; simp [go_sem] at q0_0; have q0_1 := (congrArg (fun W : World => W.cell? ⟨w.heap.size, 1, none⟩) hW).symm; simp [go_sem] at q0_1; have q0_2 := (congrArg (fun W : World => W.cell? ⟨w.heap.size, 2, none⟩) hW).symm; simp [go_sem] at q0_2; have q0_3 := (congrArg (fun W : World => W.cell? ⟨w.heap.size, 3, none⟩) hW).symm; simp [go_sem] at q0_3; have q0_4 := (congrArg (fun W : World => W.cell? ⟨w.heap.size, 4, none⟩) hW).symm; simp [go_sem] at q0_4; have qz0 : w.heap.size < wb.heap.size := (by rw [← hW]; simp [go_sem]; try omega); have HBW : Hid (Bel w wb) := Lib.hid (by rw [← hW]; (repeat (first | exact Ext.bel _ | exact Bel.refl | refine Bel.alloc ?_ _ | refine Bel.drew ?_ | refine Bel.drewN ?_ _))); clear hW; have hkw := HBW.out.cells)
  have HSA' : ∀ W, Bel wb W → Calls Try.prog 55 #[.agg #[.int .i64 evs, .int .i64 n, .int .i64 ini, gv, ev], av] W (fun e w' => ∃ p, e = .returned (.slice (some ⟨p, 0, none⟩) n n) ∧ RowAt w' p 117 (spFlat X) ∧ W.heap.size ≤ p ∧ Bel W w') := fun W h => HSA.out ⟨W, HBW.out.trans h⟩
  have HSB' : ∀ W, Bel wb W → Calls Try.prog 55 #[.agg #[.int .i64 evs, .int .i64 n, .int .i64 ini, gv, ev], bv] W (fun e w' => ∃ p, e = .returned (.slice (some ⟨p, 0, none⟩) n n) ∧ RowAt w' p 117 (spFlat Y) ∧ W.heap.size ≤ p ∧ Bel W w') := fun W h => HSB.out ⟨W, HBW.out.trans h⟩
  replace HSA' := Lib.hid HSA'
  replace HSB' := Lib.hid HSB'
  clear HSA HSB hkw
  go_cut [7, 8] from 10 (fun s7 s8 wx => ∃ p1 p2, s7 = .slice (some ⟨p1, 0, none⟩) n n ∧ s8 = .slice (some ⟨p2, 0, none⟩) n n ∧ RowAt wx p1 117 (spFlat X) ∧ RowAt wx p2 117 (spFlat Y) ∧ Bel w wx)
  case first =>
   go_region_with (first
    | (go_at_call 55; (with_reducible refine (HSB'.out _ HB1.out).mono ?_); rintro e w3 ⟨p2, rfl, hr2, hp2, hb2⟩; have HB2 : Hid (Bel wb w3) := Lib.hid (HB1.out.trans hb2); have HR2 := Lib.hid hr2; have HR3 := Lib.hid (HR1.out.bel hb2); clear hb2 hr2 hp2)
    | (go_at_call 55; (with_reducible refine (HSA'.out _ (by (repeat (first | exact Ext.bel _ | exact Bel.refl | refine Bel.alloc ?_ _ | refine Bel.drew ?_ | refine Bel.drewN ?_ _)))).mono ?_); rintro e w2 ⟨p1, rfl, hr1, hp1, hb1⟩; have HB1 : Hid (Bel wb w2) := Lib.hid (Bel.trans (by (repeat (first | exact Ext.bel _ | exact Bel.refl | refine Bel.alloc ?_ _ | refine Bel.drew ?_ | refine Bel.drewN ?_ _))) hb1); have HR1 := Lib.hid hr1; clear hb1 hr1 hp1; have hkk := HB1.out.cells))
   all_goals
     go_wp2
     go_meet
     case rel => exact ⟨p1, p2, rfl, rfl, HR3.out, HR2.out, HBW.out.trans HB2.out⟩
  case rest =>
  obtain ⟨p1, p2, rfl, rfl, hr3, hr2, hbw⟩ := hcut
  have HR3 := Lib.hid hr3
  have HR2 := Lib.hid hr2
  have hBW := Lib.hid hbw
  clear HSA' HSB' q0_0 q0_1 q0_2 q0_3 q0_4 qz0 hr3 hr2 hbw HBW
  go_wp2
  go_loopw [18] (fun si wr => ∃ (j : Nat) (z : Ext wc), j ≤ n ∧ si = .int .i64 j ∧ wr = z.w ∧ togS (X.drop j) (Y.drop j) = togS X Y) (fun si _ => n - (intOf si).toNat)
  case atStart => exact ⟨0, ⟨wc, Bel.refl⟩, by omega, rfl, rfl, rfl⟩
  case round =>
    obtain ⟨j, x, hj, rfl, rfl, hd⟩ := hrel
    by_cases hlt : j < n
    · rw [sp_drop (l := X) (by omega), sp_drop (l := Y) (by omega)] at hd
      have r0 := (HR3.out.bel x.bel).cell (spFlat_0 X j (by omega))
      have r1 := (HR3.out.bel x.bel).cell (spFlat_1 X j (by omega))
      have s0 := (HR2.out.bel x.bel).cell (spFlat_0 Y j (by omega))
      have s1 := (HR2.out.bel x.bel).cell (spFlat_1 Y j (by omega))
      generalize X.getD j (0, 0) = a at *
      generalize Y.getD j (0, 0) = b at *
      obtain ⟨a1, a2⟩ := a
      obtain ⟨b1, b2⟩ := b
      simp only at r0 r1 s0 s1
      have hxb := Lib.hid x.bel
      by_cases hm : meetB (a1, a2) (b1, b2) = true
      · have HD : Hid (togS X Y = false) := Lib.hid (by rw [← hd]; simp only [togS, if_pos hm])
        have hmd : decide ((if b2 < a2 then b2 else a2) < if a1 < b1 then b1 else a1) = true := hm
        clear hd hm
        go_upto_region 5 with (fail)
        go_region
        go_wp2
        all_goals
          go_ret
          exact ⟨ret_bool (by rw [HT.out, HD.out]), hBW.out.trans hxb.out.drew⟩
      · have HD : Hid (togS (X.drop (j + 1)) (Y.drop (j + 1)) = togS X Y) := Lib.hid (by rw [← hd]; simp only [togS, if_neg hm])
        have hmd : decide ((if b2 < a2 then b2 else a2) < if a1 < b1 then b1 else a1) = false := by unfold meetB at hm; exact Bool.eq_false_iff.mpr hm
        clear hd hm
        go_upto_region 5 with (fail)
        go_region
        go_wp2
        all_goals
          go_roundw
          case rel => exact ⟨j + 1, ⟨_, hxb.out.drew⟩, by omega, by go_num, rfl, HD.out⟩
          case measure => simp [intOf]; omega
    · obtain rfl : j = n := by omega
      have HD : Hid (togS X Y = true) := Lib.hid (by rw [← hd, List.drop_eq_nil_of_le (by omega)]; simp [togS])
      clear hd
      go_wp2
      go_ret
      exact ⟨ret_bool (by rw [HT.out, HD.out]), hBW.out.trans x.bel⟩
end Go.Proofs.Ythidbmeocifkcaa
