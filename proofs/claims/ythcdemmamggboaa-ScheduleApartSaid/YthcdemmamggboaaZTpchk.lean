import Derived.Test.YthcdemmamggboaaZTsecp
import Derived.Test.YthcdemmamggboaaG1
import Derived.Test.YthcdemmamggboaaG2
import Derived.Deep.Cut
import Derived.BigGuard
import Derived.BigCall
import Derived.RegionTactic
namespace Go.Proofs.Ythcdemmamggboaa
open Go.RowKit Go.WideMaps
theorem zeroB (w : World) : (zeroValue 4).run Try.prog w = .ok (.bool false) w := by kernel_rfl
set_option maxRecDepth 100000 in
set_option maxHeartbeats 40000000 in
theorem check_any (v : Value) (l : List Tsk) (w : World) (h : TsksAt w w.heap.size v l) (hl : l.length ≤ 1000000) (hs : ∀ i, i < l.length → (tskAt l i).secs.length ≤ 1000000 ∧ (tskAt l i).name.size ≤ 1000000)
    (hwf : ∀ i, i < l.length → (Lit.int .i64 (tskAt l i).prio).wf = true) :
    Calls Try.prog 35 #[v] w fun e w' => e = .returned (.int .i64 (pchk l)) ∧ Bel w w' := by
  obtain ⟨A, c, rfl, hlc⟩ := h.form
  have hmm := @run_makeMap Try.prog
  go_enter Try.func35, Try.ntmps35
  go_wp2
  go_loopw [3, 15] (fun b i wr => ∃ (k : Nat) (x : Ext w) (q : Bool), k ≤ l.length ∧ i = .int .i64 k ∧ b = .bool q ∧ wr = x.w ∧ (q || manySecs (l.drop k)) = (decide (8 < l.length) || manySecs l)) (fun _ i _ => l.length - (intOf i).toNat)
  case atStart => exact ⟨0, ⟨_, Bel.refl⟩, _, by omega, rfl, rfl, rfl, by rw [show decide ((8 : Int) < (l.length : Int)) = decide (8 < l.length) from decide_eq_decide.2 (by omega)]; simp⟩
  case round =>
    obtain ⟨k, x, q, hk, rfl, rfl, rfl, hd⟩ := hrel
    by_cases hlt : k < l.length
    · obtain ⟨b, off, rfl, hb, hA⟩ := h.at_ (by omega)
      obtain ⟨sv, hT, hS⟩ := hA k hlt
      obtain ⟨A2, c2, rfl, hc2⟩ := hS.form
      obtain ⟨hs1, hs2⟩ := hs k hlt
      obtain ⟨t0, t1, t2, t3, t4, t5, t6⟩ := hT
      have HD : Hid ((q || (if 4 < (tskAt l k).secs.length then true else manySecs (l.drop (k + 1)))) = (decide (8 < l.length) || manySecs l)) := Lib.hid (by rw [← hd, tsks_drop hlt]; rfl)
      clear hd hA
      cases q
      · go_wp2
        go_roundw
        case rel => exact ⟨k + 1, ⟨_, x.bel.alloc _⟩, _, by omega, by go_num, rfl, rfl, by rw [← HD.out]; by_cases h4 : 4 < (tskAt l k).secs.length <;> simp [h4] <;> omega⟩
        case measure => simp [intOf]; omega
      · go_wp2
        go_roundw
        case rel => exact ⟨k + 1, ⟨_, x.bel.alloc _⟩, _, by omega, by go_num, rfl, rfl, by rw [← HD.out]; simp⟩
        case measure => simp [intOf]; omega
    · have : k = l.length := by omega
      subst this
      have HD : Hid (q = (decide (8 < l.length) || manySecs l)) := Lib.hid (by rw [← hd]; simp [manySecs])
      clear hd
      by_cases h0 : l.length = 0
      · have hz : ((l.length : Int) == 0) = true := by simp [h0]
        have HE : Hid (pchk l = if q then 3 else 2) := Lib.hid (by unfold pchk; rw [← HD.out, if_pos h0])
        clear HD h0
        go_wp2
        · go_ret
          exact ⟨ret_int (by rw [HE.out, if_pos (by assumption)]), x.bel⟩
        · go_ret
          exact ⟨ret_int (by rw [HE.out, if_neg (by simp; assumption)]), x.bel⟩
      have hz : ((l.length : Int) == 0) = false := beq_eq_false_iff_ne.2 (by omega)
      have HE : Hid (pchk l = if q then 3 else pchkT [] l) := Lib.hid (by unfold pchk; rw [← HD.out, if_neg h0])
      clear HD hlt hk
      obtain ⟨b, off, rfl, hb, hA⟩ := h.at_ (by omega)
      cases q
      case true =>
        go_wp2
        go_ret
        exact ⟨ret_int (by rw [HE.out]; rfl), x.bel⟩
      replace HE : Hid (pchk l = pchkT [] l) := Lib.hid (by rw [HE.out]; rfl)
      go_wp2
      have M1 := ((BSet.made x.w Try.prog 9 4).alloc (.map #[] 0))
      have M2 := (BSet.made (x.w.alloc (.map #[] 0)) Try.prog 3 4)
      have hsz : (x.w.alloc (.map #[] 0)).heap.size = x.w.heap.size + 1 := by simp
      rw [hsz] at M2
      have hpw := x.bel.le
      generalize hW : (x.w.alloc (.map #[] 0)).alloc (.map #[] 0) = W2 at *
      have hB2 : Bel w W2 := by rw [← hW]; exact (x.bel.alloc _).alloc _
      clear hW hsz hz h0
      generalize x.w.heap.size = p1 at *
      clear x
      go_loopw [37] (fun i wr => ∃ (k : Nat) (x : Ext w) (m1 m2 : Lit → Bool), k ≤ l.length ∧ i = .int .i64 k ∧ wr = x.w ∧ BSet x.w Try.prog 9 4 p1 k m1 ∧ BSet x.w Try.prog 3 4 (p1 + 1) k m2 ∧
        (∀ t : Tsk, m1 (.string t.name.data.toList) = nameIn t (l.take k)) ∧ (∀ t : Tsk, m2 (.int .i64 t.prio) = prioIn t (l.take k)) ∧ pchkT (l.take k) (l.drop k) = pchkT [] l) (fun i _ => l.length - (intOf i).toNat)
      case atStart => exact ⟨0, ⟨_, hB2⟩, _, _, by omega, rfl, rfl, M1, M2, fun _ => rfl, fun _ => rfl, rfl⟩
      case round =>
        clear M1 M2 hB2
        obtain ⟨k, x, m1, m2, hk, rfl, rfl, M1, M2, hm1, hm2, hd⟩ := hrel
        by_cases hlt : k < l.length
        · obtain ⟨sv, hT, hS⟩ := hA k hlt
          obtain ⟨A2, c2, rfl, hc2⟩ := hS.form
          obtain ⟨hs1, hs2⟩ := hs k hlt
          obtain ⟨t0, t1, t2, t3, t4, t5, t6⟩ := hT
          have hkn : keyOf Try.prog 9 (.string (tskAt l k).name) = some (.string (tskAt l k).name.data.toList) := keyOf_string_mk Try.underlying9 (by unfold maxLen; omega)
          have hkp : keyOf Try.prog 3 (.int .i64 (tskAt l k).prio) = some (.int .i64 (tskAt l k).prio) := Maps.keyOf_int_mk Try.underlying3 (hwf k hlt)
          have hS3 : ∀ o, SecsAt (x.w.alloc o) (x.w.alloc o).heap.size (.slice A2 (tskAt l k).secs.length c2) (tskAt l k).secs := fun o => hS.keep (x.bel.alloc o).keeps (x.bel.alloc o).le
          have HF : (tskBad (tskAt l k) = true ∨ nameIn (tskAt l k) (l.take k) = true ∨ prioIn (tskAt l k) (l.take k) = true ∨ psecsOk (tskAt l k) = false) → Hid (pchkT [] l = 2) := fun h0 => by
            apply Lib.hid; rw [← hd, tsks_drop hlt]; rcases h0 with h0 | h0 | h0 | h0 <;> simp [pchkT, h0]
          have HG : tskBad (tskAt l k) = false → nameIn (tskAt l k) (l.take k) = false → prioIn (tskAt l k) (l.take k) = false → psecsOk (tskAt l k) = true → Hid (pchkT (l.take (k + 1)) (l.drop (k + 1)) = pchkT [] l) := fun h0 h1 h2 h3 => by
            apply Lib.hid; rw [← hd, tsks_drop hlt, tsks_snoc hlt]; simp [pchkT, h0, h1, h2, h3]
          clear hd
          have HC : ∀ W, SecsAt W W.heap.size (.slice A2 (tskAt l k).secs.length c2) (tskAt l k).secs → Calls Try.prog 44 #[tskV (tskAt l k) (.slice A2 (tskAt l k).secs.length c2)] W fun e w' => e = .returned (.bool (psecsOk (tskAt l k))) ∧ Bel W w' := fun W hW => sections_any _ _ _ hW (by omega)
          replace HC := Lib.hid HC
          have hne := @bytes_empty (tskAt l k).name
          replace hm1 := Lib.hid hm1
          replace hm2 := Lib.hid hm2
          have HBN0 := hm1.out (tskAt l k)
          have HBP0 := hm2.out (tskAt l k)
          generalize hn : nameIn (tskAt l k) (l.take k) = bn at *
          generalize hp : prioIn (tskAt l k) (l.take k) = bp at *
          have HBN := Lib.hid HBN0
          have HBP := Lib.hid HBP0
          have HKN := Lib.hid hkn
          have HKP := Lib.hid hkp
          clear HBN0 HBP0
          generalize hq : psecsOk (tskAt l k) = bq at *
          clear hn hp
          have HM1 := hm1
          have HM2 := hm2
          clear hm1 hm2 hkn hkp hs hA hmm
          replace HK := Lib.hid hwf
          clear hwf
          go_upto_region 15 with (fail)
          have N1 := M1.alloc (.cells #[.string (tskAt l k).name, .int .i64 (tskAt l k).per, .int .i64 (tskAt l k).off, .int .i64 (tskAt l k).dl, .int .i64 (tskAt l k).cost, .int .i64 (tskAt l k).prio, .slice A2 (tskAt l k).secs.length c2] 45)
          have N2 := M2.alloc (.cells #[.string (tskAt l k).name, .int .i64 (tskAt l k).per, .int .i64 (tskAt l k).off, .int .i64 (tskAt l k).dl, .int .i64 (tskAt l k).cost, .int .i64 (tskAt l k).prio, .slice A2 (tskAt l k).secs.length c2] 45)
          have hS4 := hS3 (.cells #[.string (tskAt l k).name, .int .i64 (tskAt l k).per, .int .i64 (tskAt l k).off, .int .i64 (tskAt l k).dl, .int .i64 (tskAt l k).cost, .int .i64 (tskAt l k).prio, .slice A2 (tskAt l k).secs.length c2] 45)
          have M1lt := M1.lt
          clear M1 M2 hS3 t0 t1 t2 t3 t4 t5 t6
          generalize hW : World.alloc _ _ = wb at *
          have q0 : wb.cell? ⟨x.w.heap.size, 0, none⟩ = some (.string (tskAt l k).name) := (by rw [← hW]; simp [go_sem])
          have q1 : wb.cell? ⟨x.w.heap.size, 1, none⟩ = some (.int .i64 (tskAt l k).per) := (by rw [← hW]; simp [go_sem])
          have q2 : wb.cell? ⟨x.w.heap.size, 2, none⟩ = some (.int .i64 (tskAt l k).off) := (by rw [← hW]; simp [go_sem])
          have q3 : wb.cell? ⟨x.w.heap.size, 3, none⟩ = some (.int .i64 (tskAt l k).dl) := (by rw [← hW]; simp [go_sem])
          have q4 : wb.cell? ⟨x.w.heap.size, 4, none⟩ = some (.int .i64 (tskAt l k).cost) := (by rw [← hW]; simp [go_sem])
          have q5 : wb.cell? ⟨x.w.heap.size, 5, none⟩ = some (.int .i64 (tskAt l k).prio) := (by rw [← hW]; simp [go_sem])
          have q6 : wb.cell? ⟨x.w.heap.size, 6, none⟩ = some (.slice A2 (tskAt l k).secs.length c2) := (by rw [← hW]; simp [go_sem])
          have qz : x.w.heap.size < wb.heap.size := (by rw [← hW]; simp [go_sem])
          have HBW : Hid (Bel w wb) := Lib.hid (by rw [← hW]; exact x.bel.alloc _)
          clear hW
          replace K1 : ∀ y : Ext wb, (Instr.lookup 88 (.map (some p1)) (.string (tskAt l k).name) false).run Try.prog y.w = .ok (.bool bn) y.w := fun y => by
            rw [← HBN.out]; exact (N1.bel y.bel).look (Maps.string_keyed Try.underlying9) Try.underlying88 Try.underlying4 (zeroB _) HKN.out trivial
          replace K2 : ∀ y : Ext wb, (Instr.lookup 89 (.map (some (p1 + 1))) (.int .i64 (tskAt l k).prio) false).run Try.prog y.w = .ok (.bool bp) y.w := fun y => by
            rw [← HBP.out]; exact (N2.bel y.bel).look (Maps.int_keyed Try.underlying3) Try.underlying89 Try.underlying4 (zeroB _) HKP.out trivial
          have hS5 : ∀ y : Ext wb, SecsAt y.w y.w.heap.size (.slice A2 (tskAt l k).secs.length c2) (tskAt l k).secs := fun y => hS4.keep y.bel.keeps y.bel.le
          replace hS4 := Lib.hid hS5
          clear hS5 HKN HKP HBN HBP
          refine wp_region_extp (wb := wb) (by (repeat (first | exact Ext.bel _ | exact Bel.refl | refine Bel.alloc ?_ _ | refine Bel.drew ?_ | refine Bel.drewN ?_ _))) ?_
          refine wpQuiet_cut 4 (fun A A' => ∃ (v41 v42 v43 : Value) (q' : Bool), q' = decide ((tskAt l k).name.size = 0) ∧ A' = ((((A.put (some 41) v41).put (some 42) v42).put (some 43) v43).put (some 44) (.bool q'))) ?_ ?_
          · show wpQuiet _ _ _ _ [_, _, _, _] _
            (repeat (first | go_big_quiet_step ((go_at_call 44; exact ext_call (HC.out _ (hS4.out _)))) | quiet_step ((go_at_call 44; exact ext_call (HC.out _ (hS4.out _))))))
            (refine wpQuiet_nil ?_; simp only [Act.put, List.setIfInBounds_toArray, List.set_cons_succ, List.set_cons_zero]; exact ⟨_, _, _, _, by first | rfl | (simp; done) | (simp; omega), rfl⟩)
          rintro _ ⟨v41, v42, v43, q0, Hq0, rfl⟩
          replace Hq0 := Lib.hid Hq0
          show wpQuiet _ _ _ _ (_ :: _) _
          simp only [Act.put, List.setIfInBounds_toArray, List.set_cons_succ, List.set_cons_zero]
          refine wpQuiet_cut 6 (fun A A' => ∃ (v45 v46 v47 v48 v49 : Value) (q' : Bool), q' = (q0 || decide (16 < (tskAt l k).name.size)) ∧ A' = ((((((A.put (some 45) v45).put (some 46) v46).put (some 47) v47).put (some 48) v48).put (some 49) v49).put (some 50) (.bool q'))) ?_ ?_
          · show wpQuiet _ _ _ _ [_, _, _, _, _, _] _
            cases q0
            all_goals (repeat (first | go_big_quiet_step ((go_at_call 44; exact ext_call (HC.out _ (hS4.out _)))) | quiet_step ((go_at_call 44; exact ext_call (HC.out _ (hS4.out _))))))
            all_goals (refine wpQuiet_nil ?_; simp only [Act.put, List.setIfInBounds_toArray, List.set_cons_succ, List.set_cons_zero]; exact ⟨_, _, _, _, _, _, by first | rfl | (simp; done) | (simp; omega), rfl⟩)
          rintro _ ⟨v45, v46, v47, v48, v49, q1, Hq1, rfl⟩
          replace Hq1 := Lib.hid Hq1
          show wpQuiet _ _ _ _ (_ :: _) _
          simp only [Act.put, List.setIfInBounds_toArray, List.set_cons_succ, List.set_cons_zero]
          refine wpQuiet_cut 6 (fun A A' => ∃ (v51 v52 v53 v54 v55 : Value) (q' : Bool), q' = (q1 || bn) ∧ A' = ((((((A.put (some 51) v51).put (some 52) v52).put (some 53) v53).put (some 54) v54).put (some 55) v55).put (some 56) (.bool q'))) ?_ ?_
          · show wpQuiet _ _ _ _ [_, _, _, _, _, _] _
            cases q1
            all_goals (repeat (first | go_big_quiet_step ((go_at_call 44; exact ext_call (HC.out _ (hS4.out _)))) | quiet_step ((go_at_call 44; exact ext_call (HC.out _ (hS4.out _))))))
            all_goals (refine wpQuiet_nil ?_; simp only [Act.put, List.setIfInBounds_toArray, List.set_cons_succ, List.set_cons_zero]; exact ⟨_, _, _, _, _, _, by first | rfl | (simp; done) | (simp; omega), rfl⟩)
          rintro _ ⟨v51, v52, v53, v54, v55, q2, Hq2, rfl⟩
          replace Hq2 := Lib.hid Hq2
          show wpQuiet _ _ _ _ (_ :: _) _
          simp only [Act.put, List.setIfInBounds_toArray, List.set_cons_succ, List.set_cons_zero]
          refine wpQuiet_cut 5 (fun A A' => ∃ (v57 v58 v59 v60 : Value) (q' : Bool), q' = (q2 || decide ((tskAt l k).prio < 1)) ∧ A' = (((((A.put (some 57) v57).put (some 58) v58).put (some 59) v59).put (some 60) v60).put (some 61) (.bool q'))) ?_ ?_
          · show wpQuiet _ _ _ _ [_, _, _, _, _] _
            cases q2
            all_goals (repeat (first | go_big_quiet_step ((go_at_call 44; exact ext_call (HC.out _ (hS4.out _)))) | quiet_step ((go_at_call 44; exact ext_call (HC.out _ (hS4.out _))))))
            all_goals (refine wpQuiet_nil ?_; simp only [Act.put, List.setIfInBounds_toArray, List.set_cons_succ, List.set_cons_zero]; exact ⟨_, _, _, _, _, by first | rfl | (simp; done) | (simp; omega), rfl⟩)
          rintro _ ⟨v57, v58, v59, v60, q3, Hq3, rfl⟩
          replace Hq3 := Lib.hid Hq3
          show wpQuiet _ _ _ _ (_ :: _) _
          simp only [Act.put, List.setIfInBounds_toArray, List.set_cons_succ, List.set_cons_zero]
          refine wpQuiet_cut 6 (fun A A' => ∃ (v62 v63 v64 v65 v66 : Value) (q' : Bool), q' = (q3 || bp) ∧ A' = ((((((A.put (some 62) v62).put (some 63) v63).put (some 64) v64).put (some 65) v65).put (some 66) v66).put (some 67) (.bool q'))) ?_ ?_
          · show wpQuiet _ _ _ _ [_, _, _, _, _, _] _
            cases q3
            all_goals (repeat (first | go_big_quiet_step ((go_at_call 44; exact ext_call (HC.out _ (hS4.out _)))) | quiet_step ((go_at_call 44; exact ext_call (HC.out _ (hS4.out _))))))
            all_goals (refine wpQuiet_nil ?_; simp only [Act.put, List.setIfInBounds_toArray, List.set_cons_succ, List.set_cons_zero]; exact ⟨_, _, _, _, _, _, by first | rfl | (simp; done) | (simp; omega), rfl⟩)
          rintro _ ⟨v62, v63, v64, v65, v66, q4, Hq4, rfl⟩
          replace Hq4 := Lib.hid Hq4
          show wpQuiet _ _ _ _ (_ :: _) _
          simp only [Act.put, List.setIfInBounds_toArray, List.set_cons_succ, List.set_cons_zero]
          refine wpQuiet_cut 5 (fun A A' => ∃ (v68 v69 v70 v71 : Value) (q' : Bool), q' = (q4 || decide ((tskAt l k).per < 1)) ∧ A' = (((((A.put (some 68) v68).put (some 69) v69).put (some 70) v70).put (some 71) v71).put (some 72) (.bool q'))) ?_ ?_
          · show wpQuiet _ _ _ _ [_, _, _, _, _] _
            cases q4
            all_goals (repeat (first | go_big_quiet_step ((go_at_call 44; exact ext_call (HC.out _ (hS4.out _)))) | quiet_step ((go_at_call 44; exact ext_call (HC.out _ (hS4.out _))))))
            all_goals (refine wpQuiet_nil ?_; simp only [Act.put, List.setIfInBounds_toArray, List.set_cons_succ, List.set_cons_zero]; exact ⟨_, _, _, _, _, by first | rfl | (simp; done) | (simp; omega), rfl⟩)
          rintro _ ⟨v68, v69, v70, v71, q5, Hq5, rfl⟩
          replace Hq5 := Lib.hid Hq5
          show wpQuiet _ _ _ _ (_ :: _) _
          simp only [Act.put, List.setIfInBounds_toArray, List.set_cons_succ, List.set_cons_zero]
          refine wpQuiet_cut 5 (fun A A' => ∃ (v73 v74 v75 v76 : Value) (q' : Bool), q' = (q5 || decide (1000 < (tskAt l k).per)) ∧ A' = (((((A.put (some 73) v73).put (some 74) v74).put (some 75) v75).put (some 76) v76).put (some 77) (.bool q'))) ?_ ?_
          · show wpQuiet _ _ _ _ [_, _, _, _, _] _
            cases q5
            all_goals (repeat (first | go_big_quiet_step ((go_at_call 44; exact ext_call (HC.out _ (hS4.out _)))) | quiet_step ((go_at_call 44; exact ext_call (HC.out _ (hS4.out _))))))
            all_goals (refine wpQuiet_nil ?_; simp only [Act.put, List.setIfInBounds_toArray, List.set_cons_succ, List.set_cons_zero]; exact ⟨_, _, _, _, _, by first | rfl | (simp; done) | (simp; omega), rfl⟩)
          rintro _ ⟨v73, v74, v75, v76, q6, Hq6, rfl⟩
          replace Hq6 := Lib.hid Hq6
          show wpQuiet _ _ _ _ (_ :: _) _
          simp only [Act.put, List.setIfInBounds_toArray, List.set_cons_succ, List.set_cons_zero]
          refine wpQuiet_cut 5 (fun A A' => ∃ (v78 v79 v80 v81 : Value) (q' : Bool), q' = (q6 || decide ((tskAt l k).off < 0)) ∧ A' = (((((A.put (some 78) v78).put (some 79) v79).put (some 80) v80).put (some 81) v81).put (some 82) (.bool q'))) ?_ ?_
          · show wpQuiet _ _ _ _ [_, _, _, _, _] _
            cases q6
            all_goals (repeat (first | go_big_quiet_step ((go_at_call 44; exact ext_call (HC.out _ (hS4.out _)))) | quiet_step ((go_at_call 44; exact ext_call (HC.out _ (hS4.out _))))))
            all_goals (refine wpQuiet_nil ?_; simp only [Act.put, List.setIfInBounds_toArray, List.set_cons_succ, List.set_cons_zero]; exact ⟨_, _, _, _, _, by first | rfl | (simp; done) | (simp; omega), rfl⟩)
          rintro _ ⟨v78, v79, v80, v81, q7, Hq7, rfl⟩
          replace Hq7 := Lib.hid Hq7
          show wpQuiet _ _ _ _ (_ :: _) _
          simp only [Act.put, List.setIfInBounds_toArray, List.set_cons_succ, List.set_cons_zero]
          refine wpQuiet_cut 7 (fun A A' => ∃ (v83 v84 v85 v86 v87 v88 : Value) (q' : Bool), q' = (q7 || decide ((tskAt l k).per ≤ (tskAt l k).off)) ∧ A' = (((((((A.put (some 83) v83).put (some 84) v84).put (some 85) v85).put (some 86) v86).put (some 87) v87).put (some 88) v88).put (some 89) (.bool q'))) ?_ ?_
          · show wpQuiet _ _ _ _ [_, _, _, _, _, _, _] _
            cases q7
            all_goals (repeat (first | go_big_quiet_step ((go_at_call 44; exact ext_call (HC.out _ (hS4.out _)))) | quiet_step ((go_at_call 44; exact ext_call (HC.out _ (hS4.out _))))))
            all_goals (refine wpQuiet_nil ?_; simp only [Act.put, List.setIfInBounds_toArray, List.set_cons_succ, List.set_cons_zero]; exact ⟨_, _, _, _, _, _, _, by first | rfl | (simp; done) | (simp; omega), rfl⟩)
          rintro _ ⟨v83, v84, v85, v86, v87, v88, q8, Hq8, rfl⟩
          replace Hq8 := Lib.hid Hq8
          show wpQuiet _ _ _ _ (_ :: _) _
          simp only [Act.put, List.setIfInBounds_toArray, List.set_cons_succ, List.set_cons_zero]
          refine wpQuiet_cut 5 (fun A A' => ∃ (v90 v91 v92 v93 : Value) (q' : Bool), q' = (q8 || decide ((tskAt l k).dl < 1)) ∧ A' = (((((A.put (some 90) v90).put (some 91) v91).put (some 92) v92).put (some 93) v93).put (some 94) (.bool q'))) ?_ ?_
          · show wpQuiet _ _ _ _ [_, _, _, _, _] _
            cases q8
            all_goals (repeat (first | go_big_quiet_step ((go_at_call 44; exact ext_call (HC.out _ (hS4.out _)))) | quiet_step ((go_at_call 44; exact ext_call (HC.out _ (hS4.out _))))))
            all_goals (refine wpQuiet_nil ?_; simp only [Act.put, List.setIfInBounds_toArray, List.set_cons_succ, List.set_cons_zero]; exact ⟨_, _, _, _, _, by first | rfl | (simp; done) | (simp; omega), rfl⟩)
          rintro _ ⟨v90, v91, v92, v93, q9, Hq9, rfl⟩
          replace Hq9 := Lib.hid Hq9
          show wpQuiet _ _ _ _ (_ :: _) _
          simp only [Act.put, List.setIfInBounds_toArray, List.set_cons_succ, List.set_cons_zero]
          refine wpQuiet_cut 7 (fun A A' => ∃ (v95 v96 v97 v98 v99 v100 : Value) (q' : Bool), q' = (q9 || decide ((tskAt l k).per < (tskAt l k).dl)) ∧ A' = (((((((A.put (some 95) v95).put (some 96) v96).put (some 97) v97).put (some 98) v98).put (some 99) v99).put (some 100) v100).put (some 101) (.bool q'))) ?_ ?_
          · show wpQuiet _ _ _ _ [_, _, _, _, _, _, _] _
            cases q9
            all_goals (repeat (first | go_big_quiet_step ((go_at_call 44; exact ext_call (HC.out _ (hS4.out _)))) | quiet_step ((go_at_call 44; exact ext_call (HC.out _ (hS4.out _))))))
            all_goals (refine wpQuiet_nil ?_; simp only [Act.put, List.setIfInBounds_toArray, List.set_cons_succ, List.set_cons_zero]; exact ⟨_, _, _, _, _, _, _, by first | rfl | (simp; done) | (simp; omega), rfl⟩)
          rintro _ ⟨v95, v96, v97, v98, v99, v100, q10, Hq10, rfl⟩
          replace Hq10 := Lib.hid Hq10
          show wpQuiet _ _ _ _ (_ :: _) _
          simp only [Act.put, List.setIfInBounds_toArray, List.set_cons_succ, List.set_cons_zero]
          refine wpQuiet_cut 5 (fun A A' => ∃ (v102 v103 v104 v105 : Value) (q' : Bool), q' = (q10 || decide ((tskAt l k).cost < 1)) ∧ A' = (((((A.put (some 102) v102).put (some 103) v103).put (some 104) v104).put (some 105) v105).put (some 106) (.bool q'))) ?_ ?_
          · show wpQuiet _ _ _ _ [_, _, _, _, _] _
            cases q10
            all_goals (repeat (first | go_big_quiet_step ((go_at_call 44; exact ext_call (HC.out _ (hS4.out _)))) | quiet_step ((go_at_call 44; exact ext_call (HC.out _ (hS4.out _))))))
            all_goals (refine wpQuiet_nil ?_; simp only [Act.put, List.setIfInBounds_toArray, List.set_cons_succ, List.set_cons_zero]; exact ⟨_, _, _, _, _, by first | rfl | (simp; done) | (simp; omega), rfl⟩)
          rintro _ ⟨v102, v103, v104, v105, q11, Hq11, rfl⟩
          replace Hq11 := Lib.hid Hq11
          show wpQuiet _ _ _ _ (_ :: _) _
          simp only [Act.put, List.setIfInBounds_toArray, List.set_cons_succ, List.set_cons_zero]
          refine wpQuiet_cut 7 (fun A A' => ∃ (v107 v108 v109 v110 v111 v112 : Value) (q' : Bool), q' = (q11 || decide ((tskAt l k).dl < (tskAt l k).cost)) ∧ A' = (((((((A.put (some 107) v107).put (some 108) v108).put (some 109) v109).put (some 110) v110).put (some 111) v111).put (some 112) v112).put (some 113) (.bool q'))) ?_ ?_
          · show wpQuiet _ _ _ _ [_, _, _, _, _, _, _] _
            cases q11
            all_goals (repeat (first | go_big_quiet_step ((go_at_call 44; exact ext_call (HC.out _ (hS4.out _)))) | quiet_step ((go_at_call 44; exact ext_call (HC.out _ (hS4.out _))))))
            all_goals (refine wpQuiet_nil ?_; simp only [Act.put, List.setIfInBounds_toArray, List.set_cons_succ, List.set_cons_zero]; exact ⟨_, _, _, _, _, _, _, by first | rfl | (simp; done) | (simp; omega), rfl⟩)
          rintro _ ⟨v107, v108, v109, v110, v111, v112, q12, Hq12, rfl⟩
          replace Hq12 := Lib.hid Hq12
          show wpQuiet _ _ _ _ (_ :: _) _
          simp only [Act.put, List.setIfInBounds_toArray, List.set_cons_succ, List.set_cons_zero]
          refine wpQuiet_cut 4 (fun A A' => ∃ (v114 v115 v116 : Value) (q' : Bool), q' = (q12 || !bq) ∧ A' = ((((A.put (some 114) v114).put (some 115) v115).put (some 116) v116).put (some 117) (.bool q'))) ?_ ?_
          · show wpQuiet _ _ _ _ [_, _, _, _] _
            cases q12
            all_goals (repeat (first | go_big_quiet_step ((go_at_call 44; exact ext_call (HC.out _ (hS4.out _)))) | quiet_step ((go_at_call 44; exact ext_call (HC.out _ (hS4.out _))))))
            all_goals (refine wpQuiet_nil ?_; simp only [Act.put, List.setIfInBounds_toArray, List.set_cons_succ, List.set_cons_zero]; exact ⟨_, _, _, _, by first | rfl | (simp; done) | (simp; omega), rfl⟩)
          rintro _ ⟨v114, v115, v116, q13, Hq13, rfl⟩
          replace Hq13 := Lib.hid Hq13
          show wpQuiet _ _ _ _ ([]) _
          simp only [Act.put, List.setIfInBounds_toArray, List.set_cons_succ, List.set_cons_zero]
          refine wpQuiet_nil ?_
          intro _ hw'
          obtain ⟨y, hw''⟩ := hw'
          subst hw''
          have HQ : Hid (q13 = (tskBad (tskAt l k) || bn || bp || !bq)) := Lib.hid (by rw [Hq13.out, Hq12.out, Hq11.out, Hq10.out, Hq9.out, Hq8.out, Hq7.out, Hq6.out, Hq5.out, Hq4.out, Hq3.out, Hq2.out, Hq1.out, Hq0.out]; unfold tskBad; ac_rfl)
          clear Hq0 Hq1 Hq2 Hq3 Hq4 Hq5 Hq6 Hq7 Hq8 Hq9 Hq10 Hq11 Hq12 Hq13
          cases q13
          case true =>
            replace HF := HF (by have h := HQ.out; revert h; cases tskBad (tskAt l k) <;> cases bn <;> cases bp <;> cases bq <;> simp)
            clear HG hq N1 N2 K1 K2 hne hS4 HC hS
            go_wp2
            go_ret
            exact ⟨ret_int (by rw [HE.out, HF.out]), HBW.out.trans y.bel⟩
          case false =>
            have HT : tskBad (tskAt l k) = false ∧ bn = false ∧ bp = false ∧ bq = true := by have h := HQ.out; revert h; cases tskBad (tskAt l k) <;> cases bn <;> cases bp <;> cases bq <;> simp
            replace HG := HG HT.1 HT.2.1 HT.2.2.1 HT.2.2.2
            clear HT HQ HF hq
            go_wp2
            clear K1 K2 hne hS4 HC hS
            have hkn : keyOf Try.prog 9 (.string (tskAt l k).name) = some (.string (tskAt l k).name.data.toList) := keyOf_string_mk Try.underlying9 (by unfold maxLen; omega)
            have hkp : keyOf Try.prog 3 (.int .i64 (tskAt l k).prio) = some (.int .i64 (tskAt l k).prio) := Maps.keyOf_int_mk Try.underlying3 (HK.out k hlt)
            obtain ⟨wx, ma, ra, Ba, ga, ea, fa⟩ := ((N1.bel y.bel).drew).put (Maps.string_keyed Try.underlying9) Try.underlying88 Try.underlying4 (by unfold maxLen; omega) hkn trivial
            obtain ⟨wy, mb, rb, Bb, gb, eb, fb⟩ := (((N2.bel y.bel).drew).grown ga (by simp)).put (Maps.int_keyed Try.underlying3) Try.underlying89 Try.underlying4 (by unfold maxLen; omega) hkp trivial
            have hxp : x.w.heap.size ≠ p1 := by have := M1lt; omega
            have cx : ∀ o, wx.cell? ⟨x.w.heap.size, o, none⟩ = wb.cell? ⟨x.w.heap.size, o, none⟩ := fun o => by
              rw [World.cell?_of_block (a := ⟨x.w.heap.size, o, none⟩) (ga.block x.w.heap.size (by have := y.bel.le; simp; omega) (by simpa using hxp))]
              exact y.bel.cells _ _ qz
            have HBX : Hid (Bel w wy) := Lib.hid (by
              have b1 : Bel w wx := Below.grown (HBW.out.trans y.bel).drew ga (HBW.out.trans y.bel).drew.size (fun k hk => by simp at hk; omega)
              exact Below.grown b1 gb b1.size (fun k hk => by simp at hk; omega))
            have HBa : Hid (BSet wy Try.prog 9 4 p1 (k + 1) ma) := Lib.hid (Ba.grown gb (by simp))
            have HBb := Lib.hid Bb
            have HEa := Lib.hid ea
            have HFa := Lib.hid fa
            have HEb := Lib.hid eb
            have HFb := Lib.hid fb
            clear N1 N2 Ba Bb ga gb ea fa eb fb hkn hkp
            go_region
            all_goals go_wp2
            all_goals go_roundw
            case rel =>
              refine ⟨k + 1, ⟨_, HBX.out⟩, ma, mb, by omega, by go_num, rfl, HBa.out, HBb.out, fun t => ?_, fun t => ?_, HG.out⟩
              · rw [nameIn_snoc hlt]
                by_cases ht : (tskAt l k).name.data.toList = t.name.data.toList
                · rw [← ht, HEa.out]; simp
                · rw [HFa.out _ (by intro h; injection h with h; exact ht h.symm), HM1.out]; simp [ht]
              · rw [prioIn_snoc hlt]
                by_cases ht : (tskAt l k).prio = t.prio
                · rw [← ht, HEb.out]; simp
                · rw [HFb.out _ (by intro h; injection h with _ h; exact ht h.symm), HM2.out]; simp [ht]
            case measure => simp [intOf]; omega
        · have : k = l.length := by omega
          subst this
          have HX : Hid (pchkT [] l = 0) := by apply Lib.hid; rw [← hd]; simp [pchkT]
          clear hd
          go_wp2
          go_ret
          exact ⟨ret_int (by rw [HE.out, HX.out]), x.bel⟩
end Go.Proofs.Ythcdemmamggboaa
