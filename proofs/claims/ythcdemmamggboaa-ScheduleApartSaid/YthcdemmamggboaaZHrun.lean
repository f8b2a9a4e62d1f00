import Derived.Test.YthcdemmamggboaaZHexe
import Derived.Test.YthcdemmamggboaaG5
import Derived.Test.YthcdemmamggboaaG4
import Derived.Test.YthcdemmamggboaaG6
import Derived.Test.YthcdemmamggboaaZTckp
namespace Go.Proofs.Ythcdemmamggboaa
open Go.RowKit
/-- what Run hands back -/
def RunPost (M : List Stn × List Don × Int) (w : World) (e : Ending) (w' : World) : Prop :=
  ∃ vs vj, e = .returned (.tuple #[.agg #[vs, vj], .int .i64 M.2.2]) ∧ RdAt w' w'.heap.size vs 4 stnC M.1 ∧ RdAt w' w'.heap.size vj 5 donC M.2.1 ∧ Bel w w'
theorem runPost_err {w w' : World} {c : Int} {M : List Stn × List Don × Int} (hM : M = ([], [], c)) (hb : Bel w w') : RunPost M w (.returned (.tuple #[.agg #[.slice none 0 0, .slice none 0 0], .int .i64 c])) w' := by
  subst hM
  exact ⟨_, _, rfl, RdAt.nil, RdAt.nil, hb⟩
/-- the jobs when the first i are judged -/
def judged (l : List Tsk) (ticks : Int) (js : List Don) (i : Nat) : List Don := (js.take i).map (missM l ticks) ++ js.drop i
theorem judged_len (l : List Tsk) (ticks : Int) (js : List Don) (i : Nat) : (judged l ticks js i).length = js.length := by simp [judged]; omega
theorem judged_at (l : List Tsk) (ticks : Int) (js : List Don) {i : Nat} (h : i < js.length) : dnAt (judged l ticks js i) i = dnAt js i := by
  rw [dnAt_eq (by rw [judged_len]; exact h), dnAt_eq h]
  simp only [judged]
  rw [List.getElem_append_right (by simp; omega)]
  simp only [List.length_map, List.length_take, List.getElem_drop]
  congr 1; omega
theorem judged_next (l : List Tsk) (ticks : Int) (js : List Don) {i : Nat} (h : i < js.length) : (judged l ticks js i).set i { dnAt (judged l ticks js i) i with miss := (missM l ticks (dnAt js i)).miss } = judged l ticks js (i + 1) := by
  rw [judged_at l ticks js h]
  simp only [judged]
  rw [List.set_append_right _ _ (by simp; omega), List.drop_eq_getElem_cons h, List.take_succ_eq_append_getElem h, List.map_append, List.append_assoc]
  congr 1
  have : i - ((js.take i).map (missM l ticks)).length = 0 := by simp; omega
  rw [this, dnAt_eq h]
  rfl
theorem runS_succ (l : List Tsk) (pol : Int) (n : Nat) (t : Int) (s : St) : runS l pol (n + 1) t s = runS l pol n (t + 1) (tickM l pol t s) := rfl
set_option maxRecDepth 100000 in
set_option maxHeartbeats 16000000 in
theorem run_any (v : Value) (l : List Tsk) (pol ticks : Int) (w : World) (h : TsksAt w w.heap.size v l) (hs : Sized l) :
    Calls Try.prog 10 #[v, .int .i64 pol, .int .i64 ticks] w (RunPost (scheduleM l pol ticks) w) := by
  have HC := Lib.hid (fun (W : World) (hW : Bel w W) => ceilings_any checkP v l W (h.keep hW.keeps hW.le) hs)
  have HA := Lib.hid (fun (W : World) (hW : Bel w W) => run1_has v l W (h.keep hW.keeps hW.le) hs.len)
  have HS := Lib.hid hs
  have HT := Lib.hid h
  obtain ⟨A, c, rfl, hlc⟩ := h.form
  clear h hs
  go_enter Try.func10, Try.ntmps10
  go_upto_region 1 with (fail)
  generalize hW : World.alloc w _ = wa at *
  have r6 : RowAt wa w.heap.size 29 [.slice none 0 0, .slice none 0 0] := by rw [← hW]; exact RowAt.new _ _ _
  have hba : Bel w wa := by rw [← hW]; exact Bel.refl.alloc _
  clear hW
  have HR6 := Lib.hid r6
  generalize hn0 : w.heap.size = n0 at *
  have HN0 := Lib.hid hn0
  have HBA := Lib.hid hba
  clear hn0 r6 hba
  go_wp2_with fail
  refine (HC.out _ HBA.out).mono ?_
  rintro e w2 ⟨vc, rfl, hvc, hb2, _⟩
  have HB2 := Lib.hid (HBA.out.trans hb2)
  have HR62 := Lib.hid (HR6.out.bel hb2)
  clear hb2 HR6 HBA HC
  by_cases h0 : rchk l = 0
  case neg =>
    have HM : Hid (scheduleM l pol ticks = ([], [], rchk l)) := Lib.hid (by unfold scheduleM; rw [if_neg h0])
    have hne : (rchk l == 0) = false := by simpa using h0
    obtain ⟨Ac, cc, rfl, _⟩ := hvc.form
    generalize rchk l = ck at *
    have e0 := HR62.out.cell (i := 0) rfl
    have e1 := HR62.out.cell (i := 1) rfl
    have g0 := HR62.out.frozen 0
    have g1 := HR62.out.frozen 1
    have ez := HR62.out.lt
    have R := Lib.hid ((HR62.out.set 0 (.slice none 0 0)).set 1 (.slice none 0 0))
    have B := Lib.hid ((HB2.out.set (p := ⟨n0, 0, none⟩) (by rw [HN0.out]; exact Nat.le_refl _) (.slice none 0 0)).set (p := ⟨n0, 1, none⟩) (by rw [HN0.out]; exact Nat.le_refl _) (.slice none 0 0))
    clear hvc
    go_wp2
    generalize World.setCell _ ⟨n0, 1, none⟩ _ = W5 at *
    have w0 := R.out.cell (i := 0) rfl
    have w1 := R.out.cell (i := 1) rfl
    exact bodyPost_ret (v := .tuple #[.agg #[.slice none 0 0, .slice none 0 0], .int .i64 ck]) (by simp [results, Try.results10, go_sem, w0, w1]) rfl (runPost_err HM.out B.out)
  rw [h0]
  rw [if_pos h0] at hvc
  obtain ⟨Ac, cc, rfl, _⟩ := hvc.form
  rw [ceils_len] at *
  have HVC := Lib.hid hvc
  have H0 := Lib.hid h0
  clear hvc h0
  go_upto_region 4 with (fail)
  go_wp2_with fail
  refine (HA.out _ HB2.out).mono ?_
  rintro e w3 ⟨rfl, hb3⟩
  have hsec : l.any hasSec = secsB l := (secsB_eq l).symm
  rw [hsec]
  have HB3 := Lib.hid (HB2.out.trans hb3)
  have HR63 := Lib.hid (HR62.out.bel hb3)
  have HVC3 := Lib.hid (HVC.out.keep hb3.keeps hb3.le)
  clear hb3 HB2 HR62 HVC HA hsec
  obtain ⟨bad, hbad⟩ : ∃ bad, bad = decide ((pol ≠ 1 ∧ (pol ≠ 2 ∨ secsB l = true)) ∨ ticks < 0) := ⟨_, rfl⟩
  generalize hsb : secsB l = sb at *
  have HSB := Lib.hid hsb
  clear hsb
  have HBAD := Lib.hid hbad
  clear hbad
  go_upto_region 5 with (fail)
  go_cut [39] from 27 (fun sl wx => sl = .bool bad ∧ wx = w3)
  case first =>
    have hb := HBAD.out
    by_cases p1 : pol = 1
    · subst p1
      by_cases ht : ticks < 0
      · obtain rfl : bad = true := by rw [hb]; simp [ht]
        have hd : decide (ticks < 0) = true := by simpa using ht
        clear hb
        go_wp2
        go_meet
        case rel => exact ⟨rfl, rfl⟩
      · obtain rfl : bad = false := by rw [hb]; simp [ht]
        have hd : decide (ticks < 0) = false := by simpa using ht
        clear hb
        go_wp2
        go_meet
        case rel => exact ⟨rfl, rfl⟩
    · have q1 : (pol == 1) = false := by simpa using p1
      by_cases p2 : pol = 2
      · subst p2
        cases sb
        · by_cases ht : ticks < 0
          · obtain rfl : bad = true := by rw [hb]; simp [ht]
            have hd : decide (ticks < 0) = true := by simpa using ht
            clear hb
            go_wp2
            go_meet
            case rel => exact ⟨rfl, rfl⟩
          · obtain rfl : bad = false := by rw [hb]; simp [ht]
            have hd : decide (ticks < 0) = false := by simpa using ht
            clear hb
            go_wp2
            go_meet
            case rel => exact ⟨rfl, rfl⟩
        · obtain rfl : bad = true := by rw [hb]; simp
          clear hb
          go_wp2
          go_meet
          case rel => exact ⟨rfl, rfl⟩
      · have q2 : (pol == 2) = false := by simpa using p2
        obtain rfl : bad = true := by rw [hb]; simp [p1, p2]
        clear hb
        go_wp2
        go_meet
        case rel => exact ⟨rfl, rfl⟩
  case rest =>
  obtain ⟨rfl, rfl⟩ := hcut
  cases bad
  case true =>
    have HM : Hid (scheduleM l pol ticks = ([], [], 2)) := Lib.hid (by unfold scheduleM; rw [if_pos H0.out, HSB.out, if_pos (of_decide_eq_true HBAD.out.symm)])
    have e0 := HR63.out.cell (i := 0) rfl
    have e1 := HR63.out.cell (i := 1) rfl
    have g0 := HR63.out.frozen 0
    have g1 := HR63.out.frozen 1
    have ez := HR63.out.lt
    have R := Lib.hid ((HR63.out.set 0 (.slice none 0 0)).set 1 (.slice none 0 0))
    have B := Lib.hid ((HB3.out.set (p := ⟨n0, 0, none⟩) (by rw [HN0.out]; exact Nat.le_refl _) (.slice none 0 0)).set (p := ⟨n0, 1, none⟩) (by rw [HN0.out]; exact Nat.le_refl _) (.slice none 0 0))
    go_wp2
    generalize World.setCell _ ⟨n0, 1, none⟩ _ = W5 at *
    have w0 := R.out.cell (i := 0) rfl
    have w1 := R.out.cell (i := 1) rfl
    exact bodyPost_ret (v := .tuple #[.agg #[.slice none 0 0, .slice none 0 0], .int .i64 2]) (by simp [results, Try.results10, go_sem, w0, w1]) rfl (runPost_err HM.out B.out)
  have hnb : ¬ ((pol ≠ 1 ∧ (pol ≠ 2 ∨ sb = true)) ∨ ticks < 0) := of_decide_eq_false HBAD.out.symm
  have ht0 : 0 ≤ ticks := by
    rcases Int.lt_or_le ticks 0 with h | h
    · exact absurd (.inr h) hnb
    · exact h
  by_cases hl : 20000 < ticks
  case pos =>
    have hd : decide (20000 < ticks) = true := by simpa using hl
    have HM : Hid (scheduleM l pol ticks = ([], [], 3)) := Lib.hid (by unfold scheduleM; rw [if_pos H0.out, HSB.out, if_neg hnb, if_pos hl])
    clear hnb
    have e0 := HR63.out.cell (i := 0) rfl
    have e1 := HR63.out.cell (i := 1) rfl
    have g0 := HR63.out.frozen 0
    have g1 := HR63.out.frozen 1
    have ez := HR63.out.lt
    have R := Lib.hid ((HR63.out.set 0 (.slice none 0 0)).set 1 (.slice none 0 0))
    have B := Lib.hid ((HB3.out.set (p := ⟨n0, 0, none⟩) (by rw [HN0.out]; exact Nat.le_refl _) (.slice none 0 0)).set (p := ⟨n0, 1, none⟩) (by rw [HN0.out]; exact Nat.le_refl _) (.slice none 0 0))
    go_wp2
    generalize World.setCell _ ⟨n0, 1, none⟩ _ = W5 at *
    have w0 := R.out.cell (i := 0) rfl
    have w1 := R.out.cell (i := 1) rfl
    exact bodyPost_ret (v := .tuple #[.agg #[.slice none 0 0, .slice none 0 0], .int .i64 3]) (by simp [results, Try.results10, go_sem, w0, w1]) rfl (runPost_err HM.out B.out)
  have hd : decide (20000 < ticks) = false := by simpa using hl
  have HM : Hid (scheduleM l pol ticks = ((endS l pol ticks).stints, (endS l pol ticks).jobs.map (missM l ticks), 0)) := Lib.hid (by unfold scheduleM; rw [if_pos H0.out, HSB.out, if_neg hnb, if_neg hl])
  clear hnb HBAD
  have HTC := Lib.hid (HT.out.keep (by have := HB3.out.keeps; rw [HN0.out] at this; exact this) (by have := HB3.out.le; rw [HN0.out] at this; exact this))
  go_upto_region 10 with (fail)
  generalize hW : World.alloc wc _ = W at *
  have rb : RowAt W wc.heap.size 61 [.slice A l.length c, .slice Ac 8 cc, .int .i64 pol, .slice none 0 0, .slice none 0 0, .slice none 0 0] := by rw [← hW]; exact RowAt.new _ _ _
  have HSI : Hid (SimAt W wc.heap.size wc.heap.size (.slice A l.length c) (.slice Ac 8 cc) pol (.slice none 0 0) (.slice none 0 0) (.slice none 0 0) ⟨[], [], []⟩) := Lib.hid ⟨rb, World.ownsRow_nil _ _ _ _, World.ownsRow_nil _ _ _ _, World.ownsRow_nil _ _ _ _⟩
  obtain ⟨x0, hx0⟩ := ext_of (show Bel wc W by rw [← hW]; exact Bel.refl.alloc _)
  clear hW rb
  subst hx0
  have HHC := Lib.hid HVC3.out
  obtain ⟨T, hT⟩ : ∃ T : Nat, ticks = T := ⟨ticks.toNat, by omega⟩
  have HTT := Lib.hid hT
  have HEND : Hid (runS l pol T 0 ⟨[], [], []⟩ = endS l pol ticks) := Lib.hid (by unfold endS; rw [hT]; rfl)
  have hT2 : (T : Int) ≤ 20000 := by omega
  generalize hbb : wc.heap.size = b
  have HB0 : Hid (wc.heap.size ≤ b) := Lib.hid (Nat.le_of_eq hbb)
  have HSJ : Hid (SimAt x0.w wc.heap.size b (.slice A l.length c) (.slice Ac 8 cc) pol (.slice none 0 0) (.slice none 0 0) (.slice none 0 0) ⟨[], [], []⟩) := Lib.hid (by rw [← hbb]; exact HSI.out)
  clear hbb hT HSI
  have HRL := Lib.hid (fun (t : Int) (ht0 : 0 ≤ t) (ht1 : t ≤ 20000) (x : Ext wc) (s : St) (vr vs vj : Value) hh hj hr => release_any wc b (.slice A l.length c) (.slice Ac 8 cc) pol l t HB0.out HTC.out H0.out ht0 ht1 x s vr vs vj hh hj hr)
  have HEX := Lib.hid (fun (t : Int) (ht0 : 0 ≤ t) (ht1 : t ≤ 20000) (x : Ext wc) (s : St) (vr vs vj : Value) hh hj hr hst hI => execute_any wc b (.slice A l.length c) (.slice Ac 8 cc) pol l t HB0.out HTC.out HVC3.out HS.out H0.out ht0 ht1 x s vr vs vj hh hj hr hst hI)
  have hl8 := (rchk_ok H0.out).1
  go_wp2
  go_loopg [12] T (fun gk s12 wr => ∃ (k : Nat) (z : Ext wc) (vr vs vj : Value) (q : St), k + gk = T ∧ s12 = .int .i64 k ∧ wr = z.w ∧ SimAt z.w wc.heap.size b (.slice A l.length c) (.slice Ac 8 cc) pol vr vs vj q ∧ Inv l ((k : Int) - 1) q ∧ runS l pol gk k q = endS l pol ticks)
  case atStart => exact ⟨0, x0, _, _, _, _, by omega, rfl, rfl, HSJ.out, Inv0 l, HEND.out⟩
  case round =>
    clear HSJ HEND
    obtain ⟨k, z, vr, vs, vj, q, hk, rfl, rfl, hq, hi, hd⟩ := hrel
    have HQ := Lib.hid hq
    have HI := Lib.hid hi
    have HD := Lib.hid hd
    clear hq hi hd
    by_cases hlt : k < T
    · have hdl : decide ((k : Int) < ticks) = true := decide_eq_true (by have := HTT.out; omega)
      obtain ⟨g', rfl⟩ : ∃ g', gk = g' + 1 := ⟨gk - 1, by omega⟩
      obtain ⟨i1, i2, i3⟩ := tick_inv (pol := pol) H0.out (t := (k : Int)) (by omega) HI.out
      have b1 := HI.out.rl
      have b2 := HI.out.jl
      have b3 := HI.out.sl
      have b4 := i1.rl
      have b5 := i1.jl
      have hlk : (l.length : Int) * ((k : Int) - 1 + 1) ≤ 8 * 20000 := Int.mul_le_mul (by omega) (by omega) (by omega) (by omega)
      have hlk2 : (l.length : Int) * ((k : Int) + 1) ≤ 8 * 20001 := Int.mul_le_mul (by omega) (by omega) (by omega) (by omega)
      have HREL := Lib.hid (HRL.out (k : Int) (by omega) (by omega) z q vr vs vj HQ.out (by omega) (by omega))
      have HIJ : Hid (∀ j ∈ (relJ k 0 l q).ready, JOk l j ∧ j.pos < (relJ k 0 l q).jobs.length) := Lib.hid (fun j hj => ⟨(i1.rd j hj).ok (by omega), (i1.rd j hj).ps⟩)
      have HI3 := Lib.hid i3
      have HN : Hid ((relJ (k : Int) 0 l q).jobs.length ≤ 1000000 ∧ (relJ (k : Int) 0 l q).ready.length ≤ 1000000 ∧ (relJ (k : Int) 0 l q).stints.length ≤ 1000000) := Lib.hid ⟨by omega, by omega, by omega⟩
      clear i1 i2 i3 b1 b2 b3 b4 b5 hlk hlk2
      go_wp2_with fail
      refine HREL.out.mono ?_
      rintro e w4 ⟨rfl, y, vr', vj', rfl, hs4⟩
      have HS4 := Lib.hid hs4
      have HEXE := Lib.hid (HEX.out (k : Int) (by omega) (by omega) y _ vr' vs vj' HS4.out HN.out.1 HN.out.2.1 HN.out.2.2 HIJ.out)
      clear hs4 HREL HIJ
      go_wp2_with fail
      refine HEXE.out.mono ?_
      rintro e w5 ⟨rfl, y5, vr5, vs5, rfl, hs5⟩
      have HS5 : Hid (SimAt y5.w wc.heap.size b (.slice A l.length c) (.slice Ac 8 cc) pol vr5 vs5 vj' (tickM l pol k q)) := Lib.hid hs5
      clear hs5 HEXE HS4
      have HD2 : Hid (runS l pol g' ((k + 1 : Nat) : Int) (tickM l pol k q) = endS l pol ticks) := Lib.hid (by have := HD.out; rw [runS_succ] at this; push_cast; exact this)
      have HI4 : Hid (Inv l (((k + 1 : Nat) : Int) - 1) (tickM l pol k q)) := Lib.hid (by have := HI3.out; rw [show ((k + 1 : Nat) : Int) - 1 = k by omega]; exact this)
      clear HD HI HI3 HN HQ
      go_wp2
      go_roundg g'
      case measure => omega
      case rel => exact ⟨k + 1, y5, _, _, _, _, by omega, by go_num, rfl, HS5.out, HI4.out, HD2.out⟩
    · obtain rfl : k = T := by omega
      obtain rfl : gk = 0 := by omega
      have hdl : decide ((k : Int) < ticks) = false := decide_eq_false (by have := HTT.out; omega)
      have HQE : Hid (q = endS l pol ticks) := Lib.hid HD.out
      have HDT : Hid (∀ d ∈ q.jobs, d.tk < l.length ∧ 0 ≤ d.rel ∧ d.rel ≤ 20000) := Lib.hid (fun d hd => by have := HI.out.dt d hd; omega)
      have b2 := HI.out.jl
      have hlk : (l.length : Int) * ((k : Int) - 1 + 1) ≤ 8 * 20000 := Int.mul_le_mul (by omega) (by omega) (by omega) (by omega)
      have hjn : q.jobs.length ≤ 1000000 := by omega
      clear HD HI b2 hlk HRL HEX
      obtain ⟨Aj, cj, rfl, _⟩ := own_slice HQ.out.jb
      have k5 : z.w.cell? ⟨b, 5, none⟩ = some (.slice Aj q.jobs.length cj) := HQ.out.box.cell rfl
      have hbz := HQ.out.box.lt
      go_wp2
      clear k5 hbz
      obtain ⟨ba, off, rfl, hba, hA⟩ := HTC.out.at_ (by have := rchk_pos H0.out; omega)
      have HAT := Lib.hid hA
      clear hA
      have HQ0 : Hid (SimAt z.w wc.heap.size b (.slice (some ⟨ba, off, none⟩) l.length c) (.slice Ac 8 cc) pol vr vs (.slice Aj q.jobs.length cj) ⟨q.ready, q.stints, judged l ticks q.jobs 0⟩) := Lib.hid (by unfold judged; simpa using HQ.out)
      go_loopg [66] q.jobs.length (fun gk s66 wr => ∃ (i : Nat) (y : Ext wc), i + gk = q.jobs.length ∧ s66 = .int .i64 i ∧ wr = y.w ∧ SimAt y.w wc.heap.size b (.slice (some ⟨ba, off, none⟩) l.length c) (.slice Ac 8 cc) pol vr vs (.slice Aj q.jobs.length cj) ⟨q.ready, q.stints, judged l ticks q.jobs i⟩)
      case atStart => exact ⟨0, z, by omega, rfl, rfl, HQ0.out⟩
      case round =>
        clear HQ0 HQ z
        obtain ⟨i, z, hi, rfl, rfl, hq⟩ := hrel
        have HQ := Lib.hid hq
        clear hq
        by_cases hlt2 : i < q.jobs.length
        · have hdl2 : decide ((i : Int) < (q.jobs.length : Int)) = true := by simp; omega
          obtain ⟨gj, cj2, hvj, hcj2, hgb, hgjz⟩ := own_form HQ.out.jb (by dsimp only; rw [judged_len]; omega)
          dsimp only at hvj
          rw [judged_len] at hvj
          injection hvj with hvj _ hcc
          subst hvj hcc
          have hrd : z.w.ownsRow wc.heap.size 42 5 (.slice (some ⟨gj, 0, none⟩) q.jobs.length cj) q.jobs.length ((judged l ticks q.jobs i).flatMap donC) := by have := HQ.out.jb; dsimp only at this; rwa [judged_len] at this
          have hil : i < (judged l ticks q.jobs i).length := by rw [judged_len]; exact hlt2
          have d0 := don_cell hrd (by rw [judged_len]) hil 0 (by omega)
          have d2 := don_cell hrd (by rw [judged_len]) hil 2 (by omega)
          have d3 := don_cell hrd (by rw [judged_len]) hil 3 (by omega)
          have d4 := don_cell hrd (by rw [judged_len]) hil 4 (by omega)
          rw [judged_at l ticks q.jobs hlt2] at d0 d2 d3 d4
          simp only [Nat.add_zero] at d0
          replace d0 : z.w.cell? ⟨gj, i * 5, none⟩ = some (.int .i64 (dnAt q.jobs i).tk) := d0
          replace d2 : z.w.cell? ⟨gj, i * 5 + 2, none⟩ = some (.int .i64 (dnAt q.jobs i).rel) := d2
          replace d3 : z.w.cell? ⟨gj, i * 5 + 3, none⟩ = some (.int .i64 (dnAt q.jobs i).resp) := d3
          replace d4 : z.w.cell? ⟨gj, i * 5 + 4, none⟩ = some (.bool (dnAt q.jobs i).miss) := d4
          have f4 := hrd.frozenAt (i * 5 + 4)
          have hgz := (hrd.lt gj rfl).2
          have hput : ∀ m : Bool, SimAt (z.w.setCell ⟨gj, i * 5 + 4, none⟩ (.bool m)) wc.heap.size b (.slice (some ⟨ba, off, none⟩) l.length c) (.slice Ac 8 cc) pol vr vs (.slice (some ⟨gj, 0, none⟩) q.jobs.length cj) ⟨q.ready, q.stints, (judged l ticks q.jobs i).set i { dnAt (judged l ticks q.jobs i) i with miss := m }⟩ := fun m => by
            obtain ⟨o1, o2⟩ := don_miss hrd (by rw [judged_len]) hil m
            exact HQ.out.new_j o2 o1
          have HJN := Lib.hid (judged_next l ticks q.jobs hlt2)
          obtain ⟨ht1, ht2, ht3⟩ := HDT.out (dnAt q.jobs i) (by simp [dnAt, List.getD, hlt2])
          obtain ⟨sv, ⟨_, _, _, t3, _, _, _⟩, _⟩ := HAT.out (dnAt q.jobs i).tk ht1
          have hok := tok_at H0.out ht1
          have hdl1 := hok.d1
          have hdl2 : (tskAt l (dnAt q.jobs i).tk).dl ≤ 1000 := by have := hok.d2; have := hok.p2; omega
          have k5 : z.w.cell? ⟨b, 5, none⟩ = some (.slice (some ⟨gj, 0, none⟩) q.jobs.length cj) := HQ.out.box.cell rfl
          have hbz := HQ.out.box.lt
          have HMS : Hid ((missM l ticks (dnAt q.jobs i)).miss = (decide ((dnAt q.jobs i).rel + (tskAt l (dnAt q.jobs i).tk).dl ≤ ticks) && (decide ((dnAt q.jobs i).resp < 0) || decide ((tskAt l (dnAt q.jobs i).tk).dl < (dnAt q.jobs i).resp)))) := Lib.hid rfl
          clear hrd hil hok hgjz
          generalize hdd : dnAt q.jobs i = d at *
          generalize (tskAt l d.tk).dl = dl at *
          clear hdd
          by_cases h1 : d.rel + dl ≤ ticks
          · have q1 : decide (d.rel + dl ≤ ticks) = true := by simpa using h1
            by_cases h2 : d.resp < 0
            · have q2 : decide (d.resp < 0) = true := by simpa using h2
              have HX : Hid ((missM l ticks d).miss = true) := Lib.hid (by rw [HMS.out, q1, q2]; rfl)
              have HSX := Lib.hid (hput true)
              have HBX := Lib.hid (z.bel.set (p := ⟨gj, i * 5 + 4, none⟩) hgb (.bool true))
              clear hput
              go_wp2
              go_roundg (gk - 1)
              case measure => omega
              case rel =>
                obtain ⟨y, hy⟩ := ext_of HBX.out
                exact ⟨i + 1, y, by omega, by go_num, hy, by rw [← hy, ← HJN.out, HX.out]; exact HSX.out⟩
            · have q2 : decide (d.resp < 0) = false := by simpa using h2
              by_cases h3 : dl < d.resp
              · have q3 : decide (dl < d.resp) = true := by simpa using h3
                have HX : Hid ((missM l ticks d).miss = true) := Lib.hid (by rw [HMS.out, q1, q2, q3]; rfl)
                have HSX := Lib.hid (hput true)
                have HBX := Lib.hid (z.bel.set (p := ⟨gj, i * 5 + 4, none⟩) hgb (.bool true))
                clear hput
                go_wp2
                go_roundg (gk - 1)
                case measure => omega
                case rel =>
                  obtain ⟨y, hy⟩ := ext_of HBX.out
                  exact ⟨i + 1, y, by omega, by go_num, hy, by rw [← hy, ← HJN.out, HX.out]; exact HSX.out⟩
              · have q3 : decide (dl < d.resp) = false := by simpa using h3
                have HX : Hid ((missM l ticks d).miss = false) := Lib.hid (by rw [HMS.out, q1, q2, q3]; rfl)
                have HSX := Lib.hid (hput false)
                have HBX := Lib.hid (z.bel.set (p := ⟨gj, i * 5 + 4, none⟩) hgb (.bool false))
                clear hput
                go_wp2
                go_roundg (gk - 1)
                case measure => omega
                case rel =>
                  obtain ⟨y, hy⟩ := ext_of HBX.out
                  exact ⟨i + 1, y, by omega, by go_num, hy, by rw [← hy, ← HJN.out, HX.out]; exact HSX.out⟩
          · have q1 : decide (d.rel + dl ≤ ticks) = false := by simpa using h1
            have HX : Hid ((missM l ticks d).miss = false) := Lib.hid (by rw [HMS.out, q1]; rfl)
            have HSX := Lib.hid (hput false)
            have HBX := Lib.hid (z.bel.set (p := ⟨gj, i * 5 + 4, none⟩) hgb (.bool false))
            clear hput
            go_wp2
            go_roundg (gk - 1)
            case measure => omega
            case rel =>
              obtain ⟨y, hy⟩ := ext_of HBX.out
              exact ⟨i + 1, y, by omega, by go_num, hy, by rw [← hy, ← HJN.out, HX.out]; exact HSX.out⟩
        · obtain rfl : i = q.jobs.length := by omega
          have hdl2 : decide ((q.jobs.length : Int) < (q.jobs.length : Int)) = false := by simp
          have hjd : judged l ticks q.jobs q.jobs.length = (endS l pol ticks).jobs.map (missM l ticks) := by rw [← HQE.out]; unfold judged; simp
          have hjl : (judged l ticks q.jobs q.jobs.length).length = q.jobs.length := judged_len _ _ _ _
          obtain ⟨As, cs, rfl, _⟩ := own_slice HQ.out.st
          have k4 : z.w.cell? ⟨b, 4, none⟩ = some (.slice As q.stints.length cs) := HQ.out.box.cell rfl
          have k5 : z.w.cell? ⟨b, 5, none⟩ = some (.slice Aj q.jobs.length cj) := HQ.out.box.cell rfl
          have hbz := HQ.out.box.lt
          have r6 := HR63.out.bel z.bel
          have e0 := r6.cell (i := 0) rfl
          have e1 := r6.cell (i := 1) rfl
          have g0 := r6.frozen 0
          have g1 := r6.frozen 1
          have ez := r6.lt
          have R := Lib.hid ((r6.set 0 (.slice As q.stints.length cs)).set 1 (.slice Aj q.jobs.length cj))
          have B := Lib.hid (((HB3.out.trans z.bel).set (p := ⟨n0, 0, none⟩) (by rw [HN0.out]; exact Nat.le_refl _) (.slice As q.stints.length cs)).set (p := ⟨n0, 1, none⟩) (by rw [HN0.out]; exact Nat.le_refl _) (.slice Aj q.jobs.length cj))
          have HFS : Hid (z.w.ownsRow wc.heap.size 39 4 (.slice As q.stints.length cs) q.stints.length (q.stints.flatMap stnC)) := Lib.hid HQ.out.st
          have HFJ : Hid (z.w.ownsRow wc.heap.size 42 5 (.slice Aj q.jobs.length cj) q.jobs.length ((judged l ticks q.jobs q.jobs.length).flatMap donC)) := Lib.hid (by have := HQ.out.jb; dsimp only at this; rwa [hjl] at this)
          have gA := gro_set (gro_refl z.w (row := some n0)) 0 (.slice As q.stints.length cs)
          have gB := Lib.hid (gro_set gA 1 (.slice Aj q.jobs.length cj))
          have HS1 := Lib.hid (HFS.out.kept gB.out (own_box_ne r6 HFS.out (by decide)))
          have HS2 := Lib.hid (HFJ.out.kept gB.out (own_box_ne r6 HFJ.out (by decide)))
          have HJD := Lib.hid hjd
          have HJL := Lib.hid hjl
          clear r6 gA hjd hjl
          go_wp2
          generalize World.setCell _ ⟨n0, 1, none⟩ _ = W5 at *
          have w0 := R.out.cell (i := 0) rfl
          have w1 := R.out.cell (i := 1) rfl
          refine bodyPost_ret (v := .tuple #[.agg #[.slice As q.stints.length cs, .slice Aj q.jobs.length cj], .int .i64 0]) (by simp [results, Try.results10, go_sem, w0, w1]) rfl ?_
          refine ⟨_, _, by rw [HM.out], ?_, ?_, B.out⟩
          · rw [HM.out, ← HQE.out]
            exact RdAt.of_own stnC_len rfl HS1.out
          · rw [HM.out]
            dsimp only
            rw [← HJD.out]
            exact RdAt.of_own donC_len HJL.out.symm HS2.out
end Go.Proofs.Ythcdemmamggboaa
