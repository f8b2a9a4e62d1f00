import Derived.Test.YthidbmeocifkcaaZPclo
namespace Go.Proofs.Ythidbmeocifkcaa
open Go.RowKit
theorem all_at (sv : Value) (l : List PC) (k v : Int) (W : World) (h : ConsAt W W.heap.size sv l) (hl : l.length ≤ 1000000) {b : Bool} (hb : allC k v l = b) :
    Calls Try.prog 52 #[sv, .int .i64 k, .int .i64 v] W fun e w' => e = .returned (.bool b) ∧ Bel W w' := by
  subst hb; exact all_any sv l k v W h hl
set_option maxRecDepth 100000 in
set_option maxHeartbeats 8000000 in
theorem rtog_any (evs ini : Int) (n : Nat) (gv ev av bv : Value) (la lb : List PC) (w : World) (hn : n ≤ 3) (ha : ConsAt w w.heap.size av la) (hb : ConsAt w w.heap.size bv lb)
    (hla : la.length ≤ 1000000) (hlb : lb.length ≤ 1000000) :
    Calls Try.prog 41 #[.agg #[.int .i64 evs, .int .i64 n, .int .i64 ini, gv, ev], av, bv] w fun e w' => e = .returned (.bool (togR n la lb)) ∧ Bel w w' := by
  have HA := Lib.hid ha
  have HB := Lib.hid hb
  have HT : Hid (togR n la lb = togF la lb 1 n) := Lib.hid (by unfold togR; simp)
  clear ha hb
  go_enter Try.func41, Try.ntmps41
  go_upto_region 1 with (fail)
  (generalize hW : World.alloc _ _ = wb; have q0_0 := (congrArg (fun W : World => W.cell? ⟨w.heap.size, 0, none⟩) hW).symm; simp [go_sem] at q0_0; have q0_1 := (congrArg (fun W : World => W.cell? ⟨w.heap.size, 1, none⟩) hW).symm; simp [go_sem] at q0_1; have q0_2 := (congrArg (fun W : World => W.cell? ⟨w.heap.size, 2, none⟩) hW).symm; simp [go_sem] at q0_2; have q0_3 := (congrArg (fun W : World => W.cell? ⟨w.heap.size, 3, none⟩) hW).symm; simp [go_sem] at q0_3; have q0_4 := (congrArg (fun W : World => W.cell? ⟨w.heap.size, 4, none⟩) hW).symm; simp [go_sem] at q0_4; have qz0 : w.heap.size < wb.heap.size := (by rw [← hW]; simp [go_sem]; try omega); have HBW : Hid (Bel w wb) := Lib.hid (by rw [← hW]; (repeat (first | exact Ext.bel _ | exact Bel.refl | refine Bel.alloc ?_ _ | refine Bel.drew ?_ | refine Bel.drewN ?_ _))); clear hW; have hkw := HBW.out.cells)
  have HCA := Lib.hid fun (x : Ext wb) k v b h => all_at av la k v x.w (HA.out.bel (HBW.out.trans x.bel)) hla (b := b) h
  have HCB := Lib.hid fun (x : Ext wb) k v b h => all_at bv lb k v x.w (HB.out.bel (HBW.out.trans x.bel)) hlb (b := b) h
  clear hkw q0_0 q0_2 q0_3 q0_4
  go_wp2
  go_loopw [7] (fun si wr => ∃ (j : Nat) (z : Ext wb), j ≤ n ∧ si = .int .i64 ((j : Int) + 1) ∧ wr = z.w ∧ togF la lb ((j : Int) + 1) (n - j) = togF la lb 1 n) (fun si _ => n + 1 - (intOf si).toNat)
  case atStart => exact ⟨0, ⟨wb, Bel.refl⟩, by omega, rfl, rfl, rfl⟩
  case round =>
    obtain ⟨j, x, hj, rfl, rfl, hd⟩ := hrel
    by_cases hlt : j < n
    · have hstep : togF la lb ((j : Int) + 1) (n - j) = if someV la lb ((j : Int) + 1) 0 32 false then togF la lb ((j : Int) + 1 + 1) (n - (j + 1)) else false := by
        rw [show n - j = (n - (j + 1)) + 1 by omega]; simp only [togF]
      rw [hstep] at hd
      have HD := Lib.hid hd
      have hle : decide ((j : Int) + 1 ≤ (n : Int)) = true := by simp; omega
      clear hd hstep
      go_wp2
      go_loopw [8, 9] (fun ss sv wr => ∃ (u : Nat) (s : Bool) (z : Ext wb), u ≤ 32 ∧ ss = .bool s ∧ sv = .int .i64 u ∧ wr = z.w ∧ someV la lb ((j : Int) + 1) u (32 - u) s = someV la lb ((j : Int) + 1) 0 32 false) (fun _ sv _ => 32 - (intOf sv).toNat)
      case atStart => exact ⟨0, false, x, by omega, rfl, rfl, rfl, rfl⟩
      case round =>
        clear x
        obtain ⟨u, s, x, hu, rfl, rfl, rfl, hd2⟩ := hrel
        by_cases hlu : u < 32
        · have hstep : someV la lb ((j : Int) + 1) u (32 - u) s = someV la lb ((j : Int) + 1) ((u + 1 : Nat) : Int) (32 - (u + 1)) (s || (allC ((j : Int) + 1) u la && allC ((j : Int) + 1) u lb)) := by
            rw [show 32 - u = (32 - (u + 1)) + 1 by omega]; simp only [someV]; rfl
          rw [hstep] at hd2
          clear hstep
          cases s
          · obtain ⟨p, hp⟩ : ∃ p, allC ((j : Int) + 1) u la = p := ⟨_, rfl⟩
            obtain ⟨q, hq⟩ : ∃ q, allC ((j : Int) + 1) u lb = q := ⟨_, rfl⟩
            rw [hp, hq] at hd2
            have C1 := Lib.hid fun z => HCA.out z ((j : Int) + 1) u p hp
            have C2 := Lib.hid fun z => HCB.out z ((j : Int) + 1) u q hq
            replace hd2 := Lib.hid hd2
            clear hp hq
            cases p
            · go_wp2_with (first | (go_at_call 52; (with_reducible refine (C1.out _).mono ?_); rintro e w2 ⟨rfl, hb2⟩; obtain ⟨x, rfl⟩ : ∃ x : Ext wb, w2 = x.w := ext_of (hb2.after (by (repeat (first | exact Ext.bel _ | exact Bel.refl | refine Bel.alloc ?_ _ | refine Bel.drew ?_ | refine Bel.drewN ?_ _)))); clear hb2) | (go_at_call 52; (with_reducible refine (C2.out _).mono ?_); rintro e w2 ⟨rfl, hb2⟩; obtain ⟨x, rfl⟩ : ∃ x : Ext wb, w2 = x.w := ext_of (hb2.after (by (repeat (first | exact Ext.bel _ | exact Bel.refl | refine Bel.alloc ?_ _ | refine Bel.drew ?_ | refine Bel.drewN ?_ _)))); clear hb2))
              go_roundw
              case rel => first | exact ⟨u + 1, _, x, by omega, rfl, by go_num, rfl, hd2.out⟩ | ((repeat apply Exists.intro); exact ⟨⟨u + 1, _, x, by omega, rfl, by go_num, rfl, hd2.out⟩, rfl⟩)
              case measure => simp [intOf]; omega
            · go_wp2_with (first | (go_at_call 52; (with_reducible refine (C1.out _).mono ?_); rintro e w2 ⟨rfl, hb2⟩; obtain ⟨x, rfl⟩ : ∃ x : Ext wb, w2 = x.w := ext_of (hb2.after (by (repeat (first | exact Ext.bel _ | exact Bel.refl | refine Bel.alloc ?_ _ | refine Bel.drew ?_ | refine Bel.drewN ?_ _)))); clear hb2) | (go_at_call 52; (with_reducible refine (C2.out _).mono ?_); rintro e w2 ⟨rfl, hb2⟩; obtain ⟨x, rfl⟩ : ∃ x : Ext wb, w2 = x.w := ext_of (hb2.after (by (repeat (first | exact Ext.bel _ | exact Bel.refl | refine Bel.alloc ?_ _ | refine Bel.drew ?_ | refine Bel.drewN ?_ _)))); clear hb2))
              go_roundw
              case rel => first | exact ⟨u + 1, _, x, by omega, rfl, by go_num, rfl, by simpa using hd2.out⟩ | ((repeat apply Exists.intro); exact ⟨⟨u + 1, _, x, by omega, rfl, by go_num, rfl, by simpa using hd2.out⟩, rfl⟩)
              case measure => simp [intOf]; omega
          · replace hd2 := Lib.hid hd2
            go_wp2
            go_roundw
            case rel => exact ⟨u + 1, _, x, by omega, rfl, by go_num, rfl, by simpa using hd2.out⟩
            case measure => simp [intOf]; omega
        · obtain rfl : u = 32 := by omega
          have HS : Hid (s = someV la lb ((j : Int) + 1) 0 32 false) := Lib.hid (by rw [← hd2]; simp [someV])
          clear hd2
          cases s
          · have HF : Hid (togF la lb 1 n = false) := Lib.hid (by rw [← HD.out, ← HS.out]; rfl)
            go_wp2
            go_ret
            exact ⟨ret_bool (by rw [HT.out, HF.out]), HBW.out.trans x.bel⟩
          · have HF : Hid (togF la lb ((j : Int) + 1 + 1) (n - (j + 1)) = togF la lb 1 n) := Lib.hid (by rw [← HD.out, ← HS.out]; rfl)
            go_wp2
            go_roundw
            case rel => exact ⟨j + 1, x, by omega, by go_num, rfl, HF.out⟩
            case measure => simp [intOf]; omega
    · obtain rfl : j = n := by omega
      have HF : Hid (togF la lb 1 j = true) := Lib.hid (by rw [← hd]; simp [togF])
      clear hd
      go_wp2
      go_ret
      exact ⟨ret_bool (by rw [HT.out, HF.out]), HBW.out.trans x.bel⟩
end Go.Proofs.Ythidbmeocifkcaa
