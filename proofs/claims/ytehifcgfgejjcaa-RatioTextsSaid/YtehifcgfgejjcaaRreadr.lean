import Derived.Test.YtehifcgfgejjcaaRread
namespace Go.Proofs.Ytehifcgfgejjcaa
open Go.RowKit
theorem readL_all1 {s : ByteArray} (h : idxS (bl s) = s.size) : readL (bl s) = readF (numL (bl s)) (1, false, true) := by
  unfold readL
  rw [h, if_neg (by rw [bl_len]; omega), List.take_of_length_le (by rw [bl_len]; exact Nat.le_refl _)]
set_option maxRecDepth 100000 in
set_option maxHeartbeats 8000000 in
theorem rread_any (s : ByteArray) (w : World) (hs : s.size ≤ 1000000) : Calls Try.prog 15 #[.string s] w fun e w' => e = .returned (rresV (readL (bl s))) ∧ Bel w w' := by
  go_enter Try.func15, Try.ntmps15
  go_upto_region 1 with (fail)
  (generalize hW : World.alloc _ _ = wb; have q0_0 := (congrArg (fun W : World => W.cell? ⟨w.heap.size, 0, none⟩) hW).symm; simp [go_sem] at q0_0; have qf0_0 := (congrArg (fun W : World => W.frozen? ⟨w.heap.size, 0, none⟩) hW).symm; simp [go_sem] at qf0_0; have q0_1 := (congrArg (fun W : World => W.cell? ⟨w.heap.size, 1, none⟩) hW).symm; simp [go_sem] at q0_1; have qf0_1 := (congrArg (fun W : World => W.frozen? ⟨w.heap.size, 1, none⟩) hW).symm; simp [go_sem] at qf0_1; have qz0 : w.heap.size < wb.heap.size := (by rw [← hW]; simp [go_sem]; try omega); have HBW : Hid (Bel w wb) := Lib.hid (by rw [← hW]; (repeat (first | exact Ext.bel _ | exact Bel.refl | refine Bel.alloc ?_ _ | refine Bel.drew ?_ | refine Bel.drewN ?_ _))); clear hW; have hkw := HBW.out.cells)
  go_wp2
  go_loopw [4] (fun si wr => ∃ (k : Nat) (z : Ext wb), k ≤ s.size ∧ si = .int .i64 k ∧ wr = z.w ∧ k + idxS ((bl s).drop k) = idxS (bl s)) (fun si _ => s.size - (intOf si).toNat)
  case atStart => exact ⟨0, ⟨wb, Bel.refl⟩, by omega, rfl, rfl, by simp⟩
  case round =>
    obtain ⟨k, z, hk, rfl, rfl, hd⟩ := hrel
    by_cases hlt : k < s.size
    · rw [bl_drop hlt] at hd
      have hq := byte47 s[k]
      by_cases h47 : s[k] = 47
      · have hq2 : ((s[k].toNat : Int) == 47) = true := by rw [hq]; simpa using h47
        rw [idxS_hit h47, Nat.add_zero] at hd
        have HR := Lib.hid (readL_cut hd.symm hlt)
        clear hd hq h47
        have hz1 : (s.extract 0 k).size ≤ 1000000 := by simp; omega
        have hz2 : (s.extract (k + 1) s.size).size ≤ 1000000 := by simp; omega
        obtain ⟨⟨an, ag, ao⟩, hA⟩ : ∃ p, numL (bl (s.extract 0 k)) = p := ⟨_, rfl⟩
        have N1 := Lib.hid fun W => rnum_at (s.extract 0 k) W hz1 hA
        have hi1 : i64 an := by have := numL_i64 (bl (s.extract 0 k)); rw [hA] at this; exact this
        obtain ⟨⟨dn, dg, d_o⟩, hD⟩ : ∃ p, numL (bl (s.extract (k + 1) s.size)) = p := ⟨_, rfl⟩
        have N2 := Lib.hid fun W => rnum_at (s.extract (k + 1) s.size) W hz2 hD
        have hi2 : i64 dn := by have := numL_i64 (bl (s.extract (k + 1) s.size)); rw [hD] at this; exact this
        rw [hA, hD] at HR
        have HM := fun W => rmake_at' an dn W hi1 hi2
        have hf := rdF an ag ao dn dg d_o
        clear hA hD hi1 hi2
        generalize readF (an, ag, ao) (dn, dg, d_o) = rr at *
        cases hf
        case a h1 =>
          replace HM := Lib.hid HM
          subst h1
          go_wp2_with (first | (go_at_call 44; (with_reducible refine (N1.out _).mono ?_); rintro e w2 ⟨rfl, hb2⟩; obtain ⟨x, rfl⟩ : ∃ x : Ext wb, w2 = x.w := ext_of (hb2.after (by (repeat (first | exact Ext.bel _ | exact Bel.refl | refine Bel.alloc ?_ _ | refine Bel.drew ?_ | refine Bel.drewN ?_ _)))); clear hb2) | (go_at_call 44; (with_reducible refine (N2.out _).mono ?_); rintro e w2 ⟨rfl, hb2⟩; obtain ⟨x, rfl⟩ : ∃ x : Ext wb, w2 = x.w := ext_of (hb2.after (by (repeat (first | exact Ext.bel _ | exact Bel.refl | refine Bel.alloc ?_ _ | refine Bel.drew ?_ | refine Bel.drewN ?_ _)))); clear hb2))
          refine bodyPost_ret (v := .tuple #[.agg #[.int .i64 0, .int .i64 0], .int .i64 6]) (by simp [results, Try.results15, go_sem, q0_0, q0_1, qz0]) rfl ⟨by rw [HR.out]; rfl, ?_⟩
          (repeat (first | exact HBW.out.trans x.bel | refine Bel.alloc ?_ _ | refine Bel.drew ?_ | refine Bel.drewN ?_ _ | refine Bel.set ?_ (by first | exact Nat.le_refl _ | (simp; done) | (simp; omega) | omega) _))
        case b h1 h2 =>
          replace HM := Lib.hid HM
          subst h1 h2
          go_wp2_with (first | (go_at_call 44; (with_reducible refine (N1.out _).mono ?_); rintro e w2 ⟨rfl, hb2⟩; obtain ⟨x, rfl⟩ : ∃ x : Ext wb, w2 = x.w := ext_of (hb2.after (by (repeat (first | exact Ext.bel _ | exact Bel.refl | refine Bel.alloc ?_ _ | refine Bel.drew ?_ | refine Bel.drewN ?_ _)))); clear hb2) | (go_at_call 44; (with_reducible refine (N2.out _).mono ?_); rintro e w2 ⟨rfl, hb2⟩; obtain ⟨x, rfl⟩ : ∃ x : Ext wb, w2 = x.w := ext_of (hb2.after (by (repeat (first | exact Ext.bel _ | exact Bel.refl | refine Bel.alloc ?_ _ | refine Bel.drew ?_ | refine Bel.drewN ?_ _)))); clear hb2))
          refine bodyPost_ret (v := .tuple #[.agg #[.int .i64 0, .int .i64 0], .int .i64 6]) (by simp [results, Try.results15, go_sem, q0_0, q0_1, qz0]) rfl ⟨by rw [HR.out]; rfl, ?_⟩
          (repeat (first | exact HBW.out.trans x.bel | refine Bel.alloc ?_ _ | refine Bel.drew ?_ | refine Bel.drewN ?_ _ | refine Bel.set ?_ (by first | exact Nat.le_refl _ | (simp; done) | (simp; omega) | omega) _))
        case c h1 h2 h3 =>
          replace HM := Lib.hid HM
          subst h1 h2
          go_wp2_with (first | (go_at_call 44; (with_reducible refine (N1.out _).mono ?_); rintro e w2 ⟨rfl, hb2⟩; obtain ⟨x, rfl⟩ : ∃ x : Ext wb, w2 = x.w := ext_of (hb2.after (by (repeat (first | exact Ext.bel _ | exact Bel.refl | refine Bel.alloc ?_ _ | refine Bel.drew ?_ | refine Bel.drewN ?_ _)))); clear hb2) | (go_at_call 44; (with_reducible refine (N2.out _).mono ?_); rintro e w2 ⟨rfl, hb2⟩; obtain ⟨x, rfl⟩ : ∃ x : Ext wb, w2 = x.w := ext_of (hb2.after (by (repeat (first | exact Ext.bel _ | exact Bel.refl | refine Bel.alloc ?_ _ | refine Bel.drew ?_ | refine Bel.drewN ?_ _)))); clear hb2))
          refine bodyPost_ret (v := .tuple #[.agg #[.int .i64 0, .int .i64 0], .int .i64 6]) (by simp [results, Try.results15, go_sem, q0_0, q0_1, qz0]) rfl ⟨by rw [HR.out]; rfl, ?_⟩
          (repeat (first | exact HBW.out.trans x.bel | refine Bel.alloc ?_ _ | refine Bel.drew ?_ | refine Bel.drewN ?_ _ | refine Bel.set ?_ (by first | exact Nat.le_refl _ | (simp; done) | (simp; omega) | omega) _))
        case d h1 h2 h3 h4 =>
          replace HM := Lib.hid HM
          subst h1 h2 h4
          go_wp2_with (first | (go_at_call 44; (with_reducible refine (N1.out _).mono ?_); rintro e w2 ⟨rfl, hb2⟩; obtain ⟨x, rfl⟩ : ∃ x : Ext wb, w2 = x.w := ext_of (hb2.after (by (repeat (first | exact Ext.bel _ | exact Bel.refl | refine Bel.alloc ?_ _ | refine Bel.drew ?_ | refine Bel.drewN ?_ _)))); clear hb2) | (go_at_call 44; (with_reducible refine (N2.out _).mono ?_); rintro e w2 ⟨rfl, hb2⟩; obtain ⟨x, rfl⟩ : ∃ x : Ext wb, w2 = x.w := ext_of (hb2.after (by (repeat (first | exact Ext.bel _ | exact Bel.refl | refine Bel.alloc ?_ _ | refine Bel.drew ?_ | refine Bel.drewN ?_ _)))); clear hb2))
          refine bodyPost_ret (v := .tuple #[.agg #[.int .i64 0, .int .i64 0], .int .i64 7]) (by simp [results, Try.results15, go_sem, q0_0, q0_1, qz0]) rfl ⟨by rw [HR.out]; rfl, ?_⟩
          (repeat (first | exact HBW.out.trans x.bel | refine Bel.alloc ?_ _ | refine Bel.drew ?_ | refine Bel.drewN ?_ _ | refine Bel.set ?_ (by first | exact Nat.le_refl _ | (simp; done) | (simp; omega) | omega) _))
        case e h1 h2 h3 h4 h5 =>
          replace HM := Lib.hid HM
          subst h1 h2 h4 h5
          go_wp2_with (first | (go_at_call 44; (with_reducible refine (N1.out _).mono ?_); rintro e w2 ⟨rfl, hb2⟩; obtain ⟨x, rfl⟩ : ∃ x : Ext wb, w2 = x.w := ext_of (hb2.after (by (repeat (first | exact Ext.bel _ | exact Bel.refl | refine Bel.alloc ?_ _ | refine Bel.drew ?_ | refine Bel.drewN ?_ _)))); clear hb2) | (go_at_call 44; (with_reducible refine (N2.out _).mono ?_); rintro e w2 ⟨rfl, hb2⟩; obtain ⟨x, rfl⟩ : ∃ x : Ext wb, w2 = x.w := ext_of (hb2.after (by (repeat (first | exact Ext.bel _ | exact Bel.refl | refine Bel.alloc ?_ _ | refine Bel.drew ?_ | refine Bel.drewN ?_ _)))); clear hb2))
          refine bodyPost_ret (v := .tuple #[.agg #[.int .i64 0, .int .i64 0], .int .i64 7]) (by simp [results, Try.results15, go_sem, q0_0, q0_1, qz0]) rfl ⟨by rw [HR.out]; rfl, ?_⟩
          (repeat (first | exact HBW.out.trans x.bel | refine Bel.alloc ?_ _ | refine Bel.drew ?_ | refine Bel.drewN ?_ _ | refine Bel.set ?_ (by first | exact Nat.le_refl _ | (simp; done) | (simp; omega) | omega) _))
        case f h1 h2 h3 h4 h5 =>
          subst h1 h2 h4 h5
          generalize rmake an dn = rr at *
          obtain ⟨⟨rn, rd⟩, re⟩ := rr
          simp only at HM
          replace HM := Lib.hid HM
          go_wp2_with (first | (go_at_call 44; (with_reducible refine (N1.out _).mono ?_); rintro e w2 ⟨rfl, hb2⟩; obtain ⟨x, rfl⟩ : ∃ x : Ext wb, w2 = x.w := ext_of (hb2.after (by (repeat (first | exact Ext.bel _ | exact Bel.refl | refine Bel.alloc ?_ _ | refine Bel.drew ?_ | refine Bel.drewN ?_ _)))); clear hb2) | (go_at_call 44; (with_reducible refine (N2.out _).mono ?_); rintro e w2 ⟨rfl, hb2⟩; obtain ⟨x, rfl⟩ : ∃ x : Ext wb, w2 = x.w := ext_of (hb2.after (by (repeat (first | exact Ext.bel _ | exact Bel.refl | refine Bel.alloc ?_ _ | refine Bel.drew ?_ | refine Bel.drewN ?_ _)))); clear hb2) | (go_at_call 29; (with_reducible refine (HM.out _).mono ?_); rintro e w2 ⟨rfl, hb2⟩; obtain ⟨x, rfl⟩ : ∃ x : Ext wb, w2 = x.w := ext_of (hb2.after (by (repeat (first | exact Ext.bel _ | exact Bel.refl | refine Bel.alloc ?_ _ | refine Bel.drew ?_ | refine Bel.drewN ?_ _)))); clear hb2))
          refine bodyPost_ret (v := .tuple #[.agg #[.int .i64 rn, .int .i64 rd], .int .i64 re]) (by simp [results, Try.results15, go_sem, q0_0, q0_1, qz0]) rfl ⟨by rw [HR.out]; rfl, ?_⟩
          (repeat (first | exact HBW.out.trans x.bel | refine Bel.alloc ?_ _ | refine Bel.drew ?_ | refine Bel.drewN ?_ _ | refine Bel.set ?_ (by first | exact Nat.le_refl _ | (simp; done) | (simp; omega) | omega) _))
      · have hq2 : ((s[k].toNat : Int) == 47) = false := by rw [hq]; simpa using h47
        rw [idxS_miss h47] at hd
        have HD := Lib.hid hd
        clear hd hq h47
        go_wp2
        go_roundw
        case rel => exact ⟨k + 1, z, by omega, by go_num, rfl, by have := HD.out; omega⟩
        case measure => simp [intOf]; omega
    · obtain rfl : k = s.size := by omega
      have HR : Hid (readL (bl s) = readF (numL (bl s)) (1, false, true)) := Lib.hid (readL_all1 (by rw [← hd, List.drop_eq_nil_of_le (by rw [bl_len]; exact Nat.le_refl _)]; rfl))
      clear hd
      have hz1 := hs
      obtain ⟨⟨an, ag, ao⟩, hA⟩ : ∃ p, numL (bl (s)) = p := ⟨_, rfl⟩
      have N1 := Lib.hid fun W => rnum_at (s) W hz1 hA
      have hi1 : i64 an := by have := numL_i64 (bl (s)); rw [hA] at this; exact this
      rw [hA] at HR
      have HM := fun W => rmake_at' an 1 W hi1 (by unfold i64; omega)
      have hf := rdF an ag ao 1 false true
      clear hA hi1
      generalize readF (an, ag, ao) (1, false, true) = rr at *
      cases hf
      case a h1 =>
        replace HM := Lib.hid HM
        subst h1
        go_wp2_with (first | (go_at_call 44; (with_reducible refine (N1.out _).mono ?_); rintro e w2 ⟨rfl, hb2⟩; obtain ⟨x, rfl⟩ : ∃ x : Ext wb, w2 = x.w := ext_of (hb2.after (by (repeat (first | exact Ext.bel _ | exact Bel.refl | refine Bel.alloc ?_ _ | refine Bel.drew ?_ | refine Bel.drewN ?_ _)))); clear hb2))
        refine bodyPost_ret (v := .tuple #[.agg #[.int .i64 0, .int .i64 0], .int .i64 6]) (by simp [results, Try.results15, go_sem, q0_0, q0_1, qz0]) rfl ⟨by rw [HR.out]; rfl, ?_⟩
        (repeat (first | exact HBW.out.trans x.bel | refine Bel.alloc ?_ _ | refine Bel.drew ?_ | refine Bel.drewN ?_ _ | refine Bel.set ?_ (by first | exact Nat.le_refl _ | (simp; done) | (simp; omega) | omega) _))
      case b h1 h2 => cases h2
      case c h1 h2 h3 => omega
      case d h1 h2 h3 h4 =>
        replace HM := Lib.hid HM
        subst h1 h4
        go_wp2_with (first | (go_at_call 44; (with_reducible refine (N1.out _).mono ?_); rintro e w2 ⟨rfl, hb2⟩; obtain ⟨x, rfl⟩ : ∃ x : Ext wb, w2 = x.w := ext_of (hb2.after (by (repeat (first | exact Ext.bel _ | exact Bel.refl | refine Bel.alloc ?_ _ | refine Bel.drew ?_ | refine Bel.drewN ?_ _)))); clear hb2))
        refine bodyPost_ret (v := .tuple #[.agg #[.int .i64 0, .int .i64 0], .int .i64 7]) (by simp [results, Try.results15, go_sem, q0_0, q0_1, qz0]) rfl ⟨by rw [HR.out]; rfl, ?_⟩
        (repeat (first | exact HBW.out.trans x.bel | refine Bel.alloc ?_ _ | refine Bel.drew ?_ | refine Bel.drewN ?_ _ | refine Bel.set ?_ (by first | exact Nat.le_refl _ | (simp; done) | (simp; omega) | omega) _))
      case e h1 h2 h3 h4 h5 => cases h5
      case f h1 h2 h3 h4 h5 =>
        subst h1 h4
        generalize rmake an 1 = rr at *
        obtain ⟨⟨rn, rd⟩, re⟩ := rr
        simp only at HM
        replace HM := Lib.hid HM
        go_wp2_with (first | (go_at_call 44; (with_reducible refine (N1.out _).mono ?_); rintro e w2 ⟨rfl, hb2⟩; obtain ⟨x, rfl⟩ : ∃ x : Ext wb, w2 = x.w := ext_of (hb2.after (by (repeat (first | exact Ext.bel _ | exact Bel.refl | refine Bel.alloc ?_ _ | refine Bel.drew ?_ | refine Bel.drewN ?_ _)))); clear hb2) | (go_at_call 29; (with_reducible refine (HM.out _).mono ?_); rintro e w2 ⟨rfl, hb2⟩; obtain ⟨x, rfl⟩ : ∃ x : Ext wb, w2 = x.w := ext_of (hb2.after (by (repeat (first | exact Ext.bel _ | exact Bel.refl | refine Bel.alloc ?_ _ | refine Bel.drew ?_ | refine Bel.drewN ?_ _)))); clear hb2))
        refine bodyPost_ret (v := .tuple #[.agg #[.int .i64 rn, .int .i64 rd], .int .i64 re]) (by simp [results, Try.results15, go_sem, q0_0, q0_1, qz0]) rfl ⟨by rw [HR.out]; rfl, ?_⟩
        (repeat (first | exact HBW.out.trans x.bel | refine Bel.alloc ?_ _ | refine Bel.drew ?_ | refine Bel.drewN ?_ _ | refine Bel.set ?_ (by first | exact Nat.le_refl _ | (simp; done) | (simp; omega) | omega) _))
end Go.Proofs.Ytehifcgfgejjcaa
