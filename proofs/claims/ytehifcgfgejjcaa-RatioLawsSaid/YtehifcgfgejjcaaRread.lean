import Derived.Test.YtehifcgfgejjcaaRnumr
namespace Go.Proofs.Ytehifcgfgejjcaa
open Go.RowKit
def idxS : List UInt8 → Nat
  | [] => 0
  | c :: cs => if c = 47 then 0 else idxS cs + 1
def readF (a d : Int × Bool × Bool) : Rt × Int :=
  if a.2.2 = false ∨ d.2.2 = false ∨ d.1 < 1 then (⟨0, 0⟩, 6) else if a.2.1 = true ∨ d.2.1 = true then (⟨0, 0⟩, 7) else rmake a.1 d.1
def readL (l : List UInt8) : Rt × Int := readF (numL (l.take (idxS l))) (if idxS l < l.length then numL (l.drop (idxS l + 1)) else (1, false, true))
theorem idxS_hit {c : UInt8} {cs : List UInt8} (h : c = 47) : idxS (c :: cs) = 0 := by simp only [idxS, if_pos h]
theorem idxS_miss {c : UInt8} {cs : List UInt8} (h : ¬ c = 47) : idxS (c :: cs) = idxS cs + 1 := by simp only [idxS, if_neg h]
theorem byte47 (c : UInt8) : ((c.toNat : Int) == 47) = decide (c = 47) := byte_eq (c := c) (n := 47) (by omega)
theorem bl_to (s : ByteArray) (k : Nat) : bl (s.extract 0 k) = (bl s).take k := by
  unfold bl; rw [Lib.extract_data]; simp
theorem bl_from (s : ByteArray) (k : Nat) : bl (s.extract k s.size) = (bl s).drop k := by
  unfold bl
  rw [Lib.extract_data]
  have : s.size = s.data.toList.length := by rw [Array.length_toList]; rfl
  rw [this]
  simp
  exact List.take_of_length_le (by rw [List.length_drop, Array.length_toList]; exact Nat.le_refl _)
theorem numL_one : numL [49] = (1, false, true) := by decide
theorem bl_one : bl ⟨#[49]⟩ = [49] := rfl
theorem readL_all {s : ByteArray} (h : idxS (bl s) = s.size) : readL (bl s) = readF (numL (bl s)) (numL (bl ⟨#[49]⟩)) := by
  unfold readL
  rw [h, if_neg (by rw [bl_len]; omega), bl_one, numL_one, List.take_of_length_le (by rw [bl_len]; exact Nat.le_refl _)]
theorem readL_cut {s : ByteArray} {k : Nat} (h : idxS (bl s) = k) (hk : k < s.size) : readL (bl s) = readF (numL (bl (s.extract 0 k))) (numL (bl (s.extract (k + 1) s.size))) := by
  unfold readL
  rw [h, if_pos (by rw [bl_len]; omega), bl_to, bl_from]
theorem numF_i64 : ∀ (l : List UInt8) (n : Int) (g : Bool) (m : Int) (g' : Bool), 0 ≤ n → n ≤ 9223372036854775807 → numF l n g = some (m, g') → 0 ≤ m ∧ m ≤ 9223372036854775807
  | [], n, g, m, g', h1, h2, h => by simp [numF] at h; omega
  | c :: cs, n, g, m, g', h1, h2, h => by
    simp only [numF] at h
    split at h
    · cases h
    · split at h
      · exact numF_i64 cs n true m g' h1 h2 h
      · rename_i h3 h4
        simp only [Bool.or_eq_true, decide_eq_true_eq, not_or] at h4
        exact numF_i64 cs _ false m g' (by omega) (by omega) h
theorem numL_i64 (l : List UInt8) : i64 (numL l).1 := by
  have ht : ∀ neg t, i64 (numT neg t).1 := fun neg t => by
    unfold numT
    split
    · unfold i64; simp
    · cases hf : numF t 0 false with
      | none => unfold i64; simp
      | some p =>
        obtain ⟨m, g⟩ := p
        have := numF_i64 t 0 false m g (by omega) (by omega) hf
        unfold i64
        cases neg <;> simp <;> omega
  unfold numL
  split <;> exact ht _ _
theorem pnum_at (s : ByteArray) (W : World) (hs : s.size ≤ 1000000) {n : Int} {g o : Bool} (h : numL (bl s) = (n, g, o)) : Calls Try.prog 43 #[.string s] W fun e w' => e = .returned (.tuple #[.int .i64 n, .bool g, .bool o]) ∧ Bel W w' := by
  have := pnum_any s W hs
  rw [h] at this
  exact this
theorem rnum_at (s : ByteArray) (W : World) (hs : s.size ≤ 1000000) {n : Int} {g o : Bool} (h : numL (bl s) = (n, g, o)) : Calls Try.prog 44 #[.string s] W fun e w' => e = .returned (.tuple #[.int .i64 n, .bool g, .bool o]) ∧ Bel W w' := by
  have := rnum_any s W hs
  rw [h] at this
  exact this
/-- how the two numbers of a text end -/
inductive RdF (an : Int) (ag ao : Bool) (dn : Int) (dg d_o : Bool) : Rt × Int → Prop
  | a : ao = false → RdF an ag ao dn dg d_o (⟨0, 0⟩, 6)
  | b : ao = true → d_o = false → RdF an ag ao dn dg d_o (⟨0, 0⟩, 6)
  | c : ao = true → d_o = true → dn < 1 → RdF an ag ao dn dg d_o (⟨0, 0⟩, 6)
  | d : ao = true → d_o = true → ¬ dn < 1 → ag = true → RdF an ag ao dn dg d_o (⟨0, 0⟩, 7)
  | e : ao = true → d_o = true → ¬ dn < 1 → ag = false → dg = true → RdF an ag ao dn dg d_o (⟨0, 0⟩, 7)
  | f : ao = true → d_o = true → ¬ dn < 1 → ag = false → dg = false → RdF an ag ao dn dg d_o (rmake an dn)
theorem rdF (an : Int) (ag ao : Bool) (dn : Int) (dg d_o : Bool) : RdF an ag ao dn dg d_o (readF (an, ag, ao) (dn, dg, d_o)) := by
  unfold readF
  simp only
  cases ao
  · rw [if_pos (.inl rfl)]; exact .a rfl
  cases d_o
  · rw [if_pos (.inr (.inl rfl))]; exact .b rfl rfl
  by_cases h : dn < 1
  · rw [if_pos (.inr (.inr h))]; exact .c rfl rfl h
  rw [if_neg (by simp; omega)]
  cases ag
  · cases dg
    · rw [if_neg (by simp)]; exact .f rfl rfl h rfl rfl
    · rw [if_pos (.inr rfl)]; exact .e rfl rfl h rfl rfl
  · rw [if_pos (.inl rfl)]; exact .d rfl rfl h rfl
theorem pmake_at' (n d : Int) (W : World) (hn : i64 n) (hd : i64 d) : Calls Try.prog 28 #[.int .i64 n, .int .i64 d] W fun e' w' => e' = .returned (.tuple #[.agg #[.int .i64 (rmake n d).1.num, .int .i64 (rmake n d).1.den], .int .i64 (rmake n d).2]) ∧ Bel W w' := pmake_any n d W hn hd
theorem rmake_at' (n d : Int) (W : World) (hn : i64 n) (hd : i64 d) : Calls Try.prog 29 #[.int .i64 n, .int .i64 d] W fun e' w' => e' = .returned (.tuple #[.agg #[.int .i64 (rmake n d).1.num, .int .i64 (rmake n d).1.den], .int .i64 (rmake n d).2]) ∧ Bel W w' := rmake_any n d W hn hd
set_option maxRecDepth 100000 in
set_option maxHeartbeats 8000000 in
theorem pread_any (s : ByteArray) (w : World) (hs : s.size ≤ 1000000) : Calls Try.prog 14 #[.string s] w fun e w' => e = .returned (rresV (readL (bl s))) ∧ Bel w w' := by
  go_enter Try.func14, Try.ntmps14
  go_upto_region 1 with (fail)
  (generalize hW : World.alloc _ _ = wb; have q0_0 := (congrArg (fun W : World => W.cell? ⟨w.heap.size, 0, none⟩) hW).symm; simp [go_sem] at q0_0; have qf0_0 := (congrArg (fun W : World => W.frozen? ⟨w.heap.size, 0, none⟩) hW).symm; simp [go_sem] at qf0_0; have q0_1 := (congrArg (fun W : World => W.cell? ⟨w.heap.size, 1, none⟩) hW).symm; simp [go_sem] at q0_1; have qf0_1 := (congrArg (fun W : World => W.frozen? ⟨w.heap.size, 1, none⟩) hW).symm; simp [go_sem] at qf0_1; have qz0 : w.heap.size < wb.heap.size := (by rw [← hW]; simp [go_sem]; try omega); have HBW : Hid (Bel w wb) := Lib.hid (by rw [← hW]; (repeat (first | exact Ext.bel _ | exact Bel.refl | refine Bel.alloc ?_ _ | refine Bel.drew ?_ | refine Bel.drewN ?_ _))); clear hW; have hkw := HBW.out.cells)
  go_wp2
  go_loopw [4, 5, 16] (fun sn sd si wr => ∃ (k : Nat) (z : Ext wb), k ≤ s.size ∧ sn = .string s ∧ sd = .string ⟨#[49]⟩ ∧ si = .int .i64 k ∧ wr = z.w ∧ k + idxS ((bl s).drop k) = idxS (bl s)) (fun _ _ si _ => s.size - (intOf si).toNat)
  case atStart => exact ⟨0, ⟨wb, Bel.refl⟩, by omega, rfl, rfl, rfl, rfl, by simp⟩
  case round =>
    obtain ⟨k, z, hk, rfl, rfl, rfl, rfl, hd⟩ := hrel
    by_cases hlt : k < s.size
    · rw [bl_drop hlt] at hd
      have hq := byte47 s[k]
      by_cases h47 : s[k] = 47
      · have hq2 : ((s[k].toNat : Int) == 47) = true := by rw [hq]; simpa using h47
        rw [idxS_hit h47, Nat.add_zero] at hd
        have HR := Lib.hid (readL_cut hd.symm hlt)
        clear hd hq h47
        have hz1 : (s.extract 0 k).size ≤ 1000000 := by simp; omega
        have hz2 : (s.extract (k + 1) s.size).size ≤ 1000000 := by simp; omega
        go_upto_region 6 with (fail)
        (refine wp_region_ext (wb := wb) (by (repeat (first | exact Ext.bel _ | exact Bel.refl | refine Bel.alloc ?_ _ | refine Bel.drew ?_ | refine Bel.drewN ?_ _))) (by kernel_rfl) (by kernel_rfl) ?_; (repeat (any_goals (first | go_big_quiet_step (fail) | quiet_step (fail) | (refine wpQuiet_step (fun K hK => ?_); go_simp; split <;> (refine hK _ ?_; clear hK K))))); all_goals (refine wpQuiet_nil ?_; intro _ hw'; obtain ⟨y, hw''⟩ := hw'; subst hw''))
        obtain ⟨⟨an, ag, ao⟩, hA⟩ : ∃ p, numL (bl (s.extract 0 k)) = p := ⟨_, rfl⟩
        obtain ⟨⟨dn, dg, d_o⟩, hD⟩ : ∃ p, numL (bl (s.extract (k + 1) s.size)) = p := ⟨_, rfl⟩
        have N1 := Lib.hid fun W => pnum_at (s.extract 0 k) W hz1 hA
        have N2 := Lib.hid fun W => pnum_at (s.extract (k + 1) s.size) W hz2 hD
        have hi1 : i64 an := by have := numL_i64 (bl (s.extract 0 k)); rw [hA] at this; exact this
        have hi2 : i64 dn := by have := numL_i64 (bl (s.extract (k + 1) s.size)); rw [hD] at this; exact this
        rw [hA, hD] at HR
        have HM := fun W => pmake_at' an dn W hi1 hi2
        have hf := rdF an ag ao dn dg d_o
        clear hA hD hi1 hi2
        generalize readF (an, ag, ao) (dn, dg, d_o) = rr at *
        cases hf
        case a h1 =>
          replace HM := Lib.hid HM
          subst h1
          go_wp2_with (first | (go_at_call 43; (with_reducible refine (N1.out _).mono ?_); rintro e w2 ⟨rfl, hb2⟩; obtain ⟨x, rfl⟩ : ∃ x : Ext wb, w2 = x.w := ext_of (hb2.after (by (repeat (first | exact Ext.bel _ | exact Bel.refl | refine Bel.alloc ?_ _ | refine Bel.drew ?_ | refine Bel.drewN ?_ _)))); clear hb2) | (go_at_call 43; (with_reducible refine (N2.out _).mono ?_); rintro e w2 ⟨rfl, hb2⟩; obtain ⟨x, rfl⟩ : ∃ x : Ext wb, w2 = x.w := ext_of (hb2.after (by (repeat (first | exact Ext.bel _ | exact Bel.refl | refine Bel.alloc ?_ _ | refine Bel.drew ?_ | refine Bel.drewN ?_ _)))); clear hb2))
          refine bodyPost_ret (v := .tuple #[.agg #[.int .i64 0, .int .i64 0], .int .i64 6]) (by simp [results, Try.results14, go_sem, q0_0, q0_1, qz0]) rfl ⟨by rw [HR.out]; rfl, ?_⟩
          (repeat (first | exact HBW.out.trans x.bel | refine Bel.alloc ?_ _ | refine Bel.drew ?_ | refine Bel.drewN ?_ _ | refine Bel.set ?_ (by first | exact Nat.le_refl _ | (simp; done) | (simp; omega) | omega) _))
        case b h1 h2 =>
          replace HM := Lib.hid HM
          subst h1 h2
          go_wp2_with (first | (go_at_call 43; (with_reducible refine (N1.out _).mono ?_); rintro e w2 ⟨rfl, hb2⟩; obtain ⟨x, rfl⟩ : ∃ x : Ext wb, w2 = x.w := ext_of (hb2.after (by (repeat (first | exact Ext.bel _ | exact Bel.refl | refine Bel.alloc ?_ _ | refine Bel.drew ?_ | refine Bel.drewN ?_ _)))); clear hb2) | (go_at_call 43; (with_reducible refine (N2.out _).mono ?_); rintro e w2 ⟨rfl, hb2⟩; obtain ⟨x, rfl⟩ : ∃ x : Ext wb, w2 = x.w := ext_of (hb2.after (by (repeat (first | exact Ext.bel _ | exact Bel.refl | refine Bel.alloc ?_ _ | refine Bel.drew ?_ | refine Bel.drewN ?_ _)))); clear hb2))
          refine bodyPost_ret (v := .tuple #[.agg #[.int .i64 0, .int .i64 0], .int .i64 6]) (by simp [results, Try.results14, go_sem, q0_0, q0_1, qz0]) rfl ⟨by rw [HR.out]; rfl, ?_⟩
          (repeat (first | exact HBW.out.trans x.bel | refine Bel.alloc ?_ _ | refine Bel.drew ?_ | refine Bel.drewN ?_ _ | refine Bel.set ?_ (by first | exact Nat.le_refl _ | (simp; done) | (simp; omega) | omega) _))
        case c h1 h2 h3 =>
          replace HM := Lib.hid HM
          subst h1 h2
          go_wp2_with (first | (go_at_call 43; (with_reducible refine (N1.out _).mono ?_); rintro e w2 ⟨rfl, hb2⟩; obtain ⟨x, rfl⟩ : ∃ x : Ext wb, w2 = x.w := ext_of (hb2.after (by (repeat (first | exact Ext.bel _ | exact Bel.refl | refine Bel.alloc ?_ _ | refine Bel.drew ?_ | refine Bel.drewN ?_ _)))); clear hb2) | (go_at_call 43; (with_reducible refine (N2.out _).mono ?_); rintro e w2 ⟨rfl, hb2⟩; obtain ⟨x, rfl⟩ : ∃ x : Ext wb, w2 = x.w := ext_of (hb2.after (by (repeat (first | exact Ext.bel _ | exact Bel.refl | refine Bel.alloc ?_ _ | refine Bel.drew ?_ | refine Bel.drewN ?_ _)))); clear hb2))
          refine bodyPost_ret (v := .tuple #[.agg #[.int .i64 0, .int .i64 0], .int .i64 6]) (by simp [results, Try.results14, go_sem, q0_0, q0_1, qz0]) rfl ⟨by rw [HR.out]; rfl, ?_⟩
          (repeat (first | exact HBW.out.trans x.bel | refine Bel.alloc ?_ _ | refine Bel.drew ?_ | refine Bel.drewN ?_ _ | refine Bel.set ?_ (by first | exact Nat.le_refl _ | (simp; done) | (simp; omega) | omega) _))
        case d h1 h2 h3 h4 =>
          replace HM := Lib.hid HM
          subst h1 h2 h4
          go_wp2_with (first | (go_at_call 43; (with_reducible refine (N1.out _).mono ?_); rintro e w2 ⟨rfl, hb2⟩; obtain ⟨x, rfl⟩ : ∃ x : Ext wb, w2 = x.w := ext_of (hb2.after (by (repeat (first | exact Ext.bel _ | exact Bel.refl | refine Bel.alloc ?_ _ | refine Bel.drew ?_ | refine Bel.drewN ?_ _)))); clear hb2) | (go_at_call 43; (with_reducible refine (N2.out _).mono ?_); rintro e w2 ⟨rfl, hb2⟩; obtain ⟨x, rfl⟩ : ∃ x : Ext wb, w2 = x.w := ext_of (hb2.after (by (repeat (first | exact Ext.bel _ | exact Bel.refl | refine Bel.alloc ?_ _ | refine Bel.drew ?_ | refine Bel.drewN ?_ _)))); clear hb2))
          refine bodyPost_ret (v := .tuple #[.agg #[.int .i64 0, .int .i64 0], .int .i64 7]) (by simp [results, Try.results14, go_sem, q0_0, q0_1, qz0]) rfl ⟨by rw [HR.out]; rfl, ?_⟩
          (repeat (first | exact HBW.out.trans x.bel | refine Bel.alloc ?_ _ | refine Bel.drew ?_ | refine Bel.drewN ?_ _ | refine Bel.set ?_ (by first | exact Nat.le_refl _ | (simp; done) | (simp; omega) | omega) _))
        case e h1 h2 h3 h4 h5 =>
          replace HM := Lib.hid HM
          subst h1 h2 h4 h5
          go_wp2_with (first | (go_at_call 43; (with_reducible refine (N1.out _).mono ?_); rintro e w2 ⟨rfl, hb2⟩; obtain ⟨x, rfl⟩ : ∃ x : Ext wb, w2 = x.w := ext_of (hb2.after (by (repeat (first | exact Ext.bel _ | exact Bel.refl | refine Bel.alloc ?_ _ | refine Bel.drew ?_ | refine Bel.drewN ?_ _)))); clear hb2) | (go_at_call 43; (with_reducible refine (N2.out _).mono ?_); rintro e w2 ⟨rfl, hb2⟩; obtain ⟨x, rfl⟩ : ∃ x : Ext wb, w2 = x.w := ext_of (hb2.after (by (repeat (first | exact Ext.bel _ | exact Bel.refl | refine Bel.alloc ?_ _ | refine Bel.drew ?_ | refine Bel.drewN ?_ _)))); clear hb2))
          refine bodyPost_ret (v := .tuple #[.agg #[.int .i64 0, .int .i64 0], .int .i64 7]) (by simp [results, Try.results14, go_sem, q0_0, q0_1, qz0]) rfl ⟨by rw [HR.out]; rfl, ?_⟩
          (repeat (first | exact HBW.out.trans x.bel | refine Bel.alloc ?_ _ | refine Bel.drew ?_ | refine Bel.drewN ?_ _ | refine Bel.set ?_ (by first | exact Nat.le_refl _ | (simp; done) | (simp; omega) | omega) _))
        case f h1 h2 h3 h4 h5 =>
          subst h1 h2 h4 h5
          generalize rmake an dn = rr at *
          obtain ⟨⟨rn, rd⟩, re⟩ := rr
          simp only at HM
          replace HM := Lib.hid HM
          go_wp2_with (first | (go_at_call 43; (with_reducible refine (N1.out _).mono ?_); rintro e w2 ⟨rfl, hb2⟩; obtain ⟨x, rfl⟩ : ∃ x : Ext wb, w2 = x.w := ext_of (hb2.after (by (repeat (first | exact Ext.bel _ | exact Bel.refl | refine Bel.alloc ?_ _ | refine Bel.drew ?_ | refine Bel.drewN ?_ _)))); clear hb2) | (go_at_call 43; (with_reducible refine (N2.out _).mono ?_); rintro e w2 ⟨rfl, hb2⟩; obtain ⟨x, rfl⟩ : ∃ x : Ext wb, w2 = x.w := ext_of (hb2.after (by (repeat (first | exact Ext.bel _ | exact Bel.refl | refine Bel.alloc ?_ _ | refine Bel.drew ?_ | refine Bel.drewN ?_ _)))); clear hb2) | (go_at_call 28; (with_reducible refine (HM.out _).mono ?_); rintro e w2 ⟨rfl, hb2⟩; obtain ⟨x, rfl⟩ : ∃ x : Ext wb, w2 = x.w := ext_of (hb2.after (by (repeat (first | exact Ext.bel _ | exact Bel.refl | refine Bel.alloc ?_ _ | refine Bel.drew ?_ | refine Bel.drewN ?_ _)))); clear hb2))
          refine bodyPost_ret (v := .tuple #[.agg #[.int .i64 rn, .int .i64 rd], .int .i64 re]) (by simp [results, Try.results14, go_sem, q0_0, q0_1, qz0]) rfl ⟨by rw [HR.out]; rfl, ?_⟩
          (repeat (first | exact HBW.out.trans x.bel | refine Bel.alloc ?_ _ | refine Bel.drew ?_ | refine Bel.drewN ?_ _ | refine Bel.set ?_ (by first | exact Nat.le_refl _ | (simp; done) | (simp; omega) | omega) _))
      · have hq2 : ((s[k].toNat : Int) == 47) = false := by rw [hq]; simpa using h47
        rw [idxS_miss h47] at hd
        have HD := Lib.hid hd
        clear hd hq h47
        go_wp2
        go_roundw
        case rel => exact ⟨k + 1, z, by omega, rfl, rfl, by go_num, rfl, by have := HD.out; omega⟩
        case measure => simp [intOf]; omega
    · obtain rfl : k = s.size := by omega
      have HR : Hid (readL (bl s) = readF (numL (bl s)) (numL (bl ⟨#[49]⟩))) := Lib.hid (readL_all (by rw [← hd, List.drop_eq_nil_of_le (by rw [bl_len]; exact Nat.le_refl _)]; rfl))
      clear hd
      have hz2 : (ByteArray.mk #[49]).size ≤ 1000000 := by decide
      obtain ⟨⟨an, ag, ao⟩, hA⟩ : ∃ p, numL (bl (s)) = p := ⟨_, rfl⟩
      obtain ⟨⟨dn, dg, d_o⟩, hD⟩ : ∃ p, numL (bl (⟨#[49]⟩)) = p := ⟨_, rfl⟩
      have N1 := Lib.hid fun W => pnum_at (s) W hs hA
      have N2 := Lib.hid fun W => pnum_at (⟨#[49]⟩) W hz2 hD
      have hi1 : i64 an := by have := numL_i64 (bl (s)); rw [hA] at this; exact this
      have hi2 : i64 dn := by have := numL_i64 (bl (⟨#[49]⟩)); rw [hD] at this; exact this
      rw [hA, hD] at HR
      have HM := fun W => pmake_at' an dn W hi1 hi2
      have hf := rdF an ag ao dn dg d_o
      clear hA hD hi1 hi2
      generalize readF (an, ag, ao) (dn, dg, d_o) = rr at *
      cases hf
      case a h1 =>
        replace HM := Lib.hid HM
        subst h1
        go_wp2_with (first | (go_at_call 43; (with_reducible refine (N1.out _).mono ?_); rintro e w2 ⟨rfl, hb2⟩; obtain ⟨x, rfl⟩ : ∃ x : Ext wb, w2 = x.w := ext_of (hb2.after (by (repeat (first | exact Ext.bel _ | exact Bel.refl | refine Bel.alloc ?_ _ | refine Bel.drew ?_ | refine Bel.drewN ?_ _)))); clear hb2) | (go_at_call 43; (with_reducible refine (N2.out _).mono ?_); rintro e w2 ⟨rfl, hb2⟩; obtain ⟨x, rfl⟩ : ∃ x : Ext wb, w2 = x.w := ext_of (hb2.after (by (repeat (first | exact Ext.bel _ | exact Bel.refl | refine Bel.alloc ?_ _ | refine Bel.drew ?_ | refine Bel.drewN ?_ _)))); clear hb2))
        refine bodyPost_ret (v := .tuple #[.agg #[.int .i64 0, .int .i64 0], .int .i64 6]) (by simp [results, Try.results14, go_sem, q0_0, q0_1, qz0]) rfl ⟨by rw [HR.out]; rfl, ?_⟩
        (repeat (first | exact HBW.out.trans x.bel | refine Bel.alloc ?_ _ | refine Bel.drew ?_ | refine Bel.drewN ?_ _ | refine Bel.set ?_ (by first | exact Nat.le_refl _ | (simp; done) | (simp; omega) | omega) _))
      case b h1 h2 =>
        replace HM := Lib.hid HM
        subst h1 h2
        go_wp2_with (first | (go_at_call 43; (with_reducible refine (N1.out _).mono ?_); rintro e w2 ⟨rfl, hb2⟩; obtain ⟨x, rfl⟩ : ∃ x : Ext wb, w2 = x.w := ext_of (hb2.after (by (repeat (first | exact Ext.bel _ | exact Bel.refl | refine Bel.alloc ?_ _ | refine Bel.drew ?_ | refine Bel.drewN ?_ _)))); clear hb2) | (go_at_call 43; (with_reducible refine (N2.out _).mono ?_); rintro e w2 ⟨rfl, hb2⟩; obtain ⟨x, rfl⟩ : ∃ x : Ext wb, w2 = x.w := ext_of (hb2.after (by (repeat (first | exact Ext.bel _ | exact Bel.refl | refine Bel.alloc ?_ _ | refine Bel.drew ?_ | refine Bel.drewN ?_ _)))); clear hb2))
        refine bodyPost_ret (v := .tuple #[.agg #[.int .i64 0, .int .i64 0], .int .i64 6]) (by simp [results, Try.results14, go_sem, q0_0, q0_1, qz0]) rfl ⟨by rw [HR.out]; rfl, ?_⟩
        (repeat (first | exact HBW.out.trans x.bel | refine Bel.alloc ?_ _ | refine Bel.drew ?_ | refine Bel.drewN ?_ _ | refine Bel.set ?_ (by first | exact Nat.le_refl _ | (simp; done) | (simp; omega) | omega) _))
      case c h1 h2 h3 =>
        replace HM := Lib.hid HM
        subst h1 h2
        go_wp2_with (first | (go_at_call 43; (with_reducible refine (N1.out _).mono ?_); rintro e w2 ⟨rfl, hb2⟩; obtain ⟨x, rfl⟩ : ∃ x : Ext wb, w2 = x.w := ext_of (hb2.after (by (repeat (first | exact Ext.bel _ | exact Bel.refl | refine Bel.alloc ?_ _ | refine Bel.drew ?_ | refine Bel.drewN ?_ _)))); clear hb2) | (go_at_call 43; (with_reducible refine (N2.out _).mono ?_); rintro e w2 ⟨rfl, hb2⟩; obtain ⟨x, rfl⟩ : ∃ x : Ext wb, w2 = x.w := ext_of (hb2.after (by (repeat (first | exact Ext.bel _ | exact Bel.refl | refine Bel.alloc ?_ _ | refine Bel.drew ?_ | refine Bel.drewN ?_ _)))); clear hb2))
        refine bodyPost_ret (v := .tuple #[.agg #[.int .i64 0, .int .i64 0], .int .i64 6]) (by simp [results, Try.results14, go_sem, q0_0, q0_1, qz0]) rfl ⟨by rw [HR.out]; rfl, ?_⟩
        (repeat (first | exact HBW.out.trans x.bel | refine Bel.alloc ?_ _ | refine Bel.drew ?_ | refine Bel.drewN ?_ _ | refine Bel.set ?_ (by first | exact Nat.le_refl _ | (simp; done) | (simp; omega) | omega) _))
      case d h1 h2 h3 h4 =>
        replace HM := Lib.hid HM
        subst h1 h2 h4
        go_wp2_with (first | (go_at_call 43; (with_reducible refine (N1.out _).mono ?_); rintro e w2 ⟨rfl, hb2⟩; obtain ⟨x, rfl⟩ : ∃ x : Ext wb, w2 = x.w := ext_of (hb2.after (by (repeat (first | exact Ext.bel _ | exact Bel.refl | refine Bel.alloc ?_ _ | refine Bel.drew ?_ | refine Bel.drewN ?_ _)))); clear hb2) | (go_at_call 43; (with_reducible refine (N2.out _).mono ?_); rintro e w2 ⟨rfl, hb2⟩; obtain ⟨x, rfl⟩ : ∃ x : Ext wb, w2 = x.w := ext_of (hb2.after (by (repeat (first | exact Ext.bel _ | exact Bel.refl | refine Bel.alloc ?_ _ | refine Bel.drew ?_ | refine Bel.drewN ?_ _)))); clear hb2))
        refine bodyPost_ret (v := .tuple #[.agg #[.int .i64 0, .int .i64 0], .int .i64 7]) (by simp [results, Try.results14, go_sem, q0_0, q0_1, qz0]) rfl ⟨by rw [HR.out]; rfl, ?_⟩
        (repeat (first | exact HBW.out.trans x.bel | refine Bel.alloc ?_ _ | refine Bel.drew ?_ | refine Bel.drewN ?_ _ | refine Bel.set ?_ (by first | exact Nat.le_refl _ | (simp; done) | (simp; omega) | omega) _))
      case e h1 h2 h3 h4 h5 =>
        replace HM := Lib.hid HM
        subst h1 h2 h4 h5
        go_wp2_with (first | (go_at_call 43; (with_reducible refine (N1.out _).mono ?_); rintro e w2 ⟨rfl, hb2⟩; obtain ⟨x, rfl⟩ : ∃ x : Ext wb, w2 = x.w := ext_of (hb2.after (by (repeat (first | exact Ext.bel _ | exact Bel.refl | refine Bel.alloc ?_ _ | refine Bel.drew ?_ | refine Bel.drewN ?_ _)))); clear hb2) | (go_at_call 43; (with_reducible refine (N2.out _).mono ?_); rintro e w2 ⟨rfl, hb2⟩; obtain ⟨x, rfl⟩ : ∃ x : Ext wb, w2 = x.w := ext_of (hb2.after (by (repeat (first | exact Ext.bel _ | exact Bel.refl | refine Bel.alloc ?_ _ | refine Bel.drew ?_ | refine Bel.drewN ?_ _)))); clear hb2))
        refine bodyPost_ret (v := .tuple #[.agg #[.int .i64 0, .int .i64 0], .int .i64 7]) (by simp [results, Try.results14, go_sem, q0_0, q0_1, qz0]) rfl ⟨by rw [HR.out]; rfl, ?_⟩
        (repeat (first | exact HBW.out.trans x.bel | refine Bel.alloc ?_ _ | refine Bel.drew ?_ | refine Bel.drewN ?_ _ | refine Bel.set ?_ (by first | exact Nat.le_refl _ | (simp; done) | (simp; omega) | omega) _))
      case f h1 h2 h3 h4 h5 =>
        subst h1 h2 h4 h5
        generalize rmake an dn = rr at *
        obtain ⟨⟨rn, rd⟩, re⟩ := rr
        simp only at HM
        replace HM := Lib.hid HM
        go_wp2_with (first | (go_at_call 43; (with_reducible refine (N1.out _).mono ?_); rintro e w2 ⟨rfl, hb2⟩; obtain ⟨x, rfl⟩ : ∃ x : Ext wb, w2 = x.w := ext_of (hb2.after (by (repeat (first | exact Ext.bel _ | exact Bel.refl | refine Bel.alloc ?_ _ | refine Bel.drew ?_ | refine Bel.drewN ?_ _)))); clear hb2) | (go_at_call 43; (with_reducible refine (N2.out _).mono ?_); rintro e w2 ⟨rfl, hb2⟩; obtain ⟨x, rfl⟩ : ∃ x : Ext wb, w2 = x.w := ext_of (hb2.after (by (repeat (first | exact Ext.bel _ | exact Bel.refl | refine Bel.alloc ?_ _ | refine Bel.drew ?_ | refine Bel.drewN ?_ _)))); clear hb2) | (go_at_call 28; (with_reducible refine (HM.out _).mono ?_); rintro e w2 ⟨rfl, hb2⟩; obtain ⟨x, rfl⟩ : ∃ x : Ext wb, w2 = x.w := ext_of (hb2.after (by (repeat (first | exact Ext.bel _ | exact Bel.refl | refine Bel.alloc ?_ _ | refine Bel.drew ?_ | refine Bel.drewN ?_ _)))); clear hb2))
        refine bodyPost_ret (v := .tuple #[.agg #[.int .i64 rn, .int .i64 rd], .int .i64 re]) (by simp [results, Try.results14, go_sem, q0_0, q0_1, qz0]) rfl ⟨by rw [HR.out]; rfl, ?_⟩
        (repeat (first | exact HBW.out.trans x.bel | refine Bel.alloc ?_ _ | refine Bel.drew ?_ | refine Bel.drewN ?_ _ | refine Bel.set ?_ (by first | exact Nat.le_refl _ | (simp; done) | (simp; omega) | omega) _))
end Go.Proofs.Ytehifcgfgejjcaa
