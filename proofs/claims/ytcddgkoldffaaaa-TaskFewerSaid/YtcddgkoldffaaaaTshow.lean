import Derived.Test.YtcddgkoldffaaaaTex
import Derived.Test.YtcddgkoldffaaaaTpblk
import Derived.Test.YtcddgkoldffaaaaTeq
import Derived.Deep.Cut
namespace Go.Proofs.Ytcddgkoldffaaaa
open Go.RowKit
theorem tsk0 (pr : Int) : tskAt (exT pr) 0 = ⟨⟨#[97]⟩, 4, 0, 4, 1, pr, []⟩ := rfl
theorem ex_chk3 : rchk (exT 3) = 0 := by
  simp [exT, rchk, rchkT, manySecs, tskBad, rsecsOk, okAll, noClash, clashAny, secBad, twinAny, twin, ByteArray.size, ByteArray.toList_eq, wrap64]
theorem ex_chk2 : rchk (exT 2) = 2 := by
  simp [exT, rchk, rchkT, manySecs, tskBad, rsecsOk, okAll, noClash, clashAny, secBad, twinAny, twin, ByteArray.size, ByteArray.toList_eq, wrap64]
theorem ex_ceils : ceils (exT 3) = [2, 0, 0, 0, 0, 0, 0, 0] := by decide
theorem ex_blocks : blocks (exT 3) = [0, 2, 0] := by decide
theorem ex_hyp : hyp (exT 3) = (12, 0) := by
  unfold hyp; rw [if_pos ex_chk3]; decide
theorem ex_sized (pr : Int) (h : i64 pr) : Sized (exT pr) := by
  have e : ∀ i, i < (exT pr).length → i = 0 ∨ i = 1 ∨ i = 2 := by intro i hi; simp [exT] at hi; omega
  refine ⟨by simp [exT], fun i hi => ?_, fun i hi => ?_⟩
  · rcases e i hi with rfl | rfl | rfl <;> simp [tskAt, exT, ByteArray.size]
  · rcases e i hi with rfl | rfl | rfl
    · exact ⟨by simp [tskAt, exT, i64], by simp [tskAt, exT, i64], by simp [tskAt, exT, i64], by simp [tskAt, exT, i64], h, by simp [tskAt, exT]⟩
    · exact ⟨by simp [tskAt, exT, i64], by simp [tskAt, exT, i64], by simp [tskAt, exT, i64], by simp [tskAt, exT, i64], by simp [tskAt, exT, i64], by intro s hs; simp [tskAt, exT] at hs; subst hs; exact ⟨by simp [i64], by simp [i64], by simp [i64]⟩⟩
    · exact ⟨by simp [tskAt, exT, i64], by simp [tskAt, exT, i64], by simp [tskAt, exT, i64], by simp [tskAt, exT, i64], by simp [tskAt, exT, i64], by intro s hs; simp [tskAt, exT] at hs; subst hs; exact ⟨by simp [i64], by simp [i64], by simp [i64]⟩⟩
theorem nil_tsks (w : World) : TsksAt w w.heap.size (.slice none 0 0) [] := ⟨none, 0, rfl, by simp, fun h => by simp at h⟩
theorem nil_sized : Sized [] := ⟨by simp, fun i hi => by simp at hi, fun i hi => by simp at hi⟩
theorem nil_chk : rchk [] = 2 := by simp [rchk, manySecs]
theorem IntsAt.set {w : World} {B : Nat} {v : Value} {l : List Int} {p o : Nat} (h : IntsAt w B v l) (hp : ∀ k, v.ownBlock = some k → p ≠ k) (u : Value) : IntsAt (w.setCell ⟨p, o, none⟩ u) B v l := by
  obtain ⟨A, c, rfl, hc, h⟩ := h
  refine ⟨A, c, rfl, hc, fun h0 => ?_⟩
  obtain ⟨b, off, rfl, hb, h⟩ := h h0
  refine ⟨b, off, rfl, hb, fun i hi => ?_⟩
  rw [World.cell?_setCell_other _ _ _ _ (by intro e; injection e with e; exact hp b rfl e)]
  exact h i hi
theorem sameInts_same (v1 v2 : Value) (xs : List Int) (w : World) (hx : IntsAt w w.heap.size v1 xs) (hy : IntsAt w w.heap.size v2 xs) (hlx : xs.length ≤ 1000000) :
    Calls Try.prog 10 #[v1, v2] w fun e w' => e = .returned (.bool true) ∧ Bel w w' := (sameInts_any v1 v2 xs xs w hx hy hlx hlx).mono fun _ _ ⟨he, hb⟩ => ⟨by rw [he]; simp, hb⟩
theorem sameLongs_same (v1 v2 : Value) (xs : List Int) (w : World) (hx : IntsAt w w.heap.size v1 xs) (hy : IntsAt w w.heap.size v2 xs) (hlx : xs.length ≤ 1000000) :
    Calls Try.prog 17 #[v1, v2] w fun e w' => e = .returned (.bool true) ∧ Bel w w' := (sameLongs_any v1 v2 xs xs w hx hy hlx hlx).mono fun _ _ ⟨he, hb⟩ => ⟨by rw [he]; simp, hb⟩
theorem IntsAt.new (w : World) (l : List Int) (e : TypeId) : IntsAt (w.alloc (.cells (l.map (Value.int .i64)).toArray e)) (w.alloc (.cells (l.map (Value.int .i64)).toArray e)).heap.size (.slice (some ⟨w.heap.size, 0, none⟩) l.length l.length) l := by
  refine ⟨_, _, rfl, Nat.le_refl _, fun _ => ⟨_, 0, rfl, by simp, fun i hi => ?_⟩⟩
  have := cells_new w (l.map (Value.int .i64)) e i (.int .i64 (l.getD i 0)) (by simp [List.getD, hi])
  rw [add_ofs] at this
  simpa using this
set_option maxRecDepth 100000 in
set_option maxHeartbeats 8000000 in
theorem shown_any (HCP : CheckP) (w : World) : Calls Try.prog 5 #[] w fun e w' => e = .returned (.bool true) ∧ Bel w w' := by
  have S3 := ex_sized 3 (by simp [i64])
  have S2 := ex_sized 2 (by simp [i64])
  have HS3 := Lib.hid S3
  have HS2 := Lib.hid S2
  have HC := Lib.hid HCP
  clear S3 S2 HCP
  go_enter Try.func5, Try.ntmps5
  go_wp2_with fail
  refine (example_any _).mono ?_
  rintro e w1 ⟨p, a, b, rfl, hE, hpa, hpb, hpw, hB1⟩
  have HE1 := Lib.hid hE
  have HB1 := Lib.hid hB1
  clear hE hB1
  go_wp2_with fail
  refine (ceilings_any HC.out _ (exT 3) w1 HE1.out.tsks HS3.out).mono ?_
  rintro e w2 ⟨vc, rfl, hvc, hB2, hfc⟩
  rw [ex_chk3, if_pos rfl, ex_ceils] at hvc
  obtain ⟨Ac, cc, rfl, _⟩ := hvc.form
  rw [ex_chk3]
  have HVC := Lib.hid hvc
  have HFC := Lib.hid hfc
  have HB2 := Lib.hid (HB1.out.trans hB2)
  have HE2 := Lib.hid (HE1.out.block hB2)
  have HL1 := Lib.hid hB2.le
  clear hvc hfc hB2
  go_wp2_with fail
  refine (blocking_any HC.out _ (exT 3) w2 HE2.out.tsks HS3.out).mono ?_
  rintro e w3 ⟨vb, rfl, hvb, hB3, hfb⟩
  rw [ex_chk3, if_pos rfl, ex_blocks] at hvb
  obtain ⟨Ab, cb, rfl, _⟩ := hvb.form
  rw [ex_chk3]
  have HVB := Lib.hid hvb
  have HFB := Lib.hid hfb
  have HVC2 := Lib.hid (HVC.out.keep hB3.keeps hB3.le)
  have HB3 := Lib.hid (HB2.out.trans hB3)
  have HE3 := Lib.hid (HE2.out.block hB3)
  clear hvb hfb hB3
  go_wp2_with fail
  refine (hyper_any HC.out _ (exT 3) w3 HE3.out.tsks HS3.out).mono ?_
  rintro e w4 ⟨rfl, hB4⟩
  rw [ex_hyp]
  have HVC3 := Lib.hid (HVC2.out.keep hB4.keeps hB4.le)
  have HVB3 := Lib.hid (HVB.out.keep hB4.keeps hB4.le)
  have HB4 := Lib.hid (HB3.out.trans hB4)
  have HE4 := Lib.hid (HE3.out.block hB4)
  clear hB4
  have c5 : w4.cell? ⟨p, 5, none⟩ = some (.int .i64 3) := by simp [World.cell?, HE4.out.hp, exCells]
  have f5 : w4.frozen? ⟨p, 5, none⟩ = false := by simp [World.frozen?, HE4.out.hp]
  go_upto_region 6 with (fail)
  have hp1 := lt_of_block HE1.out.hp
  have HE5 := Lib.hid (HE4.out.set (q := 2) hpa hpb)
  have HVC5 := Lib.hid (HVC3.out.set (p := p) (o := 5) (fun k hk => by have := HFC.out k hk; omega) (.int .i64 2))
  have HVB5 := Lib.hid (HVB3.out.set (p := p) (o := 5) (fun k hk => by have := HFB.out k hk; have := HL1.out; omega) (.int .i64 2))
  have HB5 := Lib.hid (HB4.out.set (p := ⟨p, 5, none⟩) hpw (.int .i64 2))
  have hsz5 : (w4.setCell ⟨p, 5, none⟩ (.int .i64 2)).heap.size = w4.heap.size := by simp [World.setCell]
  rw [← hsz5] at HVC5 HVB5
  generalize w4.setCell ⟨p, 5, none⟩ (.int .i64 2) = w5 at *
  clear hsz5 c5 f5
  go_wp2_with fail
  refine (sameInts_same _ _ [2, 0, 0, 0, 0, 0, 0, 0] _ (HVC5.out.keep (Bel.refl.alloc _).keeps (Bel.refl.alloc _).le) (IntsAt.new w5 [2, 0, 0, 0, 0, 0, 0, 0] 3) (by simp)).mono ?_
  rintro e w6 ⟨rfl, hB6⟩
  replace hB6 : Bel w5 w6 := (Bel.refl.alloc _).trans hB6
  have HVB6 := Lib.hid (HVB5.out.keep hB6.keeps hB6.le)
  have HE6 := Lib.hid (HE5.out.block hB6)
  have HB6 := Lib.hid (HB5.out.trans hB6)
  clear hB6
  go_wp2_with fail
  refine (sameLongs_same _ _ [0, 2, 0] _ (HVB6.out.keep (Bel.refl.alloc _).keeps (Bel.refl.alloc _).le) (IntsAt.new w6 [0, 2, 0] 2) (by simp)).mono ?_
  rintro e w7 ⟨rfl, hB7⟩
  replace hB7 : Bel w6 w7 := (Bel.refl.alloc _).trans hB7
  have HE7 := Lib.hid (HE6.out.block hB7)
  have HB7 := Lib.hid (HB6.out.trans hB7)
  clear hB7
  go_wp2_with fail
  refine (HC.out _ (exT 2) w7 HE7.out.tsks HS2.out).mono ?_
  rintro e w8 ⟨rfl, hB8⟩
  rw [ex_chk2]
  have HB8 := Lib.hid (HB7.out.trans hB8)
  clear hB8
  go_wp2_with fail
  refine (HC.out _ [] w8 (nil_tsks w8) nil_sized).mono ?_
  rintro e w9 ⟨rfl, hB9⟩
  rw [nil_chk]
  have HB9 := Lib.hid (HB8.out.trans hB9)
  clear hB9
  go_wp2_with fail
  go_ret
  exact ⟨rfl, HB9.out⟩
end Go.Proofs.Ytcddgkoldffaaaa
