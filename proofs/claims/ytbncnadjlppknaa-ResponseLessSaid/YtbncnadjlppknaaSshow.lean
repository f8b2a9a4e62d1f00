import Derived.Test.YtbncnadjlppknaaTsh0
import Derived.Test.YtbncnadjlppknaaTplain
import Derived.Test.YtbncnadjlppknaaSpdem
import Derived.Test.YtbncnadjlppknaaSpfix
import Derived.Test.YtbncnadjlppknaaSbusy
namespace Go.Proofs.Ytbncnadjlppknaa
open Go.RowKit
def q1 (i k : Nat) : Int := (([[2, 2, 1, 2], [4, 3, 2, 1]] : List (List Int)).getD i []).getD k 0
def q2 (i k : Nat) : Int := (([[2, 1, 1, 2], [4, 2, 2, 1]] : List (List Int)).getD i []).getD k 0
def plc (q : Nat → Nat → Int) : Array Value := #[.int .i64 (q 0 0), .int .i64 (q 0 1), .int .i64 (q 0 2), .int .i64 (q 0 3), .int .i64 (q 1 0), .int .i64 (q 1 1), .int .i64 (q 1 2), .int .i64 (q 1 3)]
theorem pl_chk1 : rchk (plL 2 q1) = 0 := by
  simp [plL, plT, q1, List.range_succ, rchk, rchkT, manySecs, tskBad, rsecsOk, okAll, noClash, clashAny, twinAny, twin, ByteArray.size, ByteArray.toList_eq]
theorem pl_chk2 : rchk (plL 2 q2) = 0 := by
  simp [plL, plT, q2, List.range_succ, rchk, rchkT, manySecs, tskBad, rsecsOk, okAll, noClash, clashAny, twinAny, twin, ByteArray.size, ByteArray.toList_eq]
theorem ex_fixed : fixedM (exT 3) = ([1, 6, 10], true, 0) := by rw [fixedM_ok ex_chk3]; decide +kernel
theorem ex_busy : busyR (exT 3) = (10, 0) := by rw [busyR_1 ex_chk3 (by decide +kernel)]; decide +kernel
theorem pl_fixed : fixedM (plL 2 q1) = ([1, -1], false, 0) := by rw [fixedM_ok pl_chk1]; decide +kernel
theorem pl_dem1 : demandM (plL 2 q1) = (true, 0, 0) := by rw [demandM_ok pl_chk1 (by decide +kernel) (by decide +kernel) (by decide +kernel)]
theorem pl_dem2 : demandM (plL 2 q2) = (false, 2, 0) := by rw [demandM_bad pl_chk2 (by decide +kernel) (by decide +kernel)]; decide +kernel
theorem pl_sized (q : Nat → Nat → Int) (n : Nat) (hn : n ≤ 8) (h : ∀ i k, i64 (q i k)) : Sized (plL n q) := by
  refine ⟨by rw [plL_len]; omega, fun i hi => ?_, fun i hi => ?_⟩
  · rw [plL_len] at hi; rw [plL_at q hi]; simp [plT, ByteArray.size]
  · rw [plL_len] at hi; rw [plL_at q hi]
    exact ⟨h i 0, by simp [plT, i64], h i 1, h i 2, h i 3, by intro s hs; simp [plT] at hs⟩
theorem q1_i64 : ∀ i k, i64 (q1 i k) := fun i k => by
  rcases i with _ | _ | i <;> rcases k with _ | _ | _ | _ | k <;> simp [q1, i64]
theorem q2_i64 : ∀ i k, i64 (q2 i k) := fun i k => by
  rcases i with _ | _ | i <;> rcases k with _ | _ | _ | _ | k <;> simp [q2, i64]
theorem plain_new (q : Nat → Nat → Int) (w : World) (e : TypeId) :
    Calls Try.prog 22 #[.slice (some ⟨w.heap.size, 0, none⟩) 2 2] (w.alloc (.cells (plc q) e)) fun en w' => ∃ v', en = .returned v' ∧ TsksAt w' w'.heap.size v' (plL 2 q) ∧ Bel w w' :=
  (plain_any w.heap.size 2 2 q (w.alloc (.cells (plc q) e)) (by omega) (by simp) (fun i k hi hk => by
    have h1 : i = 0 ∨ i = 1 := by omega
    have h2 : k = 0 ∨ k = 1 ∨ k = 2 ∨ k = 3 := by omega
    rcases h1 with rfl | rfl <;> rcases h2 with rfl | rfl | rfl | rfl <;> (unfold World.cell?; dsimp only; rw [heap_alloc_new]; rfl))).mono fun _ _ ⟨v', a, b, c⟩ => ⟨v', a, b, (Bel.refl.alloc _).trans c⟩
set_option maxRecDepth 100000 in
set_option maxHeartbeats 8000000 in
theorem shown32_any (w : World) : Calls Try.prog 6 #[] w fun e w' => e = .returned (.bool true) ∧ Bel w w' := by
  have HS3 := Lib.hid (ex_sized 3 (by simp [i64]))
  have HS1 := Lib.hid (pl_sized q1 2 (by omega) q1_i64)
  have HS2 := Lib.hid (pl_sized q2 2 (by omega) q2_i64)
  go_enter Try.func6, Try.ntmps6
  go_wp2_with fail
  refine (example_any _).mono ?_
  rintro e w1 ⟨p, a, b, rfl, hE, hpa, hpb, hpw, hB1⟩
  have HE1 := Lib.hid hE
  have HB1 := Lib.hid hB1
  clear hE hB1
  go_wp2_with fail
  refine (pfixed_any _ (exT 3) w1 HE1.out.tsks HS3.out).mono ?_
  rintro e w2 ⟨va, rfl, hva, hB2, _⟩
  rw [ex_fixed] at hva ⊢
  obtain ⟨Aa, ca, rfl, _⟩ := hva.form
  have HVA := Lib.hid hva
  have HB2 := Lib.hid (HB1.out.trans hB2)
  have HE2 := Lib.hid (HE1.out.block hB2)
  clear hva hB2 HE1 HB1
  dsimp only
  go_wp2_with fail
  refine (pBusy_any _ (exT 3) w2 HE2.out.tsks HS3.out).mono ?_
  rintro e w3 ⟨rfl, hB3⟩
  rw [ex_busy]
  have HVA3 := Lib.hid (HVA.out.keep hB3.keeps hB3.le)
  have HB3 := Lib.hid (HB2.out.trans hB3)
  clear hB3 HVA HB2 HE2
  dsimp only
  go_wp2_with fail
  refine (plain_new q1 w3 _).mono ?_
  rintro e w4 ⟨v4, rfl, h4, hB4⟩
  obtain ⟨A4, c4, rfl, _⟩ := h4.form
  have H4 := Lib.hid h4
  have HVA4 := Lib.hid (HVA3.out.keep hB4.keeps hB4.le)
  have HB4 := Lib.hid (HB3.out.trans hB4)
  clear hB4 h4 HVA3 HB3
  go_wp2_with fail
  refine (pfixed_any _ (plL 2 q1) w4 H4.out HS1.out).mono ?_
  rintro e w5 ⟨vb, rfl, hvb, hB5, _⟩
  rw [pl_fixed] at hvb ⊢
  obtain ⟨Ab, cb, rfl, _⟩ := hvb.form
  have HVA5 := Lib.hid (HVA4.out.keep hB5.keeps hB5.le)
  have HVB5 := Lib.hid hvb
  have HB5 := Lib.hid (HB4.out.trans hB5)
  clear hvb hB5 H4 HVA4 HB4
  dsimp only
  go_wp2_with fail
  refine (plain_new q2 w5 _).mono ?_
  rintro e w6 ⟨v6, rfl, h6, hB6⟩
  obtain ⟨A6, c6, rfl, _⟩ := h6.form
  have H6 := Lib.hid h6
  have HVA6 := Lib.hid (HVA5.out.keep hB6.keeps hB6.le)
  have HVB6 := Lib.hid (HVB5.out.keep hB6.keeps hB6.le)
  have HB6 := Lib.hid (HB5.out.trans hB6)
  clear hB6 h6 HVA5 HVB5 HB5
  go_wp2_with fail
  refine (pDemand_any _ (plL 2 q2) w6 H6.out HS2.out).mono ?_
  rintro e w7 ⟨rfl, hB7⟩
  rw [pl_dem2]
  have HVA7 := Lib.hid (HVA6.out.keep hB7.keeps hB7.le)
  have HVB7 := Lib.hid (HVB6.out.keep hB7.keeps hB7.le)
  have HB7 := Lib.hid (HB6.out.trans hB7)
  clear hB7 H6 HVA6 HVB6 HB6
  dsimp only
  go_wp2_with fail
  refine (plain_new q1 w7 _).mono ?_
  rintro e w8 ⟨v8, rfl, h8, hB8⟩
  obtain ⟨A8, c8, rfl, _⟩ := h8.form
  have H8 := Lib.hid h8
  have HVA8 := Lib.hid (HVA7.out.keep hB8.keeps hB8.le)
  have HVB8 := Lib.hid (HVB7.out.keep hB8.keeps hB8.le)
  have HB8 := Lib.hid (HB7.out.trans hB8)
  clear hB8 h8 HVA7 HVB7 HB7
  go_wp2_with fail
  refine (pDemand_any _ (plL 2 q1) w8 H8.out HS1.out).mono ?_
  rintro e w9 ⟨rfl, hB9⟩
  rw [pl_dem1]
  have HVA9 := Lib.hid (HVA8.out.keep hB9.keeps hB9.le)
  have HVB9 := Lib.hid (HVB8.out.keep hB9.keeps hB9.le)
  have HB9 := Lib.hid (HB8.out.trans hB9)
  clear hB9 H8 HVA8 HVB8 HB8
  dsimp only
  go_wp2_with fail
  refine (sameLongs_same _ _ [1, 6, 10] _ (HVA9.out.keep (Bel.refl.alloc _).keeps (Bel.refl.alloc _).le) (IntsAt.new w9 [1, 6, 10] 2) (by simp)).mono ?_
  rintro e wa ⟨rfl, hBa⟩
  replace hBa : Bel w9 wa := (Bel.refl.alloc _).trans hBa
  have HVBa := Lib.hid (HVB9.out.keep hBa.keeps hBa.le)
  have HBa := Lib.hid (HB9.out.trans hBa)
  clear hBa HVA9 HVB9 HB9
  go_wp2_with fail
  refine (sameLongs_same _ _ [1, -1] _ (HVBa.out.keep (Bel.refl.alloc _).keeps (Bel.refl.alloc _).le) (IntsAt.new wa [1, -1] 2) (by simp)).mono ?_
  rintro e wc ⟨rfl, hBc⟩
  replace hBc : Bel wa wc := (Bel.refl.alloc _).trans hBc
  have HBc := Lib.hid (HBa.out.trans hBc)
  clear hBc HVBa HBa
  go_wp2_with fail
  go_ret
  exact ⟨rfl, HBc.out⟩
end Go.Proofs.Ytbncnadjlppknaa
