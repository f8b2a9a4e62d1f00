/- foliotlaw37.shown. -/
import Derived.Test.YtbilfpoghohddaaG10
import Derived.Test.YtbilfpoghohddaaZWrmake
import Derived.Test.YtbilfpoghohddaaG8
import Derived.Test.YtbilfpoghohddaaG2
namespace Go.Proofs.Ytbilfpoghohddaa
open Go.RowKit
theorem sh_make1 : makeT (plL 2 q1) 1 = ([], 370) := by decide +kernel
theorem sh_make2 : makeT (plL 2 q1) 2 = ([0, 1, 1, 0], 0) := by decide +kernel
theorem sh_chk0 : chkT (plL 2 q1) [0, 1, 1, 0] = 0 := by decide +kernel
theorem sh_chk1 : chkT (plL 2 q1) [0, 1, 0, 1] = 370 := by decide +kernel
theorem sh_chk2 : chkT (plL 2 q1) [] = 2 := by decide +kernel
theorem MadeAt.ints {base : Nat} {w : World} {v : Value} {xs : List Int} (h : MadeAt base w v xs) : IntsAt w w.heap.size v xs := by
  rcases h with ⟨rfl, rfl⟩ | ⟨b, rfl, _, hr⟩
  · exact ⟨none, 0, rfl, Nat.le_refl _, fun h => absurd h (by simp)⟩
  · refine ⟨_, _, rfl, Nat.le_refl _, fun _ => ⟨b, 0, rfl, hr.lt, fun i hi => ?_⟩⟩
    rw [Nat.zero_add]
    refine hr.cell ?_
    unfold intsC
    rw [List.getElem?_map, List.getElem?_eq_getElem hi]
    simp [List.getD, hi]
theorem MadeAt.bel {base : Nat} {w w' : World} {v : Value} {xs : List Int} (h : MadeAt base w v xs) (hb : Bel w w') : MadeAt base w' v xs := by
  rcases h with h | ⟨b, h1, h2, hr⟩
  · exact .inl h
  · exact .inr ⟨b, h1, h2, hr.bel hb⟩
theorem IntsAt.of_row {w : World} {b : Nat} {xs : List Int} (hr : RowAt w b 3 (intsC xs)) : IntsAt w w.heap.size (.slice (some ⟨b, 0, none⟩) xs.length xs.length) xs :=
  MadeAt.ints (base := 0) (.inr ⟨b, rfl, Nat.zero_le _, hr⟩)
set_option maxRecDepth 100000 in
set_option maxHeartbeats 8000000 in
theorem shown37_any (w : World) : Calls Try.prog 22 #[] w fun e w' => e = .returned (.bool true) ∧ Bel w w' := by
  have HS := Lib.hid (pl_sized q1 2 (by omega) q1_i64)
  go_enter Try.func22, Try.ntmps22
  go_wp2_with fail
  refine (plain_new q1 w _).mono ?_
  rintro e w1 ⟨v1, rfl, h1, hB1⟩
  obtain ⟨A1, c1, rfl, _⟩ := h1.form
  have H1 := Lib.hid h1
  have HB1 := Lib.hid hB1
  clear h1 hB1
  go_wp2_with fail
  refine (make_any _ _ 1 w1 H1.out HS.out).mono ?_
  rintro e w2 ⟨v2, rfl, hm, hb⟩
  rw [sh_make1] at hm ⊢
  have hi := hm.ints
  dsimp only at hi ⊢
  obtain ⟨A2, c2, rfl, _⟩ := hi.form
  have H2 := Lib.hid (H1.out.keep hb.keeps hb.le)
  have HB2 := Lib.hid (HB1.out.trans hb)
  clear H1 HB1 hm hb hi
  go_upto_region 3 with (fail)
  generalize hW : World.alloc w2 _ = w3 at *
  have hB : Bel w2 w3 := by rw [← hW]; exact Bel.refl.alloc _
  clear hW
  have H3 := Lib.hid (H2.out.keep hB.keeps hB.le)
  have HB3 := Lib.hid (HB2.out.trans hB)
  clear H2 HB2 hB
  go_wp2_with fail
  refine (make_any _ _ 2 w3 H3.out HS.out).mono ?_
  rintro e w4 ⟨v4, rfl, hm, hb⟩
  rw [sh_make2] at hm ⊢
  have hi := hm.ints
  dsimp only at hi ⊢
  obtain ⟨A4, c4, rfl, _⟩ := hi.form
  have H4 := Lib.hid (H3.out.keep hb.keeps hb.le)
  have HI4 := Lib.hid hi
  have HB4 := Lib.hid (HB3.out.trans hb)
  clear H3 HB3 hm hb hi
  go_upto_region 4 with (fail)
  generalize hW : World.alloc w4 _ = w5 at *
  have hB : Bel w4 w5 := by rw [← hW]; exact Bel.refl.alloc _
  have r4 : RowAt w5 w4.heap.size 25 [.slice A4 [0, 1, 1, 0].length c4] := by rw [← hW]; exact RowAt.new _ _ _
  clear hW
  have H5 := Lib.hid (H4.out.keep hB.keeps hB.le)
  have HI5 := Lib.hid (HI4.out.keep hB.keeps hB.le)
  have HB5 := Lib.hid (HB4.out.trans hB)
  have HR5 := Lib.hid r4
  clear H4 HI4 HB4 hB r4
  generalize w4.heap.size = n4 at *
  have x0 := HR5.out.cell (i := 0) rfl
  have x1 := HR5.out.lt
  go_wp2_with fail
  generalize hW : World.alloc w5 _ = w6 at *
  have hB : Bel w5 w6 := by rw [← hW]; exact Bel.refl.alloc _
  have hr : RowAt w6 w5.heap.size 3 (intsC [0, 1, 1, 0]) := by rw [← hW]; exact RowAt.new _ _ _
  have hi2 := IntsAt.of_row hr
  clear hW hr
  have H6 := Lib.hid (H5.out.keep hB.keeps hB.le)
  have HI6 := Lib.hid (HI5.out.keep hB.keeps hB.le)
  have HB6 := Lib.hid (HB5.out.trans hB)
  have HR6 := Lib.hid (HR5.out.bel hB)
  clear H5 HI5 HB5 hB HR5 x0 x1
  refine (sameInts_any (.slice A4 4 c4) (.slice (some ⟨w5.heap.size, 0, none⟩) 4 4) [0, 1, 1, 0] [0, 1, 1, 0] w6 HI6.out hi2 (by simp) (by simp)).mono ?_
  rintro e w7 ⟨rfl, hB⟩
  have H7 := Lib.hid (H6.out.keep hB.keeps hB.le)
  have HI7 := Lib.hid (HI6.out.keep hB.keeps hB.le)
  have HB7 := Lib.hid (HB6.out.trans hB)
  have HR7 := Lib.hid (HR6.out.bel hB)
  clear H6 HI6 HB6 hB HR6 hi2
  have x0 := HR7.out.cell (i := 0) rfl
  have x1 := HR7.out.lt
  have ed : decide ([(0 : Int), 1, 1, 0] = [0, 1, 1, 0]) = true := by decide
  rw [ed]
  clear ed
  go_wp2_with fail
  refine (checkT_any _ _ _ [0, 1, 1, 0] w7 H7.out HI7.out (by simp) HS.out).mono ?_
  rintro e w8 ⟨rfl, hB⟩
  rw [sh_chk0]
  have H8 := Lib.hid (H7.out.keep hB.keeps hB.le)
  have HB8 := Lib.hid (HB7.out.trans hB)
  clear H7 HI7 HB7 hB HR7 x0 x1
  go_wp2_with fail
  generalize hW : World.alloc w8 _ = w9 at *
  have hB : Bel w8 w9 := by rw [← hW]; exact Bel.refl.alloc _
  have hr : RowAt w9 w8.heap.size 3 (intsC [0, 1, 0, 1]) := by rw [← hW]; exact RowAt.new _ _ _
  have HI9 := Lib.hid (IntsAt.of_row hr)
  clear hW hr
  have H9 := Lib.hid (H8.out.keep hB.keeps hB.le)
  have HB9 := Lib.hid (HB8.out.trans hB)
  clear H8 HB8 hB
  refine (checkT_any _ _ _ [0, 1, 0, 1] w9 H9.out HI9.out (by simp) HS.out).mono ?_
  rintro e w10 ⟨rfl, hB⟩
  rw [sh_chk1]
  have H10 := Lib.hid (H9.out.keep hB.keeps hB.le)
  have HB10 := Lib.hid (HB9.out.trans hB)
  clear H9 HB9 hB HI9
  go_wp2_with fail
  refine (checkT_any _ _ _ [] w10 H10.out ⟨none, 0, rfl, Nat.le_refl _, fun h => absurd h (by simp)⟩ (by simp) HS.out).mono ?_
  rintro e w11 ⟨rfl, hB⟩
  rw [sh_chk2]
  have HB11 := Lib.hid (HB10.out.trans hB)
  clear H10 HB10 hB
  go_wp2
  go_ret
  exact ⟨rfl, HB11.out⟩
end Go.Proofs.Ytbilfpoghohddaa
