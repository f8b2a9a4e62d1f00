/- foliotlaw38.shown. -/
import Derived.Test.YtbilfpoghohddaaZXtick
import Derived.Test.YtbilfpoghohddaaZXnew
import Derived.Test.YtbilfpoghohddaaG15
import Derived.Test.YtbilfpoghohddaaG10
import Derived.Test.YtbilfpoghohddaaZWsh
namespace Go.Proofs.Ytbilfpoghohddaa
open Go.RowKit
def shX : List Int := [0, 1, 1, 0]
def shS1 : ExS := ⟨1, [⟨0, 0, 0⟩, ⟨0, 0, 2⟩]⟩
def shS2 : ExS := ⟨2, [⟨0, 0, 0⟩, ⟨0, 0, 1⟩]⟩
def shS3 : ExS := ⟨3, [⟨1, 2, 0⟩, ⟨0, 0, 0⟩]⟩
def shS4 : ExS := ⟨4, [⟨1, 2, 0⟩, ⟨0, 0, 0⟩]⟩
theorem sh_rel : relL (ex0 (plL 2 q1)).now 0 (plL 2 q1) = [0, 1] := by decide +kernel
theorem sh_t1 : tickX (plL 2 q1) shX (ex0 (plL 2 q1)) [1, 2] = ⟨0, [⟨0, 0, 0, 1, false⟩], 0, shS1⟩ := by kernel_rfl
theorem sh_t2 : tickX (plL 2 q1) shX shS1 [] = ⟨1, [], 0, shS2⟩ := by kernel_rfl
theorem sh_t3 : tickX (plL 2 q1) shX shS2 [0] = ⟨1, [⟨0, 1, 2, 0, false⟩, ⟨1, 0, 0, 3, false⟩], 0, shS3⟩ := by kernel_rfl
theorem sh_t4 : tickX (plL 2 q1) shX shS3 [] = ⟨-1, [], 0, shS4⟩ := by kernel_rfl
theorem IntsNe.nil {w : World} {p : Nat} : IntsNe w p (.slice none 0 0) [] := ⟨none, 0, rfl, Nat.le_refl _, fun h => absurd h (by simp)⟩
theorem IntsNe.of_row {w : World} {b p : Nat} {e : TypeId} {xs : List Int} (hr : RowAt w b e (intsC xs)) (hp : b ≠ p) : IntsNe w p (.slice (some ⟨b, 0, none⟩) xs.length xs.length) xs := by
  refine ⟨_, _, rfl, Nat.le_refl _, fun _ => ⟨b, 0, rfl, hr.lt, hp, fun i hi => ?_⟩⟩
  rw [Nat.zero_add]
  refine hr.cell ?_
  unfold intsC
  rw [List.getElem?_map, List.getElem?_eq_getElem hi]
  simp [List.getD, hi]
theorem rd_row {w : World} {b : Nat} {e : TypeId} {ds : List Don} (hr : RowAt w b e (ds.flatMap donC)) : RdAt w w.heap.size (.slice (some ⟨b, 0, none⟩) ds.length ds.length) 5 donC ds := by
  refine ⟨_, _, rfl, Nat.le_refl _, fun _ => ⟨b, 0, rfl, hr.lt, fun i hi r hr5 => ?_⟩⟩
  rw [Nat.zero_add, hr.cell?, flat_at donC_len ds i r hi hr5]
theorem tick_ok2 {l : List Tsk} {xs : List Int} {st : ExS} (hok : ExOk l xs st) (ns : List Int) {R : TickR} (e : tickX l xs st ns = R) : ExOk l xs R.st := by
  rw [← e]; exact tick_ok hok ns
set_option maxRecDepth 100000 in
set_option maxHeartbeats 16000000 in
theorem shown38_any (w : World) : Calls Try.prog 9 #[] w fun e w' => e = .returned (.bool true) ∧ Bel w w' := by
  have HS := Lib.hid (pl_sized q1 2 (by omega) q1_i64)
  go_enter Try.func9, Try.ntmps9
  go_wp2_with fail
  refine (plain_new q1 w _).mono ?_
  rintro e w1 ⟨v1, rfl, h1, hB1⟩
  obtain ⟨A1, c1, rfl, _⟩ := h1.form
  have H1 := Lib.hid h1
  have HB1 := Lib.hid hB1
  clear h1 hB1
  go_wp2_with fail
  generalize hW : World.alloc w1 _ = w2 at *
  have hB : Bel w1 w2 := by rw [← hW]; exact Bel.refl.alloc _
  have hr : RowAt w2 w1.heap.size 3 (intsC shX) := by rw [← hW]; exact RowAt.new _ _ _
  have HI2 := Lib.hid (IntsAt.of_row hr)
  clear hW hr
  have H2 := Lib.hid (H1.out.keep hB.keeps hB.le)
  have HB2 := Lib.hid (HB1.out.trans hB)
  clear H1 HB1 hB
  refine (new_any _ _ _ shX w2 w2 H2.out HI2.out Bel.refl (by simp [shX]) HS.out).mono ?_
  rintro e w3 hN
  rcases hN with ⟨hc, _⟩ | ⟨hc, be, lv, tv, rfl, hX, hb1, hb2⟩
  · exact absurd sh_chk0 hc
  have HOK := Lib.hid (ex0_ok hc)
  have HX := Lib.hid hX
  have HBE : Hid (w.heap.size ≤ be) := Lib.hid (Nat.le_trans HB2.out.le hb1)
  have HB3 := Lib.hid (HB2.out.trans hb2)
  clear hc hX hb1 hb2 H2 HB2 HI2
  go_wp2_with fail
  refine (released_any _ HX.out HOK.out (by simp [ex0])).mono ?_
  rintro e w4 ⟨rv, rfl, ho, hB⟩
  rw [sh_rel] at ho
  have hri := nat_ints ho
  obtain ⟨Ar, cr, rfl, _⟩ := hri.form
  have HRI := Lib.hid hri
  have HX4 := Lib.hid (HX.out.bel hB)
  have HB4 := Lib.hid (HB3.out.trans hB)
  clear ho hri hB HX HB3
  go_wp2_with fail
  generalize hW : World.alloc w4 _ = w5 at *
  have hB : Bel w4 w5 := by rw [← hW]; exact Bel.refl.alloc _
  have hr : RowAt w5 w4.heap.size 3 (intsC [0, 1]) := by rw [← hW]; exact RowAt.new _ _ _
  have HI5 := Lib.hid (IntsAt.of_row hr)
  have HX5 := Lib.hid (HX4.out.bel hB)
  have HB5 := Lib.hid (HB4.out.trans hB)
  have HR5 := Lib.hid (HRI.out.keep hB.keeps hB.le)
  clear hW hr hB HX4 HB4 HRI
  refine (sameInts_any _ _ [0, 1] [0, 1] w5 HR5.out HI5.out (by simp) (by simp)).mono ?_
  rintro e w6 ⟨rfl, hB⟩
  have HX6 := Lib.hid (HX5.out.bel hB)
  have HB6 := Lib.hid (HB5.out.trans hB)
  clear hB HX5 HB5 HR5 HI5
  have ed : decide ([(0 : Int), 1] = [0, 1]) = true := by decide
  rw [ed]
  clear ed
  go_wp2_with fail
  have HX := HX6
  have HB := HB6
  clear HX6 HB6
  generalize hW : World.alloc w6 _ = w7 at *
  have hB : Bel w6 w7 := by rw [← hW]; exact Bel.refl.alloc _
  have hr : RowAt w7 w6.heap.size 2 (intsC [1, 2]) := by rw [← hW]; exact RowAt.new _ _ _
  have hne := IntsNe.of_row (p := be) hr (by have := HX.out.lt; omega)
  replace HX := Lib.hid (HX.out.bel hB)
  replace HB := Lib.hid (HB.out.trans hB)
  clear hW hr hB
  refine (tick_any w7 _ [1, 2] HX.out HOK.out (by simp [ex0]) hne (by simp)).mono ?_
  rintro e w8 ⟨dv, rfl, hX, hD, hG⟩
  replace hD := RdAt.of_own donC_len rfl hD
  rw [sh_t1] at hX hD ⊢
  dsimp only at hX hD ⊢
  obtain ⟨Ad, cd, rfl, _⟩ := hD.form
  have hbb := bel_gro (row := some be) (wb := w) HB.out hG (fun k e => by injection e with e; rw [← e]; exact HBE.out)
  replace HB := Lib.hid hbb
  replace HX := Lib.hid hX
  replace HOK := Lib.hid (tick_ok2 HOK.out _ sh_t1)
  have HD := Lib.hid hD
  clear hX hD hG hbb
  clear hne
  go_wp2_with fail
  generalize hW : World.alloc w8 _ = w9 at *
  have hB : Bel w8 w9 := by rw [← hW]; exact Bel.refl.alloc _
  have hr : RowAt w9 w8.heap.size 60 (([⟨0, 0, 0, 1, false⟩] : List Don).flatMap donC) := by rw [← hW]; exact RowAt.new _ _ _
  have hrd := rd_row hr
  replace HX := Lib.hid (HX.out.bel hB)
  replace HB := Lib.hid (HB.out.trans hB)
  replace HD := Lib.hid (HD.out.keep hB.keeps hB.le)
  clear hW hr hB
  refine (sameDone_any _ _ [⟨0, 0, 0, 1, false⟩] w9 HD.out hrd (by simp)).mono ?_
  rintro e w10 ⟨rfl, hB⟩
  replace HX := Lib.hid (HX.out.bel hB)
  replace HB := Lib.hid (HB.out.trans hB)
  clear hB hrd HD
  go_wp2_with fail
  refine (tick_any w10 _ [] HX.out HOK.out (by simp [shS1]) IntsNe.nil (by simp)).mono ?_
  rintro e w11 ⟨dv, rfl, hX, hD, hG⟩
  replace hD := RdAt.of_own donC_len rfl hD
  rw [sh_t2] at hX hD ⊢
  dsimp only at hX hD ⊢
  obtain ⟨Ad, cd, rfl, _⟩ := hD.form
  have hbb := bel_gro (row := some be) (wb := w) HB.out hG (fun k e => by injection e with e; rw [← e]; exact HBE.out)
  replace HB := Lib.hid hbb
  replace HX := Lib.hid hX
  replace HOK := Lib.hid (tick_ok2 HOK.out _ sh_t2)
  have HD := Lib.hid hD
  clear hX hD hG hbb
  clear HD
  go_wp2_with fail
  generalize hW : World.alloc w11 _ = w12 at *
  have hB : Bel w11 w12 := by rw [← hW]; exact Bel.refl.alloc _
  have hr : RowAt w12 w11.heap.size 2 (intsC [0]) := by rw [← hW]; exact RowAt.new _ _ _
  have hne := IntsNe.of_row (p := be) hr (by have := HX.out.lt; omega)
  replace HX := Lib.hid (HX.out.bel hB)
  replace HB := Lib.hid (HB.out.trans hB)
  clear hW hr hB
  refine (tick_any w12 _ [0] HX.out HOK.out (by simp [shS2]) hne (by simp)).mono ?_
  rintro e w13 ⟨dv, rfl, hX, hD, hG⟩
  replace hD := RdAt.of_own donC_len rfl hD
  rw [sh_t3] at hX hD ⊢
  dsimp only at hX hD ⊢
  obtain ⟨Ad, cd, rfl, _⟩ := hD.form
  have hbb := bel_gro (row := some be) (wb := w) HB.out hG (fun k e => by injection e with e; rw [← e]; exact HBE.out)
  replace HB := Lib.hid hbb
  replace HX := Lib.hid hX
  replace HOK := Lib.hid (tick_ok2 HOK.out _ sh_t3)
  have HD := Lib.hid hD
  clear hX hD hG hbb
  clear hne
  go_wp2_with fail
  generalize hW : World.alloc w13 _ = w14 at *
  have hB : Bel w13 w14 := by rw [← hW]; exact Bel.refl.alloc _
  have hr : RowAt w14 w13.heap.size 60 (([⟨0, 1, 2, 0, false⟩, ⟨1, 0, 0, 3, false⟩] : List Don).flatMap donC) := by rw [← hW]; exact RowAt.new _ _ _
  have hrd := rd_row hr
  replace HX := Lib.hid (HX.out.bel hB)
  replace HB := Lib.hid (HB.out.trans hB)
  replace HD := Lib.hid (HD.out.keep hB.keeps hB.le)
  clear hW hr hB
  refine (sameDone_any _ _ [⟨0, 1, 2, 0, false⟩, ⟨1, 0, 0, 3, false⟩] w14 HD.out hrd (by simp)).mono ?_
  rintro e w15 ⟨rfl, hB⟩
  replace HX := Lib.hid (HX.out.bel hB)
  replace HB := Lib.hid (HB.out.trans hB)
  clear hB hrd HD
  go_wp2_with fail
  refine (tick_any w15 _ [] HX.out HOK.out (by simp [shS3]) IntsNe.nil (by simp)).mono ?_
  rintro e w16 ⟨dv, rfl, hX, hD, hG⟩
  replace hD := RdAt.of_own donC_len rfl hD
  rw [sh_t4] at hX hD ⊢
  dsimp only at hX hD ⊢
  obtain ⟨Ad, cd, rfl, _⟩ := hD.form
  have hbb := bel_gro (row := some be) (wb := w) HB.out hG (fun k e => by injection e with e; rw [← e]; exact HBE.out)
  replace HB := Lib.hid hbb
  replace HX := Lib.hid hX
  replace HOK := Lib.hid (tick_ok2 HOK.out _ sh_t4)
  have HD := Lib.hid hD
  clear hX hD hG hbb
  clear HD
  have hc1 := HX.out.c1
  have hc2 := HX.out.c2
  have HLX := Lib.hid HX.out.xform
  obtain ⟨Ax, cx, rfl, _⟩ := HLX.out
  go_wp2_with fail
  refine (now_at w16 hc1 hc2).mono ?_
  rintro e w17 ⟨rfl, rfl⟩
  have ei : (if shX.length = 0 then (0 : Int) else shS4.now) = 4 := rfl
  rw [ei]
  clear ei hc1 hc2 HX HLX HOK
  go_wp2
  go_ret
  exact ⟨rfl, HB.out⟩
end Go.Proofs.Ytbilfpoghohddaa
