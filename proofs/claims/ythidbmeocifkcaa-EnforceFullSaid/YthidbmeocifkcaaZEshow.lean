/- enforce: shown: the walk. -/
import Derived.Test.YthidbmeocifkcaaZEexm
namespace Go.Proofs.Ythidbmeocifkcaa
open Go.RowKit
set_option maxRecDepth 100000 in
set_option maxHeartbeats 4000000 in
theorem shown36_any (W : World) : Calls Try.prog 9 #[] W fun e W' => e = .returned (.bool true) ∧ Bel W W' := by
  go_enter Try.func9, Try.ntmps9
  go_wp2_with fail
  refine (example_out W).mono ?_
  rintro e w1 ⟨A1, k1, A2, k2, rfl, hB, hp⟩
  have HP1 := Lib.hid hp
  have HB1 := Lib.hid hB
  clear hp hB
  go_upto_region 2 with (fail)
  generalize hW : World.alloc w1 _ = w2 at *
  have rb : RowAt w2 w1.heap.size 25 [.int .i64 2, .int .i64 1, .int .i64 0, .slice A1 2 k1, .slice A2 2 k2] := by rw [← hW]; exact RowAt.new _ _ _
  have hB : Bel w1 w2 := by rw [← hW]; exact Bel.refl.alloc _
  clear hW
  have HP2 := Lib.hid (HP1.out.bel hB)
  have HB2 := Lib.hid (HB1.out.trans hB)
  have HR2 := Lib.hid rb
  clear rb hB HP1 HB1
  generalize w1.heap.size = bp at *
  have q0 := HR2.out.cell (i := 0) rfl
  have q1 := HR2.out.cell (i := 1) rfl
  have q2 := HR2.out.cell (i := 2) rfl
  have q3 := HR2.out.cell (i := 3) rfl
  have q4 := HR2.out.cell (i := 4) rfl
  have qz := HR2.out.lt
  go_wp2_with fail
  generalize hW : World.alloc w2 _ = w3 at *
  have rs : RowAt w3 w2.heap.size 48 (exW.flatMap psC) := by rw [← hW]; exact RowAt.new _ _ _
  have hB : Bel w2 w3 := by rw [← hW]; exact Bel.refl.alloc _
  clear hW
  have HP3 := Lib.hid (HP2.out.bel hB)
  have HB3 := Lib.hid (HB2.out.trans hB)
  have HR3 := Lib.hid (HR2.out.bel hB)
  have HW3 := Lib.hid (stamps_row rs)
  clear rs hB HP2 HB2 HR2 q0 q1 q2 q3 q4 qz
  generalize w2.heap.size = bw at *
  refine (pbest_any exP _ _ (some ⟨bw, 0, none⟩) 3 exW w3 HP3.out exP_sized HW3.out (by decide) (fun _ _ => exBN)).mono ?_
  rintro e w4 ⟨v4, rfl, ho4, hB⟩
  rw [exB] at ho4 ⊢
  obtain ⟨A4, c4, rfl, _⟩ := own_slice ho4
  have HO4 := Lib.hid (stamps_own rfl ho4)
  have HP4 := Lib.hid (HP3.out.bel hB)
  have HB4 := Lib.hid (HB3.out.trans hB)
  have HR4 := Lib.hid (HR3.out.bel hB)
  clear ho4 hB HP3 HB3 HR3 HW3
  have q0 := HR4.out.cell (i := 0) rfl
  have q1 := HR4.out.cell (i := 1) rfl
  have q2 := HR4.out.cell (i := 2) rfl
  have q3 := HR4.out.cell (i := 3) rfl
  have q4 := HR4.out.cell (i := 4) rfl
  have qz := HR4.out.lt
  go_wp2_with fail
  refine (new_any exP _ _ w4 HP4.out exP_sized).mono ?_
  rintro e w5 hN
  rcases hN with ⟨hc, _⟩ | ⟨_, bf, bm, wm, rfl, hbm, hE⟩
  · exact absurd exC hc
  have HV : Hid (PValid exP exP.clks.toNat) := Lib.hid (pvalid_of exC)
  have HE5 := Lib.hid hE
  have hB5 : Bel w4 w5 := hbm.trans hE.b.bel
  have HBM := Lib.hid (HB4.out.trans hbm)
  have HO5 := Lib.hid (HO4.out.bel hB5)
  clear hE hbm hB5 q0 q1 q2 q3 q4 qz HO4 HP4 HB4 HR4
  go_wp2_with fail
  generalize hW : World.alloc w5 _ = w6 at *
  have rs : RowAt w6 w5.heap.size 48 (([⟨4, 0⟩, ⟨9, 1⟩] : List PS).flatMap psC) := by rw [← hW]; exact RowAt.new _ _ _
  have hB : Bel w5 w6 := by rw [← hW]; exact Bel.refl.alloc _
  clear hW
  have hE6 : EfAt wm w6 bf bm exP (en0 exP) (.slice none 0 0) (.slice none 0 0) := ⟨HE5.out.b.after hB, HE5.out.mach, HE5.out.loc, HE5.out.cl⟩
  have HE6 := Lib.hid hE6
  have HO6 := Lib.hid (HO5.out.bel hB)
  have HS6 := Lib.hid (stamps_row rs)
  clear rs hB hE6 HE5 HO5
  generalize w5.heap.size = b5 at *
  refine (sameWord_any _ _ [⟨4, 0⟩, ⟨9, 1⟩] w6 HO6.out HS6.out (by decide)).mono ?_
  rintro e w7 ⟨rfl, hB⟩
  have hE7 : EfAt wm w7 bf bm exP (en0 exP) (.slice none 0 0) (.slice none 0 0) := ⟨HE6.out.b.after hB, HE6.out.mach, HE6.out.loc, HE6.out.cl⟩
  have HE7 := Lib.hid hE7
  clear hB hE7 HE6 HO6 HS6
  go_wp2_with fail
  refine (event_any ⟨3, 0⟩ HE7.out en0_ok HV.out exP_sized (by decide) ⟨exI.1, exI.2.1⟩ (fun _ _ => exN1)).mono ?_
  rintro e w8 ⟨v8, hv8, ov8, rfl, hE8, _, _, ho8, _⟩
  rw [exE1] at ho8 ⊢
  obtain ⟨A8, c8, rfl, _⟩ := own_slice ho8
  have HE8 := Lib.hid hE8
  clear hE8 ho8 HE7
  go_wp2_with fail
  refine (event_any ⟨9, 1⟩ HE8.out (event_okP HV.out en0_ok _) HV.out exP_sized (by decide) ⟨exI.2.2.1, exI.2.2.2.1⟩ (fun _ _ => exN2)).mono ?_
  rintro e w9 ⟨v9, hv9, ov9, rfl, hE9, _, _, ho9, hd9⟩
  rw [exE2] at ho9 ⊢
  obtain ⟨A9, c9, rfl, _⟩ := own_slice ho9
  have HE9 := Lib.hid hE9
  have HO9 := Lib.hid ho9
  clear hE9 ho9 HE8
  go_wp2_with fail
  refine (event_any ⟨12, 1⟩ HE9.out (event_okP HV.out (event_okP HV.out en0_ok _) _) HV.out exP_sized (by decide) ⟨exI.2.2.2.2, exI.2.2.2.1⟩ (fun _ _ => exN3)).mono ?_
  rintro e wa ⟨va, hva, ova, rfl, hEa, hG, _, hoa, _⟩
  rw [exE3] at hoa ⊢
  obtain ⟨Aa, ca, rfl, _⟩ := own_slice hoa
  have hOa : wa.ownsRow w8.heap.size 48 2 (.slice A9 2 c9) 2 (([⟨9, 0⟩, ⟨9, 1⟩] : List PS).flatMap psC) := ownsRow_far HO9.out hG hd9
  have HEa := Lib.hid hEa
  have HOa := Lib.hid (stamps_own rfl hOa)
  clear hEa hG hoa hOa hd9 HO9 HE9
  go_wp2_with fail
  generalize hW : World.alloc wa _ = wb at *
  have rs : RowAt wb wa.heap.size 48 (([⟨9, 0⟩, ⟨9, 1⟩] : List PS).flatMap psC) := by rw [← hW]; exact RowAt.new _ _ _
  have hB : Bel wa wb := by rw [← hW]; exact Bel.refl.alloc _
  clear hW
  have HEb := Lib.hid (HEa.out.b.after hB)
  have HOb := Lib.hid (HOa.out.bel hB)
  have HSb := Lib.hid (stamps_row rs)
  have HMb := Lib.hid (And.intro HEa.out.mach (And.intro HEa.out.loc HEa.out.cl))
  clear rs hB HEa HOa
  generalize wa.heap.size = ba at *
  refine (sameWord_any _ _ [⟨9, 0⟩, ⟨9, 1⟩] wb HOb.out HSb.out (by decide)).mono ?_
  rintro e wc ⟨rfl, hB⟩
  have HEc := Lib.hid (HEb.out.after hB)
  clear hB HEb HOb HSb
  have hEc : EfAt wm wc bf bm exP _ hva ova := ⟨HEc.out, HMb.out.1, HMb.out.2.1, HMb.out.2.2⟩
  have HEF := Lib.hid hEc
  clear hEc
  go_wp2_with fail
  refine (eheld_any HEF.out).mono ?_
  rintro e wd ⟨rfl, rfl⟩
  rw [exE4.1]
  go_wp2_with fail
  refine (eout_any HEF.out (by rw [exE4.2]; decide)).mono ?_
  rintro e we ⟨vo, rfl, hoo, hB⟩
  rw [exE4.2] at hoo
  obtain ⟨Ao, co, rfl, _⟩ := own_slice hoo
  have HFIN : Hid (Bel W we) := Lib.hid ((HBM.out.trans HEc.out.bel).trans hB)
  clear hoo hB
  go_wp2
  go_ret
  exact ⟨rfl, HFIN.out⟩
end Go.Proofs.Ythidbmeocifkcaa
