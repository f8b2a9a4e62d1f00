import Derived.Test.YtalphoebmefgoaaG31
import Derived.Laws.IdiomCopy
import Derived.Deep.Upon
import Derived.Test.YtalphoebmefgoaaG48
import Derived.Test.YtalphoebmefgoaaG1
import Derived.Deep.CutRange
import Derived.RangeFuncNested
import Derived.RangeFuncBound
import Derived.RangeFuncCalls
import Derived.RangeFuncLeaves
import Derived.RangeFuncFrom
import Derived.Shelf.Abstract
import Derived.Shelf.RegionOpen
import Derived.WalkKit
import Derived.OwnWalkIn
import Derived.TacticsInMore
import Derived.LoopNIn
import Derived.LoopIn
/- poly: a line without a coordinate. -/
namespace Go.Proofs.Ytalphoebmefgoaa
open Go.RowKit
def shortL (x : Ln) (i : Nat) : Ln :=
  ⟨if 0 < i then x.a0 else x.a1, if 1 < i then x.a1 else x.a2, if 2 < i then x.a2 else x.a3, if 3 < i then x.a3 else x.a4, if 4 < i then x.a4 else x.a5, 0, x.b, x.s⟩
theorem Try.sizeI64c : (Try.prog.info? 2).map (·.size) = some 1 := by kernel_rfl
theorem short_copy (x : Ln) (b1 i : Nat) (hi : i ≤ 4) (W : World) (r : RowAt W b1 72 x.cells) (ty : TypeId) :
    (Builtin.copy_ #[23, 23] ty #[.slice (some ⟨b1, i, none⟩) (6 - i) (6 - i), .slice (some ⟨b1, i + 1, none⟩) (5 - i) (5 - i)]).run Try.prog W = .ok (.int .i64 ((5 - i : Nat) : Int)) (W.setCells b1 i ((x.a.drop (i + 1)).map (Value.int .i64))) := by
  have hlen : ((x.a.drop (i + 1)).map (Value.int .i64)).length = 5 - i := by simp [Ln.a]
  have h := run_copy_cells (P := Try.prog) W 23 23 ty 2 b1 i (6 - i) (6 - i) ⟨b1, i + 1, none⟩ (5 - i) (5 - i) ((x.a.drop (i + 1)).map (Value.int .i64)) Try.underlying23 Try.sizeI64c
    (by rw [hlen]; show 5 - i = min (5 - i) (6 - i); omega)
    (fun j v hj => by
      have hjl : j < 5 - i := by
        rcases Nat.lt_or_ge j (5 - i) with g | g
        · exact g
        · rw [List.getElem?_eq_none (by omega)] at hj; cases hj
      have ha : (⟨b1, i + 1, none⟩ : Addr).add j = ⟨b1, i + 1 + j, none⟩ := by unfold Addr.add; split <;> simp_all
      rw [ha, r.cell?, ← hj]
      have hi5 : i = 0 ∨ i = 1 ∨ i = 2 ∨ i = 3 ∨ i = 4 := by omega
      have : j = 0 ∨ j = 1 ∨ j = 2 ∨ j = 3 ∨ j = 4 := by omega
      rcases hi5 with rfl | rfl | rfl | rfl | rfl <;> rcases this with rfl | rfl | rfl | rfl | rfl <;> first | rfl | (exfalso; omega))
    (fun j hj => by
      rw [hlen] at hj
      rw [r.cell?]
      have hi5 : i = 0 ∨ i = 1 ∨ i = 2 ∨ i = 3 ∨ i = 4 := by omega
      have : j = 0 ∨ j = 1 ∨ j = 2 ∨ j = 3 ∨ j = 4 := by omega
      rcases hi5 with rfl | rfl | rfl | rfl | rfl <;> rcases this with rfl | rfl | rfl | rfl | rfl <;> first | rfl | (exfalso; omega))
    (fun j _ => r.frozen _) (fun v hv => by
      obtain ⟨c, _, rfl⟩ := List.mem_map.mp hv
      rfl)
  rw [hlen] at h
  exact h
set_option maxRecDepth 100000 in
set_option maxHeartbeats 4000000 in
theorem short_any (x : Ln) (i : Nat) (w : World) (hi : i ≤ 4) : Calls Try.prog 69 #[.agg #[.int .i64 x.a0, .int .i64 x.a1, .int .i64 x.a2, .int .i64 x.a3, .int .i64 x.a4, .int .i64 x.a5, .int .i64 x.b, .bool x.s], .int .i64 i] w fun e w' => e = .returned (shortL x i).V ∧ Bel w w' := by
  go_enter Try.func69, Try.ntmps69
  go_upto_region 1 with (fail)
  generalize hW : World.alloc (World.alloc w _) _ = w1 at *
  have hb : Bel w w1 := by rw [← hW]; exact (Bel.refl.alloc _).alloc _
  have r1 : RowAt w1 w.heap.size 72 [.int .i64 x.a0, .int .i64 x.a1, .int .i64 x.a2, .int .i64 x.a3, .int .i64 x.a4, .int .i64 x.a5, .int .i64 x.b, .bool x.s] := by rw [← hW]; exact (RowAt.new _ _ _).alloc _
  have r2 : RowAt w1 (w.heap.size + 1) 72 [.int .i64 0, .int .i64 0, .int .i64 0, .int .i64 0, .int .i64 0, .int .i64 0, .int .i64 0, .bool false] := by
    rw [← hW, ← size_alV w (.cells #[.int .i64 x.a0, .int .i64 x.a1, .int .i64 x.a2, .int .i64 x.a3, .int .i64 x.a4, .int .i64 x.a5, .int .i64 x.b, .bool x.s] 72)]; exact RowAt.new _ _ _
  clear hW
  obtain ⟨b2, hb2⟩ : ∃ b2, b2 = w.heap.size + 1 := ⟨_, rfl⟩
  rw [← hb2] at r2 ⊢
  obtain ⟨b1, hb1⟩ : ∃ b1, b1 = w.heap.size := ⟨_, rfl⟩
  rw [← hb1] at r1 ⊢
  have HN : Hid (w.heap.size ≤ b1 ∧ w.heap.size ≤ b2 ∧ b1 ≠ b2) := Lib.hid (by omega)
  clear hb1 hb2
  have HB := Lib.hid hb
  have HR1 := Lib.hid r1
  have HR2 := Lib.hid r2
  clear hb r2
  have lz := r1.lt
  have hcp := fun W (r : RowAt W b1 72 x.cells) ty => short_copy x b1 i hi W r ty
  have hic : i = 0 ∨ i = 1 ∨ i = 2 ∨ i = 3 ∨ i = 4 := by omega
  clear hi
  rcases hic with rfl | rfl | rfl | rfl | rfl
  · (refine wp_region_qtail 7 (wb := w1) (by (repeat (first | exact Ext.bel _ | exact Bel.refl | refine Bel.alloc ?_ _ | refine Bel.drew ?_ | refine Bel.drewN ?_ _))) (by kernel_rfl) (by kernel_rfl) ?_; simp only [List.take_succ_cons, List.take_zero, List.drop_succ_cons, List.drop_zero]; (repeat (any_goals (first | go_big_quiet_step (fail) | quiet_step (fail) | (refine wpQuiet_step (fun K hK => ?_); go_simp; split <;> (refine hK _ ?_; clear hK K))))); all_goals (refine wpQuiet_nil ?_; intro _ hw'; obtain ⟨y, hw''⟩ := hw'; subst hw''))
    have r := HR1.out.bel y.bel
    have hc : ∀ ty, (Builtin.copy_ #[23, 23] ty #[.slice (some ⟨b1, 0, none⟩) 6 6, .slice (some ⟨b1, 1, none⟩) 5 5]).run Try.prog y.w = .ok (.int .i64 5) (y.w.setCells b1 0 [.int .i64 x.a1, .int .i64 x.a2, .int .i64 x.a3, .int .i64 x.a4, .int .i64 x.a5]) := fun ty => hcp _ r ty
    have r3 : RowAt (y.w.setCells b1 0 [.int .i64 x.a1, .int .i64 x.a2, .int .i64 x.a3, .int .i64 x.a4, .int .i64 x.a5]) b1 72 [.int .i64 x.a1, .int .i64 x.a2, .int .i64 x.a3, .int .i64 x.a4, .int .i64 x.a5, .int .i64 x.a5, .int .i64 x.b, .bool x.s] := (((((r.set 0 _).set 1 _).set 2 _).set 3 _).set 4 _)
    have r4 := r3.set 5 (.int .i64 0)
    have r5 : RowAt (y.w.setCells b1 0 [.int .i64 x.a1, .int .i64 x.a2, .int .i64 x.a3, .int .i64 x.a4, .int .i64 x.a5]) b2 72 [.int .i64 0, .int .i64 0, .int .i64 0, .int .i64 0, .int .i64 0, .int .i64 0, .int .i64 0, .bool false] := (HR2.out.bel y.bel).block (World.heap_setCells_other _ _ _ _ (HR2.out.bel y.bel).lt (fun h => HN.out.2.2 h.symm))
    have hb5 : Bel w (y.w.setCells b1 0 [.int .i64 x.a1, .int .i64 x.a2, .int .i64 x.a3, .int .i64 x.a4, .int .i64 x.a5]) := ((((((HB.out.trans y.bel).set HN.out.1 _).set HN.out.1 _).set HN.out.1 _).set HN.out.1 _).set HN.out.1 _)
    generalize hU : y.w.setCells b1 0 [.int .i64 x.a1, .int .i64 x.a2, .int .i64 x.a3, .int .i64 x.a4, .int .i64 x.a5] = U at *
    have HHC := hc
    clear hcp hU r
    go_upto_region 2 with (fail)
    clear hc HHC lz
    have c5 := r3.cell (i := 5) rfl
    have f5 := r3.frozen 5
    have lz := r3.lt
    have r6 := r5.far (a := ⟨b1, 5, none⟩) (fun h => HN.out.2.2 h.symm) (.int .i64 0)
    have HB6 := Lib.hid (hb5.set (p := ⟨b1, 5, none⟩) HN.out.1 (.int .i64 0))
    have HR9 := Lib.hid r4
    have HR10 := Lib.hid r6
    clear r1 r3 r4 r5 r6 hb5
    go_upto_region 3 with (fail)
    clear c5 f5 lz
    generalize World.setCell U _ _ = V at *
    have lz := HR9.out.lt
    have x0 := HR9.out.cell (i := 0) rfl
    have x1 := HR9.out.cell (i := 1) rfl
    have x2 := HR9.out.cell (i := 2) rfl
    have x3 := HR9.out.cell (i := 3) rfl
    have x4 := HR9.out.cell (i := 4) rfl
    have x5 := HR9.out.cell (i := 5) rfl
    have x6 := HR9.out.cell (i := 6) rfl
    have x7 := HR9.out.cell (i := 7) rfl
    have z0 := HR10.out.cell (i := 0) rfl
    have z1 := HR10.out.cell (i := 1) rfl
    have z2 := HR10.out.cell (i := 2) rfl
    have z3 := HR10.out.cell (i := 3) rfl
    have z4 := HR10.out.cell (i := 4) rfl
    have z5 := HR10.out.cell (i := 5) rfl
    have z6 := HR10.out.cell (i := 6) rfl
    have z7 := HR10.out.cell (i := 7) rfl
    have fz := fun k => HR10.out.frozen k
    have HY : Hid (shortL x 0 = ⟨x.a1, x.a2, x.a3, x.a4, x.a5, 0, x.b, x.s⟩) := Lib.hid rfl
    go_wp2
    have r8 : RowAt (setL V b2 0 ((⟨x.a1, x.a2, x.a3, x.a4, x.a5, 0, x.b, x.s⟩ : Ln))) b2 72 ((⟨x.a1, x.a2, x.a3, x.a4, x.a5, 0, x.b, x.s⟩ : Ln)).cells := (((((((HR10.out.set 0 _).set 1 _).set 2 _).set 3 _).set 4 _).set 5 _).set 6 _).set 7 _
    have hb8 : Bel w (setL V b2 0 ((⟨x.a1, x.a2, x.a3, x.a4, x.a5, 0, x.b, x.s⟩ : Ln))) := (((((((HB6.out.set HN.out.2.1 _).set HN.out.2.1 _).set HN.out.2.1 _).set HN.out.2.1 _).set HN.out.2.1 _).set HN.out.2.1 _).set HN.out.2.1 _).set HN.out.2.1 _
    unfold setL at r8 hb8
    simp only [Nat.zero_add] at r8 hb8
    generalize World.setCell (World.setCell _ _ _) _ _ = W9 at *
    have q0 := r8.cell (i := 0) rfl
    have q1 := r8.cell (i := 1) rfl
    have q2 := r8.cell (i := 2) rfl
    have q3 := r8.cell (i := 3) rfl
    have q4 := r8.cell (i := 4) rfl
    have q5 := r8.cell (i := 5) rfl
    have q6 := r8.cell (i := 6) rfl
    have q7 := r8.cell (i := 7) rfl
    exact bodyPost_ret (v := ((⟨x.a1, x.a2, x.a3, x.a4, x.a5, 0, x.b, x.s⟩ : Ln)).V) (by simp [results, Try.results69, go_sem, q0, q1, q2, q3, q4, q5, q6, q7]; rfl) rfl ⟨by rw [HY.out], hb8⟩
  · (refine wp_region_qtail 7 (wb := w1) (by (repeat (first | exact Ext.bel _ | exact Bel.refl | refine Bel.alloc ?_ _ | refine Bel.drew ?_ | refine Bel.drewN ?_ _))) (by kernel_rfl) (by kernel_rfl) ?_; simp only [List.take_succ_cons, List.take_zero, List.drop_succ_cons, List.drop_zero]; (repeat (any_goals (first | go_big_quiet_step (fail) | quiet_step (fail) | (refine wpQuiet_step (fun K hK => ?_); go_simp; split <;> (refine hK _ ?_; clear hK K))))); all_goals (refine wpQuiet_nil ?_; intro _ hw'; obtain ⟨y, hw''⟩ := hw'; subst hw''))
    have r := HR1.out.bel y.bel
    have hc : ∀ ty, (Builtin.copy_ #[23, 23] ty #[.slice (some ⟨b1, 1, none⟩) 5 5, .slice (some ⟨b1, 2, none⟩) 4 4]).run Try.prog y.w = .ok (.int .i64 4) (y.w.setCells b1 1 [.int .i64 x.a2, .int .i64 x.a3, .int .i64 x.a4, .int .i64 x.a5]) := fun ty => hcp _ r ty
    have r3 : RowAt (y.w.setCells b1 1 [.int .i64 x.a2, .int .i64 x.a3, .int .i64 x.a4, .int .i64 x.a5]) b1 72 [.int .i64 x.a0, .int .i64 x.a2, .int .i64 x.a3, .int .i64 x.a4, .int .i64 x.a5, .int .i64 x.a5, .int .i64 x.b, .bool x.s] := ((((r.set 1 _).set 2 _).set 3 _).set 4 _)
    have r4 := r3.set 5 (.int .i64 0)
    have r5 : RowAt (y.w.setCells b1 1 [.int .i64 x.a2, .int .i64 x.a3, .int .i64 x.a4, .int .i64 x.a5]) b2 72 [.int .i64 0, .int .i64 0, .int .i64 0, .int .i64 0, .int .i64 0, .int .i64 0, .int .i64 0, .bool false] := (HR2.out.bel y.bel).block (World.heap_setCells_other _ _ _ _ (HR2.out.bel y.bel).lt (fun h => HN.out.2.2 h.symm))
    have hb5 : Bel w (y.w.setCells b1 1 [.int .i64 x.a2, .int .i64 x.a3, .int .i64 x.a4, .int .i64 x.a5]) := (((((HB.out.trans y.bel).set HN.out.1 _).set HN.out.1 _).set HN.out.1 _).set HN.out.1 _)
    generalize hU : y.w.setCells b1 1 [.int .i64 x.a2, .int .i64 x.a3, .int .i64 x.a4, .int .i64 x.a5] = U at *
    have HHC := hc
    clear hcp hU r
    go_upto_region 2 with (fail)
    clear hc HHC lz
    have c5 := r3.cell (i := 5) rfl
    have f5 := r3.frozen 5
    have lz := r3.lt
    have r6 := r5.far (a := ⟨b1, 5, none⟩) (fun h => HN.out.2.2 h.symm) (.int .i64 0)
    have HB6 := Lib.hid (hb5.set (p := ⟨b1, 5, none⟩) HN.out.1 (.int .i64 0))
    have HR9 := Lib.hid r4
    have HR10 := Lib.hid r6
    clear r1 r3 r4 r5 r6 hb5
    go_upto_region 3 with (fail)
    clear c5 f5 lz
    generalize World.setCell U _ _ = V at *
    have lz := HR9.out.lt
    have x0 := HR9.out.cell (i := 0) rfl
    have x1 := HR9.out.cell (i := 1) rfl
    have x2 := HR9.out.cell (i := 2) rfl
    have x3 := HR9.out.cell (i := 3) rfl
    have x4 := HR9.out.cell (i := 4) rfl
    have x5 := HR9.out.cell (i := 5) rfl
    have x6 := HR9.out.cell (i := 6) rfl
    have x7 := HR9.out.cell (i := 7) rfl
    have z0 := HR10.out.cell (i := 0) rfl
    have z1 := HR10.out.cell (i := 1) rfl
    have z2 := HR10.out.cell (i := 2) rfl
    have z3 := HR10.out.cell (i := 3) rfl
    have z4 := HR10.out.cell (i := 4) rfl
    have z5 := HR10.out.cell (i := 5) rfl
    have z6 := HR10.out.cell (i := 6) rfl
    have z7 := HR10.out.cell (i := 7) rfl
    have fz := fun k => HR10.out.frozen k
    have HY : Hid (shortL x 1 = ⟨x.a0, x.a2, x.a3, x.a4, x.a5, 0, x.b, x.s⟩) := Lib.hid rfl
    go_wp2
    have r8 : RowAt (setL V b2 0 ((⟨x.a0, x.a2, x.a3, x.a4, x.a5, 0, x.b, x.s⟩ : Ln))) b2 72 ((⟨x.a0, x.a2, x.a3, x.a4, x.a5, 0, x.b, x.s⟩ : Ln)).cells := (((((((HR10.out.set 0 _).set 1 _).set 2 _).set 3 _).set 4 _).set 5 _).set 6 _).set 7 _
    have hb8 : Bel w (setL V b2 0 ((⟨x.a0, x.a2, x.a3, x.a4, x.a5, 0, x.b, x.s⟩ : Ln))) := (((((((HB6.out.set HN.out.2.1 _).set HN.out.2.1 _).set HN.out.2.1 _).set HN.out.2.1 _).set HN.out.2.1 _).set HN.out.2.1 _).set HN.out.2.1 _).set HN.out.2.1 _
    unfold setL at r8 hb8
    simp only [Nat.zero_add] at r8 hb8
    generalize World.setCell (World.setCell _ _ _) _ _ = W9 at *
    have q0 := r8.cell (i := 0) rfl
    have q1 := r8.cell (i := 1) rfl
    have q2 := r8.cell (i := 2) rfl
    have q3 := r8.cell (i := 3) rfl
    have q4 := r8.cell (i := 4) rfl
    have q5 := r8.cell (i := 5) rfl
    have q6 := r8.cell (i := 6) rfl
    have q7 := r8.cell (i := 7) rfl
    exact bodyPost_ret (v := ((⟨x.a0, x.a2, x.a3, x.a4, x.a5, 0, x.b, x.s⟩ : Ln)).V) (by simp [results, Try.results69, go_sem, q0, q1, q2, q3, q4, q5, q6, q7]; rfl) rfl ⟨by rw [HY.out], hb8⟩
  · (refine wp_region_qtail 7 (wb := w1) (by (repeat (first | exact Ext.bel _ | exact Bel.refl | refine Bel.alloc ?_ _ | refine Bel.drew ?_ | refine Bel.drewN ?_ _))) (by kernel_rfl) (by kernel_rfl) ?_; simp only [List.take_succ_cons, List.take_zero, List.drop_succ_cons, List.drop_zero]; (repeat (any_goals (first | go_big_quiet_step (fail) | quiet_step (fail) | (refine wpQuiet_step (fun K hK => ?_); go_simp; split <;> (refine hK _ ?_; clear hK K))))); all_goals (refine wpQuiet_nil ?_; intro _ hw'; obtain ⟨y, hw''⟩ := hw'; subst hw''))
    have r := HR1.out.bel y.bel
    have hc : ∀ ty, (Builtin.copy_ #[23, 23] ty #[.slice (some ⟨b1, 2, none⟩) 4 4, .slice (some ⟨b1, 3, none⟩) 3 3]).run Try.prog y.w = .ok (.int .i64 3) (y.w.setCells b1 2 [.int .i64 x.a3, .int .i64 x.a4, .int .i64 x.a5]) := fun ty => hcp _ r ty
    have r3 : RowAt (y.w.setCells b1 2 [.int .i64 x.a3, .int .i64 x.a4, .int .i64 x.a5]) b1 72 [.int .i64 x.a0, .int .i64 x.a1, .int .i64 x.a3, .int .i64 x.a4, .int .i64 x.a5, .int .i64 x.a5, .int .i64 x.b, .bool x.s] := (((r.set 2 _).set 3 _).set 4 _)
    have r4 := r3.set 5 (.int .i64 0)
    have r5 : RowAt (y.w.setCells b1 2 [.int .i64 x.a3, .int .i64 x.a4, .int .i64 x.a5]) b2 72 [.int .i64 0, .int .i64 0, .int .i64 0, .int .i64 0, .int .i64 0, .int .i64 0, .int .i64 0, .bool false] := (HR2.out.bel y.bel).block (World.heap_setCells_other _ _ _ _ (HR2.out.bel y.bel).lt (fun h => HN.out.2.2 h.symm))
    have hb5 : Bel w (y.w.setCells b1 2 [.int .i64 x.a3, .int .i64 x.a4, .int .i64 x.a5]) := ((((HB.out.trans y.bel).set HN.out.1 _).set HN.out.1 _).set HN.out.1 _)
    generalize hU : y.w.setCells b1 2 [.int .i64 x.a3, .int .i64 x.a4, .int .i64 x.a5] = U at *
    have HHC := hc
    clear hcp hU r
    go_upto_region 2 with (fail)
    clear hc HHC lz
    have c5 := r3.cell (i := 5) rfl
    have f5 := r3.frozen 5
    have lz := r3.lt
    have r6 := r5.far (a := ⟨b1, 5, none⟩) (fun h => HN.out.2.2 h.symm) (.int .i64 0)
    have HB6 := Lib.hid (hb5.set (p := ⟨b1, 5, none⟩) HN.out.1 (.int .i64 0))
    have HR9 := Lib.hid r4
    have HR10 := Lib.hid r6
    clear r1 r3 r4 r5 r6 hb5
    go_upto_region 3 with (fail)
    clear c5 f5 lz
    generalize World.setCell U _ _ = V at *
    have lz := HR9.out.lt
    have x0 := HR9.out.cell (i := 0) rfl
    have x1 := HR9.out.cell (i := 1) rfl
    have x2 := HR9.out.cell (i := 2) rfl
    have x3 := HR9.out.cell (i := 3) rfl
    have x4 := HR9.out.cell (i := 4) rfl
    have x5 := HR9.out.cell (i := 5) rfl
    have x6 := HR9.out.cell (i := 6) rfl
    have x7 := HR9.out.cell (i := 7) rfl
    have z0 := HR10.out.cell (i := 0) rfl
    have z1 := HR10.out.cell (i := 1) rfl
    have z2 := HR10.out.cell (i := 2) rfl
    have z3 := HR10.out.cell (i := 3) rfl
    have z4 := HR10.out.cell (i := 4) rfl
    have z5 := HR10.out.cell (i := 5) rfl
    have z6 := HR10.out.cell (i := 6) rfl
    have z7 := HR10.out.cell (i := 7) rfl
    have fz := fun k => HR10.out.frozen k
    have HY : Hid (shortL x 2 = ⟨x.a0, x.a1, x.a3, x.a4, x.a5, 0, x.b, x.s⟩) := Lib.hid rfl
    go_wp2
    have r8 : RowAt (setL V b2 0 ((⟨x.a0, x.a1, x.a3, x.a4, x.a5, 0, x.b, x.s⟩ : Ln))) b2 72 ((⟨x.a0, x.a1, x.a3, x.a4, x.a5, 0, x.b, x.s⟩ : Ln)).cells := (((((((HR10.out.set 0 _).set 1 _).set 2 _).set 3 _).set 4 _).set 5 _).set 6 _).set 7 _
    have hb8 : Bel w (setL V b2 0 ((⟨x.a0, x.a1, x.a3, x.a4, x.a5, 0, x.b, x.s⟩ : Ln))) := (((((((HB6.out.set HN.out.2.1 _).set HN.out.2.1 _).set HN.out.2.1 _).set HN.out.2.1 _).set HN.out.2.1 _).set HN.out.2.1 _).set HN.out.2.1 _).set HN.out.2.1 _
    unfold setL at r8 hb8
    simp only [Nat.zero_add] at r8 hb8
    generalize World.setCell (World.setCell _ _ _) _ _ = W9 at *
    have q0 := r8.cell (i := 0) rfl
    have q1 := r8.cell (i := 1) rfl
    have q2 := r8.cell (i := 2) rfl
    have q3 := r8.cell (i := 3) rfl
    have q4 := r8.cell (i := 4) rfl
    have q5 := r8.cell (i := 5) rfl
    have q6 := r8.cell (i := 6) rfl
    have q7 := r8.cell (i := 7) rfl
    exact bodyPost_ret (v := ((⟨x.a0, x.a1, x.a3, x.a4, x.a5, 0, x.b, x.s⟩ : Ln)).V) (by simp [results, Try.results69, go_sem, q0, q1, q2, q3, q4, q5, q6, q7]; rfl) rfl ⟨by rw [HY.out], hb8⟩
  · (refine wp_region_qtail 7 (wb := w1) (by (repeat (first | exact Ext.bel _ | exact Bel.refl | refine Bel.alloc ?_ _ | refine Bel.drew ?_ | refine Bel.drewN ?_ _))) (by kernel_rfl) (by kernel_rfl) ?_; simp only [List.take_succ_cons, List.take_zero, List.drop_succ_cons, List.drop_zero]; (repeat (any_goals (first | go_big_quiet_step (fail) | quiet_step (fail) | (refine wpQuiet_step (fun K hK => ?_); go_simp; split <;> (refine hK _ ?_; clear hK K))))); all_goals (refine wpQuiet_nil ?_; intro _ hw'; obtain ⟨y, hw''⟩ := hw'; subst hw''))
    have r := HR1.out.bel y.bel
    have hc : ∀ ty, (Builtin.copy_ #[23, 23] ty #[.slice (some ⟨b1, 3, none⟩) 3 3, .slice (some ⟨b1, 4, none⟩) 2 2]).run Try.prog y.w = .ok (.int .i64 2) (y.w.setCells b1 3 [.int .i64 x.a4, .int .i64 x.a5]) := fun ty => hcp _ r ty
    have r3 : RowAt (y.w.setCells b1 3 [.int .i64 x.a4, .int .i64 x.a5]) b1 72 [.int .i64 x.a0, .int .i64 x.a1, .int .i64 x.a2, .int .i64 x.a4, .int .i64 x.a5, .int .i64 x.a5, .int .i64 x.b, .bool x.s] := ((r.set 3 _).set 4 _)
    have r4 := r3.set 5 (.int .i64 0)
    have r5 : RowAt (y.w.setCells b1 3 [.int .i64 x.a4, .int .i64 x.a5]) b2 72 [.int .i64 0, .int .i64 0, .int .i64 0, .int .i64 0, .int .i64 0, .int .i64 0, .int .i64 0, .bool false] := (HR2.out.bel y.bel).block (World.heap_setCells_other _ _ _ _ (HR2.out.bel y.bel).lt (fun h => HN.out.2.2 h.symm))
    have hb5 : Bel w (y.w.setCells b1 3 [.int .i64 x.a4, .int .i64 x.a5]) := (((HB.out.trans y.bel).set HN.out.1 _).set HN.out.1 _)
    generalize hU : y.w.setCells b1 3 [.int .i64 x.a4, .int .i64 x.a5] = U at *
    have HHC := hc
    clear hcp hU r
    go_upto_region 2 with (fail)
    clear hc HHC lz
    have c5 := r3.cell (i := 5) rfl
    have f5 := r3.frozen 5
    have lz := r3.lt
    have r6 := r5.far (a := ⟨b1, 5, none⟩) (fun h => HN.out.2.2 h.symm) (.int .i64 0)
    have HB6 := Lib.hid (hb5.set (p := ⟨b1, 5, none⟩) HN.out.1 (.int .i64 0))
    have HR9 := Lib.hid r4
    have HR10 := Lib.hid r6
    clear r1 r3 r4 r5 r6 hb5
    go_upto_region 3 with (fail)
    clear c5 f5 lz
    generalize World.setCell U _ _ = V at *
    have lz := HR9.out.lt
    have x0 := HR9.out.cell (i := 0) rfl
    have x1 := HR9.out.cell (i := 1) rfl
    have x2 := HR9.out.cell (i := 2) rfl
    have x3 := HR9.out.cell (i := 3) rfl
    have x4 := HR9.out.cell (i := 4) rfl
    have x5 := HR9.out.cell (i := 5) rfl
    have x6 := HR9.out.cell (i := 6) rfl
    have x7 := HR9.out.cell (i := 7) rfl
    have z0 := HR10.out.cell (i := 0) rfl
    have z1 := HR10.out.cell (i := 1) rfl
    have z2 := HR10.out.cell (i := 2) rfl
    have z3 := HR10.out.cell (i := 3) rfl
    have z4 := HR10.out.cell (i := 4) rfl
    have z5 := HR10.out.cell (i := 5) rfl
    have z6 := HR10.out.cell (i := 6) rfl
    have z7 := HR10.out.cell (i := 7) rfl
    have fz := fun k => HR10.out.frozen k
    have HY : Hid (shortL x 3 = ⟨x.a0, x.a1, x.a2, x.a4, x.a5, 0, x.b, x.s⟩) := Lib.hid rfl
    go_wp2
    have r8 : RowAt (setL V b2 0 ((⟨x.a0, x.a1, x.a2, x.a4, x.a5, 0, x.b, x.s⟩ : Ln))) b2 72 ((⟨x.a0, x.a1, x.a2, x.a4, x.a5, 0, x.b, x.s⟩ : Ln)).cells := (((((((HR10.out.set 0 _).set 1 _).set 2 _).set 3 _).set 4 _).set 5 _).set 6 _).set 7 _
    have hb8 : Bel w (setL V b2 0 ((⟨x.a0, x.a1, x.a2, x.a4, x.a5, 0, x.b, x.s⟩ : Ln))) := (((((((HB6.out.set HN.out.2.1 _).set HN.out.2.1 _).set HN.out.2.1 _).set HN.out.2.1 _).set HN.out.2.1 _).set HN.out.2.1 _).set HN.out.2.1 _).set HN.out.2.1 _
    unfold setL at r8 hb8
    simp only [Nat.zero_add] at r8 hb8
    generalize World.setCell (World.setCell _ _ _) _ _ = W9 at *
    have q0 := r8.cell (i := 0) rfl
    have q1 := r8.cell (i := 1) rfl
    have q2 := r8.cell (i := 2) rfl
    have q3 := r8.cell (i := 3) rfl
    have q4 := r8.cell (i := 4) rfl
    have q5 := r8.cell (i := 5) rfl
    have q6 := r8.cell (i := 6) rfl
    have q7 := r8.cell (i := 7) rfl
    exact bodyPost_ret (v := ((⟨x.a0, x.a1, x.a2, x.a4, x.a5, 0, x.b, x.s⟩ : Ln)).V) (by simp [results, Try.results69, go_sem, q0, q1, q2, q3, q4, q5, q6, q7]; rfl) rfl ⟨by rw [HY.out], hb8⟩
  · (refine wp_region_qtail 7 (wb := w1) (by (repeat (first | exact Ext.bel _ | exact Bel.refl | refine Bel.alloc ?_ _ | refine Bel.drew ?_ | refine Bel.drewN ?_ _))) (by kernel_rfl) (by kernel_rfl) ?_; simp only [List.take_succ_cons, List.take_zero, List.drop_succ_cons, List.drop_zero]; (repeat (any_goals (first | go_big_quiet_step (fail) | quiet_step (fail) | (refine wpQuiet_step (fun K hK => ?_); go_simp; split <;> (refine hK _ ?_; clear hK K))))); all_goals (refine wpQuiet_nil ?_; intro _ hw'; obtain ⟨y, hw''⟩ := hw'; subst hw''))
    have r := HR1.out.bel y.bel
    have hc : ∀ ty, (Builtin.copy_ #[23, 23] ty #[.slice (some ⟨b1, 4, none⟩) 2 2, .slice (some ⟨b1, 5, none⟩) 1 1]).run Try.prog y.w = .ok (.int .i64 1) (y.w.setCells b1 4 [.int .i64 x.a5]) := fun ty => hcp _ r ty
    have r3 : RowAt (y.w.setCells b1 4 [.int .i64 x.a5]) b1 72 [.int .i64 x.a0, .int .i64 x.a1, .int .i64 x.a2, .int .i64 x.a3, .int .i64 x.a5, .int .i64 x.a5, .int .i64 x.b, .bool x.s] := (r.set 4 _)
    have r4 := r3.set 5 (.int .i64 0)
    have r5 : RowAt (y.w.setCells b1 4 [.int .i64 x.a5]) b2 72 [.int .i64 0, .int .i64 0, .int .i64 0, .int .i64 0, .int .i64 0, .int .i64 0, .int .i64 0, .bool false] := (HR2.out.bel y.bel).block (World.heap_setCells_other _ _ _ _ (HR2.out.bel y.bel).lt (fun h => HN.out.2.2 h.symm))
    have hb5 : Bel w (y.w.setCells b1 4 [.int .i64 x.a5]) := ((HB.out.trans y.bel).set HN.out.1 _)
    generalize hU : y.w.setCells b1 4 [.int .i64 x.a5] = U at *
    have HHC := hc
    clear hcp hU r
    go_upto_region 2 with (fail)
    clear hc HHC lz
    have c5 := r3.cell (i := 5) rfl
    have f5 := r3.frozen 5
    have lz := r3.lt
    have r6 := r5.far (a := ⟨b1, 5, none⟩) (fun h => HN.out.2.2 h.symm) (.int .i64 0)
    have HB6 := Lib.hid (hb5.set (p := ⟨b1, 5, none⟩) HN.out.1 (.int .i64 0))
    have HR9 := Lib.hid r4
    have HR10 := Lib.hid r6
    clear r1 r3 r4 r5 r6 hb5
    go_upto_region 3 with (fail)
    clear c5 f5 lz
    generalize World.setCell U _ _ = V at *
    have lz := HR9.out.lt
    have x0 := HR9.out.cell (i := 0) rfl
    have x1 := HR9.out.cell (i := 1) rfl
    have x2 := HR9.out.cell (i := 2) rfl
    have x3 := HR9.out.cell (i := 3) rfl
    have x4 := HR9.out.cell (i := 4) rfl
    have x5 := HR9.out.cell (i := 5) rfl
    have x6 := HR9.out.cell (i := 6) rfl
    have x7 := HR9.out.cell (i := 7) rfl
    have z0 := HR10.out.cell (i := 0) rfl
    have z1 := HR10.out.cell (i := 1) rfl
    have z2 := HR10.out.cell (i := 2) rfl
    have z3 := HR10.out.cell (i := 3) rfl
    have z4 := HR10.out.cell (i := 4) rfl
    have z5 := HR10.out.cell (i := 5) rfl
    have z6 := HR10.out.cell (i := 6) rfl
    have z7 := HR10.out.cell (i := 7) rfl
    have fz := fun k => HR10.out.frozen k
    have HY : Hid (shortL x 4 = ⟨x.a0, x.a1, x.a2, x.a3, x.a5, 0, x.b, x.s⟩) := Lib.hid rfl
    go_wp2
    have r8 : RowAt (setL V b2 0 ((⟨x.a0, x.a1, x.a2, x.a3, x.a5, 0, x.b, x.s⟩ : Ln))) b2 72 ((⟨x.a0, x.a1, x.a2, x.a3, x.a5, 0, x.b, x.s⟩ : Ln)).cells := (((((((HR10.out.set 0 _).set 1 _).set 2 _).set 3 _).set 4 _).set 5 _).set 6 _).set 7 _
    have hb8 : Bel w (setL V b2 0 ((⟨x.a0, x.a1, x.a2, x.a3, x.a5, 0, x.b, x.s⟩ : Ln))) := (((((((HB6.out.set HN.out.2.1 _).set HN.out.2.1 _).set HN.out.2.1 _).set HN.out.2.1 _).set HN.out.2.1 _).set HN.out.2.1 _).set HN.out.2.1 _).set HN.out.2.1 _
    unfold setL at r8 hb8
    simp only [Nat.zero_add] at r8 hb8
    generalize World.setCell (World.setCell _ _ _) _ _ = W9 at *
    have q0 := r8.cell (i := 0) rfl
    have q1 := r8.cell (i := 1) rfl
    have q2 := r8.cell (i := 2) rfl
    have q3 := r8.cell (i := 3) rfl
    have q4 := r8.cell (i := 4) rfl
    have q5 := r8.cell (i := 5) rfl
    have q6 := r8.cell (i := 6) rfl
    have q7 := r8.cell (i := 7) rfl
    exact bodyPost_ret (v := ((⟨x.a0, x.a1, x.a2, x.a3, x.a5, 0, x.b, x.s⟩ : Ln)).V) (by simp [results, Try.results69, go_sem, q0, q1, q2, q3, q4, q5, q6, q7]; rfl) rfl ⟨by rw [HY.out], hb8⟩
end Go.Proofs.Ytalphoebmefgoaa
/- poly: lists of api.Line in memory; the reference's size and divisor. -/
namespace Go.Proofs.Ytalphoebmefgoaa
open Go.RowKit
/-- a line as the callers have it -/
structure AL where
  a : List Int
  b : Int
  s : Bool
instance : Inhabited AL := ⟨⟨[], 0, false⟩⟩
def alAt (l : List AL) (i : Nat) : AL := l.getD i ⟨[], 0, false⟩
structure AlCells (w : World) (b o : Nat) (x : AL) (rv : Value) : Prop where
  c0 : w.cell? ⟨b, o, none⟩ = some rv
  c1 : w.cell? ⟨b, o + 1, none⟩ = some (.int .i64 x.b)
  c2 : w.cell? ⟨b, o + 2, none⟩ = some (.bool x.s)
def LinesAt (w : World) (B : Nat) (v : Value) (l : List AL) : Prop := RowOf B v l.length 3 fun b o i => ∃ rv, AlCells w b o (alAt l i) rv ∧ IntsAt w B rv (alAt l i).a
theorem LinesAt.keep {w w' : World} {B B' : Nat} {v : Value} {l : List AL} (h : LinesAt w B v l) (hk : Keeps B w w') (hB : B ≤ B') : LinesAt w' B' v l :=
  RowOf.mono h hB fun _ _ _ hb _ ⟨rv, c, hr⟩ => ⟨rv, ⟨(hk _ _ hb).trans c.c0, (hk _ _ hb).trans c.c1, (hk _ _ hb).trans c.c2⟩, hr.keep hk hB⟩
theorem LinesAt.bel {w w' : World} {v : Value} {l : List AL} (h : LinesAt w w.heap.size v l) (hb : Bel w w') : LinesAt w' w'.heap.size v l := h.keep hb.keeps hb.le
/-- every number of the line is a machine word -/
structure AL.ok (x : AL) : Prop where
  a : ∀ c ∈ x.a, i64 c
  b : i64 x.b
def AL.fits (n : Int) (x : AL) : Bool := x.a.all (fun c => decide (-2147483647 ≤ c) && decide (c ≤ 2147483647)) && decide ((x.a.length : Int) = n) && decide (-2147483647 ≤ x.b) && decide (x.b ≤ 2147483647)
def checkM (n : Int) (l : List AL) : Int := if n < 0 ∨ 5 < n then 2 else if 1000 < l.length then 3 else if l.all (AL.fits n) then 0 else 2
set_option maxHeartbeats 1000000 in
theorem szr_any (a : Int) (w : World) (ha : a.natAbs < 9223372036854775808) : Calls Try.prog 104 #[.int .i64 a] w fun e w' => e = .returned (.int .i64 (a.natAbs : Int)) ∧ Bel w w' := by
  go_enter Try.func104, Try.ntmps104
  by_cases h : a < 0
  · have hd : decide (a < 0) = true := by simp [h]
    have hw : IntKind.i64.wrap (-a) = -a := IntWalk.i64_in _ (by omega)
    have HA : Hid (-a = (a.natAbs : Int)) := Lib.hid (by omega)
    go_wp2
    go_ret
    exact ⟨by rw [← HA.out]; rfl, Bel.refl⟩
  · have hd : decide (a < 0) = false := by simp [h]
    have HA : Hid (a = (a.natAbs : Int)) := Lib.hid (by omega)
    go_wp2
    go_ret
    exact ⟨by rw [← HA.out]; rfl, Bel.refl⟩
set_option maxHeartbeats 2000000 in
theorem dvr_any (a b : Nat) (w : World) (ha : a < 9223372036854775808) (hb : b < 9223372036854775808) :
    Calls Try.prog 75 #[.int .i64 a, .int .i64 b] w fun e w' => e = .returned (.int .i64 ((Nat.gcd a b : Nat) : Int)) ∧ Bel w w' := by
  go_enter Try.func75, Try.ntmps75
  go_wp2
  go_loopw [0, 1] (fun s0 s1 wq => ∃ (x y : Nat) (z : Ext w), x < 9223372036854775808 ∧ y < 9223372036854775808 ∧ s0 = .int .i64 x ∧ s1 = .int .i64 y ∧ wq = z.w ∧ Nat.gcd x y = Nat.gcd a b) (fun s0 s1 _ => (intOf s1).toNat)
  case atStart => exact ⟨a, b, ⟨w, Bel.refl⟩, ha, hb, rfl, rfl, rfl, rfl⟩
  case round =>
    obtain ⟨x, y, z, hx, hy, rfl, rfl, rfl, hg⟩ := hrel
    have HG := Lib.hid hg
    by_cases h0 : y = 0
    · subst h0
      have hd : (((0 : Nat) : Int) != 0) = false := by decide
      have HA : Hid (Nat.gcd a b = x) := Lib.hid (by rw [← HG.out, Nat.gcd_zero_right])
      clear hg
      go_wp2
      go_ret
      exact ⟨by rw [HA.out]; rfl, z.bel⟩
    · have hd : ((y : Int) != 0) = true := by simp [h0]
      have hd0 : ((y : Int) == 0) = false := by simp [h0]
      have hm : (x : Int).tmod (y : Int) = ((x % y : Nat) : Int) := by rw [Int.tmod_eq_emod_of_nonneg (by omega)]; rfl
      have hlt : x % y < y := Nat.mod_lt _ (by omega)
      have hw : IntKind.i64.wrap ((x % y : Nat) : Int) = ((x % y : Nat) : Int) := IntWalk.i64_in _ (by omega)
      have HS : Hid (Nat.gcd y (x % y) = Nat.gcd x y) := Lib.hid (by rw [Nat.gcd_comm x y, Nat.gcd_rec y x, Nat.gcd_comm])
      clear hg
      generalize x % y = r at *
      go_upto_region 2 with (fail)
      go_region
      go_wp2
      go_roundw
      case rel => exact ⟨y, r, ⟨_, z.bel.drew⟩, hy, by omega, rfl, rfl, rfl, HS.out.trans HG.out⟩
      case measure => simpa [intOf] using hlt
end Go.Proofs.Ytalphoebmefgoaa
/- poly: which lines are valid. -/
namespace Go.Proofs.Ytalphoebmefgoaa
open Go.RowKit
def inR (c : Int) : Bool := decide (-2147483647 ≤ c) && decide (c ≤ 2147483647)
set_option maxRecDepth 100000 in
set_option maxHeartbeats 4000000 in
theorem fits_any (n : Int) (x : AL) (sv : Value) (w : World) (h : IntsAt w w.heap.size sv x.a) (hl : x.a.length ≤ 1000000) : Calls Try.prog 37 #[.int .i64 n, .agg #[sv, .int .i64 x.b, .bool x.s]] w fun e w' => e = .returned (.bool (x.fits n)) ∧ Bel w w' := by
  have H := Lib.hid h
  obtain ⟨A, c, rfl, _⟩ := h.form
  clear h
  have HF : Hid (∀ r, r = x.a.all inR → x.fits n = (r && decide ((x.a.length : Int) = n) && decide (-2147483647 ≤ x.b) && decide (x.b ≤ 2147483647))) := Lib.hid (fun r hr => by rw [hr]; rfl)
  go_enter Try.func37, Try.ntmps37
  go_upto_region 1 with (fail)
  generalize hW : World.alloc w _ = w1 at *
  have hb : Bel w w1 := by rw [← hW]; exact Bel.refl.alloc _
  have r1 : RowAt w1 w.heap.size 25 [.slice A x.a.length c, .int .i64 x.b, .bool x.s] := by rw [← hW]; exact RowAt.new _ _ _
  clear hW
  have HB := Lib.hid hb
  have HI := Lib.hid (H.out.keep hb.keeps hb.le)
  clear hb H
  generalize w.heap.size = b1 at *
  have x0 := r1.cell (i := 0) rfl
  have x1 := r1.cell (i := 1) rfl
  have lz := r1.lt
  clear r1
  go_wp2
  go_loopw [10] (fun si wq => ∃ (i : Nat) (y : Ext w1), i ≤ x.a.length ∧ si = .int .i64 i ∧ wq = y.w ∧ x.a.all inR = (x.a.drop i).all inR) (fun si _ => x.a.length - (intOf si).toNat)
  case atStart => exact ⟨0, ⟨w1, Bel.refl⟩, by omega, rfl, rfl, rfl⟩
  case round =>
    obtain ⟨i, y, hi, rfl, rfl, ha⟩ := hrel
    by_cases hlt : i < x.a.length
    · have hd : decide ((i : Int) < (x.a.length : Int)) = true := by simp; omega
      have hil : (i : Int) < (x.a.length : Int) := by omega
      have hw : IntKind.i64.wrap ((i : Int) + 1) = ((i + 1 : Nat) : Int) := by rw [show (i : Int) + 1 = ((i + 1 : Nat) : Int) by omega]; exact IntWalk.i64_in _ (by omega)
      obtain ⟨b, off, rfl, hb, hA⟩ := HI.out.at_ (by omega)
      have a0 := hA i hlt
      have e1 : x.a.drop i = x.a.getD i 0 :: x.a.drop (i + 1) := by rw [List.drop_eq_getElem_cons hlt]; simp [List.getD_eq_getElem?_getD, List.getElem?_eq_getElem hlt]
      rw [e1, List.all_cons] at ha
      have HA := Lib.hid ha
      clear ha e1 hA
      generalize x.a.getD i 0 = q at *
      by_cases h1 : q < -2147483647
      · have d1 : decide (q < -2147483647) = true := by simp [h1]
        have HR : Hid (x.fits n = false) := Lib.hid (by rw [HF.out false (by rw [HA.out, show inR q = false by simp [inR]; omega]; rfl)]; rfl)
        go_wp2
        go_ret
        exact ⟨by rw [HR.out]; rfl, HB.out.trans y.bel⟩
      · have d1 : decide (q < -2147483647) = false := by simp; omega
        by_cases h2 : 2147483647 < q
        · have d2 : decide (2147483647 < q) = true := by simp [h2]
          have HR : Hid (x.fits n = false) := Lib.hid (by rw [HF.out false (by rw [HA.out, show inR q = false by simp [inR]; omega]; rfl)]; rfl)
          go_wp2
          go_ret
          exact ⟨by rw [HR.out]; rfl, HB.out.trans y.bel⟩
        · have d2 : decide (2147483647 < q) = false := by simp; omega
          have HR : Hid (x.a.all inR = (x.a.drop (i + 1)).all inR) := Lib.hid (by rw [HA.out, show inR q = true by simp [inR]; omega]; rfl)
          go_wp2
          go_roundw
          case rel => exact ⟨i + 1, y, by omega, by go_num, rfl, HR.out⟩
          case measure => simp [intOf]; omega
    · obtain rfl : i = x.a.length := by omega
      have hd : decide ((x.a.length : Int) < (x.a.length : Int)) = false := by simp
      have HR := Lib.hid (HF.out true (by rw [ha, List.drop_length]; rfl))
      clear ha HF
      by_cases h1 : (x.a.length : Int) = n
      · have d1 : ((x.a.length : Int) == n) = true := by simp [h1]
        have d1b : decide ((x.a.length : Int) = n) = true := by simp [h1]
        rw [d1b] at HR
        by_cases h2 : -2147483647 ≤ x.b
        · have d2 : decide (-2147483647 ≤ x.b) = true := by simp [h2]
          rw [d2] at HR
          obtain ⟨r, hr⟩ : ∃ r, decide (x.b ≤ 2147483647) = r := ⟨_, rfl⟩
          rw [hr] at HR
          clear h1 h2 d1b
          cases r
          all_goals (go_wp2; go_ret; exact ⟨by rw [HR.out]; rfl, HB.out.trans y.bel⟩)
        · have d2 : decide (-2147483647 ≤ x.b) = false := by simp; omega
          rw [d2] at HR
          clear h1 h2 d1b
          go_wp2
          go_ret
          exact ⟨by rw [HR.out]; rfl, HB.out.trans y.bel⟩
      · have d1 : ((x.a.length : Int) == n) = false := by simp [h1]
        have d1b : decide ((x.a.length : Int) = n) = false := by simp [h1]
        rw [d1b] at HR
        clear h1 d1b
        go_wp2
        go_ret
        exact ⟨by rw [HR.out]; rfl, HB.out.trans y.bel⟩
set_option maxRecDepth 100000 in
set_option maxHeartbeats 4000000 in
theorem rvalid_any (n : Int) (x : AL) (sv : Value) (w : World) (h : IntsAt w w.heap.size sv x.a) (hl : x.a.length ≤ 1000000) : Calls Try.prog 43 #[.int .i64 n, .agg #[sv, .int .i64 x.b, .bool x.s]] w fun e w' => e = .returned (.bool (x.fits n)) ∧ Bel w w' := by
  have H := Lib.hid h
  obtain ⟨A, c, rfl, _⟩ := h.form
  clear h
  have HF : Hid (∀ r, r = x.a.all inR → x.fits n = (r && decide ((x.a.length : Int) = n) && decide (-2147483647 ≤ x.b) && decide (x.b ≤ 2147483647))) := Lib.hid (fun r hr => by rw [hr]; rfl)
  go_enter Try.func43, Try.ntmps43
  go_upto_region 1 with (fail)
  generalize hW : World.alloc w _ = w1 at *
  have hb : Bel w w1 := by rw [← hW]; exact Bel.refl.alloc _
  have r1 : RowAt w1 w.heap.size 25 [.slice A x.a.length c, .int .i64 x.b, .bool x.s] := by rw [← hW]; exact RowAt.new _ _ _
  clear hW
  have HB := Lib.hid hb
  have HI := Lib.hid (H.out.keep hb.keeps hb.le)
  clear hb H
  generalize w.heap.size = b1 at *
  have x0 := r1.cell (i := 0) rfl
  have x1 := r1.cell (i := 1) rfl
  have lz := r1.lt
  clear r1
  go_wp2
  go_loopw [5] (fun si wq => ∃ (i : Nat) (y : Ext w1), i ≤ x.a.length ∧ si = .int .i64 i ∧ wq = y.w ∧ x.a.all inR = (x.a.drop i).all inR) (fun si _ => x.a.length - (intOf si).toNat)
  case atStart => exact ⟨0, ⟨w1, Bel.refl⟩, by omega, rfl, rfl, rfl⟩
  case round =>
    obtain ⟨i, y, hi, rfl, rfl, ha⟩ := hrel
    by_cases hlt : i < x.a.length
    · have hd : decide ((i : Int) < (x.a.length : Int)) = true := by simp; omega
      have hil : (i : Int) < (x.a.length : Int) := by omega
      have hw : IntKind.i64.wrap ((i : Int) + 1) = ((i + 1 : Nat) : Int) := by rw [show (i : Int) + 1 = ((i + 1 : Nat) : Int) by omega]; exact IntWalk.i64_in _ (by omega)
      obtain ⟨b, off, rfl, hb, hA⟩ := HI.out.at_ (by omega)
      have a0 := hA i hlt
      have e1 : x.a.drop i = x.a.getD i 0 :: x.a.drop (i + 1) := by rw [List.drop_eq_getElem_cons hlt]; simp [List.getD_eq_getElem?_getD, List.getElem?_eq_getElem hlt]
      rw [e1, List.all_cons] at ha
      have HA := Lib.hid ha
      clear ha e1 hA
      generalize x.a.getD i 0 = q at *
      by_cases h1 : q < -2147483647
      · have d1 : decide (q < -2147483647) = true := by simp [h1]
        have HR : Hid (x.fits n = false) := Lib.hid (by rw [HF.out false (by rw [HA.out, show inR q = false by simp [inR]; omega]; rfl)]; rfl)
        go_wp2
        go_ret
        exact ⟨by rw [HR.out]; rfl, HB.out.trans y.bel⟩
      · have d1 : decide (q < -2147483647) = false := by simp; omega
        by_cases h2 : 2147483647 < q
        · have d2 : decide (2147483647 < q) = true := by simp [h2]
          have HR : Hid (x.fits n = false) := Lib.hid (by rw [HF.out false (by rw [HA.out, show inR q = false by simp [inR]; omega]; rfl)]; rfl)
          go_wp2
          go_ret
          exact ⟨by rw [HR.out]; rfl, HB.out.trans y.bel⟩
        · have d2 : decide (2147483647 < q) = false := by simp; omega
          have HR : Hid (x.a.all inR = (x.a.drop (i + 1)).all inR) := Lib.hid (by rw [HA.out, show inR q = true by simp [inR]; omega]; rfl)
          go_wp2
          go_roundw
          case rel => exact ⟨i + 1, y, by omega, by go_num, rfl, HR.out⟩
          case measure => simp [intOf]; omega
    · obtain rfl : i = x.a.length := by omega
      have hd : decide ((x.a.length : Int) < (x.a.length : Int)) = false := by simp
      have HR := Lib.hid (HF.out true (by rw [ha, List.drop_length]; rfl))
      clear ha HF
      by_cases h1 : (x.a.length : Int) = n
      · have d1 : ((x.a.length : Int) == n) = true := by simp [h1]
        have d1b : decide ((x.a.length : Int) = n) = true := by simp [h1]
        rw [d1b] at HR
        by_cases h2 : -2147483647 ≤ x.b
        · have d2 : decide (-2147483647 ≤ x.b) = true := by simp [h2]
          rw [d2] at HR
          obtain ⟨r, hr⟩ : ∃ r, decide (x.b ≤ 2147483647) = r := ⟨_, rfl⟩
          rw [hr] at HR
          clear h1 h2 d1b
          cases r
          all_goals (go_wp2; go_ret; exact ⟨by rw [HR.out]; rfl, HB.out.trans y.bel⟩)
        · have d2 : decide (-2147483647 ≤ x.b) = false := by simp; omega
          rw [d2] at HR
          clear h1 h2 d1b
          go_wp2
          go_ret
          exact ⟨by rw [HR.out]; rfl, HB.out.trans y.bel⟩
      · have d1 : ((x.a.length : Int) == n) = false := by simp [h1]
        have d1b : decide ((x.a.length : Int) = n) = false := by simp [h1]
        rw [d1b] at HR
        clear h1 d1b
        go_wp2
        go_ret
        exact ⟨by rw [HR.out]; rfl, HB.out.trans y.bel⟩
end Go.Proofs.Ytalphoebmefgoaa
/- poly: Check, of the program and of the reference. -/
namespace Go.Proofs.Ytalphoebmefgoaa
open Go.RowKit
theorem chk_all (l : List AL) (n : Int) {i : Nat} (h : i < l.length) : (l.drop i).all (AL.fits n) = ((alAt l i).fits n && (l.drop (i + 1)).all (AL.fits n)) := by
  rw [List.drop_eq_getElem_cons h, List.all_cons]
  simp [alAt, List.getD_eq_getElem?_getD, List.getElem?_eq_getElem h]
/-- lists short enough to be walked -/
def AlLens (l : List AL) : Prop := ∀ i, i < l.length → (alAt l i).a.length ≤ 1000000
set_option maxRecDepth 100000 in
set_option maxHeartbeats 4000000 in
theorem check_any (n : Int) (v : Value) (l : List AL) (w : World) (h : LinesAt w w.heap.size v l) (hl : AlLens l) (hn : l.length ≤ 1000000) : Calls Try.prog 12 #[.int .i64 n, v] w fun e w' => e = .returned (.int .i64 (checkM n l)) ∧ Bel w w' := by
  have H := Lib.hid h
  have HL := Lib.hid hl
  obtain ⟨A, c, rfl, _⟩ := h.form
  clear h hl
  have HC : Hid (checkM n l = if n < 0 ∨ 5 < n then 2 else if 1000 < l.length then 3 else if l.all (AL.fits n) then 0 else 2) := Lib.hid rfl
  go_enter Try.func12, Try.ntmps12
  by_cases h1 : n < 0
  · have d1 : decide (n < 0) = true := by simp [h1]
    have HR : Hid (checkM n l = 2) := Lib.hid (by rw [HC.out, if_pos (.inl h1)])
    go_wp2
    go_ret
    exact ⟨by rw [HR.out]; rfl, Bel.refl⟩
  · have d1 : decide (n < 0) = false := by simp; omega
    by_cases h2 : 5 < n
    · have d2 : decide (5 < n) = true := by simp [h2]
      have HR : Hid (checkM n l = 2) := Lib.hid (by rw [HC.out, if_pos (.inr h2)])
      go_wp2
      go_ret
      exact ⟨by rw [HR.out]; rfl, Bel.refl⟩
    · have d2 : decide (5 < n) = false := by simp; omega
      by_cases h3 : 1000 < l.length
      · have d3 : decide ((1000 : Int) < (l.length : Int)) = true := by simp; omega
        have HR : Hid (checkM n l = 3) := Lib.hid (by rw [HC.out, if_neg (by omega), if_pos h3])
        go_wp2
        go_ret
        exact ⟨by rw [HR.out]; rfl, Bel.refl⟩
      · have d3 : decide ((1000 : Int) < (l.length : Int)) = false := by simp; omega
        have HR : Hid (∀ b, l.all (AL.fits n) = b → checkM n l = if b then 0 else 2) := Lib.hid (fun b hb => by rw [HC.out, if_neg (by omega), if_neg h3, hb])
        clear HC
        go_wp2
        go_loopw [20] (fun si wq => ∃ (i : Nat) (y : Ext w), i ≤ l.length ∧ si = .int .i64 i ∧ wq = y.w ∧ l.all (AL.fits n) = (l.drop i).all (AL.fits n)) (fun si _ => l.length - (intOf si).toNat)
        case atStart => exact ⟨0, ⟨w, Bel.refl⟩, by omega, rfl, rfl, rfl⟩
        case round =>
          obtain ⟨i, y, hi, rfl, rfl, ha⟩ := hrel
          by_cases hlt : i < l.length
          · have hd : decide ((i : Int) < (l.length : Int)) = true := by simp; omega
            have hil : (i : Int) < (l.length : Int) := by omega
            have hw : IntKind.i64.wrap ((i : Int) + 1) = ((i + 1 : Nat) : Int) := by rw [show (i : Int) + 1 = ((i + 1 : Nat) : Int) by omega]; exact IntWalk.i64_in _ (by omega)
            obtain ⟨b, off, rfl, hb, hA⟩ := H.out.at_ (by omega)
            obtain ⟨rv, ⟨c0, c1, c2⟩, hI⟩ := hA i hlt
            obtain ⟨A2, k2, rfl, _⟩ := hI.form
            rw [chk_all l n hlt] at ha
            have HA := Lib.hid ha
            have HI := Lib.hid hI
            have hxl := HL.out i hlt
            clear ha hA hI
            generalize alAt l i = x at *
            go_upto_region 8 with (fail)
            generalize hU : World.alloc y.w _ = U at *
            have hbu : Bel y.w U := by rw [← hU]; exact Bel.refl.alloc _
            have ru : RowAt U y.w.heap.size 25 [.slice A2 x.a.length k2, .int .i64 x.b, .bool x.s] := by rw [← hU]; exact RowAt.new _ _ _
            clear hU
            have HBU := Lib.hid (y.bel.trans hbu)
            have HF := Lib.hid (fun W (hb : Bel w W) => fits_any n x (.slice A2 x.a.length k2) W (HI.out.keep hb.keeps hb.le) hxl)
            generalize y.w.heap.size = bx at *
            have u0 := ru.cell (i := 0) rfl
            have u1 := ru.cell (i := 1) rfl
            have u2 := ru.cell (i := 2) rfl
            have uz := ru.lt
            clear ru hbu c0 c1 c2
            go_wp2_with fail
            refine (HF.out _ HBU.out).mono ?_
            rintro e w3 ⟨rfl, hb3⟩
            clear u0 u1 u2 uz
            have HB := Lib.hid (HBU.out.trans hb3)
            clear hb3
            by_cases hf : x.fits n = true
            · rw [hf]
              have HK : Hid (l.all (AL.fits n) = (l.drop (i + 1)).all (AL.fits n)) := Lib.hid (by rw [HA.out, hf]; rfl)
              clear hf
              go_wp2
              go_roundw
              case rel => exact ⟨i + 1, ⟨_, HB.out⟩, by omega, by go_num, rfl, HK.out⟩
              case measure => simp [intOf]; omega
            · have hf2 : x.fits n = false := by simpa using hf
              rw [hf2]
              have HK := Lib.hid (HR.out false (by rw [HA.out, hf2]; rfl))
              clear hf hf2
              go_wp2
              go_ret
              exact ⟨by rw [HK.out]; rfl, HB.out⟩
          · obtain rfl : i = l.length := by omega
            have hd : decide ((l.length : Int) < (l.length : Int)) = false := by simp
            have HK := Lib.hid (HR.out true (by rw [ha, List.drop_length]; rfl))
            clear ha HR
            go_wp2
            go_ret
            exact ⟨by rw [HK.out]; rfl, y.bel⟩
set_option maxRecDepth 100000 in
set_option maxHeartbeats 4000000 in
theorem rcheck_any (n : Int) (v : Value) (l : List AL) (w : World) (h : LinesAt w w.heap.size v l) (hl : AlLens l) (hn : l.length ≤ 1000000) : Calls Try.prog 16 #[.int .i64 n, v] w fun e w' => e = .returned (.int .i64 (checkM n l)) ∧ Bel w w' := by
  have H := Lib.hid h
  have HL := Lib.hid hl
  obtain ⟨A, c, rfl, _⟩ := h.form
  clear h hl
  have HC : Hid (checkM n l = if n < 0 ∨ 5 < n then 2 else if 1000 < l.length then 3 else if l.all (AL.fits n) then 0 else 2) := Lib.hid rfl
  go_enter Try.func16, Try.ntmps16
  by_cases h1 : n < 0
  · have d1 : decide (n < 0) = true := by simp [h1]
    have HR : Hid (checkM n l = 2) := Lib.hid (by rw [HC.out, if_pos (.inl h1)])
    go_wp2
    go_ret
    exact ⟨by rw [HR.out]; rfl, Bel.refl⟩
  · have d1 : decide (n < 0) = false := by simp; omega
    by_cases h2 : 5 < n
    · have d2 : decide (5 < n) = true := by simp [h2]
      have HR : Hid (checkM n l = 2) := Lib.hid (by rw [HC.out, if_pos (.inr h2)])
      go_wp2
      go_ret
      exact ⟨by rw [HR.out]; rfl, Bel.refl⟩
    · have d2 : decide (5 < n) = false := by simp; omega
      by_cases h3 : 1000 < l.length
      · have d3 : decide ((1000 : Int) < (l.length : Int)) = true := by simp; omega
        have HR : Hid (checkM n l = 3) := Lib.hid (by rw [HC.out, if_neg (by omega), if_pos h3])
        go_wp2
        go_ret
        exact ⟨by rw [HR.out]; rfl, Bel.refl⟩
      · have d3 : decide ((1000 : Int) < (l.length : Int)) = false := by simp; omega
        have HR : Hid (∀ b, l.all (AL.fits n) = b → checkM n l = if b then 0 else 2) := Lib.hid (fun b hb => by rw [HC.out, if_neg (by omega), if_neg h3, hb])
        clear HC
        go_wp2
        go_loopw [5] (fun si wq => ∃ (i : Nat) (y : Ext w), i ≤ l.length ∧ si = .int .i64 i ∧ wq = y.w ∧ l.all (AL.fits n) = (l.drop i).all (AL.fits n)) (fun si _ => l.length - (intOf si).toNat)
        case atStart => exact ⟨0, ⟨w, Bel.refl⟩, by omega, rfl, rfl, rfl⟩
        case round =>
          obtain ⟨i, y, hi, rfl, rfl, ha⟩ := hrel
          by_cases hlt : i < l.length
          · have hd : decide ((i : Int) < (l.length : Int)) = true := by simp; omega
            have hil : (i : Int) < (l.length : Int) := by omega
            have hw : IntKind.i64.wrap ((i : Int) + 1) = ((i + 1 : Nat) : Int) := by rw [show (i : Int) + 1 = ((i + 1 : Nat) : Int) by omega]; exact IntWalk.i64_in _ (by omega)
            obtain ⟨b, off, rfl, hb, hA⟩ := H.out.at_ (by omega)
            obtain ⟨rv, ⟨c0, c1, c2⟩, hI⟩ := hA i hlt
            obtain ⟨A2, k2, rfl, _⟩ := hI.form
            rw [chk_all l n hlt] at ha
            have HA := Lib.hid ha
            have HI := Lib.hid hI
            have hxl := HL.out i hlt
            clear ha hA hI
            generalize alAt l i = x at *
            have HF := Lib.hid (fun W (hb : Bel w W) => rvalid_any n x (.slice A2 x.a.length k2) W (HI.out.keep hb.keeps hb.le) hxl)
            go_wp2_with fail
            refine (HF.out _ y.bel).mono ?_
            rintro e w3 ⟨rfl, hb3⟩
            clear c0 c1 c2
            have HB := Lib.hid (y.bel.trans hb3)
            clear hb3
            by_cases hf : x.fits n = true
            · rw [hf]
              have HK : Hid (l.all (AL.fits n) = (l.drop (i + 1)).all (AL.fits n)) := Lib.hid (by rw [HA.out, hf]; rfl)
              clear hf
              go_wp2
              go_roundw
              case rel => exact ⟨i + 1, ⟨_, HB.out⟩, by omega, by go_num, rfl, HK.out⟩
              case measure => simp [intOf]; omega
            · have hf2 : x.fits n = false := by simpa using hf
              rw [hf2]
              have HK := Lib.hid (HR.out false (by rw [HA.out, hf2]; rfl))
              clear hf hf2
              go_wp2
              go_ret
              exact ⟨by rw [HK.out]; rfl, HB.out⟩
          · obtain rfl : i = l.length := by omega
            have hd : decide ((l.length : Int) < (l.length : Int)) = false := by simp
            have HK := Lib.hid (HR.out true (by rw [ha, List.drop_length]; rfl))
            clear ha HR
            go_wp2
            go_ret
            exact ⟨by rw [HK.out]; rfl, y.bel⟩
end Go.Proofs.Ytalphoebmefgoaa
/- poly: a slice value that reads as these lines; make of lines. -/
namespace Go.Proofs.Ytalphoebmefgoaa
open Go.RowKit
def LnsAt (w : World) (B : Nat) (v : Value) (l : List Ln) : Prop := RdAt w B v 8 Ln.cells l
theorem cells8 (a : Ln) : a.cells.length = 8 := rfl
theorem LnsAt.bel {w w' : World} {v : Value} {l : List Ln} (h : LnsAt w w.heap.size v l) (hb : Bel w w') : LnsAt w' w'.heap.size v l := h.keep hb.keeps hb.le
theorem lnAt_get {l : List Ln} {i : Nat} (h : i < l.length) : lnAt l i = l[i] := by
  unfold lnAt; rw [List.getD_eq_getElem?_getD, List.getElem?_eq_getElem h]; rfl
theorem rd_line {w : World} {b off : Nat} {l : List Ln} (k : ∀ i (h : i < l.length) r, r < 8 → w.cell? ⟨b, off + i * 8 + r, none⟩ = (Ln.cells l[i])[r]?) {i : Nat} (h : i < l.length) : LnC w b (off + i * 8) (lnAt l i) := by
  rw [lnAt_get h]
  exact ⟨k i h 0 (by decide), k i h 1 (by decide), k i h 2 (by decide), k i h 3 (by decide), k i h 4 (by decide), k i h 5 (by decide), k i h 6 (by decide), k i h 7 (by decide)⟩
theorem cells_c (x : Ln) {r : Nat} (h : r < 8) : x.cells[r]? = some (x.c r) := by
  have : r = 0 ∨ r = 1 ∨ r = 2 ∨ r = 3 ∨ r = 4 ∨ r = 5 ∨ r = 6 ∨ r = 7 := by omega
  rcases this with rfl | rfl | rfl | rfl | rfl | rfl | rfl | rfl <;> rfl
/-- a row whose first lines are these -/
theorem LnsAt.of_row {w : World} {b cap : Nat} {e : TypeId} {xs : List Value} {l : List Ln} (h : RowAt w b e xs) (hn : l.length ≤ cap) (hx : ∀ k, k < l.length → ∀ j, j < 8 → xs[k * 8 + j]? = some ((lnAt l k).c j)) : LnsAt w w.heap.size (.slice (some ⟨b, 0, none⟩) l.length cap) l :=
  ⟨_, cap, rfl, hn, fun _ => ⟨b, 0, rfl, h.lt, fun i hi r hr => by rw [h.cell?, Nat.zero_add, hx i hi r hr, ← lnAt_get hi, cells_c _ hr]⟩⟩
def padL (x : AL) : Ln := ⟨x.a.getD 0 0, x.a.getD 1 0, x.a.getD 2 0, x.a.getD 3 0, x.a.getD 4 0, x.a.getD 5 0, x.b, x.s⟩
def setsL : List Value → Nat → List Value → List Value
  | xs, _, [] => xs
  | xs, o, v :: vs => setsL (xs.set o v) (o + 1) vs
theorem setsL_len : ∀ (vs : List Value) (xs : List Value) (o : Nat), (setsL xs o vs).length = xs.length
  | [], _, _ => rfl
  | v :: vs, xs, o => by unfold setsL; rw [setsL_len vs]; simp
theorem setsL_get : ∀ (vs : List Value) (xs : List Value) (o k : Nat), (setsL xs o vs)[k]? = if o ≤ k ∧ k < o + vs.length ∧ k < xs.length then vs[k - o]? else xs[k]?
  | [], xs, o, k => by rw [if_neg (by simp; omega)]; rfl
  | v :: vs, xs, o, k => by
    unfold setsL
    rw [setsL_get vs, List.length_set, List.length_cons]
    by_cases h1 : k = o
    · subst h1
      rw [if_neg (by omega), List.getElem?_set]
      by_cases h2 : k < xs.length
      · rw [if_pos rfl, if_pos h2, if_pos (by omega), Nat.sub_self]; rfl
      · rw [if_pos rfl, if_neg h2, if_neg (by omega), List.getElem?_eq_none (by omega)]
    · by_cases h3 : o + 1 ≤ k ∧ k < o + 1 + vs.length ∧ k < xs.length
      · rw [if_pos h3, if_pos (by omega), show k - o = (k - (o + 1)) + 1 by omega]; rfl
      · rw [if_neg h3, if_neg (by omega), List.getElem?_set_ne (by omega)]
theorem row_sets {b : Nat} {e : TypeId} : ∀ (vs : List Value) (o : Nat) {w : World} {xs : List Value}, RowAt w b e xs → RowAt (w.setCells b o vs) b e (setsL xs o vs)
  | [], _, _, _, h => h
  | v :: vs, o, _, _, h => row_sets vs (o + 1) (h.set o v)
theorem bel_sets {w0 : World} {b : Nat} (hb : w0.heap.size ≤ b) : ∀ (vs : List Value) (o : Nat) {w : World}, Bel w0 w → Bel w0 (w.setCells b o vs)
  | [], _, _, h => h
  | v :: vs, o, _, h => bel_sets hb vs (o + 1) (h.set (p := ⟨b, o, none⟩) hb v)
set_option maxRecDepth 100000 in
theorem Try.infoLine : (Try.prog.info? 72).map (fun i => (i.zero, i.size, i.bytes)) = some (some zeroLn.V, 8, 64) := by kernel_rfl
theorem info_parts3 {P : Program} {t : TypeId} {z : Value} {s b : Nat} (h : (P.info? t).map (fun i => (i.zero, i.size, i.bytes)) = some (some z, s, b)) : ∃ i, P.info? t = some i ∧ i.zero = some z ∧ i.size = s ∧ i.bytes = b := by
  obtain ⟨i, hi, e⟩ := Option.map_eq_some_iff.1 h
  simp only [Prod.mk.injEq] at e
  exact ⟨i, hi, e.1, e.2.1, e.2.2⟩
set_option maxRecDepth 100000 in
theorem make_lines (m n : Nat) (hm : m ≤ n) (hn : n ≤ 1000000) (W : World) : (Instr.makeSlice 61 (.int .i64 (m : Int)) (.int .i64 (n : Int))).run Try.prog W =
      .ok (.slice (some ⟨W.heap.size, 0, none⟩) m n) (W.alloc (.cells (rowL (fun _ => zeroLn) n).toArray 72)) := by
  obtain ⟨i0, hi, hz0, hz1, hz2⟩ := info_parts3 Try.infoLine
  have h := run_make (P := Try.prog) W 61 72 i0 _ Try.underlying61 hi hz0 .i64 .i64 (m : Int) (n : Int) (by omega) (by omega) (by rw [hz2]; omega) (by omega)
  rw [hz1, Int.toNat_natCast, Int.toNat_natCast] at h
  rw [h]
  congr 2
  have : madeCells zeroLn.V.cells (n * 8) = (rowL (fun _ => zeroLn) n).toArray := by
    apply Array.ext
    · simp [madeCells, rowL_len]
    · intro i h1 h2
      have hg := rowL_get (fun _ => zeroLn) (C := n) (k := i) (by simpa [madeCells] using h1)
      have h8 : i % 8 < 8 := Nat.mod_lt _ (by decide)
      rw [List.getElem?_eq_getElem (by simpa [rowL_len, madeCells] using h1)] at hg
      injection hg with hg
      simp only [List.getElem_toArray, hg]
      have : i % 8 = 0 ∨ i % 8 = 1 ∨ i % 8 = 2 ∨ i % 8 = 3 ∨ i % 8 = 4 ∨ i % 8 = 5 ∨ i % 8 = 6 ∨ i % 8 = 7 := by omega
      rcases this with h | h | h | h | h | h | h | h <;> simp [madeCells, Value.cells, zeroLn, Ln.V, Ln.c, h]
  rw [this]
/-- copy into the coefficients of a line -/
theorem of_copy {W : World} {b o : Nat} {e : TypeId} {xs : List Value} {B : Nat} {rv : Value} {a : List Int} (r : RowAt W b e xs) (ho : o + 6 ≤ xs.length) (h : IntsAt W B rv a) (ha : a.length ≤ 6) (ty : TypeId) :
    (Builtin.copy_ #[23, 23] ty #[.slice (some ⟨b, o, none⟩) 6 6, rv]).run Try.prog W = .ok (.int .i64 (a.length : Int)) (W.setCells b o (a.map (Value.int .i64))) := by
  obtain ⟨A, c, rfl, hc, hA⟩ := h
  rcases Nat.eq_zero_or_pos a.length with h0 | h0
  · have : a = [] := List.eq_nil_of_length_eq_zero h0
    subst this
    obtain ⟨i, hi⟩ := Option.isSome_iff_exists.1 Try.infoI64r
    cases A <;> simp [Builtin.copy_, run_underlying Try.underlying23, Builtin.lenOf, Builtin.firstCells, sizeOf, typeInfo, hi, goInt, World.setCells, storeCells, loadCells, loadCellsFrom]
  · obtain ⟨g, off, rfl, hg, hcell⟩ := hA h0
    have hlen : (a.map (Value.int .i64)).length = a.length := by simp
    have h := run_copy_cells (P := Try.prog) W 23 23 ty 2 b o 6 6 ⟨g, off, none⟩ a.length c (a.map (Value.int .i64)) Try.underlying23 Try.sizeI64c
      (by rw [hlen]; show a.length = min a.length 6; omega)
      (fun j v hj => by
        have hjl : j < a.length := by
          rcases Nat.lt_or_ge j a.length with q | q
          · exact q
          · rw [List.getElem?_eq_none (by omega)] at hj; cases hj
        have had : (⟨g, off, none⟩ : Addr).add j = ⟨g, off + j, none⟩ := by unfold Addr.add; split <;> simp_all
        rw [had, hcell j hjl, ← hj]
        simp [List.getD, hjl])
      (fun j hj => by
        rw [hlen] at hj
        rw [r.cell?, List.getElem?_eq_getElem (by omega)]; rfl)
      (fun j _ => r.frozen _) (fun v hv => by
        obtain ⟨c, _, rfl⟩ := List.mem_map.mp hv
        rfl)
    rw [hlen] at h
    exact h
end Go.Proofs.Ytalphoebmefgoaa
/- poly: the pairs of lines that bound a coordinate (plain). -/
namespace Go.Proofs.Ytalphoebmefgoaa
def ci (x : Ln) (i : Nat) : Int := x.a.getD i 0
def negL (l : List Ln) (i : Nat) : List Ln := l.filter fun y => decide (ci y i < 0)
def posL (l : List Ln) (i : Nat) : List Ln := l.filter fun y => decide (0 < ci y i)
def pairF (l : List Ln) (i : Nat) (x : Ln) : List (Ln × Ln) := if ci x i ≤ 0 then [] else (negL l i).map fun y => (x, y)
def PL (l : List Ln) (i : Nat) : List (Ln × Ln) := l.flatMap (pairF l i)
/-- the pairs of the first k lines -/
def PLu (l : List Ln) (i k : Nat) : List (Ln × Ln) := (l.take k).flatMap (pairF l i)
theorem take_snoc {l : List Ln} {k : Nat} (h : k < l.length) : l.take (k + 1) = l.take k ++ [lnAt l k] := by
  rw [List.take_succ_eq_append_getElem h, lnAt, List.getD_eq_getElem?_getD, List.getElem?_eq_getElem h]; rfl
theorem split_at {l : List Ln} {k : Nat} (h : k < l.length) : l = l.take k ++ lnAt l k :: l.drop (k + 1) := by
  have e : l.drop k = lnAt l k :: l.drop (k + 1) := by
    rw [List.drop_eq_getElem_cons h, lnAt, List.getD_eq_getElem?_getD, List.getElem?_eq_getElem h]; rfl
  rw [← e, List.take_append_drop]
theorem PLu_succ {l : List Ln} {i k : Nat} (h : k < l.length) : PLu l i (k + 1) = PLu l i k ++ pairF l i (lnAt l k) := by
  unfold PLu; rw [take_snoc h, List.flatMap_append]; simp
theorem PLu_skip {l : List Ln} {i k : Nat} (h : k < l.length) (hc : ci (lnAt l k) i ≤ 0) : PLu l i (k + 1) = PLu l i k := by
  rw [PLu_succ h, pairF, if_pos hc, List.append_nil]
theorem PLu_all (l : List Ln) (i : Nat) : PLu l i l.length = PL l i := by unfold PLu PL; rw [List.take_length]
/-- how many lines of the first m bound the coordinate from below -/
def negN (l : List Ln) (i m : Nat) : Nat := (negL (l.take m) i).length
theorem negN_succ {l : List Ln} {i m : Nat} (h : m < l.length) : negN l i (m + 1) = negN l i m + if ci (lnAt l m) i < 0 then 1 else 0 := by
  unfold negN negL
  rw [take_snoc h, List.filter_append, List.length_append]
  by_cases hc : ci (lnAt l m) i < 0
  · rw [if_pos hc]; simp [hc]
  · rw [if_neg hc]; simp [hc]
theorem negN_all (l : List Ln) (i : Nat) : negN l i l.length = (negL l i).length := by unfold negN; rw [List.take_length]
theorem neg_at {l : List Ln} {i m : Nat} (h : m < l.length) (hc : ci (lnAt l m) i < 0) : (negL l i)[negN l i m]? = some (lnAt l m) := by
  have e : negL l i = negL (l.take m) i ++ (lnAt l m :: negL (l.drop (m + 1)) i) := by
    conv => lhs; rw [split_at h]
    unfold negL
    rw [List.filter_append, List.filter_cons, if_pos (by simpa using hc)]
  rw [e, negN, List.getElem?_append_right (Nat.le_refl _), Nat.sub_self]; rfl
theorem pl_at {l : List Ln} {i k m : Nat} (hk : k < l.length) (hp : ¬ ci (lnAt l k) i ≤ 0) (hm : m < l.length) (hc : ci (lnAt l m) i < 0) : (PL l i)[(PLu l i k).length + negN l i m]? = some (lnAt l k, lnAt l m) := by
  have e : PL l i = PLu l i k ++ (pairF l i (lnAt l k) ++ (l.drop (k + 1)).flatMap (pairF l i)) := by
    unfold PL PLu
    conv => lhs; arg 2; rw [split_at hk]
    rw [List.flatMap_append, List.flatMap_cons]
  rw [e, List.getElem?_append_right (by omega), Nat.add_sub_cancel_left]
  have hn := neg_at (i := i) hm hc
  have hl := (List.getElem?_eq_some_iff.1 hn).1
  rw [pairF, if_neg hp, List.getElem?_append_left (by simpa using hl), List.getElem?_map, hn]; rfl
theorem pl_step {l : List Ln} {i k : Nat} (hk : k < l.length) (hp : ¬ ci (lnAt l k) i ≤ 0) : (PLu l i (k + 1)).length = (PLu l i k).length + negN l i l.length := by
  rw [PLu_succ hk, pairF, if_neg hp, List.length_append, List.length_map, negN_all]
theorem pl_mem {l : List Ln} {i : Nat} {p : Ln × Ln} (h : p ∈ PL l i) : p.1 ∈ l ∧ p.2 ∈ l ∧ 0 < ci p.1 i ∧ ci p.2 i < 0 := by
  obtain ⟨x, hx, h⟩ := List.mem_flatMap.1 h
  unfold pairF at h
  split at h
  · simp at h
  · rename_i hc
    obtain ⟨y, hy, rfl⟩ := List.mem_map.1 h
    obtain ⟨h1, h2⟩ := List.mem_filter.1 hy
    exact ⟨hx, h1, by show 0 < ci x i; omega, by simpa using h2⟩
theorem pl_len (l : List Ln) (i : Nat) : (PL l i).length = (posL l i).length * (negL l i).length := by
  have : ∀ t : List Ln, (t.flatMap (pairF l i)).length = (posL t i).length * (negL l i).length := by
    intro t
    induction t with
    | nil => simp [posL]
    | cons x t ih =>
      rw [List.flatMap_cons, List.length_append, ih]
      unfold posL pairF
      rw [List.filter_cons]
      by_cases hc : ci x i ≤ 0
      · rw [if_pos hc, if_neg (by simp; omega)]; simp
      · rw [if_neg hc, if_pos (by simp; omega), List.length_map, List.length_cons, Nat.add_mul]; omega
  exact this l
end Go.Proofs.Ytalphoebmefgoaa
/- poly.pairs: the iterator's contract. -/
namespace Go.Proofs.Ytalphoebmefgoaa
open Go.RowKit Go.Shelf
attribute [local go_sem] Oper.semAt_some
def pairV (p : Ln × Ln) : Array Value := #[.agg #[.int .i64 p.1.a0, .int .i64 p.1.a1, .int .i64 p.1.a2, .int .i64 p.1.a3, .int .i64 p.1.a4, .int .i64 p.1.a5, .int .i64 p.1.b, .bool p.1.s], .agg #[.int .i64 p.2.a0, .int .i64 p.2.a1, .int .i64 p.2.a2, .int .i64 p.2.a3, .int .i64 p.2.a4, .int .i64 p.2.a5, .int .i64 p.2.b, .bool p.2.s]]
def plAt (l : List Ln) (i j : Nat) : Ln × Ln := (PL l i).getD j (zeroLn, zeroLn)
theorem box_ci {W : World} {p i : Nat} {e : TypeId} {X : Ln} (h : RowAt W p e X.cells) (hi : i < 6) : W.cell? ⟨p, i, none⟩ = some (.int .i64 (ci X i)) := by
  refine h.cell ?_
  have : i = 0 ∨ i = 1 ∨ i = 2 ∨ i = 3 ∨ i = 4 ∨ i = 5 := by omega
  rcases this with rfl | rfl | rfl | rfl | rfl | rfl <;> rfl
/-- what the body of a range over the pairs keeps: what lies below n₀, the iterator's two variables, and boxes of a line -/
structure KpP (n₀ Bl Bi : Nat) (A B : World) : Prop where
  size : A.heap.size ≤ B.heap.size
  low : ∀ k, k < n₀ → B.heap[k]? = A.heap[k]?
  kl : B.heap[Bl]? = A.heap[Bl]?
  ki : B.heap[Bi]? = A.heap[Bi]?
  box : ∀ (k : Nat) (cs : Array Value), A.heap[k]? = some (.cells cs 72 (0, 0)) → cs.size = 8 → B.heap[k]? = A.heap[k]?
theorem KpP.refl (n₀ Bl Bi : Nat) (A : World) : KpP n₀ Bl Bi A A := ⟨Nat.le_refl _, fun _ _ => rfl, rfl, rfl, fun _ _ _ _ => rfl⟩
theorem KpP.trans {n₀ Bl Bi : Nat} {A B C : World} (h : KpP n₀ Bl Bi A B) (k : KpP n₀ Bl Bi B C) : KpP n₀ Bl Bi A C :=
  ⟨Nat.le_trans h.size k.size, fun q hq => (k.low q hq).trans (h.low q hq), k.kl.trans h.kl, k.ki.trans h.ki, fun q cs hq hc => (k.box q cs ((h.box q cs hq hc).trans hq) hc).trans (h.box q cs hq hc)⟩
theorem KpP.gro {n₀ Bl Bi : Nat} {A B : World} (h : A.grownBy B none) (hn : n₀ ≤ A.heap.size) (hl : Bl < A.heap.size) (hi : Bi < A.heap.size) : KpP n₀ Bl Bi A B :=
  ⟨h.size, fun k hk => h.block k (by omega) (by simp), h.block _ hl (by simp), h.block _ hi (by simp), fun k cs hk _ => h.block k (Blk.lt hk) (by simp)⟩
theorem KpP.row {n₀ Bl Bi p : Nat} {A B : World} {X : Ln} (h : KpP n₀ Bl Bi A B) (r : RowAt A p 72 X.cells) : RowAt B p 72 X.cells := (h.box p _ r rfl).trans r
theorem KpP.lns {n₀ Bl Bi : Nat} {A B : World} {v : Value} {l : List Ln} (h : KpP n₀ Bl Bi A B) (r : LnsAt A n₀ v l) : LnsAt B n₀ v l :=
  RdAt.keep r (fun b o hb => by unfold World.cell?; show (match B.heap[b]? with | _ => _) = _; rw [h.low b hb]) (Nat.le_refl _)
theorem KpP.cl {n₀ Bl Bi : Nat} {A B : World} (h : KpP n₀ Bl Bi A B) : B.cell? ⟨Bl, 0, none⟩ = A.cell? ⟨Bl, 0, none⟩ := by unfold World.cell?; show (match B.heap[Bl]? with | _ => _) = _; rw [h.kl]
theorem KpP.ci {n₀ Bl Bi : Nat} {A B : World} (h : KpP n₀ Bl Bi A B) : B.cell? ⟨Bi, 0, none⟩ = A.cell? ⟨Bi, 0, none⟩ := by unfold World.cell?; show (match B.heap[Bi]? with | _ => _) = _; rw [h.ki]
set_option maxRecDepth 100000 in
set_option maxHeartbeats 4000000 in
theorem pairs1_in (n : Nat) (hn : 1 ≤ n) (lp Bl Bi n₀ i : Nat) (v : Value) (l : List Ln) (hi : i < 6) (hl : l.length ≤ 1000000) (J Jx : List Nat → World → Prop) (hJd : ∀ s W W', J s W → W.grownBy W' none → J s W')
    (hY : ∀ pre x W, J pre W → pre.length < (PL l i).length → x < (PL l i).length → YieldAt Fence.wide (n - 1) Try.prog lp (pairV (plAt l i x)) W fun e W' =>
      (e = .returned (.bool true) ∧ J (pre ++ [x]) W' ∧ KpP n₀ Bl Bi W W') ∨ (e = .returned (.bool false) ∧ Jx (pre ++ [x]) W'))
    (W : World) (hn0 : n₀ ≤ W.heap.size) (hl0 : Bl < W.heap.size) (hi0 : Bi < W.heap.size) (hBl : W.cell? ⟨Bl, 0, none⟩ = some v) (hBi : W.cell? ⟨Bi, 0, none⟩ = some (.int .i64 i)) (hv : LnsAt W n₀ v l) (h0 : J [] W) :
    CallsIn Fence.wide n Try.prog 101 #[.func (.yield lp) #[] #[], .pointer (some ⟨Bl, 0, none⟩), .pointer (some ⟨Bi, 0, none⟩)] W fun e W' => (∃ v, e = .returned v) ∧
      ((∃ ys, ys = List.range (PL l i).length ∧ J ys W') ∨ (∃ pre, (∃ k, k ≤ (PL l i).length ∧ pre = List.range k) ∧ Jx pre W')) := by
  refine callsIn_of_wp Try.func101 rfl trivial ?_ rfl
  simp only [Try.ntmps101, List.size_toArray, List.length_cons, List.length_nil, Nat.reduceAdd, Nat.reduceSub, Array.replicate_succ, Array.replicate_zero, List.push_toArray, List.append_toArray, List.nil_append, List.cons_append]
  obtain ⟨A, c, rfl, hc⟩ := hv.form
  have HV := Lib.hid hv
  have HY := Lib.hid hY
  have HJ := Lib.hid hJd
  have HBL := Lib.hid hBl
  have HBI := Lib.hid hBi
  clear hv hY hJd
  gi_wp2
  gi_loopw [10] (fun s10 wr => ∃ k : Nat, k ≤ l.length ∧ s10 = .int .i64 (k : Int) ∧ J (List.range (PLu l i k).length) wr ∧ KpP n₀ Bl Bi W wr) (fun s10 _ => l.length + 1 - (intOf s10).toNat)
  case atStart => exact ⟨0, Nat.zero_le _, rfl, by unfold PLu; simpa using h0, KpP.refl _ _ _ _⟩
  case round =>
    obtain ⟨k, hk, rfl, hJs, hnx⟩ := hrel
    clear hBl hBi
    have c1 := hnx.cl.trans HBL.out
    have c2 := hnx.ci.trans HBI.out
    have HNX := Lib.hid hnx
    have HJS := Lib.hid hJs
    have lzl : Bl < wr.heap.size := Nat.lt_of_lt_of_le hl0 hnx.size
    have lzi : Bi < wr.heap.size := Nat.lt_of_lt_of_le hi0 hnx.size
    have hnw : n₀ ≤ wr.heap.size := Nat.le_trans hn0 hnx.size
    have HLV := Lib.hid (hnx.lns HV.out)
    clear hnx hJs
    by_cases hlt : k < l.length
    · have hd : decide ((k : Int) < (l.length : Int)) = true := by simp; omega
      have hL : (k : Int) < (l.length : Int) := by omega
      have wk : IntKind.i64.wrap ((k : Int) + 1) = ((k + 1 : Nat) : Int) := IntWalk.i64_in _ (by omega)
      obtain ⟨g, off, rfl, hg, hcl⟩ := HLV.out.at_ (by omega)
      obtain ⟨x0, x1, x2, x3, x4, x5, x6, x7⟩ := rd_line hcl hlt
      have hgw : g < wr.heap.size := by omega
      clear hcl
      obtain ⟨X, hX⟩ : ∃ X, lnAt l k = X := ⟨_, rfl⟩
      rw [hX] at x0 x1 x2 x3 x4 x5 x6 x7
      have HX := Lib.hid hX
      clear hX
      have h6 : ¬ (i : Int) < 0 := by omega
      have h6' : (i : Int) < 6 := by omega
      obtain ⟨wo, rfl⟩ : ∃ wo : World, wo = wr := ⟨_, rfl⟩
      have rb := RowAt.new wo 72 X.cells
      have cb := box_ci rb hi
      have hg1 : wo.grownBy (wo.alloc (.cells X.cells.toArray 72)) none := gro_alloc (gro_refl _) _
      unfold Ln.cells at rb cb hg1
      have HRB := Lib.hid rb
      have HG1 := Lib.hid hg1
      clear rb hg1
      by_cases hp : ci X i ≤ 0
      · have hdp : decide (ci X i ≤ 0) = true := by simp [hp]
        have HJ2 : Hid (J (List.range (PLu l i (k + 1)).length) wo) := Lib.hid (by rw [PLu_skip hlt (by rw [HX.out]; exact hp)]; exact HJS.out)
        clear hp
        gi_wp2
        go_roundw
        case rel => exact ⟨k + 1, hlt, by go_num, HJ.out _ _ _ HJ2.out HG1.out, HNX.out.trans (KpP.gro HG1.out hnw lzl lzi)⟩
        case measure => simp [intOf]; omega
      · have hdp : decide (ci X i ≤ 0) = false := by simp; omega
        have HP : Hid (0 < ci (lnAt l k) i) := Lib.hid (by rw [HX.out]; omega)
        clear hp
        gi_wp2
        generalize hW : World.alloc wo _ = w5
        have rx : RowAt w5 wo.heap.size 72 X.cells := by rw [← hW]; exact HRB.out
        have hkp : KpP n₀ Bl Bi W w5 := by rw [← hW]; exact HNX.out.trans (KpP.gro HG1.out hnw lzl lzi)
        have hj5 : J (List.range (PLu l i k).length) w5 := by rw [← hW]; exact HJ.out _ _ _ HJS.out HG1.out
        clear hW HRB HG1 HJS x0 x1 x2 x3 x4 x5 x6 x7 hgw cb c1 c2 lzl lzi hnw HLV hg HNX hdp
        obtain ⟨p, hp⟩ : ∃ p, p = wo.heap.size := ⟨_, rfl⟩
        rw [← hp] at rx ⊢
        clear hp
        gi_loopw [21] (fun s21 wr => ∃ m : Nat, m ≤ l.length ∧ s21 = .int .i64 (m : Int) ∧ J (List.range ((PLu l i k).length + negN l i m)) wr ∧ KpP n₀ Bl Bi W wr ∧ RowAt wr p 72 X.cells) (fun s21 _ => l.length + 1 - (intOf s21).toNat)
        case atStart => exact ⟨0, Nat.zero_le _, rfl, by unfold negN negL; simpa using hj5, hkp, rx⟩
        case round =>
          obtain ⟨m, hm, rfl, hJs, hnx, hrx⟩ := hrel
          have c1 := hnx.cl.trans HBL.out
          have c2 := hnx.ci.trans HBI.out
          have HNX := Lib.hid hnx
          have HJS := Lib.hid hJs
          have lzl : Bl < wr.heap.size := Nat.lt_of_lt_of_le hl0 hnx.size
          have lzi : Bi < wr.heap.size := Nat.lt_of_lt_of_le hi0 hnx.size
          have hnw : n₀ ≤ wr.heap.size := Nat.le_trans hn0 hnx.size
          obtain ⟨g2, off2, e2, hg2, hcl⟩ := (hnx.lns HV.out).at_ (by omega)
          injection e2 with e2
          injection e2 with e2 e3
          subst e2; subst e3
          have HRX := Lib.hid hrx
          have HKP := Lib.hid hkp
          have HJ5 := Lib.hid hj5
          have HR0 := Lib.hid rx
          clear hnx hJs hkp hj5 rx
          by_cases hlt2 : m < l.length
          · have hd2 : decide ((m : Int) < (l.length : Int)) = true := by simp; omega
            have hL2 : (m : Int) < (l.length : Int) := by omega
            have wm : IntKind.i64.wrap ((m : Int) + 1) = ((m + 1 : Nat) : Int) := IntWalk.i64_in _ (by omega)
            obtain ⟨x0, x1, x2, x3, x4, x5, x6, x7⟩ := rd_line hcl hlt2
            have hgw : g < wr.heap.size := by omega
            clear hcl
            obtain ⟨Y, hY2⟩ : ∃ Y, lnAt l m = Y := ⟨_, rfl⟩
            rw [hY2] at x0 x1 x2 x3 x4 x5 x6 x7
            have HY2 := Lib.hid hY2
            clear hY2
            have lzp := hrx.lt
            have a0 := hrx.cell (i := 0) rfl
            have a1 := hrx.cell (i := 1) rfl
            have a2 := hrx.cell (i := 2) rfl
            have a3 := hrx.cell (i := 3) rfl
            have a4 := hrx.cell (i := 4) rfl
            have a5 := hrx.cell (i := 5) rfl
            have a6 := hrx.cell (i := 6) rfl
            have a7 := hrx.cell (i := 7) rfl
            clear hrx
            obtain ⟨wi, rfl⟩ : ∃ wi : World, wi = wr := ⟨_, rfl⟩
            have rb := RowAt.new wi 72 Y.cells
            have cb := box_ci rb hi
            have hg1 : wi.grownBy (wi.alloc (.cells Y.cells.toArray 72)) none := gro_alloc (gro_refl _) _
            unfold Ln.cells at rb cb hg1
            have HRB := Lib.hid rb
            have HG1 := Lib.hid hg1
            clear rb hg1
            by_cases hq : ci Y i < 0
            · have hdq : decide (ci Y i < 0) = true := by simp [hq]
              have hat := pl_at (i := i) hlt (by have := HP.out; omega) hlt2 (by rw [HY2.out]; exact hq)
              have hlen := (List.getElem?_eq_some_iff.1 hat).1
              have hpa : plAt l i ((PLu l i k).length + negN l i m) = (X, Y) := by unfold plAt; rw [List.getD_eq_getElem?_getD, hat, HX.out, HY2.out]; rfl
              have HN : Hid (negN l i (m + 1) = negN l i m + 1) := Lib.hid (by rw [negN_succ hlt2, if_pos (by rw [HY2.out]; exact hq)])
              have HLEN := Lib.hid hlen
              obtain ⟨fn, tmps, assign, body, hy, hR⟩ := HY.out _ ((PLu l i k).length + negN l i m) _ (HJ.out _ _ _ HJS.out HG1.out) (by simpa using hlen) hlen
              rw [hpa] at hy
              unfold pairV at hy
              have HRR := Lib.hid hR
              clear hat hlen hpa hq hR
              gi_wp2
              refine HRR.out.mono ?_
              rintro e W3 (⟨rfl, hJ3, hk3⟩ | ⟨rfl, hJx3⟩)
              · have HJ3 : Hid (J (List.range ((PLu l i k).length + negN l i (m + 1))) W3) := Lib.hid (by rw [HN.out, ← Nat.add_assoc, List.range_succ]; exact hJ3)
                have HK3 := Lib.hid ((HNX.out.trans (KpP.gro HG1.out hnw lzl lzi)).trans hk3)
                have HR3 := Lib.hid (hk3.row (HRX.out.alloc _))
                clear hJ3 hk3 hy
                gi_wp2
                go_roundw
                case rel => exact ⟨m + 1, hlt2, by go_num, HJ3.out, HK3.out, HR3.out⟩
                case measure => simp [intOf]; omega
              · have HJX : Hid (Jx (List.range ((PLu l i k).length + negN l i m + 1)) W3) := Lib.hid (by rw [List.range_succ]; exact hJx3)
                clear hJx3 hy
                gi_wp2
                refine bodyPost_ret (results_none rfl _ _ _) rfl ?_
                exact ⟨⟨_, rfl⟩, .inr ⟨_, ⟨_, HLEN.out, rfl⟩, HJX.out⟩⟩
            · have hdq : decide (ci Y i < 0) = false := by simp; omega
              have HN : Hid (negN l i (m + 1) = negN l i m) := Lib.hid (by rw [negN_succ hlt2, if_neg (by rw [HY2.out]; exact hq)]; rfl)
              clear hq
              gi_wp2
              refine ⟨fun f h => (by cases h), ?_⟩
              gi_wp2
              go_roundw
              case rel => exact ⟨m + 1, hlt2, by go_num, by rw [HN.out]; exact HJ.out _ _ _ HJS.out HG1.out, HNX.out.trans (KpP.gro HG1.out hnw lzl lzi), HRX.out.alloc _⟩
              case measure => simp [intOf]; omega
          · obtain rfl : m = l.length := by omega
            have hd2 : decide ((l.length : Int) < (l.length : Int)) = false := by simp
            clear hcl hrx
            gi_wp2
            go_roundw
            case rel => exact ⟨k + 1, hlt, by go_num, by rw [pl_step hlt (by have := HP.out; omega)]; exact HJS.out, HNX.out⟩
            case measure => simp [intOf]; omega
    · obtain rfl : k = l.length := by omega
      have hd : decide ((l.length : Int) < (l.length : Int)) = false := by simp
      gi_wp2
      go_end0
      exact ⟨⟨_, rfl⟩, .inl ⟨_, rfl, by rw [← PLu_all]; exact HJS.out⟩⟩
theorem pairs_stops (n : Nat) (hn : 1 ≤ n) (Bl Bi n₀ i : Nat) (v : Value) (l : List Ln) (hi : i < 6) (hl : l.length ≤ 1000000) (w : World) (hn0 : n₀ ≤ w.heap.size) (hl0 : Bl < w.heap.size) (hi0 : Bi < w.heap.size)
    (hBl : w.cell? ⟨Bl, 0, none⟩ = some v) (hBi : w.cell? ⟨Bi, 0, none⟩ = some (.int .i64 i)) (hv : LnsAt w n₀ v l) :
    SeqStopsK Fence.wide n Try.prog 101 #[.pointer (some ⟨Bl, 0, none⟩), .pointer (some ⟨Bi, 0, none⟩)] (fun x => pairV (plAt l i (x % (PL l i).length))) (KpP n₀ Bl Bi) (fun ys => ys = List.range (PL l i).length) (fun pre => ∃ k, k ≤ (PL l i).length ∧ pre = List.range k) (PL l i).length w :=
  fun lp J Jx W hW hJ _ hY h0 =>
    pairs1_in n hn lp Bl Bi n₀ i v l hi hl J Jx (fun s W1 W2 hs hg => hJ s W1 W2 none hs hg (fun r e => by cases e)) (fun pre x W hp hl hx => by have := hY pre x W hp hl; simp only [Nat.mod_eq_of_lt hx] at this; exact this) W
      (Nat.le_trans hn0 hW.size) (Nat.lt_of_lt_of_le hl0 hW.size) (Nat.lt_of_lt_of_le hi0 hW.size) ((hW.cell (p := ⟨Bl, 0, none⟩) hl0).trans hBl) ((hW.cell (p := ⟨Bi, 0, none⟩) hi0).trans hBi) (RdAt.keep hv (fun b o hb => hW.cell (p := ⟨b, o, none⟩) (Nat.lt_of_lt_of_le hb hn0)) (Nat.le_refl _)) h0
set_option maxRecDepth 100000 in
set_option maxHeartbeats 1000000 in
theorem pairs_any (A : Option Addr) (n c i : Nat) (w : World) :
    Calls Try.prog 70 #[.slice A n c, .int .i64 i] w fun e w' => e = .returned (.func (.func 101) #[] #[.pointer (some ⟨w.heap.size, 0, none⟩), .pointer (some ⟨w.heap.size + 1, 0, none⟩)]) ∧
      w' = (w.alloc (.cells #[.slice A n c] 61)).alloc (.cells #[.int .i64 i] 3) := by
  go_enter Try.func70, Try.ntmps70
  go_wp2
  go_ret
  exact ⟨rfl, rfl⟩
end Go.Proofs.Ytalphoebmefgoaa
