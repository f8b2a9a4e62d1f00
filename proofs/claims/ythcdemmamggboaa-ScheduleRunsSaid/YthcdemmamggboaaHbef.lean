import Derived.Test.YthcdemmamggboaaHurg
namespace Go.Proofs.Ythcdemmamggboaa
open Go.RowKit
theorem befM_dl {l : List Tsk} {a b : Job} : beforeM l 2 a b = if dlJ l a = dlJ l b then decide (a.tk < b.tk) || (decide (a.tk = b.tk) && decide (a.num < b.num)) else decide (dlJ l a < dlJ l b) := by unfold beforeM; rw [if_pos rfl]
theorem befM_fx {l : List Tsk} {pol : Int} {a b : Job} (h : pol ≠ 2) : beforeM l pol a b = if (rankM l a).1 = (rankM l b).1 then (if (rankM l a).2 = (rankM l b).2 then (if a.rel = b.rel then decide (a.tk < b.tk) else decide (a.rel < b.rel)) else (rankM l a).2) else decide ((rankM l b).1 < (rankM l a).1) := by unfold beforeM; rw [if_neg h]
set_option maxRecDepth 100000 in
set_option maxHeartbeats 8000000 in
theorem before_any (v : Value) (l : List Tsk) (pol : Int) (a b : Job) (w : World) (h : TsksAt w w.heap.size v l) (hs : Sized l) (h0 : rchk l = 0) (ha : JOk l a) (hb : JOk l b) :
    Calls Try.prog 28 #[v, .int .i64 pol, .agg #[.int .i64 a.tk, .int .i64 a.num, .int .i64 a.rel, .int .i64 a.dn, .int .i64 a.pos], .agg #[.int .i64 b.tk, .int .i64 b.num, .int .i64 b.rel, .int .i64 b.dn, .int .i64 b.pos]] w fun e w' => e = .returned (.bool (beforeM l pol a b)) ∧ Bel w w' := by
  have HRA := Lib.hid (fun (W : World) (hW : Bel w W) => rank_any v l a W (h.keep hW.keeps hW.le) hs h0 ha)
  have HRB := Lib.hid (fun (W : World) (hW : Bel w W) => rank_any v l b W (h.keep hW.keeps hW.le) hs h0 hb)
  obtain ⟨atk, an0, an1, ar0, ar1, ad0, ad1⟩ := ha
  obtain ⟨btk, bn0, bn1, br0, br1, bd0, bd1⟩ := hb
  have hl8 := (rchk_ok h0).1
  have HH := Lib.hid h
  obtain ⟨A, c, rfl, hlc⟩ := h.form
  have hoka := tok_at h0 atk
  have hokb := tok_at h0 btk
  have da1 := hoka.d1
  have da2 : (tskAt l a.tk).dl ≤ 1000 := by have := hoka.d2; have := hoka.p2; omega
  have db1 := hokb.d1
  have db2 : (tskAt l b.tk).dl ≤ 1000 := by have := hokb.d2; have := hokb.p2; omega
  clear h hs hoka hokb
  by_cases hp : pol = 2
  · subst hp
    have HM : Hid (beforeM l 2 a b = if dlJ l a = dlJ l b then decide (a.tk < b.tk) || (decide (a.tk = b.tk) && decide (a.num < b.num)) else decide (dlJ l a < dlJ l b)) := Lib.hid befM_dl
    have hja : dlJ l a = a.rel + (tskAt l a.tk).dl := rfl
    have hjb : dlJ l b = b.rel + (tskAt l b.tk).dl := rfl
    rw [hja, hjb] at HM
    obtain ⟨bt, ot, rfl, hbt, hA⟩ := HH.out.at_ (by omega)
    obtain ⟨sva, ⟨_, _, _, t3, _, _, _⟩, _⟩ := hA a.tk atk
    obtain ⟨svb, ⟨_, _, _, u3, _, _, _⟩, _⟩ := hA b.tk btk
    clear hja hjb hA HRA HRB
    generalize (tskAt l a.tk).dl = dla at *
    generalize (tskAt l b.tk).dl = dlb at *
    have ha1 : (a.tk : Int) < (l.length : Int) := by omega
    have hb1 : (b.tk : Int) < (l.length : Int) := by omega
    go_enter Try.func28, Try.ntmps28
    go_upto_region 2 with (fail)
    generalize hW : World.alloc (World.alloc w _) _ = wc at *
    have r0 : RowAt wc w.heap.size 67 (jobC a) := by rw [← hW]; exact (RowAt.new _ _ _).alloc _
    have r1 : RowAt wc (w.heap.size + 1) 67 (jobC b) := by rw [← hW]; have := RowAt.new (w.alloc (.cells (jobC a).toArray 67)) 67 (jobC b); rw [show (w.alloc (.cells (jobC a).toArray 67)).heap.size = w.heap.size + 1 by simp] at this; exact this
    have hbc : Bel w wc := by rw [← hW]; exact (Bel.refl.alloc _).alloc _
    clear hW
    have t3' := (hbc.cells _ _ hbt).trans t3
    have u3' := (hbc.cells _ _ hbt).trans u3
    have htz := Nat.lt_of_lt_of_le hbt hbc.le
    have HBC := Lib.hid hbc
    clear hbc t3 u3
    generalize w.heap.size = n0 at *
    have a0 := r0.cell (i := 0) rfl
    have a1 := r0.cell (i := 1) rfl
    have a2 := r0.cell (i := 2) rfl
    have az := r0.lt
    have b0 := r1.cell (i := 0) rfl
    have b1 := r1.cell (i := 1) rfl
    have b2 := r1.cell (i := 2) rfl
    have bz := r1.lt
    have hwa : IntKind.i64.wrap (a.rel + dla) = a.rel + dla := IntWalk.i64_in _ (by omega)
    have hwb : IntKind.i64.wrap (b.rel + dlb) = b.rel + dlb := IntWalk.i64_in _ (by omega)
    clear r0 r1
    (refine wp_region_ext (wb := wc) (by (repeat (first | exact Ext.bel _ | exact Bel.refl | refine Bel.alloc ?_ _ | refine Bel.drew ?_ | refine Bel.drewN ?_ _))) (by kernel_rfl) (by kernel_rfl) ?_; (repeat (any_goals (first | go_big_quiet_step (fail) | quiet_step (fail) | (refine wpQuiet_step (fun K hK => ?_); go_simp; split <;> (refine hK _ ?_; clear hK K))))); all_goals (refine wpQuiet_nil ?_; intro _ hw'; obtain ⟨y, hw''⟩ := hw'; subst hw''))
    clear hwa hwb
    by_cases he : a.rel + dla = b.rel + dlb
    · have HM2 : Hid (beforeM l 2 a b = (decide (a.tk < b.tk) || (decide (a.tk = b.tk) && decide (a.num < b.num)))) := Lib.hid (by rw [HM.out, if_pos he])
      have heq : (a.rel + dla == b.rel + dlb) = true := by simpa using he
      clear he
      by_cases h1 : a.tk < b.tk
      · have q1 : decide (a.tk < b.tk) = true := by simpa using h1
        go_wp2
        go_ret
        exact ⟨ret_bool (by rw [HM2.out, q1]; rfl), HBC.out.trans y.bel⟩
      · have q1 : decide (a.tk < b.tk) = false := by simpa using h1
        by_cases h2 : a.tk = b.tk
        · have q2 : ((a.tk : Int) == (b.tk : Int)) = true := by simp [h2]
          go_wp2
          go_ret
          exact ⟨ret_bool (by rw [HM2.out, q1, h2]; simp), HBC.out.trans y.bel⟩
        · have q2 : ((a.tk : Int) == (b.tk : Int)) = false := by simp; omega
          go_wp2
          go_ret
          exact ⟨ret_bool (by rw [HM2.out, q1]; simp [h2]), HBC.out.trans y.bel⟩
    · have HM2 : Hid (beforeM l 2 a b = decide (a.rel + dla < b.rel + dlb)) := Lib.hid (by rw [HM.out, if_neg he])
      have heq : (a.rel + dla == b.rel + dlb) = false := by simpa using he
      clear he
      go_wp2
      go_ret
      exact ⟨ret_bool (by rw [HM2.out]), HBC.out.trans y.bel⟩
  · have q0 : (pol == 2) = false := by simpa using hp
    have hMM := befM_fx (l := l) (a := a) (b := b) hp
    have HM := Lib.hid hMM
    clear hMM hp
    go_enter Try.func28, Try.ntmps28
    go_upto_region 1 with (fail)
    generalize hW : World.alloc (World.alloc w _) _ = wc at *
    have r0 : RowAt wc w.heap.size 67 (jobC a) := by rw [← hW]; exact (RowAt.new _ _ _).alloc _
    have r1 : RowAt wc (w.heap.size + 1) 67 (jobC b) := by rw [← hW]; have := RowAt.new (w.alloc (.cells (jobC a).toArray 67)) 67 (jobC b); rw [show (w.alloc (.cells (jobC a).toArray 67)).heap.size = w.heap.size + 1 by simp] at this; exact this
    have hbc : Bel w wc := by rw [← hW]; exact (Bel.refl.alloc _).alloc _
    clear hW
    have HBC := Lib.hid hbc
    clear hbc
    generalize w.heap.size = n0 at *
    have a0 := r0.cell (i := 0) rfl
    have a1 := r0.cell (i := 1) rfl
    have a2 := r0.cell (i := 2) rfl
    have a3 := r0.cell (i := 3) rfl
    have a4 := r0.cell (i := 4) rfl
    have az := r0.lt
    have b0 := r1.cell (i := 0) rfl
    have b1 := r1.cell (i := 1) rfl
    have b2 := r1.cell (i := 2) rfl
    have b3 := r1.cell (i := 3) rfl
    have b4 := r1.cell (i := 4) rfl
    have bz := r1.lt
    clear r0 r1
    go_wp2_with fail
    refine (HRA.out _ HBC.out).mono ?_
    rintro e w2 ⟨rfl, hb2⟩
    obtain ⟨x2, rfl⟩ := ext_of hb2
    clear hb2
    go_wp2_with fail
    refine (HRB.out _ (HBC.out.trans x2.bel)).mono ?_
    rintro e w3 ⟨rfl, hb3⟩
    obtain ⟨x3, rfl⟩ := ext_of (x2.bel.trans hb3)
    clear hb3 HRA HRB
    generalize (rankM l a).1 = ra at *
    generalize (rankM l a).2 = ia at *
    generalize (rankM l b).1 = rb at *
    generalize (rankM l b).2 = ib at *
    by_cases h1 : ra = rb
    · subst h1
      cases ia <;> cases ib
      case false.true =>
        go_wp2
        go_ret
        exact ⟨ret_bool (by rw [HM.out]; simp), HBC.out.trans x3.bel⟩
      case true.false =>
        go_wp2
        go_ret
        exact ⟨ret_bool (by rw [HM.out]; simp), HBC.out.trans x3.bel⟩
      case false.false =>
        by_cases h2 : a.rel = b.rel
        · have q2 : (a.rel == b.rel) = true := by simpa using h2
          by_cases h3 : a.tk < b.tk
          · have q3 : decide (a.tk < b.tk) = true := by simpa using h3
            go_wp2
            go_ret
            exact ⟨ret_bool (by rw [HM.out, q3]; simp [h2]), HBC.out.trans x3.bel⟩
          · have q3 : decide (a.tk < b.tk) = false := by simpa using h3
            go_wp2
            go_ret
            exact ⟨ret_bool (by rw [HM.out, q3]; simp [h2]), HBC.out.trans x3.bel⟩
        · have q2 : (a.rel == b.rel) = false := by simpa using h2
          go_wp2
          go_ret
          exact ⟨ret_bool (by rw [HM.out]; simp [h2]), HBC.out.trans x3.bel⟩
      case true.true =>
        by_cases h2 : a.rel = b.rel
        · have q2 : (a.rel == b.rel) = true := by simpa using h2
          by_cases h3 : a.tk < b.tk
          · have q3 : decide (a.tk < b.tk) = true := by simpa using h3
            go_wp2
            go_ret
            exact ⟨ret_bool (by rw [HM.out, q3]; simp [h2]), HBC.out.trans x3.bel⟩
          · have q3 : decide (a.tk < b.tk) = false := by simpa using h3
            go_wp2
            go_ret
            exact ⟨ret_bool (by rw [HM.out, q3]; simp [h2]), HBC.out.trans x3.bel⟩
        · have q2 : (a.rel == b.rel) = false := by simpa using h2
          go_wp2
          go_ret
          exact ⟨ret_bool (by rw [HM.out]; simp [h2]), HBC.out.trans x3.bel⟩
    · have q1 : (ra == rb) = false := by simpa using h1
      go_wp2
      go_ret
      exact ⟨ret_bool (by rw [HM.out, if_neg h1]), HBC.out.trans x3.bel⟩
end Go.Proofs.Ythcdemmamggboaa
