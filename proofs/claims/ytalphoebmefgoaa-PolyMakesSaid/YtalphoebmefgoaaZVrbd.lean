/- poly, the reference: bounds. -/
import Derived.Test.YtalphoebmefgoaaZVrop
import Derived.Test.YtalphoebmefgoaaZVrtot
import Derived.Test.YtalphoebmefgoaaG40
import Derived.Test.YtalphoebmefgoaaG1
import Derived.Test.YtalphoebmefgoaaG36
namespace Go.Proofs.Ytalphoebmefgoaa
open Go.RowKit
/-- an interval, as the reference holds it -/
def enC (lo hi : En) : List Value := [.int .i64 lo.n, .int .i64 lo.d, .int .i64 hi.n, .int .i64 hi.d, .bool lo.is, .bool hi.is, .bool lo.op, .bool hi.op]
theorem zip_appB : ∀ (a r : List Int) (p : List Rt), p.length ≤ a.length → (a ++ r).zip p = a.zip p
  | _, _, [], _ => by simp
  | [], _, _ :: _, h => by simp at h
  | x :: a, r, y :: p, h => by
    simp only [List.cons_append, List.zip_cons_cons]
    rw [zip_appB a r p (by simpa using h)]
theorem valE_pad {x : AL} {p : List Rt} (h : x.a.length ≤ 6) (hp : p.length < x.a.length) : valE (padL x) p =
    if (totL x.a p).2 ≠ 0 then none else if (rsub ⟨x.b, 1⟩ (totL x.a p).1).2 ≠ 0 then none
    else if (rquo (rsub ⟨x.b, 1⟩ (totL x.a p).1).1 ⟨cA x p.length, 1⟩).2 ≠ 0 then none else some (rquo (rsub ⟨x.b, 1⟩ (totL x.a p).1).1 ⟨cA x p.length, 1⟩).1 := by
  have e : totL (padL x).a p = totL x.a p := by
    unfold totL
    rw [pad_a h, zip_appB _ _ _ (by omega)]
  have e2 : (padL x).b = x.b := rfl
  unfold valE
  rw [e, e2, ci_pad h]
def BdPost (lo hi : En) (x : AL) (p : List Rt) (pb : Nat) (w : World) (e : Ending) (w' : World) : Prop :=
  (valE (padL x) p = none ∧ ∃ er, er ≠ 0 ∧ e = .returned (.int .i64 er) ∧ GrsOk w [pb] w') ∨
  (∃ r, valE (padL x) p = some r ∧ e = .returned (.int .i64 0) ∧ GrsOk w [pb] w' ∧ RowAt w' pb 87 (enC (if 0 < cA x p.length then lo else nearM lo r x.s (-1)) (if 0 < cA x p.length then nearM hi r x.s 1 else hi)))
theorem bd_err {lo hi : En} {x : AL} {p : List Rt} {pb : Nat} {w W : World} {er : Int} (h : valE (padL x) p = none) (he : er ≠ 0) (hb : Bel w W) : BdPost lo hi x p pb w (.returned (.int .i64 er)) W :=
  .inl ⟨h, er, he, rfl, grs_bel (grs_refl w [pb]) hb⟩
theorem bd_ok {lo hi : En} {x : AL} {p : List Rt} {pb : Nat} {w W : World} {r : Rt} {xs : List Value} (h : valE (padL x) p = some r) (hg : GrsOk w [pb] W) (hr : RowAt W pb 87 xs)
    (hx : xs = enC (if 0 < cA x p.length then lo else nearM lo r x.s (-1)) (if 0 < cA x p.length then nearM hi r x.s 1 else hi)) : BdPost lo hi x p pb w (.returned (.int .i64 0)) W :=
  .inr ⟨r, h, rfl, hg, by rw [← hx]; exact hr⟩
set_option maxRecDepth 100000 in
set_option maxHeartbeats 8000000 in
theorem rbounds_any (pb : Nat) (lo hi : En) (x : AL) (xv pv : Value) (p : List Rt) (w : World) (he : RowAt w pb 87 (enC lo hi)) (hlw : lo.at_.wf) (hhw : hi.at_.wf) (hx : IntsAt w w.heap.size xv x.a) (hxl : x.a.length ≤ 6) (hpl : p.length < x.a.length) (hxi : x.inr)
    (hp : RatsAt w w.heap.size pv p) (hpw : ∀ r, r ∈ p → r.wf) :
    Calls Try.prog 57 #[.pointer (some ⟨pb, 0, none⟩), .agg #[xv, .int .i64 x.b, .bool x.s], pv] w (BdPost lo hi x p pb w) := by
  have HE := Lib.hid he
  have HT := Lib.hid (fun W (hW : Bel w W) => rtotal_any x xv pv p W hxi (hx.keep hW.keeps hW.le) (by omega) (by omega) (hp.bel hW) hpw)
  have HV := Lib.hid (valE_pad (p := p) hxl hpl)
  have HTW := Lib.hid (totF_wf (x.a.zip p) ⟨0, 1⟩ ⟨i64_lit' (by decide) (by decide), i64_lit' (by decide) (by decide)⟩)
  have HI := Lib.hid hx
  have HP := Lib.hid hp
  have HBW : Hid ((⟨x.b, 1⟩ : Rt).wf) := Lib.hid (one_wf hxi.b)
  have HCW : Hid ((⟨cA x p.length, 1⟩ : Rt).wf) := Lib.hid (one_wf (hxi.at_ p.length))
  have HPO : Hid (∀ lo' hi' r W xs, valE (padL x) p = some r → GrsOk w [pb] W → RowAt W pb 87 xs → xs = enC (if 0 < cA x p.length then lo else nearM lo r x.s (-1)) (if 0 < cA x p.length then nearM hi r x.s 1 else hi) → lo' = lo → hi' = hi → BdPost lo hi x p pb w (.returned (.int .i64 0)) W) := Lib.hid (fun _ _ _ _ _ a b c d _ _ => bd_ok a b c d)
  obtain ⟨A, c, rfl, hc⟩ := hx.form
  obtain ⟨Ap, cp, rfl, hcp⟩ := hp.form
  clear he hx hp hpw hxi HPO
  obtain ⟨xa, xb, xs⟩ := x
  dsimp only at *
  change Hid ((totL xa p).1.wf) at HTW
  generalize hT : totL xa p = T at *
  clear hT
  obtain ⟨⟨tn, td⟩, te⟩ := T
  unfold rresV Rt.V at HT
  dsimp only at HT HV HTW
  go_enter Try.func57, Try.ntmps57
  go_upto_region 1 with (fail)
  generalize hW : World.alloc w _ = w1 at *
  have rx : RowAt w1 w.heap.size 25 [.slice A xa.length c, .int .i64 xb, .bool xs] := by rw [← hW]; exact RowAt.new _ _ _
  have hb1 : Bel w w1 := by rw [← hW]; exact Bel.refl.alloc _
  clear hW
  obtain ⟨px, hpx⟩ : ∃ q, q = w.heap.size := ⟨_, rfl⟩
  rw [← hpx] at rx ⊢
  have hpbx : pb < px := by have := HE.out.lt; omega
  have HPX : Hid (w.heap.size ≤ px) := Lib.hid (by omega)
  clear hpx
  have HB1 := Lib.hid hb1
  have HR1 := Lib.hid rx
  have x0 := rx.cell (i := 0) rfl
  have x1 := rx.cell (i := 1) rfl
  have x2 := rx.cell (i := 2) rfl
  have lx := rx.lt
  clear rx hb1
  go_wp2_with fail
  refine (HT.out _ HB1.out).mono ?_
  rintro e w2 ⟨rfl, hB⟩
  have HB2 := Lib.hid (HB1.out.trans hB)
  have HR2 := Lib.hid (HR1.out.bel hB)
  clear hB HT HB1 HR1 x0 x1 x2 lx
  go_upto_region 2 with (fail)
  generalize hW : World.alloc w2 _ = w3 at *
  have rq : RowAt w3 w2.heap.size 41 [.int .i64 tn, .int .i64 td] := by rw [← hW]; exact RowAt.new _ _ _
  have hb3 : Bel w2 w3 := by rw [← hW]; exact Bel.refl.alloc _
  clear hW
  obtain ⟨p7, hp7⟩ : ∃ q, q = w2.heap.size := ⟨_, rfl⟩
  rw [← hp7] at rq ⊢
  have hpx7 : px < p7 := by have := HR2.out.lt; omega
  have HP7 : Hid (w.heap.size ≤ p7) := Lib.hid (by have := HPX.out; omega)
  have HPN : Hid (pb ≠ p7 ∧ pb ≠ px) := Lib.hid (by omega)
  have HPN2 : Hid (px ≠ p7) := Lib.hid (by omega)
  clear hp7 hpbx hpx7
  have HB3 := Lib.hid (HB2.out.trans hb3)
  have HR3 := Lib.hid (HR2.out.bel hb3)
  have HQ3 := Lib.hid rq
  clear rq hb3 HB2 HR2
  by_cases hte : te = 0
  · subst hte
    have t0 : ((0 : Int) != 0) = false := rfl
    have HV1 := Lib.hid (HV.out.trans (if_neg (by simp)))
    have HSB := Lib.hid (fun W => rrsub_any ⟨xb, 1⟩ ⟨tn, td⟩ W HBW.out HTW.out)
    have HSW := Lib.hid (rsub_wf ⟨xb, 1⟩ ⟨tn, td⟩)
    clear HV
    generalize rsub ⟨xb, 1⟩ ⟨tn, td⟩ = S at *
    obtain ⟨⟨sn, sd⟩, se⟩ := S
    unfold rresV Rt.V at HSB
    dsimp only at HSB HV1 HSW
    have x0 := HR3.out.cell (i := 0) rfl
    have x1 := HR3.out.cell (i := 1) rfl
    have x2 := HR3.out.cell (i := 2) rfl
    have lx := HR3.out.lt
    have a0 := HQ3.out.cell (i := 0) rfl
    have a1 := HQ3.out.cell (i := 1) rfl
    have la := HQ3.out.lt
    go_wp2_with fail
    refine (HSB.out _).mono ?_
    rintro e w4 ⟨rfl, hB⟩
    have HB4 := Lib.hid (HB3.out.trans hB)
    have HR4 := Lib.hid (HR3.out.bel hB)
    have HQ4 := Lib.hid (HQ3.out.bel hB)
    clear hB HSB HB3 HR3 HQ3 x0 x1 x2 lx a0 a1 la
    have a0 := HQ4.out.cell (i := 0) rfl
    have a1 := HQ4.out.cell (i := 1) rfl
    have fa := fun q => HQ4.out.frozen q
    have la := HQ4.out.lt
    have HB5 := Lib.hid ((HB4.out.set (p := ⟨p7, 0, none⟩) HP7.out (.int .i64 sn)).set (p := ⟨p7, 1, none⟩) HP7.out (.int .i64 sd))
    have HR5 := Lib.hid ((HR4.out.far (a := ⟨p7, 0, none⟩) HPN2.out (.int .i64 sn)).far (a := ⟨p7, 1, none⟩) HPN2.out (.int .i64 sd))
    have HQ5 := Lib.hid ((HQ4.out.set 0 (.int .i64 sn)).set 1 (.int .i64 sd))
    go_upto_region 5 with (fail)
    clear HB4 HR4 HQ4 a0 a1 fa la
    generalize World.setCell (World.setCell w4 _ _) _ _ = W5 at *
    by_cases hse : se = 0
    · subst hse
      have HV2 := Lib.hid (HV1.out.trans (if_neg (by simp)))
      have HDV := Lib.hid (fun W => rrdiv_any ⟨sn, sd⟩ ⟨cA ⟨xa, xb, xs⟩ p.length, 1⟩ W HSW.out HCW.out)
      have HQW := Lib.hid (rquo_wf ⟨sn, sd⟩ ⟨cA ⟨xa, xb, xs⟩ p.length, 1⟩)
      have hcg : xa.getD p.length 0 = cA ⟨xa, xb, xs⟩ p.length := rfl
      obtain ⟨g, off, rfl, hg0, hcl⟩ := HI.out.at_ (by omega)
      have yc := (HB5.out.cells _ _ hg0).trans (hcl p.length hpl)
      have hg := Nat.lt_of_lt_of_le hg0 HB5.out.le
      have hrow1 : some px ≠ some p7 := by have := HPN2.out; intro e; injection e; omega
      have hrow2 : some g ≠ some p7 := by have := HP7.out; intro e; injection e; omega
      rw [hcg] at yc
      clear HV1 hcl hcg
      generalize rquo ⟨sn, sd⟩ ⟨cA ⟨xa, xb, xs⟩ p.length, 1⟩ = Q at *
      obtain ⟨⟨qn, qd⟩, qe⟩ := Q
      generalize hcc : cA ⟨xa, xb, xs⟩ p.length = cc at *
      unfold rresV Rt.V at HDV
      dsimp only at HDV HV2 HQW
      have x0 := HR5.out.cell (i := 0) rfl
      have x1 := HR5.out.cell (i := 1) rfl
      have x2 := HR5.out.cell (i := 2) rfl
      have lx := HR5.out.lt
      have a0 := HQ5.out.cell (i := 0) rfl
      have a1 := HQ5.out.cell (i := 1) rfl
      have la := HQ5.out.lt
      have hpi : (p.length : Int) < (xa.length : Int) := by omega
      go_upto_region 7 with (fail)
      clear a0 a1 la
      (refine wp_region_E 13 (some p7) (by kernel_rfl) ?_; refine anyE_takes [1, 2, 3, 4, 5, 6, 7] (fun _ _ _ _ _ h => h) ⟨⟨_, gro_drew (gro_refl _)⟩, rfl⟩ (by kernel_rfl) (by rfl) ?_; simp only [opsOf, List.filterMap_cons, List.filterMap_nil, List.getElem?_toArray, List.getElem?_cons_succ, List.getElem?_cons_zero, List.foldl_cons, List.foldl_nil]; (repeat (any_goals (first | go_big_quiet_step (fail) | quiet_step (fail)))); refine wpQuiet_nil ?_)
      have HB5d := Lib.hid HB5.out.drew
      have HR5d := Lib.hid HR5.out.drew
      have HQ5d := Lib.hid HQ5.out.drew
      have G0 : Hid (W5.grownBy W5.drew (some p7)) := Lib.hid (gro_drew (gro_refl _))
      clear x0 x1 x2 lx hg yc HB5 HR5 HQ5 hrow1 hrow2
      generalize W5.drew = W5d at *
      have a0 := HQ5d.out.cell (i := 0) rfl
      have a1 := HQ5d.out.cell (i := 1) rfl
      have la := HQ5d.out.lt
      (refine anyE_one 0 _ (by kernel_rfl) (by rfl) (fun K hK => ?_))
      rw [if_pos (by rfl)]
      go_simp
      refine hK _ _ (fun _ => ⟨⟨_, G0.out⟩, rfl⟩) ?_
      clear hK K a0 a1 la
      (refine anyE_one 8 _ (by kernel_rfl) (by rfl) (fun K hK => ?_))
      rw [if_pos (by rfl)]
      go_simp
      refine (HDV.out _).mono ?_
      rintro _ W6 ⟨rfl, hB⟩
      have G1 : Hid (W5.grownBy W6 (some p7)) := Lib.hid (G0.out.trans (gro_weak (gro_of_bel2 hB) _))
      refine hK _ _ (fun _ => ⟨⟨_, G1.out⟩, rfl⟩) ?_
      clear hK K HDV
      have HB6 := Lib.hid (HB5d.out.trans hB)
      have HR6 := Lib.hid (HR5d.out.bel hB)
      have HQ6 := Lib.hid (HQ5d.out.bel hB)
      clear hB HB5d HR5d HQ5d
      (refine anyE_takes [9, 10, 11] (fun _ _ _ _ _ h => h) ⟨⟨_, G1.out⟩, rfl⟩ (by kernel_rfl) (by rfl) ?_; simp only [opsOf, List.filterMap_cons, List.filterMap_nil, List.getElem?_toArray, List.getElem?_cons_succ, List.getElem?_cons_zero, List.foldl_cons, List.foldl_nil]; (repeat (any_goals (first | go_big_quiet_step (fail) | quiet_step (fail)))); refine wpQuiet_nil ?_)
      have a0 := HQ6.out.cell (i := 0) rfl
      have a1 := HQ6.out.cell (i := 1) rfl
      have fa := fun q => HQ6.out.frozen q
      have la := HQ6.out.lt
      have HB8 := Lib.hid ((HB6.out.set (p := ⟨p7, 0, none⟩) HP7.out (.int .i64 qn)).set (p := ⟨p7, 1, none⟩) HP7.out (.int .i64 qd))
      have HR8 := Lib.hid ((HR6.out.far (a := ⟨p7, 0, none⟩) HPN2.out (.int .i64 qn)).far (a := ⟨p7, 1, none⟩) HPN2.out (.int .i64 qd))
      have HQ8 := Lib.hid ((HQ6.out.set 0 (.int .i64 qn)).set 1 (.int .i64 qd))
      (refine anyE_one 12 _ (by kernel_rfl) (by rfl) (fun K hK => ?_))
      rw [if_pos (by rfl)]
      go_simp
      refine hK _ _ (fun _ => ⟨⟨_, gro_set (gro_set G1.out 0 _) 1 _⟩, rfl⟩) ?_
      clear hK K HB6 HR6 HQ6 a0 a1 fa la G0 G1
      generalize World.setCell (World.setCell W6 _ _) _ _ = W8 at *
      (refine anyE_tail 13 (by decide) (by rfl) (by kernel_rfl) ?_; simp only [List.drop_succ_cons, List.drop_zero])
      go_wp2
      refine NoPanic.normal ?_
      go_upto_region 8 with (fail)
      by_cases hqe : qe = 0
      · subst hqe
        have HV3 : Hid (valE (padL ⟨xa, xb, xs⟩) p = some ⟨qn, qd⟩) := Lib.hid (HV2.out.trans (if_neg (by simp)))
        have HI8 := Lib.hid (HI.out.keep HB8.out.keeps HB8.out.le)
        obtain ⟨g2, off2, eg, hg, hcl⟩ := HI8.out.at_ (by omega)
        injection eg with eg
        injection eg with eg1 eg2
        subst eg1 eg2
        have yc := hcl p.length hpl
        rw [show xa.getD p.length 0 = cA ⟨xa, xb, xs⟩ p.length from rfl, hcc] at yc
        have HE8 := Lib.hid (HE.out.bel HB8.out)
        have e0 := HE8.out.cell (i := 0) rfl
        have e1 := HE8.out.cell (i := 1) rfl
        have e2 := HE8.out.cell (i := 2) rfl
        have e3 := HE8.out.cell (i := 3) rfl
        have e4 := HE8.out.cell (i := 4) rfl
        have e5 := HE8.out.cell (i := 5) rfl
        have e6 := HE8.out.cell (i := 6) rfl
        have e7 := HE8.out.cell (i := 7) rfl
        have le := HE8.out.lt
        have a0 := HQ8.out.cell (i := 0) rfl
        have a1 := HQ8.out.cell (i := 1) rfl
        have la := HQ8.out.lt
        have x0 := HR8.out.cell (i := 0) rfl
        have x1 := HR8.out.cell (i := 1) rfl
        have x2 := HR8.out.cell (i := 2) rfl
        have lx := HR8.out.lt
        clear hcl HV2
        have HV2 := HV3
        clear HV3
        try dsimp only at e0 e1 e2 e3 e4 e5 e6 e7
        by_cases hpos : 0 < cc
        · have dp : decide (cc > 0) = true := decide_eq_true hpos
          have dp2 : decide (0 < cc) = true := decide_eq_true hpos
          subst hcc
          have HPOS := Lib.hid hpos
          clear hpos
          have HCP := Lib.hid (fun W => rrcmp_any ⟨qn, qd⟩ hi.at_ W HQW.out hhw)
          have HNK : Hid (nearK hi ⟨qn, qd⟩ 1 = if hi.is then (rcmp ⟨qn, qd⟩ hi.at_).1 * 1 else -1) := Lib.hid rfl
          have HNM : Hid (nearM hi ⟨qn, qd⟩ xs 1 = if nearK hi ⟨qn, qd⟩ 1 < 0 then ⟨qn, qd, true, xs⟩ else if nearK hi ⟨qn, qd⟩ 1 = 0 then { hi with op := hi.op || xs } else hi) := Lib.hid rfl
          have HCR := Lib.hid (rcmp_r ⟨qn, qd⟩ hi.at_)
          generalize rcmp ⟨qn, qd⟩ hi.at_ = C at *
          unfold Rt.V intV En.at_ at HCP
          obtain ⟨ck, ce⟩ := C
          dsimp only at HCP HNK HCR
          go_upto_region 11 with (fail)
          (refine wp_region_ext (wb := W8) (by (repeat (first | exact Ext.bel _ | exact Bel.refl | refine Bel.alloc ?_ _ | refine Bel.drew ?_ | refine Bel.drewN ?_ _))) (by kernel_rfl) (by kernel_rfl) ?_; (repeat (any_goals (first | go_big_quiet_step ((go_at_call 22; with_reducible exact ext_call (HCP.out _))) | quiet_step ((go_at_call 22; with_reducible exact ext_call (HCP.out _))) | (refine wpQuiet_step (fun K hK => ?_); go_simp; split <;> (refine hK _ ?_; clear hK K))))); all_goals (refine wpQuiet_nil ?_; intro _ hw'; obtain ⟨y, hw''⟩ := hw'; subst hw''))
          have HB9 := Lib.hid (HB8.out.trans y.bel)
          have HE9 := Lib.hid (HE8.out.bel y.bel)
          have HR9 := Lib.hid (HR8.out.bel y.bel)
          have HQ9 := Lib.hid (HQ8.out.bel y.bel)
          clear e0 e1 e2 e3 e4 e5 e6 e7 le a0 a1 la x0 x1 x2 lx hg yc HCP HB8 HE8 HR8 HQ8 HI8
          generalize y.w = W9 at *
          have hqn : pb ≠ p7 := HPN.out.1
          have hxn : pb ≠ px := HPN.out.2
          have hqn' : p7 ≠ pb := fun e => hqn e.symm
          have hxn' : px ≠ pb := fun e => hxn e.symm
          cases his : hi.is
          · have HNT : Hid (nearM hi ⟨qn, qd⟩ xs 1 = ⟨qn, qd, true, xs⟩) := Lib.hid (by rw [HNM.out, HNK.out, his]; rfl)
            clear HNM HNK HCR
            have e5' := HE9.out.cell (i := 5) rfl
            try dsimp only at e5'
            rw [his] at e5'
            have l0 := HE9.out.lt
            have e0 := HE9.out.cell (i := 0) rfl
            have e1 := HE9.out.cell (i := 1) rfl
            have e2 := HE9.out.cell (i := 2) rfl
            have e3 := HE9.out.cell (i := 3) rfl
            have e4 := HE9.out.cell (i := 4) rfl
            have e5 := HE9.out.cell (i := 5) rfl
            have e6 := HE9.out.cell (i := 6) rfl
            have e7 := HE9.out.cell (i := 7) rfl
            have fz := fun q => HE9.out.frozen q
            have le := HE9.out.lt
            try dsimp only at e0 e1 e2 e3 e4 e5 e6 e7
            rw [his] at e5
            have a0 := HQ9.out.cell (i := 0) rfl
            have a1 := HQ9.out.cell (i := 1) rfl
            have la := HQ9.out.lt
            have x2 := HR9.out.cell (i := 2) rfl
            have lx := HR9.out.lt
            have HRN := Lib.hid ((((HE9.out.set 2 (.int .i64 qn)).set 3 (.int .i64 qd)).set 5 (.bool true)).set 7 (.bool xs))
            have HGN := Lib.hid (grs_set (grs_set (grs_set (grs_set (grs_bel (grs_refl w [pb]) HB9.out) pb (by simp) 2 (.int .i64 qn)) pb (by simp) 3 (.int .i64 qd)) pb (by simp) 5 (.bool true)) pb (by simp) 7 (.bool xs))
            go_upto_region 13 with (fail)
            go_region
            all_goals
              generalize World.setCell (World.setCell (World.setCell (World.setCell _ _ _) _ _) _ _) _ _ = WN at *
              go_wp2
              go_ret
              exact bd_ok HV2.out (grs_bel HGN.out Bel.refl.drew) HRN.out.drew (by rw [if_pos HPOS.out, if_pos HPOS.out, HNT.out]; rfl)
          · have hk : nearK hi ⟨qn, qd⟩ 1 = ck * 1 := by rw [HNK.out, his]; rfl
            rw [hk] at HNM
            clear HNK hk
            have e5' := HE9.out.cell (i := 5) rfl
            try dsimp only at e5'
            rw [his] at e5'
            have l0 := HE9.out.lt
            rcases HCR.out with rfl | rfl | rfl
            · have d1 : decide ((-1 : Int) < 0) = true := rfl
              have d2 : ((-1 : Int) == 0) = false := rfl
              have HNT : Hid (nearM hi ⟨qn, qd⟩ xs 1 = ⟨qn, qd, true, xs⟩) := Lib.hid (by rw [HNM.out]; rfl)
              clear HNM HCR
              have e0 := HE9.out.cell (i := 0) rfl
              have e1 := HE9.out.cell (i := 1) rfl
              have e2 := HE9.out.cell (i := 2) rfl
              have e3 := HE9.out.cell (i := 3) rfl
              have e4 := HE9.out.cell (i := 4) rfl
              have e5 := HE9.out.cell (i := 5) rfl
              have e6 := HE9.out.cell (i := 6) rfl
              have e7 := HE9.out.cell (i := 7) rfl
              have fz := fun q => HE9.out.frozen q
              have le := HE9.out.lt
              try dsimp only at e0 e1 e2 e3 e4 e5 e6 e7
              rw [his] at e5
              have a0 := HQ9.out.cell (i := 0) rfl
              have a1 := HQ9.out.cell (i := 1) rfl
              have la := HQ9.out.lt
              have x2 := HR9.out.cell (i := 2) rfl
              have lx := HR9.out.lt
              have HRN := Lib.hid ((((HE9.out.set 2 (.int .i64 qn)).set 3 (.int .i64 qd)).set 5 (.bool true)).set 7 (.bool xs))
              have HGN := Lib.hid (grs_set (grs_set (grs_set (grs_set (grs_bel (grs_refl w [pb]) HB9.out) pb (by simp) 2 (.int .i64 qn)) pb (by simp) 3 (.int .i64 qd)) pb (by simp) 5 (.bool true)) pb (by simp) 7 (.bool xs))
              go_upto_region 13 with (fail)
              go_region
              all_goals
                generalize World.setCell (World.setCell (World.setCell (World.setCell _ _ _) _ _) _ _) _ _ = WN at *
                go_wp2
                go_ret
                exact bd_ok HV2.out (grs_bel HGN.out Bel.refl.drew) HRN.out.drew (by rw [if_pos HPOS.out, if_pos HPOS.out, HNT.out]; rfl)
            · have d1 : decide ((0 : Int) < 0) = false := rfl
              have d2 : ((0 : Int) == 0) = true := rfl
              have HNT : Hid (nearM hi ⟨qn, qd⟩ xs 1 = { hi with op := hi.op || xs }) := Lib.hid (by rw [HNM.out]; rfl)
              clear HNM HCR
              have e0 := HE9.out.cell (i := 0) rfl
              have e1 := HE9.out.cell (i := 1) rfl
              have e2 := HE9.out.cell (i := 2) rfl
              have e3 := HE9.out.cell (i := 3) rfl
              have e4 := HE9.out.cell (i := 4) rfl
              have e5 := HE9.out.cell (i := 5) rfl
              have e6 := HE9.out.cell (i := 6) rfl
              have e7 := HE9.out.cell (i := 7) rfl
              have fz := fun q => HE9.out.frozen q
              have le := HE9.out.lt
              try dsimp only at e0 e1 e2 e3 e4 e5 e6 e7
              rw [his] at e5
              have x2 := HR9.out.cell (i := 2) rfl
              have lx := HR9.out.lt
              have HRN := Lib.hid (HE9.out.set 7 (.bool (hi.op || xs)))
              have HGN := Lib.hid (grs_set (grs_bel (grs_refl w [pb]) HB9.out) pb (by simp) 7 (.bool (hi.op || xs)))
              have HFN : Hid (enC lo { hi with op := hi.op || xs } = (enC lo hi).set 7 (.bool (hi.op || xs))) := Lib.hid rfl
              cases ho : hi.op
              all_goals
                rw [ho] at e7 HRN HGN HFN HNT
                simp only [Bool.true_or, Bool.false_or] at HRN HGN HFN HNT
                go_wp2
                generalize World.setCell _ _ _ = WN at *
                go_ret
                exact bd_ok HV2.out HGN.out HRN.out (by rw [if_pos HPOS.out, if_pos HPOS.out, HNT.out, ← HFN.out])
            · have d1 : decide ((1 : Int) < 0) = false := rfl
              have d2 : ((1 : Int) == 0) = false := rfl
              have HNT : Hid (nearM hi ⟨qn, qd⟩ xs 1 = hi) := Lib.hid (by rw [HNM.out]; rfl)
              clear HNM HCR
              go_wp2
              go_ret
              exact bd_ok HV2.out (grs_bel (grs_refl w [pb]) HB9.out) HE9.out (by rw [if_pos HPOS.out, if_pos HPOS.out, HNT.out])
        · have dp : decide (cc > 0) = false := decide_eq_false hpos
          have dp2 : decide (0 < cc) = false := decide_eq_false hpos
          subst hcc
          have HPOS := Lib.hid hpos
          clear hpos
          have HCP := Lib.hid (fun W => rrcmp_any ⟨qn, qd⟩ lo.at_ W HQW.out hlw)
          have HNK : Hid (nearK lo ⟨qn, qd⟩ (-1) = if lo.is then (rcmp ⟨qn, qd⟩ lo.at_).1 * (-1) else -1) := Lib.hid rfl
          have HNM : Hid (nearM lo ⟨qn, qd⟩ xs (-1) = if nearK lo ⟨qn, qd⟩ (-1) < 0 then ⟨qn, qd, true, xs⟩ else if nearK lo ⟨qn, qd⟩ (-1) = 0 then { lo with op := lo.op || xs } else lo) := Lib.hid rfl
          have HCR := Lib.hid (rcmp_r ⟨qn, qd⟩ lo.at_)
          generalize rcmp ⟨qn, qd⟩ lo.at_ = C at *
          unfold Rt.V intV En.at_ at HCP
          obtain ⟨ck, ce⟩ := C
          dsimp only at HCP HNK HCR
          go_upto_region 17 with (fail)
          (refine wp_region_ext (wb := W8) (by (repeat (first | exact Ext.bel _ | exact Bel.refl | refine Bel.alloc ?_ _ | refine Bel.drew ?_ | refine Bel.drewN ?_ _))) (by kernel_rfl) (by kernel_rfl) ?_; (repeat (any_goals (first | go_big_quiet_step ((go_at_call 22; with_reducible exact ext_call (HCP.out _))) | quiet_step ((go_at_call 22; with_reducible exact ext_call (HCP.out _))) | (refine wpQuiet_step (fun K hK => ?_); go_simp; split <;> (refine hK _ ?_; clear hK K))))); all_goals (refine wpQuiet_nil ?_; intro _ hw'; obtain ⟨y, hw''⟩ := hw'; subst hw''))
          have HB9 := Lib.hid (HB8.out.trans y.bel)
          have HE9 := Lib.hid (HE8.out.bel y.bel)
          have HR9 := Lib.hid (HR8.out.bel y.bel)
          have HQ9 := Lib.hid (HQ8.out.bel y.bel)
          clear e0 e1 e2 e3 e4 e5 e6 e7 le a0 a1 la x0 x1 x2 lx hg yc HCP HB8 HE8 HR8 HQ8 HI8
          generalize y.w = W9 at *
          have hqn : pb ≠ p7 := HPN.out.1
          have hxn : pb ≠ px := HPN.out.2
          have hqn' : p7 ≠ pb := fun e => hqn e.symm
          have hxn' : px ≠ pb := fun e => hxn e.symm
          cases his : lo.is
          · have HNT : Hid (nearM lo ⟨qn, qd⟩ xs (-1) = ⟨qn, qd, true, xs⟩) := Lib.hid (by rw [HNM.out, HNK.out, his]; rfl)
            clear HNM HNK HCR
            have e4' := HE9.out.cell (i := 4) rfl
            try dsimp only at e4'
            rw [his] at e4'
            have l0 := HE9.out.lt
            have e0 := HE9.out.cell (i := 0) rfl
            have e1 := HE9.out.cell (i := 1) rfl
            have e2 := HE9.out.cell (i := 2) rfl
            have e3 := HE9.out.cell (i := 3) rfl
            have e4 := HE9.out.cell (i := 4) rfl
            have e5 := HE9.out.cell (i := 5) rfl
            have e6 := HE9.out.cell (i := 6) rfl
            have e7 := HE9.out.cell (i := 7) rfl
            have fz := fun q => HE9.out.frozen q
            have le := HE9.out.lt
            try dsimp only at e0 e1 e2 e3 e4 e5 e6 e7
            rw [his] at e4
            have a0 := HQ9.out.cell (i := 0) rfl
            have a1 := HQ9.out.cell (i := 1) rfl
            have la := HQ9.out.lt
            have x2 := HR9.out.cell (i := 2) rfl
            have lx := HR9.out.lt
            have HRN := Lib.hid ((((HE9.out.set 0 (.int .i64 qn)).set 1 (.int .i64 qd)).set 4 (.bool true)).set 6 (.bool xs))
            have HGN := Lib.hid (grs_set (grs_set (grs_set (grs_set (grs_bel (grs_refl w [pb]) HB9.out) pb (by simp) 0 (.int .i64 qn)) pb (by simp) 1 (.int .i64 qd)) pb (by simp) 4 (.bool true)) pb (by simp) 6 (.bool xs))
            go_upto_region 19 with (fail)
            go_region
            all_goals
              generalize World.setCell (World.setCell (World.setCell (World.setCell _ _ _) _ _) _ _) _ _ = WN at *
              go_wp2
              go_ret
              exact bd_ok HV2.out (grs_bel HGN.out Bel.refl.drew) HRN.out.drew (by rw [if_neg (Int.not_lt.2 HPOS.out), if_neg (Int.not_lt.2 HPOS.out), HNT.out]; rfl)
          · have hk : nearK lo ⟨qn, qd⟩ (-1) = ck * (-1) := by rw [HNK.out, his]; rfl
            rw [hk] at HNM
            clear HNK hk
            have e4' := HE9.out.cell (i := 4) rfl
            try dsimp only at e4'
            rw [his] at e4'
            have l0 := HE9.out.lt
            rcases HCR.out with rfl | rfl | rfl
            · have d1 : decide ((-1 : Int) > 0) = false := rfl
              have d1' : decide ((0 : Int) < -1) = false := rfl
              have d2 : ((-1 : Int) == 0) = false := rfl
              have HNT : Hid (nearM lo ⟨qn, qd⟩ xs (-1) = lo) := Lib.hid (by rw [HNM.out]; rfl)
              clear HNM HCR
              go_wp2
              go_ret
              exact bd_ok HV2.out (grs_bel (grs_refl w [pb]) HB9.out) HE9.out (by rw [if_neg (Int.not_lt.2 HPOS.out), if_neg (Int.not_lt.2 HPOS.out), HNT.out])
            · have d1 : decide ((0 : Int) > 0) = false := rfl
              have d1' : decide ((0 : Int) < 0) = false := rfl
              have d2 : ((0 : Int) == 0) = true := rfl
              have HNT : Hid (nearM lo ⟨qn, qd⟩ xs (-1) = { lo with op := lo.op || xs }) := Lib.hid (by rw [HNM.out]; rfl)
              clear HNM HCR
              have e0 := HE9.out.cell (i := 0) rfl
              have e1 := HE9.out.cell (i := 1) rfl
              have e2 := HE9.out.cell (i := 2) rfl
              have e3 := HE9.out.cell (i := 3) rfl
              have e4 := HE9.out.cell (i := 4) rfl
              have e5 := HE9.out.cell (i := 5) rfl
              have e6 := HE9.out.cell (i := 6) rfl
              have e7 := HE9.out.cell (i := 7) rfl
              have fz := fun q => HE9.out.frozen q
              have le := HE9.out.lt
              try dsimp only at e0 e1 e2 e3 e4 e5 e6 e7
              rw [his] at e4
              have x2 := HR9.out.cell (i := 2) rfl
              have lx := HR9.out.lt
              have HRN := Lib.hid (HE9.out.set 6 (.bool (lo.op || xs)))
              have HGN := Lib.hid (grs_set (grs_bel (grs_refl w [pb]) HB9.out) pb (by simp) 6 (.bool (lo.op || xs)))
              have HFN : Hid (enC { lo with op := lo.op || xs } hi = (enC lo hi).set 6 (.bool (lo.op || xs))) := Lib.hid rfl
              cases ho : lo.op
              all_goals
                rw [ho] at e6 HRN HGN HFN HNT
                simp only [Bool.true_or, Bool.false_or] at HRN HGN HFN HNT
                go_wp2
                generalize World.setCell _ _ _ = WN at *
                go_ret
                exact bd_ok HV2.out HGN.out HRN.out (by rw [if_neg (Int.not_lt.2 HPOS.out), if_neg (Int.not_lt.2 HPOS.out), HNT.out, ← HFN.out])
            · have d1 : decide ((1 : Int) > 0) = true := rfl
              have d1' : decide ((0 : Int) < 1) = true := rfl
              have d2 : ((1 : Int) == 0) = false := rfl
              have HNT : Hid (nearM lo ⟨qn, qd⟩ xs (-1) = ⟨qn, qd, true, xs⟩) := Lib.hid (by rw [HNM.out]; rfl)
              clear HNM HCR
              have e0 := HE9.out.cell (i := 0) rfl
              have e1 := HE9.out.cell (i := 1) rfl
              have e2 := HE9.out.cell (i := 2) rfl
              have e3 := HE9.out.cell (i := 3) rfl
              have e4 := HE9.out.cell (i := 4) rfl
              have e5 := HE9.out.cell (i := 5) rfl
              have e6 := HE9.out.cell (i := 6) rfl
              have e7 := HE9.out.cell (i := 7) rfl
              have fz := fun q => HE9.out.frozen q
              have le := HE9.out.lt
              try dsimp only at e0 e1 e2 e3 e4 e5 e6 e7
              rw [his] at e4
              have a0 := HQ9.out.cell (i := 0) rfl
              have a1 := HQ9.out.cell (i := 1) rfl
              have la := HQ9.out.lt
              have x2 := HR9.out.cell (i := 2) rfl
              have lx := HR9.out.lt
              have HRN := Lib.hid ((((HE9.out.set 0 (.int .i64 qn)).set 1 (.int .i64 qd)).set 4 (.bool true)).set 6 (.bool xs))
              have HGN := Lib.hid (grs_set (grs_set (grs_set (grs_set (grs_bel (grs_refl w [pb]) HB9.out) pb (by simp) 0 (.int .i64 qn)) pb (by simp) 1 (.int .i64 qd)) pb (by simp) 4 (.bool true)) pb (by simp) 6 (.bool xs))
              go_upto_region 19 with (fail)
              go_region
              all_goals
                generalize World.setCell (World.setCell (World.setCell (World.setCell _ _ _) _ _) _ _) _ _ = WN at *
                go_wp2
                go_ret
                exact bd_ok HV2.out (grs_bel HGN.out Bel.refl.drew) HRN.out.drew (by rw [if_neg (Int.not_lt.2 HPOS.out), if_neg (Int.not_lt.2 HPOS.out), HNT.out]; rfl)
      · have t1 : (qe != 0) = true := by simp [hqe]
        have HV3 := Lib.hid (HV2.out.trans (if_pos hqe))
        have HNE := Lib.hid hqe
        clear hqe HV2
        go_wp2
        go_ret
        exact bd_err HV3.out HNE.out HB8.out
    · have t1 : (se != 0) = true := by simp [hse]
      have HV3 := Lib.hid (HV1.out.trans (if_pos hse))
      have HNE := Lib.hid hse
      clear hse HV1
      go_wp2
      go_ret
      exact bd_err HV3.out HNE.out HB5.out
  · have t0 : (te != 0) = true := by simp [hte]
    have HV3 := Lib.hid (HV.out.trans (if_pos hte))
    have HNE := Lib.hid hte
    clear hte HV
    go_wp2
    go_ret
    exact bd_err HV3.out HNE.out HB3.out
end Go.Proofs.Ytalphoebmefgoaa
