/- ExecutivePlays: the walk. -/
import Derived.Test.YtbilfpoghohddaaZYrtick
import Derived.Test.YtbilfpoghohddaaZYrnew
import Derived.Test.YtbilfpoghohddaaZXsh
import Derived.Test.YtbilfpoghohddaaG15
import Derived.Test.YtbilfpoghohddaaG6
import Derived.Deep.CutRange
namespace Go.Proofs.Ytbilfpoghohddaa
open Go.RowKit
/-- lists of numbers -/
def NdsAt (w : World) (B : Nat) (v : Value) (nss : List (List Int)) : Prop :=
  ∃ A c, v = .slice A nss.length c ∧ nss.length ≤ c ∧ (0 < nss.length → ∃ b off, A = some ⟨b, off, none⟩ ∧ b < B ∧ ∀ i, i < nss.length → ∃ u, w.cell? ⟨b, off + i, none⟩ = some u ∧ IntsAt w B u (nss.getD i []))
theorem ownsRow_grs {w1 w2 : World} {rs : List Nat} {base n size : Nat} {e : TypeId} {v : Value} {ys : List Value} (ho : w1.ownsRow base e size v n ys) (hb : GrsOk w1 rs w2) (hv : ∀ k, v.ownBlock = some k → k ∉ rs) : w2.ownsRow base e size v n ys := by
  refine ⟨ho.1, ?_⟩
  rcases ho.2 with h | ⟨g, cap, cur, h1, h2, h3, h4⟩
  · exact .inl h
  · exact .inr ⟨g, cap, cur, h1, h2, (hb.block g (Blk1.lt h3) (hv g (by rw [h1]; rfl))).trans h3, h4⟩
/-- both executives -/
structure PlAt (ws w : World) (N be br : Nat) (lv tv v xv v1 v2 v3 : Value) (l : List Tsk) (xs : List Int) (st : ExS) : Prop where
  e : ExAt ws w be lv tv l xs st
  x : RxAt N ws w br v xv v1 v2 v3 l xs st
  beN : be < N
  lN : ∀ k, lv.ownBlock = some k → k < N
  tN : ∀ k, tv.ownBlock = some k → k < N
section
variable {ws w w' : World} {N be br : Nat} {lv tv v xv v1 v2 v3 : Value} {l : List Tsk} {xs : List Int} {st st' : ExS}
theorem PlAt.bel (h : PlAt ws w N be br lv tv v xv v1 v2 v3 l xs st) (hb : Bel w w') : PlAt ws w' N be br lv tv v xv v1 v2 v3 l xs st := ⟨h.e.bel hb, h.x.bel hb, h.beN, h.lN, h.tN⟩
theorem ExAt.grs (h : ExAt ws w be lv tv l xs st) {rs : List Nat} (g : GrsOk w rs w') (hr : ∀ k ∈ rs, N ≤ k) (h0 : ws.heap.size ≤ N) (h1 : be < N) (h2 : ∀ k, lv.ownBlock = some k → k < N) (h3 : ∀ k, tv.ownBlock = some k → k < N) : ExAt ws w' be lv tv l xs st :=
  ⟨⟨g.os.trans h.bl.os, g.tape.trans h.bl.tape, g.output.trans h.bl.output, Nat.le_trans h.bl.size g.size, fun k hk => (g.block k (Nat.lt_of_lt_of_le hk h.bl.size) (fun hm => by have := hr k hm; omega)).trans (h.bl.block k hk)⟩, h.be_,
    let ⟨sv, a, b⟩ := h.own; ⟨sv, a, ownsRow_grs b g (fun k e hm => by have := hr k hm; have := h2 k e; omega)⟩, ownsRow_grs h.ox g (fun k e hm => by have := hr k hm; have := h3 k e; omega), h.row.block (g.block be h.row.lt (fun hm => by have := hr be hm; omega))⟩
end
theorem start_done {now : Int} : ∀ (is : List Nat) (ns : List Int) (p : List JobX × List Don), (startX now is ns p).2.length ≤ p.2.length + is.length
  | [], _, p => by simp [startX]
  | _ :: _, [], p => by simp [startX]
  | i :: is, n :: ns, p => by
    unfold startX
    refine Nat.le_trans (start_done is ns _) ?_
    dsimp only
    split
    · simp only [List.length_append, List.length_cons, List.length_nil]; omega
    · simp only [List.length_cons]; omega
theorem tick_done_len (l : List Tsk) (xs : List Int) (st : ExS) (ns : List Int) : (tickX l xs st ns).done.length ≤ l.length + 1 := by
  unfold tickX
  split
  · dsimp only
    have h1 := start_done (now := st.now) (relL st.now 0 l) ns (st.js, [])
    have h2 := relL_len st.now l 0
    generalize startX st.now (relL st.now 0 l) ns (st.js, []) = p at *
    have h3 : (runX st.now (tickK xs st.now) p).2.2.length ≤ p.2.length + 1 := by
      unfold runX
      split
      · simp
      · dsimp only
        split
        · simp
        · simp
    simp at h1
    omega
  · simp
theorem tick_now (l : List Tsk) (xs : List Int) (st : ExS) (ns : List Int) : (tickX l xs st ns).st.now ≤ st.now + 1 := by
  unfold tickX
  split
  · exact Int.le_refl _
  · dsimp only; omega
theorem gro_bn {w w' w'' : World} (h : w.grownBy w' none) (hb : Bel w' w'') : w.grownBy w'' none := gro_bel2 h hb
set_option maxRecDepth 100000 in
set_option maxHeartbeats 16000000 in
theorem plays_any (v xv nv : Value) (l : List Tsk) (xs : List Int) (nss : List (List Int)) (w : World) (h : TsksAt w w.heap.size v l) (hl : l.length ≤ 9223372036854775807)
    (hs : ∀ i, i < l.length → (tskAt l i).secs.length ≤ 9223372036854775807 ∧ (tskAt l i).name.size ≤ 9223372036854775807) (hwf : ∀ i, i < l.length → (tskAt l i).wf) (hx : IntsAt w w.heap.size xv xs) (hn : NdsAt w w.heap.size nv nss) (hnl : ∀ ns ∈ nss, ns.length ≤ 9223372036854775807) :
    Calls Try.prog 3 #[v, .agg #[xv], nv] w fun e w' => e = .returned (.bool true) ∧ Bel w w' := by
  have HS := Lib.hid hs
  have HW := Lib.hid hwf
  have HT := Lib.hid h
  have HX := Lib.hid hx
  obtain ⟨A, c, rfl, _⟩ := h.form
  obtain ⟨Ax, cx, rfl, _⟩ := hx.form
  obtain ⟨An, cn, rfl, _, hn⟩ := hn
  have HNS := Lib.hid hn
  have HNL := Lib.hid hnl
  clear h hs hwf hx hn hnl
  go_enter Try.func3, Try.ntmps3
  go_wp2_with fail
  generalize hW : World.alloc w _ = w1 at *
  have hB : Bel w w1 := by rw [← hW]; exact Bel.refl.alloc _
  have r4 : RowAt w1 w.heap.size 25 [.slice Ax xs.length cx] := by rw [← hW]; exact RowAt.new _ _ _
  clear hW
  have HT1 := Lib.hid (HT.out.keep hB.keeps hB.le)
  have HX1 := Lib.hid (HX.out.keep hB.keeps hB.le)
  have HB1 := Lib.hid hB
  have HR1 := Lib.hid r4
  clear hB r4 HT HX
  obtain ⟨n4, hn4⟩ : ∃ n, n = w.heap.size := ⟨_, rfl⟩
  rw [← hn4] at HR1 ⊢
  clear hn4
  refine (shown38_any _).mono ?_
  rintro e w2 ⟨rfl, hB⟩
  have HT2 := Lib.hid (HT1.out.keep hB.keeps hB.le)
  have HX2 := Lib.hid (HX1.out.keep hB.keeps hB.le)
  have HB2 := Lib.hid (HB1.out.trans hB)
  have HR2 := Lib.hid (HR1.out.bel hB)
  clear hB HT1 HX1 HB1 HR1
  go_wp2_with fail
  refine (beyond_any _ l w2 HT2.out HS.out hl).mono ?_
  rintro e w2' ⟨rfl, hw⟩
  obtain rfl : w2' = w2 := hw
  cases hbe : beyond l
  case true =>
    go_wp2
    go_ret
    exact ⟨rfl, HB2.out⟩
  have HZ := Lib.hid (sized_of hbe HW.out)
  clear hbe
  have x0 := HR2.out.cell (i := 0) rfl
  have x1 := HR2.out.lt
  by_cases hlen : 2000 < xs.length
  · have q1 : decide (2000 < xs.length) = true := by simpa using hlen
    have q2 : decide ((2000 : Int) < (xs.length : Int)) = true := by simp; omega
    go_wp2
    go_ret
    exact ⟨rfl, HB2.out⟩
  have q1 : decide (2000 < xs.length) = false := by simpa using hlen
  have q2 : decide ((2000 : Int) < (xs.length : Int)) = false := by simp; omega
  have HLX : Hid (xs.length ≤ 2000) := Lib.hid (by omega)
  clear hlen
  by_cases hln : 200 < nss.length
  · have q3 : decide (200 < nss.length) = true := by simpa using hln
    have q4 : decide ((200 : Int) < (nss.length : Int)) = true := by simp; omega
    go_wp2
    go_ret
    exact ⟨rfl, HB2.out⟩
  have q3 : decide (200 < nss.length) = false := by simpa using hln
  have q4 : decide ((200 : Int) < (nss.length : Int)) = false := by simp; omega
  have HLN : Hid (nss.length ≤ 200) := Lib.hid (by omega)
  clear hln
  go_wp2_with fail
  refine (new_any _ _ l xs w2' w2' HT2.out HX2.out Bel.refl (by have := HLX.out; omega) HZ.out).mono ?_
  rintro e w3 hN
  rcases hN with ⟨hc, rfl, hB⟩ | ⟨hck, be, le, te, rfl, hE, hbE, hB⟩
  · have HC := Lib.hid hc
    have HB3 := Lib.hid hB
    have HR3 := Lib.hid (HR2.out.bel hB)
    clear hc hB x0 x1
    have x0 := HR3.out.cell (i := 0) rfl
    have x1 := HR3.out.lt
    clear q1 q2 q3 q4
    go_wp2_with fail
    refine (rnew_any _ _ l xs w2' w3 HT2.out HX2.out HB3.out (by have := HLX.out; omega) HZ.out).mono ?_
    rintro e w4 hN
    rcases hN with ⟨hc, rfl, hB⟩ | ⟨hck, _⟩
    · have HB4 := Lib.hid (HB2.out.trans (HB3.out.trans hB))
      have q1 : (chkT l xs == 0) = false := by simpa using hc
      have q2 : (chkT l xs != 0) = true := by simpa using hc
      generalize chkT l xs = ck at *
      clear hc hB HC
      go_wp2
      go_ret
      exact ⟨rfl, HB4.out⟩
    · exact absurd hck HC.out
  have HCK := Lib.hid hck
  have HB3 := Lib.hid hB
  have HR3 := Lib.hid (HR2.out.bel hB)
  have HE3 := Lib.hid hE
  clear hck hB hE x0 x1 q1 q2 q3 q4 hbE
  have x0 := HR3.out.cell (i := 0) rfl
  have x1 := HR3.out.lt
  go_wp2_with fail
  refine (rnew_any _ _ l xs w2' w3 HT2.out HX2.out HB3.out (by have := HLX.out; omega) HZ.out).mono ?_
  rintro e w4 hN
  rcases hN with ⟨hc, _⟩ | ⟨_, br, v1, v2, v3, rfl, hX, hB⟩
  · exact absurd HCK.out hc
  have HP : Hid (PlAt w2' w4 w3.heap.size be br le te (.slice A l.length c) (.slice Ax xs.length cx) v1 v2 v3 l xs (ex0 l)) := Lib.hid
    ⟨HE3.out.bel hB, hX, HE3.out.lt, (let ⟨_, _, b⟩ := HE3.out.own; fun k e => (b.lt k e).2), fun k e => (HE3.out.ox.lt k e).2⟩
  have HN3 : Hid (w2'.heap.size ≤ w3.heap.size) := Lib.hid HB3.out.le
  clear hX hB HE3 HR3 HB3 x0 x1
  generalize w3.heap.size = N at *
  obtain ⟨z4, rfl⟩ := ext_of HP.out.e.bl
  have HOK0 := Lib.hid (ex0_ok HCK.out)
  have HND : Hid (∀ i, i < nss.length → ∃ b off u, An = some ⟨b, off, none⟩ ∧ b < w2'.heap.size ∧ w2'.cell? ⟨b, off + i, none⟩ = some u ∧ IntsAt w2' w2'.heap.size u (nss.getD i []) ∧ (nss.getD i []).length ≤ 9223372036854775807) := Lib.hid (fun i hi => by
    obtain ⟨b, off, e, hb, hc⟩ := HNS.out (by omega)
    obtain ⟨u, h1, h2⟩ := hc i hi
    exact ⟨b, off, u, e, Nat.lt_of_lt_of_le hb HB2.out.le, (HB2.out.cells _ _ hb).trans h1, h2.keep HB2.out.keeps HB2.out.le, HNL.out _ (by simp [List.getD, hi])⟩)
  clear HNS HNL HW HS HT2
  go_wp2
  go_loopw [11] (fun s11 wq => ∃ (i : Nat) (z : Ext w2') (st : ExS), i ≤ nss.length ∧ s11 = .int .i64 i ∧ wq = z.w ∧ PlAt w2' z.w N be br le te (.slice A l.length c) (.slice Ax xs.length cx) v1 v2 v3 l xs st ∧ ExOk l xs st ∧ st.now ≤ i) (fun s11 _ => nss.length - (intOf s11).toNat)
  case atStart => exact ⟨0, z4, ex0 l, Nat.zero_le _, rfl, rfl, HP.out, HOK0.out, Int.le_refl _⟩
  case round =>
    clear HP HOK0 z4
    obtain ⟨i, z, st, hi, rfl, rfl, hP, hok, hnow⟩ := hrel
    have HP := Lib.hid hP
    have HOK := Lib.hid hok
    clear hP hok
    have hln := HLN.out
    have hx1 := HOK.out.x1
    by_cases hlt : i < nss.length
    · have hdl : decide ((i : Int) < (nss.length : Int)) = true := by simp; omega
      have hil : (i : Int) < (nss.length : Int) := by omega
      obtain ⟨bn, on, u, rfl, hbn, hcn, hu, hul⟩ := HND.out i hlt
      have HU := Lib.hid hu
      obtain ⟨Au, cu, rfl, _⟩ := hu.form
      have c0 := (z.bel.cells _ _ hbn).trans hcn
      have cz := ext_lt z hbn
      have HCN := Lib.hid hcn
      have HBN := Lib.hid hbn
      clear hcn hu hbn
      generalize nss.getD i [] = ns at *
      have g2 := HP.out.x.row.cell (i := 2) rfl
      have gz := HP.out.x.row.lt
      go_upto_region 12 with (fail)
      by_cases h50 : 50 < ns.length
      · have q1 : decide (50 < ns.length) = true := by simpa using h50
        have q2 : decide ((50 : Int) < (ns.length : Int)) = true := by simp; omega
        (refine wp_region_ext (wb := z.w) (by (repeat (first | exact Ext.bel _ | exact Bel.refl | refine Bel.alloc ?_ _ | refine Bel.drew ?_ | refine Bel.drewN ?_ _))) (by kernel_rfl) (by kernel_rfl) ?_; (repeat (any_goals (first | go_big_quiet_step (fail) | quiet_step (fail) | (refine wpQuiet_step (fun K hK => ?_); go_simp; split <;> (refine hK _ ?_; clear hK K))))); all_goals (refine wpQuiet_nil ?_; intro _ hw'; obtain ⟨y, hw''⟩ := hw'; subst hw''))
        have c1 := (y.bel.cells _ _ cz).trans c0
        have cz1 := ext_lt y cz
        go_wp2
        go_ret
        exact ⟨rfl, HB2.out.trans (z.bel.trans y.bel)⟩
      have q1 : decide (50 < ns.length) = false := by simpa using h50
      have q2 : decide ((50 : Int) < (ns.length : Int)) = false := by simp; omega
      have HN50 : Hid (ns.length ≤ 50) := Lib.hid (by omega)
      clear h50 hul
      (refine wp_region_E 22 none (by kernel_rfl) ?_; refine anyE_takes [0, 1, 2, 3, 4, 5, 6, 7, 9] (fun _ _ _ _ _ h => h) ⟨⟨_, gro_drew (gro_refl _)⟩, rfl⟩ (by kernel_rfl) (by rfl) ?_; simp only [opsOf, List.filterMap_cons, List.filterMap_nil, List.getElem?_toArray, List.getElem?_cons_succ, List.getElem?_cons_zero, List.foldl_cons, List.foldl_nil]; (repeat (any_goals (first | go_big_quiet_step (fail) | quiet_step (fail)))); refine wpQuiet_nil ?_)
      have HD := Lib.hid (HP.out.bel Bel.refl.drew)
      have G0 : Hid (z.w.grownBy z.w.drew none) := Lib.hid (gro_drew (gro_refl _))
      have HB0 : Hid (Bel z.w z.w.drew) := Lib.hid Bel.refl.drew
      generalize z.w.drew = W0 at *
      have HRL := Lib.hid (relL_len st.now l 0)
      have HL8 := Lib.hid HOK.out.l8
      (refine anyE_one 8 _ (by kernel_rfl) (by rfl) (fun K hK => ?_))
      rw [if_pos (by rfl)]
      go_simp
      refine (released_any _ HD.out.e HOK.out (by omega)).mono ?_
      rintro e W1 ⟨rv, rfl, ho, hB⟩
      have HD1 := Lib.hid (HD.out.bel hB)
      have G1 := Lib.hid (gro_bn G0.out hB)
      have HB1 := Lib.hid (HB0.out.trans hB)
      have HO1 := Lib.hid ho
      refine hK _ _ (fun _ => ⟨⟨_, G1.out⟩, rfl⟩) ?_
      clear hK K hB ho HD G0 HB0
      (refine anyE_one 10 _ (by kernel_rfl) (by rfl) (fun K hK => ?_))
      rw [if_pos (by rfl)]
      go_simp
      refine (rreleased_any W1 HOK.out.h0 HOK.out.l1 HOK.out.l8 HD1.out.x.tl HD1.out.x.bl HD1.out.x.row HOK.out.n0 (by omega)).mono ?_
      rintro e W2 ⟨rv2, rfl, ho, hB⟩
      have HD2 := Lib.hid (HD1.out.bel hB)
      have G2 := Lib.hid (gro_bn G1.out hB)
      have HB2' := Lib.hid (HB1.out.trans hB)
      have HI1 := Lib.hid (nat_ints (ownsRow_bel HO1.out hB))
      have HI2 := Lib.hid (nat_ints ho)
      refine hK _ _ (fun _ => ⟨⟨_, G2.out⟩, rfl⟩) ?_
      clear hK K hB ho HD1 G1 HB1 HO1
      (refine anyE_one 11 _ (by kernel_rfl) (by rfl) (fun K hK => ?_))
      rw [if_pos (by rfl)]
      go_simp
      refine (sameInts_any rv rv2 _ _ W2 HI1.out HI2.out (by rw [List.length_map]; have := HRL.out; have := HL8.out; omega) (by rw [List.length_map]; have := HRL.out; have := HL8.out; omega)).mono ?_
      rintro e W3 ⟨rfl, hB⟩
      rw [decide_eq_true rfl]
      have HD3 := Lib.hid (HD2.out.bel hB)
      have G3 := Lib.hid (gro_bn G2.out hB)
      have HB3' := Lib.hid (HB2'.out.trans hB)
      refine hK _ _ (fun _ => ⟨⟨_, G3.out⟩, rfl⟩) ?_
      clear hK K hB HD2 G2 HB2' HI1 HI2 HRL
      (refine anyE_takes [12, 13, 14, 15, 17, 18, 19, 20] (fun _ _ _ _ _ h => h) ⟨⟨_, G3.out⟩, rfl⟩ (by kernel_rfl) (by rfl) ?_; simp only [opsOf, List.filterMap_cons, List.filterMap_nil, List.getElem?_toArray, List.getElem?_cons_succ, List.getElem?_cons_zero, List.foldl_cons, List.foldl_nil]; (repeat (any_goals (first | go_big_quiet_step (fail) | quiet_step (fail)))); refine wpQuiet_nil ?_)
      obtain ⟨At, ct, rfl, _⟩ := HD3.out.e.xform
      have HNOW := Lib.hid (now_at W3 HD3.out.e.c1 HD3.out.e.c2)
      rw [if_neg (by omega)] at HNOW
      (refine anyE_one 16 _ (by kernel_rfl) (by rfl) (fun K hK => ?_))
      rw [if_pos (by rfl)]
      go_simp
      refine HNOW.out.mono ?_
      rintro e W4 ⟨rfl, rfl⟩
      refine hK _ _ (fun _ => ⟨⟨_, G3.out⟩, rfl⟩) ?_
      clear hK K
      (refine anyE_takes [21] (fun _ _ _ _ _ h => h) ⟨⟨_, G3.out⟩, rfl⟩ (by kernel_rfl) (by rfl) ?_; simp only [opsOf, List.filterMap_cons, List.filterMap_nil, List.getElem?_toArray, List.getElem?_cons_succ, List.getElem?_cons_zero, List.foldl_cons, List.foldl_nil]; (repeat (any_goals (first | go_big_quiet_step (fail) | quiet_step (fail)))); refine wpQuiet_nil ?_)
      (refine anyE_tail 22 (by decide) (by rfl) (by kernel_rfl) ?_; simp only [List.drop_succ_cons, List.drop_zero])
      go_wp2
      refine NoPanic.normal ?_
      clear G3 HNOW
      have HB4 := Lib.hid (z.bel.trans HB3'.out)
      clear HB3' c0 cz g2 gz q1 q2
      have c0 := (HB4.out.cells _ _ HBN.out).trans HCN.out
      have cz := Nat.lt_of_lt_of_le HBN.out HB4.out.le
      go_wp2_with fail
      refine (tick_any W3 _ ns HD3.out.e HOK.out (by omega) (IntsNe.of_at HU.out HD3.out.e.be_ HB4.out) (by have := HN50.out; omega)).mono ?_
      rintro e W5 ⟨dv, rfl, hX, hD, hG⟩
      have HX5 := Lib.hid (HD3.out.x.gro hG HD3.out.e.be_ HD3.out.beN)
      have HE5 := Lib.hid hX
      have HD5 := Lib.hid hD
      obtain ⟨Ad, cd, rfl, _⟩ := own_slice hD
      have HBB := Lib.hid (And.intro HD3.out.beN (And.intro HD3.out.lN HD3.out.tN))
      have HLEN := Lib.hid (tick_done_len l xs st ns)
      have HNW := Lib.hid (tick_now l xs st ns)
      have HOK2 := Lib.hid (tick_ok HOK.out ns)
      clear hX hD hG HD3 c0 cz
      have c0 := (HE5.out.bl.cells _ _ HBN.out).trans HCN.out
      have cz := Nat.lt_of_lt_of_le HBN.out HE5.out.bl.le
      go_wp2_with fail
      refine (rtick_any W5 _ ns HX5.out HOK.out (by omega) HU.out (by have := HN50.out; omega)).mono ?_
      rintro e W6 ⟨dv2, rfl, hX2, hD2, rs, hg, hnd⟩
      obtain ⟨Ae, ce, rfl, _⟩ := own_slice hD2
      have HP6 : Hid (PlAt w2' W6 N be br le (.slice At xs.length ct) (.slice A l.length c) (.slice Ax xs.length cx) v1 v2 v3 l xs (tickX l xs st ns).st) := Lib.hid
        ⟨HE5.out.grs hg (fun k hk => (hnd k hk).1) HN3.out HBB.out.1 HBB.out.2.1 HBB.out.2.2, hX2, HBB.out.1, HBB.out.2.1, HBB.out.2.2⟩
      have HR1 := Lib.hid (RdAt.of_own donC_len rfl (ownsRow_grs HD5.out hg (fun k e hm => (hnd k hm).2 _ _ _ _ HD5.out e)))
      have HR2 := Lib.hid (RdAt.of_own donC_len rfl hD2)
      clear hX2 hD2 hg hnd HX5 HE5 HD5 c0 cz
      generalize tickX l xs st ns = R at *
      go_wp2_with fail
      refine (sameDone_any _ _ R.done W6 HR1.out HR2.out (by have := HLEN.out; have := HL8.out; omega)).mono ?_
      rintro e W7 ⟨rfl, hB⟩
      have HP7 := Lib.hid (HP6.out.bel hB)
      clear hB HP6 HR1 HR2
      obtain ⟨z7, rfl⟩ := ext_of HP7.out.e.bl
      go_wp2
      go_roundw
      case rel => exact ⟨i + 1, z7, R.st, by omega, by go_num, rfl, HP7.out, HOK2.out, by have := HNW.out; omega⟩
      case measure => simp [intOf]; omega
    · obtain rfl : i = nss.length := by omega
      have hdl : decide ((nss.length : Int) < (nss.length : Int)) = false := by simp
      obtain ⟨At, ct, rfl, _⟩ := HP.out.e.xform
      have HNOW := Lib.hid (fun (y : Ext z.w) => (now_at y.w (HP.out.bel y.bel).e.c1 (HP.out.bel y.bel).e.c2).mono (fun e w' h => (⟨by rw [h.1, if_neg (by omega)], by rw [← h.2]; exact Bel.refl⟩ : e = .returned (.int .i64 st.now) ∧ Bel y.w w')))
      have g2 := HP.out.x.row.cell (i := 2) rfl
      have gz := HP.out.x.row.lt
      go_upto_region 18 with (fail)
      (refine wp_region_ext (wb := z.w) (by (repeat (first | exact Ext.bel _ | exact Bel.refl | refine Bel.alloc ?_ _ | refine Bel.drew ?_ | refine Bel.drewN ?_ _))) (by kernel_rfl) (by kernel_rfl) ?_; (repeat (any_goals (first | go_big_quiet_step ((go_at_call 16; with_reducible exact ext_call (HNOW.out _))) | quiet_step ((go_at_call 16; with_reducible exact ext_call (HNOW.out _))) | (refine wpQuiet_step (fun K hK => ?_); go_simp; split <;> (refine hK _ ?_; clear hK K))))); all_goals (refine wpQuiet_nil ?_; intro _ hw'; obtain ⟨y, hw''⟩ := hw'; subst hw''))
      go_wp2
      go_ret
      exact ⟨rfl, HB2.out.trans (z.bel.trans y.bel)⟩
end Go.Proofs.Ytbilfpoghohddaa
