import Derived.Test.YtalphoebmefgoaaZVpt
import Derived.Laws.StructEq
/- poly: what the laws need: lists of ratios and of lines are compared. -/
namespace Go.Proofs.Ytalphoebmefgoaa
open Go.RowKit
/-- are two lists of ratios equal? -/
def sameR : List Rt → List Rt → Bool
  | [], [] => true
  | x :: t, y :: u => if x.num = y.num ∧ x.den = y.den then sameR t u else false
  | _, _ => false
theorem sameR_iff : ∀ a b : List Rt, sameR a b = true ↔ a = b
  | [], [] => by simp [sameR]
  | [], _ :: _ => by simp [sameR]
  | _ :: _, [] => by simp [sameR]
  | ⟨n, d⟩ :: t, ⟨m, e⟩ :: u => by
    unfold sameR
    by_cases h : n = m ∧ d = e
    · rw [if_pos h, sameR_iff t u]; simp [h]
    · rw [if_neg h]; simp; intro h1 h2; exact absurd ⟨h1, h2⟩ h
theorem sameR_len {a b : List Rt} (h : a.length ≠ b.length) : sameR a b = false := by
  cases e : sameR a b
  · rfl
  · rw [(sameR_iff a b).1 e] at h; exact absurd rfl h
/-- are two lists of lines equal? -/
def sameA : List AL → List AL → Bool
  | [], [] => true
  | x :: t, y :: u => if x.b = y.b ∧ x.s = y.s ∧ x.a = y.a then sameA t u else false
  | _, _ => false
theorem sameA_iff : ∀ a b : List AL, sameA a b = true ↔ a = b
  | [], [] => by simp [sameA]
  | [], _ :: _ => by simp [sameA]
  | _ :: _, [] => by simp [sameA]
  | ⟨n, d, s⟩ :: t, ⟨m, e, r⟩ :: u => by
    unfold sameA
    by_cases h : d = e ∧ s = r ∧ n = m
    · rw [if_pos h, sameA_iff t u]; simp [h]
    · rw [if_neg h]; simp; intro h1 h2 h3; exact absurd ⟨h2, h3, h1⟩ h
theorem sameA_len {a b : List AL} (h : a.length ≠ b.length) : sameA a b = false := by
  cases e : sameA a b
  · rfl
  · rw [(sameA_iff a b).1 e] at h; exact absurd rfl h
theorem rt_neq (a b c d : Int) (w : World) : (binOp .neq 41 (.agg #[.int .i64 a, .int .i64 b]) (.agg #[.int .i64 c, .int .i64 d])).run Try.prog w = .ok (.bool (!decide (a = c ∧ b = d))) w := by
  have hS : Try.prog.underlying 41 = some (.struct (Try.prog.fieldsOf 41)) := by kernel_rfl
  have hp : Try.prog.stoodInHeld 41 = false := by kernel_rfl
  have u2 := Try.underlying2
  have u3 := Try.underlying3
  rw [run_neq_struct, show (10000 : Nat) = 9999 + 1 from rfl, run_equalIn_agg w 9999 41 _ _ hS hp]
  simp only [Program.fieldsOf, Try.underlying41]
  go_simp
  by_cases h0 : a = c <;> by_cases h1 : b = d <;> simp [h0, h1]
theorem rt_eql (a b c d : Int) (w : World) : (binOp .eql 41 (.agg #[.int .i64 a, .int .i64 b]) (.agg #[.int .i64 c, .int .i64 d])).run Try.prog w = .ok (.bool (decide (a = c ∧ b = d))) w := by
  have hS : Try.prog.underlying 41 = some (.struct (Try.prog.fieldsOf 41)) := by kernel_rfl
  have hp : Try.prog.stoodInHeld 41 = false := by kernel_rfl
  have u2 := Try.underlying2
  have u3 := Try.underlying3
  rw [run_eql_struct, show (10000 : Nat) = 9999 + 1 from rfl, run_equalIn_agg w 9999 41 _ _ hS hp]
  simp only [Program.fieldsOf, Try.underlying41]
  go_simp
  by_cases h0 : a = c <;> by_cases h1 : b = d <;> simp [h0, h1]
theorem rt_drop {p : List Rt} {k : Nat} (h : k < p.length) : p.drop k = rtAt p k :: p.drop (k + 1) := by rw [List.drop_eq_getElem_cons h, rtAt_get h]
theorem al_drop {p : List AL} {k : Nat} (h : k < p.length) : p.drop k = alAt p k :: p.drop (k + 1) := by rw [List.drop_eq_getElem_cons h, alAt_get h]
set_option maxHeartbeats 1000000 in
theorem sameLongs_any (v1 v2 : Value) (xs ys : List Int) (w : World) (hx : IntsAt w w.heap.size v1 xs) (hy : IntsAt w w.heap.size v2 ys) (hlx : xs.length ≤ 1000000) (hly : ys.length ≤ 1000000) :
    Calls Try.prog 41 #[v1, v2] w fun e w' => e = .returned (.bool (decide (xs = ys))) ∧ Bel w w' := by
  obtain ⟨A, c, rfl, _⟩ := hx.form
  obtain ⟨A', c', rfl, _⟩ := hy.form
  by_cases hl : xs.length = ys.length
  · have hd1 : ((xs.length : Int) != ys.length) = false := by simp [hl]
    go_enter Try.func41, Try.ntmps41
    go_wp2
    go_loopw [5] (fun i wr => ∃ (k : Nat) (x : Ext w), k ≤ xs.length ∧ i = .int .i64 k ∧ wr = x.w ∧ decide (xs.drop k = ys.drop k) = decide (xs = ys)) (fun i _ => xs.length - (intOf i).toNat)
    case atStart => exact ⟨0, ⟨_, Bel.refl⟩, by omega, rfl, rfl, rfl⟩
    case round =>
      obtain ⟨k, x, hk, rfl, rfl, hd⟩ := hrel
      by_cases hlt : k < xs.length
      · obtain ⟨b, off, rfl, hb, hc⟩ := hx.at_ (by omega)
        obtain ⟨b', off', rfl, hb', hc'⟩ := hy.at_ (by omega)
        have g1 := hc k hlt
        have g2 := hc' k (by omega)
        have hlt2 : k < ys.length := by omega
        have HE : Hid (decide (xs.getD k 0 = ys.getD k 0 ∧ xs.drop (k+1) = ys.drop (k+1)) = decide (xs = ys)) := by
          refine Lib.hid (Eq.trans (decide_eq_decide.2 ?_) hd)
          rw [List.drop_eq_getElem_cons hlt, List.drop_eq_getElem_cons hlt2, List.cons.injEq]; simp [List.getD, hlt, hlt2]
        clear hc hc' hd hl
        generalize xs.getD k 0 = p at *
        generalize ys.getD k 0 = q at *
        go_wp2
        (refine wp_region_ext (wb := w) (by (repeat (first | exact Ext.bel _ | exact Bel.refl | refine Bel.alloc ?_ _ | refine Bel.drew ?_ | refine Bel.drewN ?_ _))) (by kernel_rfl) (by kernel_rfl) ?_; (repeat (any_goals (first | go_big_quiet_step (fail) | quiet_step (fail) | (refine wpQuiet_step (fun K hK => ?_); go_simp; split <;> (refine hK _ ?_; clear hK K))))); all_goals (refine wpQuiet_nil ?_; intro _ hw'; obtain ⟨y, hw''⟩ := hw'; subst hw''))
        go_wp2
        · go_ret
          have hpq : p ≠ q := by intro h; simp_all
          exact ⟨ret_bool (by rw [← HE.out]; simp [hpq]), y.bel⟩
        · go_roundw
          case rel =>
            have hpq : p = q := by simp_all
            exact ⟨k+1, y, by omega, by go_num, rfl, by rw [← HE.out]; simp [hpq]⟩
          case measure => simp [intOf]; omega
      · have : k = xs.length := by omega
        subst this
        have HD := Lib.hid hd
        clear hd
        go_wp2
        go_ret
        exact ⟨ret_bool (by rw [← HD.out]; simp [hl]), x.bel⟩
  · have hd1 : ((xs.length : Int) != ys.length) = true := by simp; omega
    go_enter Try.func41, Try.ntmps41
    go_wp2
    go_ret
    exact ⟨ret_bool (by symm; simp; rintro rfl; exact hl rfl), Bel.refl⟩
set_option maxRecDepth 100000 in
set_option maxHeartbeats 4000000 in
theorem sameRatios_any (v1 v2 : Value) (xs ys : List Rt) (w : World) (hx : RatsAt w w.heap.size v1 xs) (hy : RatsAt w w.heap.size v2 ys) (hlx : xs.length ≤ 1000000) (_hly : ys.length ≤ 1000000) :
    Calls Try.prog 35 #[v1, v2] w fun e w' => e = .returned (.bool (sameR xs ys)) ∧ Bel w w' := by
  have HX := Lib.hid hx
  have HY := Lib.hid hy
  obtain ⟨A, c, rfl, _⟩ := hx.form
  obtain ⟨A', c', rfl, _⟩ := hy.form
  clear hx hy
  by_cases hl : xs.length = ys.length
  · have hd1 : ((xs.length : Int) != ys.length) = false := by simp [hl]
    go_enter Try.func35, Try.ntmps35
    go_wp2
    go_loopw [5] (fun i wr => ∃ (k : Nat) (x : Ext w), k ≤ xs.length ∧ i = .int .i64 k ∧ wr = x.w ∧ sameR (xs.drop k) (ys.drop k) = sameR xs ys) (fun i _ => xs.length - (intOf i).toNat)
    case atStart => exact ⟨0, ⟨_, Bel.refl⟩, by omega, rfl, rfl, rfl⟩
    case round =>
      obtain ⟨k, x, hk, rfl, rfl, hd⟩ := hrel
      by_cases hlt : k < xs.length
      · obtain ⟨b, off, rfl, hb, hc⟩ := HX.out.at_ (by omega)
        obtain ⟨b', off', rfl, hb', hc'⟩ := HY.out.at_ (by omega)
        obtain ⟨g1, g2⟩ := rd_rat hc hlt
        have hlt2 : k < ys.length := by omega
        obtain ⟨f1, f2⟩ := rd_rat hc' hlt2
        rw [rt_drop hlt, rt_drop hlt2] at hd
        have HD := Lib.hid hd
        clear hc hc' hd hl
        generalize rtAt xs k = p at *
        generalize rtAt ys k = q at *
        obtain ⟨pn, pd⟩ := p
        obtain ⟨qn, qd⟩ := q
        dsimp only at g1 g2 f1 f2
        by_cases hpq : pn = qn ∧ pd = qd
        · have HE : ∀ W, (binOp .neq 41 (.agg #[.int .i64 pn, .int .i64 pd]) (.agg #[.int .i64 qn, .int .i64 qd])).run Try.prog W = .ok (.bool false) W := fun W => by rw [rt_neq]; simp [hpq]
          have HD2 : Hid (sameR (xs.drop (k + 1)) (ys.drop (k + 1)) = sameR xs ys) := Lib.hid (by rw [← HD.out, sameR, if_pos hpq])
          clear hpq HD
          go_wp2
          (refine wp_region_ext (wb := w) (by (repeat (first | exact Ext.bel _ | exact Bel.refl | refine Bel.alloc ?_ _ | refine Bel.drew ?_ | refine Bel.drewN ?_ _))) (by kernel_rfl) (by kernel_rfl) ?_; (repeat (any_goals (first | go_big_quiet_step (fail) | quiet_step (fail) | (refine wpQuiet_step (fun K hK => ?_); go_simp; split <;> (refine hK _ ?_; clear hK K))))); all_goals (refine wpQuiet_nil ?_; intro _ hw'; obtain ⟨y, hw''⟩ := hw'; subst hw''))
          go_wp2
          go_roundw
          case rel => exact ⟨k+1, y, by omega, by go_num, rfl, HD2.out⟩
          case measure => simp [intOf]; omega
        · have HE : ∀ W, (binOp .neq 41 (.agg #[.int .i64 pn, .int .i64 pd]) (.agg #[.int .i64 qn, .int .i64 qd])).run Try.prog W = .ok (.bool true) W := fun W => by rw [rt_neq]; simp [hpq]
          have HD2 : Hid (sameR xs ys = false) := Lib.hid (by rw [← HD.out, sameR, if_neg hpq])
          clear hpq HD
          go_wp2
          (refine wp_region_ext (wb := w) (by (repeat (first | exact Ext.bel _ | exact Bel.refl | refine Bel.alloc ?_ _ | refine Bel.drew ?_ | refine Bel.drewN ?_ _))) (by kernel_rfl) (by kernel_rfl) ?_; (repeat (any_goals (first | go_big_quiet_step (fail) | quiet_step (fail) | (refine wpQuiet_step (fun K hK => ?_); go_simp; split <;> (refine hK _ ?_; clear hK K))))); all_goals (refine wpQuiet_nil ?_; intro _ hw'; obtain ⟨y, hw''⟩ := hw'; subst hw''))
          go_wp2
          go_ret
          exact ⟨ret_bool HD2.out.symm, y.bel⟩
      · have : k = xs.length := by omega
        subst this
        have HD := Lib.hid hd
        clear hd
        go_wp2
        go_ret
        exact ⟨ret_bool (by rw [← HD.out, List.drop_length, hl, List.drop_length]; rfl), x.bel⟩
  · have hd1 : ((xs.length : Int) != ys.length) = true := by simp; omega
    have HF := Lib.hid (sameR_len hl)
    go_enter Try.func35, Try.ntmps35
    go_wp2
    go_ret
    exact ⟨ret_bool HF.out.symm, Bel.refl⟩
set_option maxRecDepth 100000 in
set_option maxHeartbeats 4000000 in
theorem same7_any (v1 v2 : Value) (xs ys : List AL) (w : World) (hx : LinesAt w w.heap.size v1 xs) (hy : LinesAt w w.heap.size v2 ys) (hlx : xs.length ≤ 1000000) (_hly : ys.length ≤ 1000000) (hax : AlLens xs) (hay : AlLens ys) :
    Calls Try.prog 14 #[v1, v2] w fun e w' => e = .returned (.bool (sameA xs ys)) ∧ Bel w w' := by
  have HX := Lib.hid hx
  have HY := Lib.hid hy
  have HAX := Lib.hid hax
  have HAY := Lib.hid hay
  obtain ⟨A, c, rfl, _⟩ := hx.form
  obtain ⟨A', c', rfl, _⟩ := hy.form
  clear hx hy hax hay
  by_cases hl : xs.length = ys.length
  · have hd1 : ((xs.length : Int) != ys.length) = false := by simp [hl]
    go_enter Try.func14, Try.ntmps14
    go_wp2
    clear hd1
    go_loopw [5] (fun i wr => ∃ (k : Nat) (x : Ext w), k ≤ xs.length ∧ i = .int .i64 k ∧ wr = x.w ∧ sameA (xs.drop k) (ys.drop k) = sameA xs ys) (fun i _ => xs.length - (intOf i).toNat)
    case atStart => exact ⟨0, ⟨_, Bel.refl⟩, by omega, rfl, rfl, rfl⟩
    case round =>
      obtain ⟨k, x, hk, rfl, rfl, hd⟩ := hrel
      by_cases hlt : k < xs.length
      · have hlt2 : k < ys.length := by omega
        have dk : decide ((k : Int) < (xs.length : Int)) = true := by simp; omega
        obtain ⟨b, off, rfl, hb, hc⟩ := HX.out.at_ (by omega)
        obtain ⟨b', off', rfl, hb', hc'⟩ := HY.out.at_ (by omega)
        obtain ⟨rv, ⟨c0, c1, c2⟩, hrv⟩ := hc k hlt
        obtain ⟨rv2, ⟨d0, d1, d2⟩, hrv2⟩ := hc' k hlt2
        rw [al_drop hlt, al_drop hlt2] at hd
        have HD := Lib.hid hd
        have HSL := Lib.hid (fun W (hW : Bel w W) => sameLongs_any rv rv2 _ _ W (hrv.keep hW.keeps hW.le) (hrv2.keep hW.keeps hW.le) (HAX.out _ hlt) (HAY.out _ hlt2))
        obtain ⟨A3, k3, rfl, hk3⟩ := hrv.form
        obtain ⟨A4, k4, rfl, hk4⟩ := hrv2.form
        clear hc hc' hd hl hrv hrv2
        generalize alAt xs k = p at *
        generalize alAt ys k = q at *
        obtain ⟨pa, pb, ps⟩ := p
        obtain ⟨qa, qb, qs⟩ := q
        dsimp only at *
        by_cases h1 : pb = qb
        · have t1 : (pb != qb) = false := by simp [h1]
          cases ps
          · cases qs
            · by_cases h3 : pa = qa
              · have t3 : decide (pa = qa) = true := decide_eq_true h3
                rw [t3] at HSL
                have HD2 : Hid (sameA (xs.drop (k + 1)) (ys.drop (k + 1)) = sameA xs ys) := Lib.hid (by rw [← HD.out, sameA, if_pos ⟨h1, rfl, h3⟩])
                clear h1 h3 t3 HD
                go_wp2
                (refine wp_region_ext (wb := w) (by (repeat (first | exact Ext.bel _ | exact Bel.refl | refine Bel.alloc ?_ _ | refine Bel.drew ?_ | refine Bel.drewN ?_ _))) (by kernel_rfl) (by kernel_rfl) ?_; (repeat (any_goals (first | go_big_quiet_step ((go_at_call 41; with_reducible exact ext_call (HSL.out _ (by (repeat (first | exact Ext.bel _ | exact Bel.refl | refine Bel.alloc ?_ _ | refine Bel.drew ?_ | refine Bel.drewN ?_ _)))))) | quiet_step ((go_at_call 41; with_reducible exact ext_call (HSL.out _ (by (repeat (first | exact Ext.bel _ | exact Bel.refl | refine Bel.alloc ?_ _ | refine Bel.drew ?_ | refine Bel.drewN ?_ _)))))) | (refine wpQuiet_step (fun K hK => ?_); go_simp; split <;> (refine hK _ ?_; clear hK K))))); all_goals (refine wpQuiet_nil ?_; intro _ hw'; obtain ⟨y, hw''⟩ := hw'; subst hw''))
                go_wp2
                go_roundw
                case rel => exact ⟨k+1, y, by omega, by go_num, rfl, HD2.out⟩
                case measure => simp [intOf]; omega
              · have t3 : decide (pa = qa) = false := decide_eq_false h3
                rw [t3] at HSL
                have HD2 : Hid (sameA xs ys = false) := Lib.hid (by rw [← HD.out, sameA, if_neg (fun h => h3 h.2.2)])
                clear h1 h3 t3 HD
                go_wp2
                (refine wp_region_ext (wb := w) (by (repeat (first | exact Ext.bel _ | exact Bel.refl | refine Bel.alloc ?_ _ | refine Bel.drew ?_ | refine Bel.drewN ?_ _))) (by kernel_rfl) (by kernel_rfl) ?_; (repeat (any_goals (first | go_big_quiet_step ((go_at_call 41; with_reducible exact ext_call (HSL.out _ (by (repeat (first | exact Ext.bel _ | exact Bel.refl | refine Bel.alloc ?_ _ | refine Bel.drew ?_ | refine Bel.drewN ?_ _)))))) | quiet_step ((go_at_call 41; with_reducible exact ext_call (HSL.out _ (by (repeat (first | exact Ext.bel _ | exact Bel.refl | refine Bel.alloc ?_ _ | refine Bel.drew ?_ | refine Bel.drewN ?_ _)))))) | (refine wpQuiet_step (fun K hK => ?_); go_simp; split <;> (refine hK _ ?_; clear hK K))))); all_goals (refine wpQuiet_nil ?_; intro _ hw'; obtain ⟨y, hw''⟩ := hw'; subst hw''))
                go_wp2
                go_ret
                exact ⟨ret_bool HD2.out.symm, y.bel⟩
            · have HD2 : Hid (sameA xs ys = false) := Lib.hid (by rw [← HD.out, sameA, if_neg (fun h => nomatch h.2.1)])
              clear h1 HD
              go_wp2
              (refine wp_region_ext (wb := w) (by (repeat (first | exact Ext.bel _ | exact Bel.refl | refine Bel.alloc ?_ _ | refine Bel.drew ?_ | refine Bel.drewN ?_ _))) (by kernel_rfl) (by kernel_rfl) ?_; (repeat (any_goals (first | go_big_quiet_step ((go_at_call 41; with_reducible exact ext_call (HSL.out _ (by (repeat (first | exact Ext.bel _ | exact Bel.refl | refine Bel.alloc ?_ _ | refine Bel.drew ?_ | refine Bel.drewN ?_ _)))))) | quiet_step ((go_at_call 41; with_reducible exact ext_call (HSL.out _ (by (repeat (first | exact Ext.bel _ | exact Bel.refl | refine Bel.alloc ?_ _ | refine Bel.drew ?_ | refine Bel.drewN ?_ _)))))) | (refine wpQuiet_step (fun K hK => ?_); go_simp; split <;> (refine hK _ ?_; clear hK K))))); all_goals (refine wpQuiet_nil ?_; intro _ hw'; obtain ⟨y, hw''⟩ := hw'; subst hw''))
              go_wp2
              go_ret
              exact ⟨ret_bool HD2.out.symm, y.bel⟩
          · cases qs
            · have HD2 : Hid (sameA xs ys = false) := Lib.hid (by rw [← HD.out, sameA, if_neg (fun h => nomatch h.2.1)])
              clear h1 HD
              go_wp2
              (refine wp_region_ext (wb := w) (by (repeat (first | exact Ext.bel _ | exact Bel.refl | refine Bel.alloc ?_ _ | refine Bel.drew ?_ | refine Bel.drewN ?_ _))) (by kernel_rfl) (by kernel_rfl) ?_; (repeat (any_goals (first | go_big_quiet_step ((go_at_call 41; with_reducible exact ext_call (HSL.out _ (by (repeat (first | exact Ext.bel _ | exact Bel.refl | refine Bel.alloc ?_ _ | refine Bel.drew ?_ | refine Bel.drewN ?_ _)))))) | quiet_step ((go_at_call 41; with_reducible exact ext_call (HSL.out _ (by (repeat (first | exact Ext.bel _ | exact Bel.refl | refine Bel.alloc ?_ _ | refine Bel.drew ?_ | refine Bel.drewN ?_ _)))))) | (refine wpQuiet_step (fun K hK => ?_); go_simp; split <;> (refine hK _ ?_; clear hK K))))); all_goals (refine wpQuiet_nil ?_; intro _ hw'; obtain ⟨y, hw''⟩ := hw'; subst hw''))
              go_wp2
              go_ret
              exact ⟨ret_bool HD2.out.symm, y.bel⟩
            · by_cases h3 : pa = qa
              · have t3 : decide (pa = qa) = true := decide_eq_true h3
                rw [t3] at HSL
                have HD2 : Hid (sameA (xs.drop (k + 1)) (ys.drop (k + 1)) = sameA xs ys) := Lib.hid (by rw [← HD.out, sameA, if_pos ⟨h1, rfl, h3⟩])
                clear h1 h3 t3 HD
                go_wp2
                (refine wp_region_ext (wb := w) (by (repeat (first | exact Ext.bel _ | exact Bel.refl | refine Bel.alloc ?_ _ | refine Bel.drew ?_ | refine Bel.drewN ?_ _))) (by kernel_rfl) (by kernel_rfl) ?_; (repeat (any_goals (first | go_big_quiet_step ((go_at_call 41; with_reducible exact ext_call (HSL.out _ (by (repeat (first | exact Ext.bel _ | exact Bel.refl | refine Bel.alloc ?_ _ | refine Bel.drew ?_ | refine Bel.drewN ?_ _)))))) | quiet_step ((go_at_call 41; with_reducible exact ext_call (HSL.out _ (by (repeat (first | exact Ext.bel _ | exact Bel.refl | refine Bel.alloc ?_ _ | refine Bel.drew ?_ | refine Bel.drewN ?_ _)))))) | (refine wpQuiet_step (fun K hK => ?_); go_simp; split <;> (refine hK _ ?_; clear hK K))))); all_goals (refine wpQuiet_nil ?_; intro _ hw'; obtain ⟨y, hw''⟩ := hw'; subst hw''))
                go_wp2
                go_roundw
                case rel => exact ⟨k+1, y, by omega, by go_num, rfl, HD2.out⟩
                case measure => simp [intOf]; omega
              · have t3 : decide (pa = qa) = false := decide_eq_false h3
                rw [t3] at HSL
                have HD2 : Hid (sameA xs ys = false) := Lib.hid (by rw [← HD.out, sameA, if_neg (fun h => h3 h.2.2)])
                clear h1 h3 t3 HD
                go_wp2
                (refine wp_region_ext (wb := w) (by (repeat (first | exact Ext.bel _ | exact Bel.refl | refine Bel.alloc ?_ _ | refine Bel.drew ?_ | refine Bel.drewN ?_ _))) (by kernel_rfl) (by kernel_rfl) ?_; (repeat (any_goals (first | go_big_quiet_step ((go_at_call 41; with_reducible exact ext_call (HSL.out _ (by (repeat (first | exact Ext.bel _ | exact Bel.refl | refine Bel.alloc ?_ _ | refine Bel.drew ?_ | refine Bel.drewN ?_ _)))))) | quiet_step ((go_at_call 41; with_reducible exact ext_call (HSL.out _ (by (repeat (first | exact Ext.bel _ | exact Bel.refl | refine Bel.alloc ?_ _ | refine Bel.drew ?_ | refine Bel.drewN ?_ _)))))) | (refine wpQuiet_step (fun K hK => ?_); go_simp; split <;> (refine hK _ ?_; clear hK K))))); all_goals (refine wpQuiet_nil ?_; intro _ hw'; obtain ⟨y, hw''⟩ := hw'; subst hw''))
                go_wp2
                go_ret
                exact ⟨ret_bool HD2.out.symm, y.bel⟩
        · have t1 : (pb != qb) = true := by simp [h1]
          have HD2 : Hid (sameA xs ys = false) := Lib.hid (by rw [← HD.out, sameA, if_neg (fun h => h1 h.1)])
          clear h1 HD
          go_wp2
          (refine wp_region_ext (wb := w) (by (repeat (first | exact Ext.bel _ | exact Bel.refl | refine Bel.alloc ?_ _ | refine Bel.drew ?_ | refine Bel.drewN ?_ _))) (by kernel_rfl) (by kernel_rfl) ?_; (repeat (any_goals (first | go_big_quiet_step ((go_at_call 41; with_reducible exact ext_call (HSL.out _ (by (repeat (first | exact Ext.bel _ | exact Bel.refl | refine Bel.alloc ?_ _ | refine Bel.drew ?_ | refine Bel.drewN ?_ _)))))) | quiet_step ((go_at_call 41; with_reducible exact ext_call (HSL.out _ (by (repeat (first | exact Ext.bel _ | exact Bel.refl | refine Bel.alloc ?_ _ | refine Bel.drew ?_ | refine Bel.drewN ?_ _)))))) | (refine wpQuiet_step (fun K hK => ?_); go_simp; split <;> (refine hK _ ?_; clear hK K))))); all_goals (refine wpQuiet_nil ?_; intro _ hw'; obtain ⟨y, hw''⟩ := hw'; subst hw''))
          go_wp2
          go_ret
          exact ⟨ret_bool HD2.out.symm, y.bel⟩
      · have : k = xs.length := by omega
        subst this
        have HD := Lib.hid hd
        clear hd
        have HE : Hid (sameA xs ys = true) := Lib.hid (by rw [← HD.out, List.drop_length, hl, List.drop_length]; rfl)
        clear HD
        go_wp2
        go_ret
        exact ⟨ret_bool HE.out.symm, x.bel⟩
  · have hd1 : ((xs.length : Int) != ys.length) = true := by simp; omega
    have HF := Lib.hid (sameA_len hl)
    go_enter Try.func14, Try.ntmps14
    go_wp2
    go_ret
    exact ⟨ret_bool HF.out.symm, Bel.refl⟩
end Go.Proofs.Ytalphoebmefgoaa
/- poly: what is looked at. -/
namespace Go.Proofs.Ytalphoebmefgoaa
open Go.RowKit
def wideA (l : List AL) : Bool := (l.take 2000).any fun x => decide (20 < x.a.length)
def farM (most : Int) (l : List AL) : Bool := wideA l || (decide (2000 < l.length) || (decide (most < (l.length : Int)) && decide (l.length ≤ 1000)))
theorem wide_t {l : List AL} {k : Nat} (h : k < l.length) (h2 : k < 2000) (h3 : 20 < (alAt l k).a.length) : wideA l = true := by
  unfold wideA
  rw [List.any_eq_true]
  refine ⟨alAt l k, ?_, by simpa using h3⟩
  rw [alAt_get h, List.mem_iff_getElem]
  exact ⟨k, by simp; omega, by simp⟩
theorem wide_f {l : List AL} {k : Nat} (h : l.length ≤ k ∨ 2000 ≤ k) (h3 : ∀ j, j < k → j < l.length → (alAt l j).a.length ≤ 20) : wideA l = false := by
  unfold wideA
  rw [List.any_eq_false]
  intro x hx
  obtain ⟨i, hi, rfl⟩ := List.mem_iff_getElem.1 hx
  rw [List.length_take] at hi
  have := h3 i (by omega) (by omega)
  rw [alAt_get (by omega)] at this
  simpa using this
theorem far_f {most : Int} {l : List AL} (h : farM most l = false) : l.length ≤ 2000 ∧ (∀ x, x ∈ l → x.a.length ≤ 20) ∧ ((l.length : Int) ≤ most ∨ 1000 < l.length) := by
  unfold farM at h
  simp only [Bool.or_eq_false_iff, decide_eq_false_iff_not, Bool.and_eq_false_iff] at h
  obtain ⟨h1, h2, h3⟩ := h
  refine ⟨by omega, fun x hx => ?_, by omega⟩
  unfold wideA at h1
  rw [List.take_of_length_le (by omega), List.any_eq_false] at h1
  have := h1 x hx
  simpa using this
set_option maxRecDepth 100000 in
set_option maxHeartbeats 4000000 in
theorem far_any (v : Value) (l : List AL) (most : Int) (w : World) (h : LinesAt w w.heap.size v l) :
    Calls Try.prog 36 #[v, .int .i64 most] w fun e w' => e = .returned (.bool (farM most l)) ∧ w' = w := by
  have H := Lib.hid h
  obtain ⟨A, c, rfl, hc⟩ := h.form
  clear h
  go_enter Try.func36, Try.ntmps36
  go_wp2
  go_loopw [5] (fun i wr => ∃ (k : Nat), k ≤ l.length ∧ k ≤ 2000 ∧ i = .int .i64 k ∧ wr = w ∧ ∀ j, j < k → j < l.length → (alAt l j).a.length ≤ 20) (fun i _ => l.length - (intOf i).toNat)
  case atStart => exact ⟨0, Nat.zero_le _, Nat.zero_le _, rfl, rfl, fun j h => absurd h (by omega)⟩
  case round =>
    obtain ⟨k, hk, hk2, rfl, rfl, ha⟩ := hrel
    have HA := Lib.hid ha
    clear ha
    by_cases h1 : k < l.length ∧ k < 2000
    · have d1 : decide ((k : Int) < (l.length : Int)) = true := by simp; omega
      have d2 : decide ((k : Int) < 2000) = true := by simp; omega
      have b1 : (k : Int) < (l.length : Int) := by omega
      have wk : IntKind.i64.wrap ((k : Int) + 1) = (k : Int) + 1 := IntWalk.i64_in _ (by omega)
      obtain ⟨b, off, rfl, hb, hA⟩ := H.out.at_ (by omega)
      obtain ⟨rv, ⟨c0, c1, c2⟩, hrv⟩ := hA k h1.1
      obtain ⟨A3, k3, rfl, hk3⟩ := hrv.form
      clear hA hrv
      by_cases h3 : 20 < (alAt l k).a.length
      · have d3 : decide (20 < ((alAt l k).a.length : Int)) = true := by simp; omega
        have HR : Hid (farM most l = true) := Lib.hid (by unfold farM; rw [wide_t h1.1 h1.2 h3]; rfl)
        go_wp2
        go_ret
        exact ⟨ret_bool HR.out.symm, rfl⟩
      · have d3 : decide (20 < ((alAt l k).a.length : Int)) = false := by simp; omega
        go_wp2
        go_roundw
        case rel => exact ⟨k + 1, by omega, by omega, by go_num, trivial, fun j hj hl => by
          rcases Nat.lt_or_ge j k with q | q
          · exact HA.out j q hl
          · obtain rfl : j = k := by omega
            omega⟩
        case measure => simp [intOf]; omega
    · have HW := Lib.hid (wide_f (k := k) (by omega) HA.out)
      have HE : Hid (farM most l = (decide (2000 < l.length) || (decide (most < (l.length : Int)) && decide (l.length ≤ 1000)))) := Lib.hid (by unfold farM; rw [HW.out]; rfl)
      have e1 : decide (2000 < (l.length : Int)) = decide (2000 < l.length) := by simp; omega
      have e2 : decide ((l.length : Int) ≤ 1000) = decide (l.length ≤ 1000) := by simp; omega
      have f1 : ((k : Int) < (l.length : Int)) = (k < l.length) := by simp
      have f2 : ((k : Int) < 2000) = (k < 2000) := by simp; omega
      clear HA HW
      generalize hq1 : decide (2000 < l.length) = q1 at *
      generalize hq2 : decide (most < (l.length : Int)) = q2 at *
      generalize hq3 : decide (l.length ≤ 1000) = q3 at *
      clear hq1 hq3
      by_cases h2 : k < l.length
      · have d1 : decide ((k : Int) < (l.length : Int)) = true := by simp; omega
        have d2 : decide ((k : Int) < 2000) = false := by simp; omega
        clear h1 f1 f2 hk hk2 hc
        cases q1 <;> cases q2 <;> cases q3
        all_goals (go_wp2; go_ret; exact ⟨ret_bool (by rw [HE.out]; rfl), by first | rfl | trivial⟩)
      · have d1 : decide ((k : Int) < (l.length : Int)) = false := by simp; omega
        clear h1 f1 f2 hk hk2 hc
        cases q1 <;> cases q2 <;> cases q3
        all_goals (go_wp2; go_ret; exact ⟨ret_bool (by rw [HE.out]; rfl), by first | rfl | trivial⟩)
end Go.Proofs.Ytalphoebmefgoaa
/- poly: the bounds of a case. -/
namespace Go.Proofs.Ytalphoebmefgoaa
open Go.RowKit
/-- a case of the statements -/
structure C7 where
  n : Int
  l : List AL
  m : List AL
  x : AL
  i : Int
  p : List Rt
  a : List Int
/-- where a case lies -/
structure C7At (w : World) (lv mv xv pv av : Value) (c : C7) : Prop where
  l : LinesAt w w.heap.size lv c.l
  m : LinesAt w w.heap.size mv c.m
  x : IntsAt w w.heap.size xv c.x.a
  p : RatsAt w w.heap.size pv c.p
  a : IntsAt w w.heap.size av c.a
def C7.V (c : C7) (lv mv xv pv av : Value) : Value := .agg #[.int .i64 c.n, lv, mv, xv, .int .i64 c.x.b, .bool c.x.s, .int .i64 c.i, pv, av]
theorem C7At.bel {w w' : World} {lv mv xv pv av : Value} {c : C7} (h : C7At w lv mv xv pv av c) (hb : Bel w w') : C7At w' lv mv xv pv av c :=
  ⟨h.l.bel hb, h.m.bel hb, h.x.keep hb.keeps hb.le, h.p.bel hb, h.a.keep hb.keeps hb.le⟩
def beyond7 (most : Int) (c : C7) : Bool := farM most c.l || (farM most c.m || (decide (20 < c.x.a.length) || (decide (20 < c.p.length) || decide (20 < c.a.length))))
set_option maxRecDepth 100000 in
set_option maxHeartbeats 4000000 in
theorem beyond7_any (lv mv xv pv av : Value) (c : C7) (most : Int) (w : World) (h : C7At w lv mv xv pv av c) :
    Calls Try.prog 9 #[.agg #[.int .i64 c.n, lv, mv, xv, .int .i64 c.x.b, .bool c.x.s, .int .i64 c.i, pv, av], .int .i64 most] w fun e w' => e = .returned (.bool (beyond7 most c)) ∧ Bel w w' := by
  have HF1 := Lib.hid (fun W (hW : Bel w W) => far_any lv c.l most W (h.l.bel hW))
  have HF2 := Lib.hid (fun W (hW : Bel w W) => far_any mv c.m most W (h.m.bel hW))
  have HR : Hid (∀ q1 q2 q3 q4 q5, farM most c.l = q1 → farM most c.m = q2 → decide (20 < (c.x.a.length : Int)) = q3 → decide (20 < (c.p.length : Int)) = q4 → decide (20 < (c.a.length : Int)) = q5 → beyond7 most c = (q1 || (q2 || (q3 || (q4 || q5))))) := Lib.hid (by
    intro q1 q2 q3 q4 q5 h1 h2 h3 h4 h5
    unfold beyond7
    rw [h1, h2, ← h3, ← h4, ← h5]
    congr 3
    · simp; omega
    · congr 1 <;> (simp; omega))
  obtain ⟨A1, k1, rfl, _⟩ := h.l.form
  obtain ⟨A2, k2, rfl, _⟩ := h.m.form
  obtain ⟨A3, k3, rfl, _⟩ := h.x.form
  obtain ⟨A4, k4, rfl, _⟩ := h.p.form
  obtain ⟨A5, k5, rfl, _⟩ := h.a.form
  clear h
  go_enter Try.func9, Try.ntmps9
  go_upto_region 1 with (fail)
  generalize hW : World.alloc w _ = w1 at *
  have hb : Bel w w1 := by rw [← hW]; exact Bel.refl.alloc _
  have r1 : RowAt w1 w.heap.size 28 [.int .i64 c.n, .slice A1 c.l.length k1, .slice A2 c.m.length k2, .slice A3 c.x.a.length k3, .int .i64 c.x.b, .bool c.x.s, .int .i64 c.i, .slice A4 c.p.length k4, .slice A5 c.a.length k5] := by rw [← hW]; exact RowAt.new _ _ _
  clear hW
  have HB := Lib.hid hb
  clear hb
  generalize w.heap.size = b1 at *
  have x1 := r1.cell (i := 1) rfl
  have x2 := r1.cell (i := 2) rfl
  have x3 := r1.cell (i := 3) rfl
  have x7 := r1.cell (i := 7) rfl
  have x8 := r1.cell (i := 8) rfl
  have lz := r1.lt
  clear r1
  obtain ⟨q3, h3⟩ : ∃ q, decide (20 < (c.x.a.length : Int)) = q := ⟨_, rfl⟩
  obtain ⟨q4, h4⟩ : ∃ q, decide (20 < (c.p.length : Int)) = q := ⟨_, rfl⟩
  obtain ⟨q5, h5⟩ : ∃ q, decide (20 < (c.a.length : Int)) = q := ⟨_, rfl⟩
  obtain ⟨q1, h1⟩ : ∃ q, farM most c.l = q := ⟨_, rfl⟩
  obtain ⟨q2, h2⟩ : ∃ q, farM most c.m = q := ⟨_, rfl⟩
  have HE := Lib.hid (HR.out q1 q2 q3 q4 q5 h1 h2 h3 h4 h5)
  rw [h1] at HF1
  rw [h2] at HF2
  clear HR h1 h2
  cases q1 <;> cases q2
  all_goals (first | (cases q3 <;> cases q4 <;> cases q5) | skip)
  all_goals (
    go_wp2_with (first | (go_at_call 36; (with_reducible refine (HF1.out _ HB.out).mono ?_); rintro e w2 ⟨rfl, rfl⟩) | (go_at_call 36; (with_reducible refine (HF2.out _ HB.out).mono ?_); rintro e w2 ⟨rfl, rfl⟩))
    go_ret
    exact ⟨ret_bool (by rw [HE.out]; rfl), HB.out⟩)
end Go.Proofs.Ytalphoebmefgoaa
