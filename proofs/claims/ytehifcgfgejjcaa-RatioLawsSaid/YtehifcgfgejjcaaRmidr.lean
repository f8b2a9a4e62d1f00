import Derived.Test.YtehifcgfgejjcaaRmidm
namespace Go.Proofs.Ytehifcgfgejjcaa
open Go.RowKit
set_option maxHeartbeats 4000000 in
theorem simplest_any : ∀ (f : Nat) (n d m e : Int) (w : World), Cf n d m e → (d + e).toNat < f →
    Calls Try.prog 40 #[.int .i64 n, .int .i64 d, .int .i64 m, .int .i64 e] w fun r w' => r = .returned (.tuple #[.int .i64 (cfold (cfF f n d m e)).1, .int .i64 (cfold (cfF f n d m e)).2]) ∧ w = w' := by
  intro f
  induction f with
  | zero => intro n d m e w _ h; omega
  | succ f ih =>
    intro n d m e w hc hf
    have hk := hc.k
    have hkd := hc.kd
    have hke := hc.ke
    have hke1 := hc.ke1
    have HF := Lib.hid fun W => rfloor_any n d W (by have := hc.n1; have := hc.n2; unfold i64; omega) hc.d1 (by have := hc.d1; have := hc.d2; unfold i64; omega)
    by_cases hs : e = 0 ∨ (n / d + 1) * e < m
    · have HR : Hid (cfold (cfF (f + 1) n d m e) = (n / d + 1, 1)) := Lib.hid (by rw [cfF_stop hs, cfold_one (by omega) (by omega)])
      obtain ⟨n1, n2, d1, d2, m1, m2, e1, e2, _⟩ := hc
      by_cases h0 : e = 0
      · subst h0
        clear hs ih hke1
        generalize n / d = k at *
        go_enter Try.func40, Try.ntmps40
        go_wp2_with (go_at_call 50; (with_reducible refine (HF.out _).mono ?_); rintro e w2 ⟨rfl, rfl⟩)
        go_ret2
        exact ⟨by rw [HR.out]; rfl, rfl⟩
      · have hz : (e == 0) = false := by simpa using h0
        have hlt : (n / d + 1) * e < m := by omega
        clear hs ih h0
        generalize n / d = k at *
        have hx1 : -4611686020574871551 ≤ (k + 1) * e := by omega
        have hx2 : (k + 1) * e ≤ 4611686020574871551 := by omega
        replace hke1 := Lib.hid hke1
        go_enter Try.func40, Try.ntmps40
        go_wp2_with (go_at_call 50; (with_reducible refine (HF.out _).mono ?_); rintro e w2 ⟨rfl, rfl⟩)
        go_ret2
        exact ⟨by rw [HR.out]; rfl, rfl⟩
    · obtain ⟨hn, hlt⟩ := hc.next hs
      have hd0 := hn.d1
      have he0 := hn.e1
      have HI := fun W => ih e (m - n / d * e) d (n - n / d * d) W hn (by omega)
      have HR : Hid (cfold (cfF (f + 1) n d m e) = cstep (n / d) (cfold (cfF f e (m - n / d * e) d (n - n / d * d)))) := Lib.hid (by rw [cfF_go hs, cfold_cons])
      have hpi := cfold_i64 (cfF f e (m - n / d * e) d (n - n / d * d))
      obtain ⟨n1, n2, d1, d2, m1, m2, e1, e2, _⟩ := hc
      have hz : (e == 0) = false := by simp; omega
      have hge : ¬ (n / d + 1) * e < m := by omega
      generalize cfold (cfF f e (m - n / d * e) d (n - n / d * d)) = pq at *
      obtain ⟨p, q⟩ := pq
      replace HI := Lib.hid HI
      clear hs ih hn
      generalize n / d = k at *
      have hx1 : -4611686020574871551 ≤ (k + 1) * e := by omega
      have hx2 : (k + 1) * e ≤ 4611686020574871551 := by omega
      replace hke1 := Lib.hid hke1
      clear hpi
      go_enter Try.func40, Try.ntmps40
      go_wp2_with (first | (go_at_call 50; (with_reducible refine (HF.out _).mono ?_); rintro e w2 ⟨rfl, rfl⟩) | (go_at_call 40; (with_reducible refine (HI.out _).mono ?_); rintro e w2 ⟨rfl, rfl⟩))
      go_ret2
      exact ⟨by rw [HR.out]; rfl, rfl⟩
theorem rcmp_cases (a b : Rt) : ((rcmp a b).2 = 2 ∧ (rcmp a b).1 = 0) ∨ (rval a = true ∧ rval b = true ∧ (rcmp a b).2 = 0 ∧ ((a.num * b.den < b.num * a.den ∧ (rcmp a b).1 = -1) ∨ (a.num * b.den = b.num * a.den ∧ (rcmp a b).1 = 0) ∨ (b.num * a.den < a.num * b.den ∧ (rcmp a b).1 = 1))) := by
  unfold rcmp
  cases h1 : rval a <;> cases h2 : rval b
  · exact .inl ⟨rfl, rfl⟩
  · exact .inl ⟨rfl, rfl⟩
  · exact .inl ⟨rfl, rfl⟩
  · refine .inr ⟨rfl, rfl, rfl, ?_⟩
    have e : ((if (true && true) = true then ((if a.num * b.den < b.num * a.den then (-1 : Int) else if b.num * a.den < a.num * b.den then 1 else 0), (0 : Int)) else (0, 2)) : Int × Int).1 = (if a.num * b.den < b.num * a.den then -1 else if b.num * a.den < a.num * b.den then 1 else 0) := rfl
    rw [e]
    rcases Int.lt_trichotomy (a.num * b.den) (b.num * a.den) with h | h | h
    · exact .inl ⟨h, by rw [if_pos h]⟩
    · exact .inr (.inl ⟨h, by rw [if_neg (by omega), if_neg (by omega)]⟩)
    · exact .inr (.inr ⟨h, by rw [if_neg (by omega), if_pos h]⟩)
theorem cf_start {a b : Rt} (ha : rval a = true) (hb : rval b = true) (h : a.num * b.den < b.num * a.den) : Cf a.num a.den b.num b.den ∧ (a.den + b.den).toNat < 4294967297 := by
  obtain ⟨a1, a2, a3, a4⟩ := rvalB ha
  obtain ⟨b1, b2, b3, b4⟩ := rvalB hb
  exact ⟨⟨a3, a4, a1, a2, b3, b4, by omega, b2, .inr h⟩, by omega⟩
theorem rmid_bad {a b : Rt} (h : (rcmp a b).2 ≠ 0 ∨ 0 ≤ (rcmp a b).1) : rmid a b = (⟨0, 0⟩, 2) := by
  unfold rmid; rw [if_neg (by omega)]
theorem rmid_ok {a b : Rt} (h1 : (rcmp a b).2 = 0) (h2 : (rcmp a b).1 = -1) : rmid a b = rmake (cfold (cfF 4294967297 a.num a.den b.num b.den)).1 (cfold (cfF 4294967297 a.num a.den b.num b.den)).2 := by
  unfold rmid; rw [if_pos (by omega)]
theorem rmake_at (n d : Int) (W : World) (hn : i64 n) (hd : i64 d) {rr : Rt × Int} (h : rmake n d = rr) : Calls Try.prog 29 #[.int .i64 n, .int .i64 d] W fun e' w' => e' = .returned (.tuple #[.agg #[.int .i64 rr.1.num, .int .i64 rr.1.den], .int .i64 rr.2]) ∧ Bel W w' := by
  have := rmake_any n d W hn hd
  rw [h] at this
  exact this
set_option maxHeartbeats 4000000 in
theorem rrmid_any (a b : Rt) (w : World) (ha : a.wf) (hb : b.wf) : Calls Try.prog 10 #[a.V, b.V] w fun e w' => e = .returned (rresV (rmid a b)) ∧ Bel w w' := by
  have HC := fun W => rrcmp_any a b W ha hb
  have hc := rcmp_cases a b
  have hok := fun h1 h2 => rmid_ok (a := a) (b := b) h1 h2
  have hbad := fun h => rmid_bad (a := a) (b := b) h
  have hst := fun h1 h2 h3 => cf_start (a := a) (b := b) h1 h2 h3
  obtain ⟨an, ad⟩ := a
  obtain ⟨bn, bd⟩ := b
  unfold intV Rt.V at *
  generalize (rcmp ⟨an, ad⟩ ⟨bn, bd⟩).1 = c at *
  generalize (rcmp ⟨an, ad⟩ ⟨bn, bd⟩).2 = e at *
  simp only at *
  clear ha hb
  have hcc : (rmid ⟨an, ad⟩ ⟨bn, bd⟩ = (⟨0, 0⟩, 2) ∧ ((e = 2 ∧ c = 0) ∨ (e = 0 ∧ c = 0) ∨ (e = 0 ∧ c = 1))) ∨ (e = 0 ∧ c = -1 ∧ Cf an ad bn bd ∧ (ad + bd).toNat < 4294967297 ∧ rmid ⟨an, ad⟩ ⟨bn, bd⟩ = rmake (cfold (cfF 4294967297 an ad bn bd)).1 (cfold (cfF 4294967297 an ad bn bd)).2) := by
    rcases hc with ⟨h1, h2⟩ | ⟨va, vb, h1, h2⟩
    · exact .inl ⟨hbad (by omega), .inl ⟨h1, h2⟩⟩
    · rcases h2 with ⟨h3, h4⟩ | ⟨h3, h4⟩ | ⟨h3, h4⟩
      · exact .inr ⟨h1, h4, (hst va vb h3).1, (hst va vb h3).2, hok h1 h4⟩
      · exact .inl ⟨hbad (by omega), .inr (.inl ⟨h1, h4⟩)⟩
      · exact .inl ⟨hbad (by omega), .inr (.inr ⟨h1, h4⟩)⟩
  clear hc hok hbad hst
  rcases hcc with ⟨hr, h2⟩ | ⟨rfl, rfl, hcf, hfu, hr⟩
  · replace hr := Lib.hid hr
    rcases h2 with ⟨rfl, rfl⟩ | ⟨rfl, rfl⟩ | ⟨rfl, rfl⟩
    all_goals
      replace HC := Lib.hid HC
      go_enter Try.func10, Try.ntmps10
      go_upto_region 1 with (fail)
      (generalize hW : World.alloc _ _ = wb; have q0_0 := (congrArg (fun W : World => W.cell? ⟨w.heap.size, 0, none⟩) hW).symm; simp [go_sem] at q0_0; have qf0_0 := (congrArg (fun W : World => W.frozen? ⟨w.heap.size, 0, none⟩) hW).symm; simp [go_sem] at qf0_0; have q0_1 := (congrArg (fun W : World => W.cell? ⟨w.heap.size, 1, none⟩) hW).symm; simp [go_sem] at q0_1; have qf0_1 := (congrArg (fun W : World => W.frozen? ⟨w.heap.size, 1, none⟩) hW).symm; simp [go_sem] at qf0_1; have qz0 : w.heap.size < wb.heap.size := (by rw [← hW]; simp [go_sem]; try omega); have q1_0 := (congrArg (fun W : World => W.cell? ⟨w.heap.size + 1, 0, none⟩) hW).symm; simp [go_sem] at q1_0; have qf1_0 := (congrArg (fun W : World => W.frozen? ⟨w.heap.size + 1, 0, none⟩) hW).symm; simp [go_sem] at qf1_0; have q1_1 := (congrArg (fun W : World => W.cell? ⟨w.heap.size + 1, 1, none⟩) hW).symm; simp [go_sem] at q1_1; have qf1_1 := (congrArg (fun W : World => W.frozen? ⟨w.heap.size + 1, 1, none⟩) hW).symm; simp [go_sem] at qf1_1; have qz1 : w.heap.size + 1 < wb.heap.size := (by rw [← hW]; simp [go_sem]; try omega); have q2_0 := (congrArg (fun W : World => W.cell? ⟨w.heap.size + 1 + 1, 0, none⟩) hW).symm; simp [go_sem] at q2_0; have qf2_0 := (congrArg (fun W : World => W.frozen? ⟨w.heap.size + 1 + 1, 0, none⟩) hW).symm; simp [go_sem] at qf2_0; have q2_1 := (congrArg (fun W : World => W.cell? ⟨w.heap.size + 1 + 1, 1, none⟩) hW).symm; simp [go_sem] at q2_1; have qf2_1 := (congrArg (fun W : World => W.frozen? ⟨w.heap.size + 1 + 1, 1, none⟩) hW).symm; simp [go_sem] at qf2_1; have qz2 : w.heap.size + 1 + 1 < wb.heap.size := (by rw [← hW]; simp [go_sem]; try omega); have HBW : Hid (Bel w wb) := Lib.hid (by rw [← hW]; (repeat (first | exact Ext.bel _ | exact Bel.refl | refine Bel.alloc ?_ _ | refine Bel.drew ?_ | refine Bel.drewN ?_ _))); clear hW; have hkw := HBW.out.cells)
      go_wp2_with (go_at_call 25; (with_reducible refine (HC.out _).mono ?_); rintro e w2 ⟨rfl, hb2⟩; obtain ⟨x, rfl⟩ : ∃ x : Ext wb, w2 = x.w := ext_of (hb2.after (by (repeat (first | exact Ext.bel _ | exact Bel.refl | refine Bel.alloc ?_ _ | refine Bel.drew ?_ | refine Bel.drewN ?_ _)))); clear hb2)
      refine bodyPost_ret (v := .tuple #[.agg #[.int .i64 0, .int .i64 0], .int .i64 2]) (by simp [results, Try.results10, go_sem, q2_0, q2_1, qz2]) rfl ⟨by rw [hr.out]; rfl, ?_⟩
      (repeat (first | exact HBW.out.trans x.bel | refine Bel.alloc ?_ _ | refine Bel.drew ?_ | refine Bel.drewN ?_ _ | refine Bel.set ?_ (by first | exact Nat.le_refl _ | (simp; done) | (simp; omega) | omega) _))
  · replace HC := Lib.hid HC
    have HS := fun W => simplest_any 4294967297 an ad bn bd W hcf hfu
    have hi := cfold_i64 (cfF 4294967297 an ad bn bd)
    clear hcf hfu
    generalize cfold (cfF 4294967297 an ad bn bd) = pq at *
    obtain ⟨p, q⟩ := pq
    simp only at *
    have HM := fun W => rmake_at p q W hi.1 hi.2 rfl
    generalize rmake p q = rr at *
    obtain ⟨⟨rn, rd⟩, re⟩ := rr
    simp only at *
    replace hr := Lib.hid hr
    replace HM := Lib.hid HM
    replace HS := Lib.hid HS
    clear hi
    go_enter Try.func10, Try.ntmps10
    go_upto_region 1 with (fail)
    (generalize hW : World.alloc _ _ = wb; have q0_0 := (congrArg (fun W : World => W.cell? ⟨w.heap.size, 0, none⟩) hW).symm; simp [go_sem] at q0_0; have qf0_0 := (congrArg (fun W : World => W.frozen? ⟨w.heap.size, 0, none⟩) hW).symm; simp [go_sem] at qf0_0; have q0_1 := (congrArg (fun W : World => W.cell? ⟨w.heap.size, 1, none⟩) hW).symm; simp [go_sem] at q0_1; have qf0_1 := (congrArg (fun W : World => W.frozen? ⟨w.heap.size, 1, none⟩) hW).symm; simp [go_sem] at qf0_1; have qz0 : w.heap.size < wb.heap.size := (by rw [← hW]; simp [go_sem]; try omega); have q1_0 := (congrArg (fun W : World => W.cell? ⟨w.heap.size + 1, 0, none⟩) hW).symm; simp [go_sem] at q1_0; have qf1_0 := (congrArg (fun W : World => W.frozen? ⟨w.heap.size + 1, 0, none⟩) hW).symm; simp [go_sem] at qf1_0; have q1_1 := (congrArg (fun W : World => W.cell? ⟨w.heap.size + 1, 1, none⟩) hW).symm; simp [go_sem] at q1_1; have qf1_1 := (congrArg (fun W : World => W.frozen? ⟨w.heap.size + 1, 1, none⟩) hW).symm; simp [go_sem] at qf1_1; have qz1 : w.heap.size + 1 < wb.heap.size := (by rw [← hW]; simp [go_sem]; try omega); have q2_0 := (congrArg (fun W : World => W.cell? ⟨w.heap.size + 1 + 1, 0, none⟩) hW).symm; simp [go_sem] at q2_0; have qf2_0 := (congrArg (fun W : World => W.frozen? ⟨w.heap.size + 1 + 1, 0, none⟩) hW).symm; simp [go_sem] at qf2_0; have q2_1 := (congrArg (fun W : World => W.cell? ⟨w.heap.size + 1 + 1, 1, none⟩) hW).symm; simp [go_sem] at q2_1; have qf2_1 := (congrArg (fun W : World => W.frozen? ⟨w.heap.size + 1 + 1, 1, none⟩) hW).symm; simp [go_sem] at qf2_1; have qz2 : w.heap.size + 1 + 1 < wb.heap.size := (by rw [← hW]; simp [go_sem]; try omega); have HBW : Hid (Bel w wb) := Lib.hid (by rw [← hW]; (repeat (first | exact Ext.bel _ | exact Bel.refl | refine Bel.alloc ?_ _ | refine Bel.drew ?_ | refine Bel.drewN ?_ _))); clear hW; have hkw := HBW.out.cells)
    go_wp2_with (first | (go_at_call 25; (with_reducible refine (HC.out _).mono ?_); rintro e w2 ⟨rfl, hb2⟩; obtain ⟨x, rfl⟩ : ∃ x : Ext wb, w2 = x.w := ext_of (hb2.after (by (repeat (first | exact Ext.bel _ | exact Bel.refl | refine Bel.alloc ?_ _ | refine Bel.drew ?_ | refine Bel.drewN ?_ _)))); clear hb2) | (go_at_call 40; (with_reducible refine (HS.out _).mono ?_); rintro e w2 ⟨rfl, rfl⟩) | (go_at_call 29; (with_reducible refine (HM.out _).mono ?_); rintro e w2 ⟨rfl, hb2⟩; obtain ⟨x, rfl⟩ : ∃ x : Ext wb, w2 = x.w := ext_of (hb2.after (by (repeat (first | exact Ext.bel _ | exact Bel.refl | refine Bel.alloc ?_ _ | refine Bel.drew ?_ | refine Bel.drewN ?_ _)))); clear hb2))
    refine bodyPost_ret (v := .tuple #[.agg #[.int .i64 rn, .int .i64 rd], .int .i64 re]) (by simp [results, Try.results10, go_sem, q2_0, q2_1, qz2]) rfl ⟨by rw [hr.out]; rfl, ?_⟩
    (repeat (first | exact HBW.out.trans x.bel | refine Bel.alloc ?_ _ | refine Bel.drew ?_ | refine Bel.drewN ?_ _ | refine Bel.set ?_ (by first | exact Nat.le_refl _ | (simp; done) | (simp; omega) | omega) _))
end Go.Proofs.Ytehifcgfgejjcaa
