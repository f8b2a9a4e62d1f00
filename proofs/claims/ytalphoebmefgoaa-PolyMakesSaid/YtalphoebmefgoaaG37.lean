import Derived.Test.YtalphoebmefgoaaG36
import Derived.Test.YtalphoebmefgoaaG1
import Derived.Deep.LoopGhost
namespace Go.Proofs.Ytalphoebmefgoaa
open Go.RowKit
/-- the whole parts of the simplest number between n / d and m / e -/
def cfF : Nat → Int → Int → Int → Int → List Int
  | 0, _, _, _, _ => []
  | f + 1, n, d, m, e => if e = 0 ∨ (n / d + 1) * e < m then [n / d + 1] else n / d :: cfF f e (m - n / d * e) d (n - n / d * d)
def cstep (k : Int) (p : Int × Int) : Int × Int := (wrap64 (wrap64 (k * p.1) + p.2), p.1)
def cfold (l : List Int) : Int × Int := l.foldr cstep (1, 0)
def rmid (a b : Rt) : Rt × Int := if (rcmp a b).2 = 0 ∧ (rcmp a b).1 < 0 then rmake (cfold (cfF 4294967297 a.num a.den b.num b.den)).1 (cfold (cfF 4294967297 a.num a.den b.num b.den)).2 else (⟨0, 0⟩, 2)
/-- what holds of the four numbers on the way -/
structure Cf (n d m e : Int) : Prop where
  n1 : -2147483647 ≤ n
  n2 : n ≤ 2147483647
  d1 : 0 < d
  d2 : d ≤ 2147483647
  m1 : -2147483647 ≤ m
  m2 : m ≤ 2147483647
  e1 : 0 ≤ e
  e2 : e ≤ 2147483647
  lt : e = 0 ∨ n * e < m * d
theorem Cf.k {n d m e : Int} (h : Cf n d m e) : -2147483648 ≤ n / d ∧ n / d ≤ 2147483648 := fl_bd n h.d1 h.n1 h.n2
theorem Cf.kd {n d m e : Int} (h : Cf n d m e) : n / d * d ≤ n ∧ n < n / d * d + d := by
  have h1 := Int.ediv_mul_le n (b := d) (by have := h.d1; omega)
  have h2 := Int.lt_ediv_add_one_mul_self n h.d1
  rw [Int.add_mul, Int.one_mul] at h2
  exact ⟨h1, h2⟩
theorem Cf.ke {n d m e : Int} (h : Cf n d m e) : -4611686018427387904 ≤ n / d * e ∧ n / d * e ≤ 4611686018427387904 := by
  have hk := h.k
  have := mulb (a := n / d) (b := e) (A := 2147483648) (B := 2147483648) (by omega) (by omega) (by have := h.e1; omega) (by have := h.e2; omega)
  omega
theorem Cf.ke1 {n d m e : Int} (_h : Cf n d m e) : (n / d + 1) * e = n / d * e + e := by rw [Int.add_mul, Int.one_mul]
theorem Cf.next {n d m e : Int} (h : Cf n d m e) (hs : ¬ (e = 0 ∨ (n / d + 1) * e < m)) : Cf e (m - n / d * e) d (n - n / d * d) ∧ (m - n / d * e) + (n - n / d * d) < d + e := by
  have hkd := h.kd
  rw [h.ke1] at hs
  have he : 0 < e := by have := h.e1; omega
  have hlt : n * e < m * d := by rcases h.lt with h0 | h0; · omega
                                 · exact h0
  have h1 : n / d * d * e ≤ n * e := Int.mul_le_mul_of_nonneg_right hkd.1 (by omega)
  have h2 : n / d * e < m := by
    refine Int.lt_of_mul_lt_mul_right (a := d) ?_ (by have := h.d1; omega)
    rw [Int.mul_assoc, Int.mul_comm e d, ← Int.mul_assoc]
    omega
  have a1 := h.d1
  have a2 := h.d2
  have a3 := h.e2
  refine ⟨⟨by omega, by omega, by omega, by omega, by omega, by omega, by omega, by omega, .inr ?_⟩, by omega⟩
  rw [Int.mul_sub, Int.mul_sub]
  have e1 : e * (n / d * d) = d * (n / d * e) := by rw [Int.mul_comm e, Int.mul_assoc, Int.mul_comm d e, ← Int.mul_assoc, Int.mul_comm]
  have e2 : e * n = n * e := Int.mul_comm _ _
  have e3 : d * m = m * d := Int.mul_comm _ _
  omega
theorem cfF_stop {f : Nat} {n d m e : Int} (h : e = 0 ∨ (n / d + 1) * e < m) : cfF (f + 1) n d m e = [n / d + 1] := by simp only [cfF, if_pos h]
theorem cfF_go {f : Nat} {n d m e : Int} (h : ¬ (e = 0 ∨ (n / d + 1) * e < m)) : cfF (f + 1) n d m e = n / d :: cfF f e (m - n / d * e) d (n - n / d * d) := by simp only [cfF, if_neg h]
/-- the fuel does not matter -/
theorem cfF_fuel : ∀ (f g : Nat) (n d m e : Int), Cf n d m e → (d + e).toNat < f → (d + e).toNat < g → cfF f n d m e = cfF g n d m e
  | 0, _, _, _, _, _, _, h, _ => by omega
  | _ + 1, 0, _, _, _, _, _, _, h => by omega
  | f + 1, g + 1, n, d, m, e, hc, h1, h2 => by
    by_cases hs : e = 0 ∨ (n / d + 1) * e < m
    · rw [cfF_stop hs, cfF_stop hs]
    · obtain ⟨hn, hlt⟩ := hc.next hs
      have hd := hn.d1
      have he := hn.e1
      rw [cfF_go hs, cfF_go hs, cfF_fuel f g _ _ _ _ hn (by omega) (by omega)]
theorem wrap_i64 (a : Int) : i64 (wrap64 a) := by unfold i64 wrap64; omega
theorem cfold_cons (k : Int) (l : List Int) : cfold (k :: l) = cstep k (cfold l) := rfl
theorem cfold_one {k : Int} (h1 : -2147483648 ≤ k) (h2 : k ≤ 2147483649) : cfold [k] = (k, 1) := by
  show (wrap64 (wrap64 (k * 1) + 0), 1) = (k, 1)
  rw [Int.mul_one, Int.add_zero, wrap_small k (by omega) (by omega), wrap_small k (by omega) (by omega)]
theorem cfold_i64 : ∀ l, i64 (cfold l).1 ∧ i64 (cfold l).2
  | [] => by unfold cfold i64; simp
  | k :: l => by
    rw [cfold_cons]
    exact ⟨wrap_i64 _, (cfold_i64 l).1⟩
end Go.Proofs.Ytalphoebmefgoaa
namespace Go.Proofs.Ytalphoebmefgoaa
open Go.RowKit
set_option maxHeartbeats 4000000 in
theorem simplest_any : ∀ (f : Nat) (n d m e : Int) (w : World), Cf n d m e → (d + e).toNat < f →
    Calls Try.prog 106 #[.int .i64 n, .int .i64 d, .int .i64 m, .int .i64 e] w fun r w' => r = .returned (.tuple #[.int .i64 (cfold (cfF f n d m e)).1, .int .i64 (cfold (cfF f n d m e)).2]) ∧ w = w' := by
  intro f
  induction f with
  | zero => intro n d m e w _ h; omega
  | succ f ih =>
    intro n d m e w hc hf
    have hk := hc.k
    have hkd := hc.kd
    have hke := hc.ke
    have hke1 := hc.ke1
    have HF := Lib.hid fun W => rfloor_any n d W (by have := hc.n1; have := hc.n2; unfold i64; omega) hc.d1 (by have := hc.d1; have := hc.d2; unfold i64; omega)
    by_cases hs : e = 0 ∨ (n / d + 1) * e < m
    · have HR : Hid (cfold (cfF (f + 1) n d m e) = (n / d + 1, 1)) := Lib.hid (by rw [cfF_stop hs, cfold_one (by omega) (by omega)])
      obtain ⟨n1, n2, d1, d2, m1, m2, e1, e2, _⟩ := hc
      by_cases h0 : e = 0
      · subst h0
        clear hs ih hke1
        generalize n / d = k at *
        go_enter Try.func106, Try.ntmps106
        go_wp2_with (go_at_call 109; (with_reducible refine (HF.out _).mono ?_); rintro e w2 ⟨rfl, rfl⟩)
        go_ret2
        exact ⟨by rw [HR.out]; rfl, rfl⟩
      · have hz : (e == 0) = false := by simpa using h0
        have hlt : (n / d + 1) * e < m := by omega
        clear hs ih h0
        generalize n / d = k at *
        have hx1 : -4611686020574871551 ≤ (k + 1) * e := by omega
        have hx2 : (k + 1) * e ≤ 4611686020574871551 := by omega
        replace hke1 := Lib.hid hke1
        go_enter Try.func106, Try.ntmps106
        go_wp2_with (go_at_call 109; (with_reducible refine (HF.out _).mono ?_); rintro e w2 ⟨rfl, rfl⟩)
        go_ret2
        exact ⟨by rw [HR.out]; rfl, rfl⟩
    · obtain ⟨hn, hlt⟩ := hc.next hs
      have hd0 := hn.d1
      have he0 := hn.e1
      have HI := fun W => ih e (m - n / d * e) d (n - n / d * d) W hn (by omega)
      have HR : Hid (cfold (cfF (f + 1) n d m e) = cstep (n / d) (cfold (cfF f e (m - n / d * e) d (n - n / d * d)))) := Lib.hid (by rw [cfF_go hs, cfold_cons])
      have hpi := cfold_i64 (cfF f e (m - n / d * e) d (n - n / d * d))
      obtain ⟨n1, n2, d1, d2, m1, m2, e1, e2, _⟩ := hc
      have hz : (e == 0) = false := by simp; omega
      have hge : ¬ (n / d + 1) * e < m := by omega
      generalize cfold (cfF f e (m - n / d * e) d (n - n / d * d)) = pq at *
      obtain ⟨p, q⟩ := pq
      replace HI := Lib.hid HI
      clear hs ih hn
      generalize n / d = k at *
      have hx1 : -4611686020574871551 ≤ (k + 1) * e := by omega
      have hx2 : (k + 1) * e ≤ 4611686020574871551 := by omega
      replace hke1 := Lib.hid hke1
      clear hpi
      go_enter Try.func106, Try.ntmps106
      go_wp2_with (first | (go_at_call 109; (with_reducible refine (HF.out _).mono ?_); rintro e w2 ⟨rfl, rfl⟩) | (go_at_call 106; (with_reducible refine (HI.out _).mono ?_); rintro e w2 ⟨rfl, rfl⟩))
      go_ret2
      exact ⟨by rw [HR.out]; rfl, rfl⟩
theorem rcmp_cases (a b : Rt) : ((rcmp a b).2 = 2 ∧ (rcmp a b).1 = 0) ∨ (rval a = true ∧ rval b = true ∧ (rcmp a b).2 = 0 ∧ ((a.num * b.den < b.num * a.den ∧ (rcmp a b).1 = -1) ∨ (a.num * b.den = b.num * a.den ∧ (rcmp a b).1 = 0) ∨ (b.num * a.den < a.num * b.den ∧ (rcmp a b).1 = 1))) := by
  unfold rcmp
  cases h1 : rval a <;> cases h2 : rval b
  · exact .inl ⟨rfl, rfl⟩
  · exact .inl ⟨rfl, rfl⟩
  · exact .inl ⟨rfl, rfl⟩
  · refine .inr ⟨rfl, rfl, rfl, ?_⟩
    have e : ((if (true && true) = true then ((if a.num * b.den < b.num * a.den then (-1 : Int) else if b.num * a.den < a.num * b.den then 1 else 0), (0 : Int)) else (0, 2)) : Int × Int).1 = (if a.num * b.den < b.num * a.den then -1 else if b.num * a.den < a.num * b.den then 1 else 0) := rfl
    rw [e]
    rcases Int.lt_trichotomy (a.num * b.den) (b.num * a.den) with h | h | h
    · exact .inl ⟨h, by rw [if_pos h]⟩
    · exact .inr (.inl ⟨h, by rw [if_neg (by omega), if_neg (by omega)]⟩)
    · exact .inr (.inr ⟨h, by rw [if_neg (by omega), if_pos h]⟩)
theorem cf_start {a b : Rt} (ha : rval a = true) (hb : rval b = true) (h : a.num * b.den < b.num * a.den) : Cf a.num a.den b.num b.den ∧ (a.den + b.den).toNat < 4294967297 := by
  obtain ⟨a1, a2, a3, a4⟩ := rvalB ha
  obtain ⟨b1, b2, b3, b4⟩ := rvalB hb
  exact ⟨⟨a3, a4, a1, a2, b3, b4, by omega, b2, .inr h⟩, by omega⟩
theorem rmid_bad {a b : Rt} (h : (rcmp a b).2 ≠ 0 ∨ 0 ≤ (rcmp a b).1) : rmid a b = (⟨0, 0⟩, 2) := by
  unfold rmid; rw [if_neg (by omega)]
theorem rmid_ok {a b : Rt} (h1 : (rcmp a b).2 = 0) (h2 : (rcmp a b).1 = -1) : rmid a b = rmake (cfold (cfF 4294967297 a.num a.den b.num b.den)).1 (cfold (cfF 4294967297 a.num a.den b.num b.den)).2 := by
  unfold rmid; rw [if_pos (by omega)]
theorem rmake_at (n d : Int) (W : World) (hn : i64 n) (hd : i64 d) {rr : Rt × Int} (h : rmake n d = rr) : Calls Try.prog 50 #[.int .i64 n, .int .i64 d] W fun e' w' => e' = .returned (.tuple #[.agg #[.int .i64 rr.1.num, .int .i64 rr.1.den], .int .i64 rr.2]) ∧ Bel W w' := by
  have := rmake_any n d W hn hd
  rw [h] at this
  exact this
set_option maxHeartbeats 4000000 in
theorem rrmid_any (a b : Rt) (w : World) (ha : a.wf) (hb : b.wf) : Calls Try.prog 100 #[a.V, b.V] w fun e w' => e = .returned (rresV (rmid a b)) ∧ Bel w w' := by
  have HC := fun W => rrcmp_any a b W ha hb
  have hc := rcmp_cases a b
  have hok := fun h1 h2 => rmid_ok (a := a) (b := b) h1 h2
  have hbad := fun h => rmid_bad (a := a) (b := b) h
  have hst := fun h1 h2 h3 => cf_start (a := a) (b := b) h1 h2 h3
  obtain ⟨an, ad⟩ := a
  obtain ⟨bn, bd⟩ := b
  unfold intV Rt.V at *
  generalize (rcmp ⟨an, ad⟩ ⟨bn, bd⟩).1 = c at *
  generalize (rcmp ⟨an, ad⟩ ⟨bn, bd⟩).2 = e at *
  simp only at *
  clear ha hb
  have hcc : (rmid ⟨an, ad⟩ ⟨bn, bd⟩ = (⟨0, 0⟩, 2) ∧ ((e = 2 ∧ c = 0) ∨ (e = 0 ∧ c = 0) ∨ (e = 0 ∧ c = 1))) ∨ (e = 0 ∧ c = -1 ∧ Cf an ad bn bd ∧ (ad + bd).toNat < 4294967297 ∧ rmid ⟨an, ad⟩ ⟨bn, bd⟩ = rmake (cfold (cfF 4294967297 an ad bn bd)).1 (cfold (cfF 4294967297 an ad bn bd)).2) := by
    rcases hc with ⟨h1, h2⟩ | ⟨va, vb, h1, h2⟩
    · exact .inl ⟨hbad (by omega), .inl ⟨h1, h2⟩⟩
    · rcases h2 with ⟨h3, h4⟩ | ⟨h3, h4⟩ | ⟨h3, h4⟩
      · exact .inr ⟨h1, h4, (hst va vb h3).1, (hst va vb h3).2, hok h1 h4⟩
      · exact .inl ⟨hbad (by omega), .inr (.inl ⟨h1, h4⟩)⟩
      · exact .inl ⟨hbad (by omega), .inr (.inr ⟨h1, h4⟩)⟩
  clear hc hok hbad hst
  rcases hcc with ⟨hr, h2⟩ | ⟨rfl, rfl, hcf, hfu, hr⟩
  · replace hr := Lib.hid hr
    rcases h2 with ⟨rfl, rfl⟩ | ⟨rfl, rfl⟩ | ⟨rfl, rfl⟩
    all_goals
      replace HC := Lib.hid HC
      go_enter Try.func100, Try.ntmps100
      go_upto_region 1 with (fail)
      (generalize hW : World.alloc _ _ = wb; have q0_0 := (congrArg (fun W : World => W.cell? ⟨w.heap.size, 0, none⟩) hW).symm; simp [go_sem] at q0_0; have qf0_0 := (congrArg (fun W : World => W.frozen? ⟨w.heap.size, 0, none⟩) hW).symm; simp [go_sem] at qf0_0; have q0_1 := (congrArg (fun W : World => W.cell? ⟨w.heap.size, 1, none⟩) hW).symm; simp [go_sem] at q0_1; have qf0_1 := (congrArg (fun W : World => W.frozen? ⟨w.heap.size, 1, none⟩) hW).symm; simp [go_sem] at qf0_1; have qz0 : w.heap.size < wb.heap.size := (by rw [← hW]; simp [go_sem]; try omega); have q1_0 := (congrArg (fun W : World => W.cell? ⟨w.heap.size + 1, 0, none⟩) hW).symm; simp [go_sem] at q1_0; have qf1_0 := (congrArg (fun W : World => W.frozen? ⟨w.heap.size + 1, 0, none⟩) hW).symm; simp [go_sem] at qf1_0; have q1_1 := (congrArg (fun W : World => W.cell? ⟨w.heap.size + 1, 1, none⟩) hW).symm; simp [go_sem] at q1_1; have qf1_1 := (congrArg (fun W : World => W.frozen? ⟨w.heap.size + 1, 1, none⟩) hW).symm; simp [go_sem] at qf1_1; have qz1 : w.heap.size + 1 < wb.heap.size := (by rw [← hW]; simp [go_sem]; try omega); have q2_0 := (congrArg (fun W : World => W.cell? ⟨w.heap.size + 1 + 1, 0, none⟩) hW).symm; simp [go_sem] at q2_0; have qf2_0 := (congrArg (fun W : World => W.frozen? ⟨w.heap.size + 1 + 1, 0, none⟩) hW).symm; simp [go_sem] at qf2_0; have q2_1 := (congrArg (fun W : World => W.cell? ⟨w.heap.size + 1 + 1, 1, none⟩) hW).symm; simp [go_sem] at q2_1; have qf2_1 := (congrArg (fun W : World => W.frozen? ⟨w.heap.size + 1 + 1, 1, none⟩) hW).symm; simp [go_sem] at qf2_1; have qz2 : w.heap.size + 1 + 1 < wb.heap.size := (by rw [← hW]; simp [go_sem]; try omega); have HBW : Hid (Bel w wb) := Lib.hid (by rw [← hW]; (repeat (first | exact Ext.bel _ | exact Bel.refl | refine Bel.alloc ?_ _ | refine Bel.drew ?_ | refine Bel.drewN ?_ _))); clear hW; have hkw := HBW.out.cells)
      go_wp2_with (go_at_call 22; (with_reducible refine (HC.out _).mono ?_); rintro e w2 ⟨rfl, hb2⟩; obtain ⟨x, rfl⟩ : ∃ x : Ext wb, w2 = x.w := ext_of (hb2.after (by (repeat (first | exact Ext.bel _ | exact Bel.refl | refine Bel.alloc ?_ _ | refine Bel.drew ?_ | refine Bel.drewN ?_ _)))); clear hb2)
      refine bodyPost_ret (v := .tuple #[.agg #[.int .i64 0, .int .i64 0], .int .i64 2]) (by simp [results, Try.results100, go_sem, q2_0, q2_1, qz2]) rfl ⟨by rw [hr.out]; rfl, ?_⟩
      (repeat (first | exact HBW.out.trans x.bel | refine Bel.alloc ?_ _ | refine Bel.drew ?_ | refine Bel.drewN ?_ _ | refine Bel.set ?_ (by first | exact Nat.le_refl _ | (simp; done) | (simp; omega) | omega) _))
  · replace HC := Lib.hid HC
    have HS := fun W => simplest_any 4294967297 an ad bn bd W hcf hfu
    have hi := cfold_i64 (cfF 4294967297 an ad bn bd)
    clear hcf hfu
    generalize cfold (cfF 4294967297 an ad bn bd) = pq at *
    obtain ⟨p, q⟩ := pq
    simp only at *
    have HM := fun W => rmake_at p q W hi.1 hi.2 rfl
    generalize rmake p q = rr at *
    obtain ⟨⟨rn, rd⟩, re⟩ := rr
    simp only at *
    replace hr := Lib.hid hr
    replace HM := Lib.hid HM
    replace HS := Lib.hid HS
    clear hi
    go_enter Try.func100, Try.ntmps100
    go_upto_region 1 with (fail)
    (generalize hW : World.alloc _ _ = wb; have q0_0 := (congrArg (fun W : World => W.cell? ⟨w.heap.size, 0, none⟩) hW).symm; simp [go_sem] at q0_0; have qf0_0 := (congrArg (fun W : World => W.frozen? ⟨w.heap.size, 0, none⟩) hW).symm; simp [go_sem] at qf0_0; have q0_1 := (congrArg (fun W : World => W.cell? ⟨w.heap.size, 1, none⟩) hW).symm; simp [go_sem] at q0_1; have qf0_1 := (congrArg (fun W : World => W.frozen? ⟨w.heap.size, 1, none⟩) hW).symm; simp [go_sem] at qf0_1; have qz0 : w.heap.size < wb.heap.size := (by rw [← hW]; simp [go_sem]; try omega); have q1_0 := (congrArg (fun W : World => W.cell? ⟨w.heap.size + 1, 0, none⟩) hW).symm; simp [go_sem] at q1_0; have qf1_0 := (congrArg (fun W : World => W.frozen? ⟨w.heap.size + 1, 0, none⟩) hW).symm; simp [go_sem] at qf1_0; have q1_1 := (congrArg (fun W : World => W.cell? ⟨w.heap.size + 1, 1, none⟩) hW).symm; simp [go_sem] at q1_1; have qf1_1 := (congrArg (fun W : World => W.frozen? ⟨w.heap.size + 1, 1, none⟩) hW).symm; simp [go_sem] at qf1_1; have qz1 : w.heap.size + 1 < wb.heap.size := (by rw [← hW]; simp [go_sem]; try omega); have q2_0 := (congrArg (fun W : World => W.cell? ⟨w.heap.size + 1 + 1, 0, none⟩) hW).symm; simp [go_sem] at q2_0; have qf2_0 := (congrArg (fun W : World => W.frozen? ⟨w.heap.size + 1 + 1, 0, none⟩) hW).symm; simp [go_sem] at qf2_0; have q2_1 := (congrArg (fun W : World => W.cell? ⟨w.heap.size + 1 + 1, 1, none⟩) hW).symm; simp [go_sem] at q2_1; have qf2_1 := (congrArg (fun W : World => W.frozen? ⟨w.heap.size + 1 + 1, 1, none⟩) hW).symm; simp [go_sem] at qf2_1; have qz2 : w.heap.size + 1 + 1 < wb.heap.size := (by rw [← hW]; simp [go_sem]; try omega); have HBW : Hid (Bel w wb) := Lib.hid (by rw [← hW]; (repeat (first | exact Ext.bel _ | exact Bel.refl | refine Bel.alloc ?_ _ | refine Bel.drew ?_ | refine Bel.drewN ?_ _))); clear hW; have hkw := HBW.out.cells)
    go_wp2_with (first | (go_at_call 22; (with_reducible refine (HC.out _).mono ?_); rintro e w2 ⟨rfl, hb2⟩; obtain ⟨x, rfl⟩ : ∃ x : Ext wb, w2 = x.w := ext_of (hb2.after (by (repeat (first | exact Ext.bel _ | exact Bel.refl | refine Bel.alloc ?_ _ | refine Bel.drew ?_ | refine Bel.drewN ?_ _)))); clear hb2) | (go_at_call 106; (with_reducible refine (HS.out _).mono ?_); rintro e w2 ⟨rfl, rfl⟩) | (go_at_call 50; (with_reducible refine (HM.out _).mono ?_); rintro e w2 ⟨rfl, hb2⟩; obtain ⟨x, rfl⟩ : ∃ x : Ext wb, w2 = x.w := ext_of (hb2.after (by (repeat (first | exact Ext.bel _ | exact Bel.refl | refine Bel.alloc ?_ _ | refine Bel.drew ?_ | refine Bel.drewN ?_ _)))); clear hb2))
    refine bodyPost_ret (v := .tuple #[.agg #[.int .i64 rn, .int .i64 rd], .int .i64 re]) (by simp [results, Try.results100, go_sem, q2_0, q2_1, qz2]) rfl ⟨by rw [hr.out]; rfl, ?_⟩
    (repeat (first | exact HBW.out.trans x.bel | refine Bel.alloc ?_ _ | refine Bel.drew ?_ | refine Bel.drewN ?_ _ | refine Bel.set ?_ (by first | exact Nat.le_refl _ | (simp; done) | (simp; omega) | omega) _))
end Go.Proofs.Ytalphoebmefgoaa
namespace Go.Proofs.Ytalphoebmefgoaa
open Go.RowKit
theorem Try.infoI64m : (Try.prog.info? 2).map (fun i => (i.zero, i.size, i.bytes)) = some (some (.int .i64 0), 1, 8) := by kernel_rfl
theorem pmake_at (n d : Int) (W : World) (hn : i64 n) (hd : i64 d) : Calls Try.prog 95 #[.int .i64 n, .int .i64 d] W fun e' w' => e' = .returned (.tuple #[.agg #[.int .i64 (rmake n d).1.num, .int .i64 (rmake n d).1.den], .int .i64 (rmake n d).2]) ∧ Bel W w' := pmake_any n d W hn hd
set_option maxRecDepth 100000 in
set_option maxHeartbeats 8000000 in
theorem prmid_any (a b : Rt) (w : World) (ha : a.wf) (hb : b.wf) : Calls Try.prog 58 #[a.V, b.V] w fun e w' => e = .returned (rresV (rmid a b)) ∧ Bel w w' := by
  have HC := fun W => prcmp_any a b W ha hb
  have hc := rcmp_cases a b
  have hok := fun h1 h2 => rmid_ok (a := a) (b := b) h1 h2
  have hbad := fun h => rmid_bad (a := a) (b := b) h
  have hst := fun h1 h2 h3 => cf_start (a := a) (b := b) h1 h2 h3
  obtain ⟨an, ad⟩ := a
  obtain ⟨bn, bd⟩ := b
  unfold intV Rt.V at *
  generalize (rcmp ⟨an, ad⟩ ⟨bn, bd⟩).1 = c at *
  generalize (rcmp ⟨an, ad⟩ ⟨bn, bd⟩).2 = e at *
  simp only at *
  clear ha hb
  have hcc : (rmid ⟨an, ad⟩ ⟨bn, bd⟩ = (⟨0, 0⟩, 2) ∧ ((e = 2 ∧ c = 0) ∨ (e = 0 ∧ c = 0) ∨ (e = 0 ∧ c = 1))) ∨ (e = 0 ∧ c = -1 ∧ Cf an ad bn bd ∧ (ad + bd).toNat < 4294967297 ∧ rmid ⟨an, ad⟩ ⟨bn, bd⟩ = rmake (cfold (cfF 4294967297 an ad bn bd)).1 (cfold (cfF 4294967297 an ad bn bd)).2) := by
    rcases hc with ⟨h1, h2⟩ | ⟨va, vb, h1, h2⟩
    · exact .inl ⟨hbad (by omega), .inl ⟨h1, h2⟩⟩
    · rcases h2 with ⟨h3, h4⟩ | ⟨h3, h4⟩ | ⟨h3, h4⟩
      · exact .inr ⟨h1, h4, (hst va vb h3).1, (hst va vb h3).2, hok h1 h4⟩
      · exact .inl ⟨hbad (by omega), .inr (.inl ⟨h1, h4⟩)⟩
      · exact .inl ⟨hbad (by omega), .inr (.inr ⟨h1, h4⟩)⟩
  clear hc hok hbad hst
  rcases hcc with ⟨hr, h2⟩ | ⟨rfl, rfl, hcf, hfu, hr⟩
  · replace hr := Lib.hid hr
    rcases h2 with ⟨rfl, rfl⟩ | ⟨rfl, rfl⟩ | ⟨rfl, rfl⟩
    all_goals
      replace HC := Lib.hid HC
      go_enter Try.func58, Try.ntmps58
      go_upto_region 1 with (fail)
      (generalize hW : World.alloc _ _ = wb; have q0_0 := (congrArg (fun W : World => W.cell? ⟨w.heap.size, 0, none⟩) hW).symm; simp [go_sem] at q0_0; have qf0_0 := (congrArg (fun W : World => W.frozen? ⟨w.heap.size, 0, none⟩) hW).symm; simp [go_sem] at qf0_0; have q0_1 := (congrArg (fun W : World => W.cell? ⟨w.heap.size, 1, none⟩) hW).symm; simp [go_sem] at q0_1; have qf0_1 := (congrArg (fun W : World => W.frozen? ⟨w.heap.size, 1, none⟩) hW).symm; simp [go_sem] at qf0_1; have qz0 : w.heap.size < wb.heap.size := (by rw [← hW]; simp [go_sem]; try omega); have q1_0 := (congrArg (fun W : World => W.cell? ⟨w.heap.size + 1, 0, none⟩) hW).symm; simp [go_sem] at q1_0; have qf1_0 := (congrArg (fun W : World => W.frozen? ⟨w.heap.size + 1, 0, none⟩) hW).symm; simp [go_sem] at qf1_0; have q1_1 := (congrArg (fun W : World => W.cell? ⟨w.heap.size + 1, 1, none⟩) hW).symm; simp [go_sem] at q1_1; have qf1_1 := (congrArg (fun W : World => W.frozen? ⟨w.heap.size + 1, 1, none⟩) hW).symm; simp [go_sem] at qf1_1; have qz1 : w.heap.size + 1 < wb.heap.size := (by rw [← hW]; simp [go_sem]; try omega); have q2_0 := (congrArg (fun W : World => W.cell? ⟨w.heap.size + 1 + 1, 0, none⟩) hW).symm; simp [go_sem] at q2_0; have qf2_0 := (congrArg (fun W : World => W.frozen? ⟨w.heap.size + 1 + 1, 0, none⟩) hW).symm; simp [go_sem] at qf2_0; have q2_1 := (congrArg (fun W : World => W.cell? ⟨w.heap.size + 1 + 1, 1, none⟩) hW).symm; simp [go_sem] at q2_1; have qf2_1 := (congrArg (fun W : World => W.frozen? ⟨w.heap.size + 1 + 1, 1, none⟩) hW).symm; simp [go_sem] at qf2_1; have qz2 : w.heap.size + 1 + 1 < wb.heap.size := (by rw [← hW]; simp [go_sem]; try omega); have HBW : Hid (Bel w wb) := Lib.hid (by rw [← hW]; (repeat (first | exact Ext.bel _ | exact Bel.refl | refine Bel.alloc ?_ _ | refine Bel.drew ?_ | refine Bel.drewN ?_ _))); clear hW; have hkw := HBW.out.cells)
      go_wp2_with (go_at_call 48; (with_reducible refine (HC.out _).mono ?_); rintro e w2 ⟨rfl, hb2⟩; obtain ⟨x, rfl⟩ : ∃ x : Ext wb, w2 = x.w := ext_of (hb2.after (by (repeat (first | exact Ext.bel _ | exact Bel.refl | refine Bel.alloc ?_ _ | refine Bel.drew ?_ | refine Bel.drewN ?_ _)))); clear hb2)
      refine bodyPost_ret (v := .tuple #[.agg #[.int .i64 0, .int .i64 0], .int .i64 2]) (by simp [results, Try.results58, go_sem, q2_0, q2_1, qz2]) rfl ⟨by rw [hr.out]; rfl, ?_⟩
      (repeat (first | exact HBW.out.trans x.bel | refine Bel.alloc ?_ _ | refine Bel.drew ?_ | refine Bel.drewN ?_ _ | refine Bel.set ?_ (by first | exact Nat.le_refl _ | (simp; done) | (simp; omega) | omega) _))
  · replace HC := Lib.hid HC
    replace hr := Lib.hid hr
    obtain ⟨i0, hi, hz0, hz1, hz2⟩ := info_parts Try.infoI64m
    go_enter Try.func58, Try.ntmps58
    go_upto_region 1 with (fail)
    (generalize hW : World.alloc _ _ = wb; have q0_0 := (congrArg (fun W : World => W.cell? ⟨w.heap.size, 0, none⟩) hW).symm; simp [go_sem] at q0_0; have qf0_0 := (congrArg (fun W : World => W.frozen? ⟨w.heap.size, 0, none⟩) hW).symm; simp [go_sem] at qf0_0; have q0_1 := (congrArg (fun W : World => W.cell? ⟨w.heap.size, 1, none⟩) hW).symm; simp [go_sem] at q0_1; have qf0_1 := (congrArg (fun W : World => W.frozen? ⟨w.heap.size, 1, none⟩) hW).symm; simp [go_sem] at qf0_1; have qz0 : w.heap.size < wb.heap.size := (by rw [← hW]; simp [go_sem]; try omega); have q1_0 := (congrArg (fun W : World => W.cell? ⟨w.heap.size + 1, 0, none⟩) hW).symm; simp [go_sem] at q1_0; have qf1_0 := (congrArg (fun W : World => W.frozen? ⟨w.heap.size + 1, 0, none⟩) hW).symm; simp [go_sem] at qf1_0; have q1_1 := (congrArg (fun W : World => W.cell? ⟨w.heap.size + 1, 1, none⟩) hW).symm; simp [go_sem] at q1_1; have qf1_1 := (congrArg (fun W : World => W.frozen? ⟨w.heap.size + 1, 1, none⟩) hW).symm; simp [go_sem] at qf1_1; have qz1 : w.heap.size + 1 < wb.heap.size := (by rw [← hW]; simp [go_sem]; try omega); have q2_0 := (congrArg (fun W : World => W.cell? ⟨w.heap.size + 1 + 1, 0, none⟩) hW).symm; simp [go_sem] at q2_0; have qf2_0 := (congrArg (fun W : World => W.frozen? ⟨w.heap.size + 1 + 1, 0, none⟩) hW).symm; simp [go_sem] at qf2_0; have q2_1 := (congrArg (fun W : World => W.cell? ⟨w.heap.size + 1 + 1, 1, none⟩) hW).symm; simp [go_sem] at q2_1; have qf2_1 := (congrArg (fun W : World => W.frozen? ⟨w.heap.size + 1 + 1, 1, none⟩) hW).symm; simp [go_sem] at qf2_1; have qz2 : w.heap.size + 1 + 1 < wb.heap.size := (by rw [← hW]; simp [go_sem]; try omega); have HBW : Hid (Bel w wb) := Lib.hid (by rw [← hW]; (repeat (first | exact Ext.bel _ | exact Bel.refl | refine Bel.alloc ?_ _ | refine Bel.drew ?_ | refine Bel.drewN ?_ _))); clear hW; have hkw := HBW.out.cells)
    go_upto_region 5 with (go_at_call 48; (with_reducible refine (HC.out _).mono ?_); rintro e w2 ⟨rfl, hb2⟩; obtain ⟨x, rfl⟩ : ∃ x : Ext wb, w2 = x.w := ext_of (hb2.after (by (repeat (first | exact Ext.bel _ | exact Bel.refl | refine Bel.alloc ?_ _ | refine Bel.drew ?_ | refine Bel.drewN ?_ _)))); clear hb2)
    (refine wp_region_ext (wb := wb) (by (repeat (first | exact Ext.bel _ | exact Bel.refl | refine Bel.alloc ?_ _ | refine Bel.drew ?_ | refine Bel.drewN ?_ _))) (by kernel_rfl) (by kernel_rfl) ?_; (repeat (any_goals (first | go_big_quiet_step (fail) | quiet_step (fail) | (refine wpQuiet_step (fun K hK => ?_); go_simp; split <;> (refine hK _ ?_; clear hK K))))); all_goals (refine wpQuiet_nil ?_; intro _ hw'; obtain ⟨y, hw''⟩ := hw'; subst hw''))
    go_wp2
    go_loopw [8, 9, 10, 11, 12] (fun u sn sd sm se wr => ∃ (L : List Int) (n d m e : Int) (f : Nat) (z : Ext wb), Cf n d m e ∧ (d + e).toNat < f ∧ L.length + f = 4294967297 ∧ sn = .int .i64 n ∧ sd = .int .i64 d ∧ sm = .int .i64 m ∧ se = .int .i64 e ∧ wr = z.w ∧ z.w.ownsRow wb.heap.size 2 1 u L.length (L.map (Value.int .i64)) ∧ L ++ cfF f n d m e = cfF 4294967297 an ad bn bd) (fun _ _ sd _ se _ => (intOf sd + intOf se).toNat)
    case atStart => exact ⟨[], an, ad, bn, bd, 4294967297, y, hcf, hfu, rfl, rfl, rfl, rfl, rfl, rfl, World.ownsRow_nil _ _ _ _, rfl⟩
    case round =>
      clear y hcf hfu
      obtain ⟨L, n, d, m, e, f, z, hcf, hf, hLf, rfl, rfl, rfl, rfl, rfl, hown, hL⟩ := hrel
      obtain ⟨f, rfl⟩ : ∃ g, f = g + 1 := ⟨f - 1, by omega⟩
      have hk := hcf.k
      have hkd := hcf.kd
      have hke := hcf.ke
      have hke1 := hcf.ke1
      have HF := Lib.hid fun W => pfloor_any n d W (by have := hcf.n1; have := hcf.n2; unfold i64; omega) hcf.d1 (by have := hcf.d1; have := hcf.d2; unfold i64; omega)
      have hle := z.bel.le
      by_cases hs : e = 0 ∨ (n / d + 1) * e < m
      · have HLn : Hid (L ++ [n / d + 1] = cfF 4294967297 an ad bn bd) := Lib.hid (by rw [← hL, cfF_stop hs])
        obtain ⟨n1, n2, d1, d2, m1, m2, e1, e2, _⟩ := hcf
        have hss : ((e == 0) = true) ∨ ((e == 0) = false ∧ (n / d + 1) * e < m) := by
          by_cases h0 : e = 0
          · exact .inl (by simpa using h0)
          · exact .inr ⟨by simpa using h0, by omega⟩
        clear hs hL
        generalize n / d = k at *
        have hx1 : -4611686020574871551 ≤ (k + 1) * e := by omega
        have hx2 : (k + 1) * e ≤ 4611686020574871551 := by omega
        replace hke1 := Lib.hid hke1
        rcases hss with hz | ⟨hz, hge⟩
        all_goals
          go_wp2_with (first | (go_at_call 94; (with_reducible refine (HF.out _).mono ?_); rintro e w2 ⟨rfl, rfl⟩) | (at_builtin; go_must (refine wpList_append_own _ rfl _ _ 23 rfl wb.heap.size 2 i0 (.int .i64 0) 1 8 Try.underlying23 hi hz0 hz1 hz2 rfl (by decide) _ _ _ rfl (hown.alloc _) ⟨z.w.heap.size, 0, none⟩ 1 1 [.int .i64 (k + 1)] rfl rfl ?c1 ?c2 ?c3 ?c4 ?c5 ?_)))
          case c1 => exact cells_new _ [.int .i64 (k + 1)] _
          case c2 => intro u hu; simp at hu; subst hu; rfl
          case c3 => unfold maxLen; omega
          case c4 => omega
          case c5 => simp; omega
          intro v' w1 hown1 hg1 _
          have hbel := bel_grown (z.bel.alloc _) (hown.alloc _) hg1
          obtain ⟨y, rfl⟩ := ext_of hbel
          have HO : Hid (y.w.ownsRow wb.heap.size 2 1 v' (L ++ [k + 1]).length ((L ++ [k + 1]).map (Value.int .i64))) := Lib.hid (by rw [List.length_append, List.map_append]; exact hown1)
          have hlen : (L ++ [k + 1]).length ≤ 4294967297 := by simp; omega
          clear hown1 hg1 hbel hown hle
          have hpos : 0 < (L ++ [k + 1]).length := by simp
          rw [HLn.out] at HO hlen hpos
          clear HLn HF
          generalize cfF 4294967297 an ad bn bd = LL at *
          rcases HO.out.2 with ⟨hv, h0⟩ | ⟨g, cap, cur, hv, hg, hgg, hcap, hmx, hcs, htk⟩
          · exfalso; omega
          · have HCL : Hid (∀ j, j < LL.length → y.w.cell? ⟨g, j, none⟩ = some (.int .i64 (LL.getD j 0))) := Lib.hid (fun j hj => by
              have := HO.out.cells (g := g) (by rw [hv]; rfl) j (.int .i64 (LL.getD j 0)) (by simp [List.getD, hj])
              rw [add_ofs] at this
              exact this)
            have hv2 := hv
            clear HO hgg hmx hcs htk
            subst hv2
            go_wp2
            go_loop [14, 15, 16] (fun p q i => ∃ (j : Nat) (I P Q : Int), Hid (I + 1 = (j : Int)) ∧ -1 ≤ I ∧ I < LL.length ∧ i64 P ∧ i64 Q ∧ p = .int .i64 P ∧ q = .int .i64 Q ∧ i = .int .i64 I ∧ (LL.take j).foldr cstep (P, Q) = cfold LL) (fun _ _ i => (intOf i + 1).toNat)
            case atStart => exact ⟨LL.length, (LL.length : Int) - 1, 1, 0, Lib.hid (by omega), by omega, by omega, by unfold i64; omega, by unfold i64; omega, rfl, rfl, rfl, by rw [List.take_length]; rfl⟩
            case round =>
              obtain ⟨j, I, P, Q, HI, hI1, hI2, hP, hQ, rfl, rfl, rfl, hfo⟩ := hrel
              have HP := Lib.hid hP
              have HQ := Lib.hid hQ
              clear hP hQ
              by_cases hj : j = 0
              · subst hj
                obtain rfl : I = -1 := by have := HI.out; omega
                have hpq : (P, Q) = cfold LL := by rw [← hfo]; rfl
                have HR : Hid (rmid ⟨an, ad⟩ ⟨bn, bd⟩ = rmake P Q) := Lib.hid (by rw [hr.out, ← hpq])
                have HM := fun W => pmake_at P Q W HP.out HQ.out
                clear hfo hpq hr
                generalize rmake P Q = rr at *
                obtain ⟨⟨rn, rd⟩, re⟩ := rr
                simp only at HM
                replace HM := Lib.hid HM
                go_wp2_with (go_at_call 95; (with_reducible refine (HM.out _).mono ?_); rintro e w2 ⟨rfl, hb2⟩; obtain ⟨x, rfl⟩ : ∃ x : Ext wb, w2 = x.w := ext_of (hb2.after (by (repeat (first | exact Ext.bel _ | exact Bel.refl | refine Bel.alloc ?_ _ | refine Bel.drew ?_ | refine Bel.drewN ?_ _)))); clear hb2)
                refine bodyPost_ret (v := .tuple #[.agg #[.int .i64 rn, .int .i64 rd], .int .i64 re]) (by simp [results, Try.results58, go_sem, q2_0, q2_1, qz2]) rfl ⟨by rw [HR.out]; rfl, ?_⟩
                (repeat (first | exact HBW.out.trans x.bel | refine Bel.alloc ?_ _ | refine Bel.drew ?_ | refine Bel.drewN ?_ _ | refine Bel.set ?_ (by first | exact Nat.le_refl _ | (simp; done) | (simp; omega) | omega) _))
              · obtain ⟨j, rfl⟩ : ∃ i, j = i + 1 := ⟨j - 1, by omega⟩
                obtain rfl : I = (j : Int) := by have := HI.out; omega
                have hjl : j < LL.length := by omega
                have hcj := HCL.out j hjl
                have HFO : Hid ((LL.take j).foldr cstep (wrap64 (wrap64 (LL.getD j 0 * P) + Q), P) = cfold LL) := Lib.hid (by
                  rw [← hfo, List.take_succ_eq_append_getElem hjl, List.foldr_append]
                  simp [cstep, List.getD, hjl])
                generalize LL.getD j 0 = xj at *
                clear hfo hr HI
                go_wp2
                go_round
                case rel => exact ⟨j, (j : Int) - 1, _, P, Lib.hid (by omega), by omega, by omega, wrap_i64 _, HP.out, rfl, rfl, rfl, HFO.out⟩
                case measure => simp [intOf]
      · obtain ⟨hn, hlt⟩ := hcf.next hs
        have HN := Lib.hid hn
        have hd0 := hn.d1
        have he0 := hn.e1
        have HLn : Hid ((L ++ [n / d]) ++ cfF f e (m - n / d * e) d (n - n / d * d) = cfF 4294967297 an ad bn bd) := Lib.hid (by rw [← hL, cfF_go hs]; simp)
        obtain ⟨n1, n2, d1, d2, m1, m2, e1, e2, _⟩ := hcf
        have hz : (e == 0) = false := by simp; omega
        have hge : ¬ (n / d + 1) * e < m := by omega
        clear hs hn hL
        generalize n / d = k at *
        have hx1 : -4611686020574871551 ≤ (k + 1) * e := by omega
        have hx2 : (k + 1) * e ≤ 4611686020574871551 := by omega
        replace hke1 := Lib.hid hke1
        have hw1 : IntKind.i64.wrap (k * e) = k * e := IntWalk.i64_in _ (by omega)
        have hw2 : IntKind.i64.wrap (k * d) = k * d := IntWalk.i64_in _ (by omega)
        have hw3 : IntKind.i64.wrap (m - k * e) = m - k * e := IntWalk.i64_in _ (by omega)
        have hw4 : IntKind.i64.wrap (n - k * d) = n - k * d := IntWalk.i64_in _ (by omega)
        go_wp2_with (first | (go_at_call 94; (with_reducible refine (HF.out _).mono ?_); rintro e w2 ⟨rfl, rfl⟩) | (at_builtin; go_must (refine wpList_append_own _ rfl _ _ 23 rfl wb.heap.size 2 i0 (.int .i64 0) 1 8 Try.underlying23 hi hz0 hz1 hz2 rfl (by decide) _ _ _ rfl (hown.alloc _) ⟨z.w.heap.size, 0, none⟩ 1 1 [.int .i64 k] rfl rfl ?c1 ?c2 ?c3 ?c4 ?c5 ?_)))
        case c1 => exact cells_new _ [.int .i64 k] _
        case c2 => intro u hu; simp at hu; subst hu; rfl
        case c3 => unfold maxLen; omega
        case c4 => omega
        case c5 => simp; omega
        intro v' w1 hown1 hg1 _
        have hbel := bel_grown (z.bel.alloc _) (hown.alloc _) hg1
        obtain ⟨y, rfl⟩ := ext_of hbel
        have HO : Hid (y.w.ownsRow wb.heap.size 2 1 v' (L ++ [k]).length ((L ++ [k]).map (Value.int .i64))) := Lib.hid (by rw [List.length_append, List.map_append]; exact hown1)
        clear hown1 hg1 hbel
        go_wp2
        go_roundw
        case rel => exact ⟨L ++ [k], e, m - k * e, d, n - k * d, f, y, HN.out, by omega, by simp; omega, rfl, rfl, rfl, rfl, rfl, HO.out, HLn.out⟩
        case measure => simp [intOf]; omega
end Go.Proofs.Ytalphoebmefgoaa
