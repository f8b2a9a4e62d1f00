import Derived.Test.YthidbmeocifkcaaZPstepr
namespace Go.Proofs.Ythidbmeocifkcaa
open Go.RowKit
def runM (n : Nat) (es : List PE) : Pt → Int → List PS → Nat → Pt × Int
  | x, _, [], _ => (x, -1)
  | x, at_, s :: ss, i => if (step n es x (s.at_ - at_) s.ev).loc < 0 then (step n es x (s.at_ - at_) s.ev, (i : Int)) else runM n es (step n es x (s.at_ - at_) s.ev) s.at_ ss (i + 1)
def start (p : PP) : Pt := ⟨p.ini, [0, 0, 0]⟩
def goodM (p : PP) (x : Pt) : Bool := decide (0 ≤ x.loc) && p.good.getD x.loc.toNat false
def runP (p : PP) (l : List PS) : Pt × Int := runM p.clks.toNat p.edges (start p) 0 l 0
def judgeM (p : PP) (l : List PS) : Bool × Int × Int := if rpword p l = 0 then (goodM p (runP p l).1, (runP p l).2, 0) else (false, 0, rpword p l)
theorem runM_t {n : Nat} {es : List PE} {x : Pt} {a : Int} {s : PS} {ss : List PS} {i : Nat} (h : (step n es x (s.at_ - a) s.ev).loc < 0) : runM n es x a (s :: ss) i = (step n es x (s.at_ - a) s.ev, (i : Int)) := by simp only [runM, if_pos h]
theorem runM_f {n : Nat} {es : List PE} {x : Pt} {a : Int} {s : PS} {ss : List PS} {i : Nat} (h : ¬ (step n es x (s.at_ - a) s.ev).loc < 0) : runM n es x a (s :: ss) i = runM n es (step n es x (s.at_ - a) s.ev) s.at_ ss (i + 1) := by simp only [runM, if_neg h]
/-- what a valid property says -/
structure PValid (p : PP) (n : Nat) : Prop where
  cn : p.clks = n
  n3 : n ≤ 3
  ed : ∀ y ∈ p.edges, edgeBad p y = false
  gd : 1 ≤ p.good.length
  ini : 0 ≤ p.ini ∧ p.ini < p.good.length
theorem pvalid_of {p : PP} (h : rpchk p = 0) : PValid p p.clks.toNat := by
  unfold rpchk at h
  cases hh : headBad p
  · rw [hh, if_neg (by simp)] at h
    obtain ⟨h1, h2, h3, h4, h5, h6, h7, h8, h9⟩ := headBad_false.mp hh
    cases ha : anyP (edgeBad p) p.edges
    · exact ⟨by omega, by omega, (anyP_iff _ _).mp ha, by omega, ⟨h7, h8⟩⟩
    · rw [ha, if_pos rfl] at h; cases h
  · rw [hh, if_pos rfl] at h; cases h
theorem edge_to {p : PP} {x : PE} (h : edgeBad p x = false) : 0 ≤ x.to ∧ x.to < p.good.length := by
  have : edgeHead p x = false := by
    unfold edgeBad at h; cases hh : edgeHead p x <;> simp [hh] at h ⊢
  have := edgeHead_false.mp this
  omega
/-- a point of a valid property: the pit or a location -/
def LocOk (p : PP) (x : Pt) : Prop := -1 ≤ x.loc ∧ x.loc < p.good.length
theorem step_loc {p : PP} {n : Nat} (hv : PValid p n) {x : Pt} (h : LocOk p x) (a ev : Int) : LocOk p (step n p.edges x a ev) := by
  unfold step
  split
  · exact h
  · split
    · rename_i e he
      have := edge_to (hv.ed e (findE_mem he))
      exact ⟨by simp only; omega, this.2⟩
    · have := hv.gd; exact ⟨by simp, by simp only; omega⟩
theorem start_ok {p : PP} {n : Nat} (hv : PValid p n) : LocOk p (start p) ∧ ClOk (start p).cl := by
  have := hv.ini
  exact ⟨⟨by simp only [start]; omega, this.2⟩, by simp [ClOk, start]⟩
theorem runM_ok {p : PP} {n : Nat} (hv : PValid p n) : ∀ (l : List PS) (x : Pt) (a : Int) (i : Nat), LocOk p x → LocOk p (runM n p.edges x a l i).1
  | [], x, a, i, h => h
  | s :: ss, x, a, i, h => by
    have h2 := step_loc hv h (s.at_ - a) s.ev
    by_cases hl : (step n p.edges x (s.at_ - a) s.ev).loc < 0
    · rw [runM_t hl]; exact h2
    · rw [runM_f hl]; exact runM_ok hv ss _ _ _ h2
/-- the stamps of a word, from k on, with the time before -/
theorem word_at {evs : Int} : ∀ (l : List PS) (a : Int), 0 ≤ a → wordF evs a l = true → ∀ k, k < l.length → (if k = 0 then a else (psAt l (k - 1)).at_) ≤ (psAt l k).at_ ∧ (psAt l k).at_ ≤ 1000000 ∧ 0 ≤ (psAt l k).at_
  | [], _, _, _, k, hk => by simp at hk
  | s :: ss, a, ha, h, k, hk => by
    by_cases hb : stampBad evs a s = true
    · rw [wordF_t hb] at h; cases h
    · have hb0 : stampBad evs a s = false := by simpa using hb
      have hs := stampBad_false.mp hb0
      rw [wordF_f hb0] at h
      cases k with
      | zero => simp [psAt]; omega
      | succ k =>
        have := word_at ss s.at_ (by omega) h k (by simpa using hk)
        cases k with
        | zero => simpa [psAt] using this
        | succ k => simpa [psAt] using this
theorem rpword_ok {p : PP} {l : List PS} (h : rpword p l = 0) : rpchk p = 0 ∧ l.length ≤ 200 ∧ wordF p.evs 0 l = true := by
  unfold rpword at h
  by_cases h0 : rpchk p = 0
  · rw [if_pos h0] at h
    by_cases h2 : 200 < l.length
    · rw [if_pos h2] at h; cases h
    · rw [if_neg h2] at h
      cases hw : wordF p.evs 0 l
      · rw [hw] at h; cases h
      · exact ⟨h0, by omega, rfl⟩
  · rw [if_neg h0] at h; exact absurd h h0
set_option maxHeartbeats 1000000 in
theorem rstart_any (p : PP) (gv ev : Value) (w : World) (h : PropAt w w.heap.size gv ev p) : Calls Try.prog 32 #[.agg #[.int .i64 p.evs, .int .i64 p.clks, .int .i64 p.ini, gv, ev]] w fun e w' => e = .returned (.agg #[.int .i64 p.ini, .int .i64 0, .int .i64 0, .int .i64 0]) ∧ Bel w w' := by
  obtain ⟨A1, k1, rfl, hk1⟩ := h.g.form
  obtain ⟨A2, k2, rfl, hk2⟩ := h.e.form
  clear h
  go_enter Try.func32, Try.ntmps32
  go_wp2
  refine bodyPost_ret (v := .agg #[.int .i64 p.ini, .int .i64 0, .int .i64 0, .int .i64 0]) (by simp [results, Try.results32, go_sem]) rfl ⟨rfl, ?_⟩
  (repeat (first | exact Bel.refl | refine Bel.alloc ?_ _ | refine Bel.drew ?_ | refine Bel.drewN ?_ _ | refine Bel.set ?_ (by first | exact Nat.le_refl _ | (simp; done) | (simp; omega) | omega) _))
set_option maxHeartbeats 1000000 in
theorem rgood_any (p : PP) (gv ev : Value) (x : Pt) (w : World) (h : PropAt w w.heap.size gv ev p) (hl : LocOk p x) (hc : x.cl.length = 3) (hg : p.good.length ≤ 1000000) : Calls Try.prog 39 #[.agg #[.int .i64 p.evs, .int .i64 p.clks, .int .i64 p.ini, gv, ev], x.V] w fun e w' => e = .returned (.bool (goodM p x)) ∧ Bel w w' := by
  have HG := Lib.hid h.g
  obtain ⟨A1, k1, rfl, hk1⟩ := h.g.form
  obtain ⟨A2, k2, rfl, hk2⟩ := h.e.form
  clear h
  obtain ⟨loc, cl⟩ := x
  obtain ⟨u0, u1, u2, rfl⟩ : ∃ u0 u1 u2, cl = [u0, u1, u2] := by
    match cl, hc with
    | [x, y, z], _ => exact ⟨x, y, z, rfl⟩
  have HV : Hid ((⟨loc, [u0, u1, u2]⟩ : Pt).V = .agg #[.int .i64 loc, .int .i64 u0, .int .i64 u1, .int .i64 u2]) := Lib.hid rfl
  rw [HV.out]
  obtain ⟨hl1, hl2⟩ := hl
  simp only at hl1 hl2
  by_cases h0 : loc < 0
  · have HR : Hid (goodM p ⟨loc, [u0, u1, u2]⟩ = false) := Lib.hid (by simp [goodM]; omega)
    have hd : decide (0 ≤ loc) = false := by simp; omega
    go_enter Try.func39, Try.ntmps39
    go_wp2
    go_ret
    exact ⟨ret_bool HR.out.symm, by (repeat (first | exact Bel.refl | refine Bel.alloc ?_ _ | refine Bel.drew ?_ | refine Bel.drewN ?_ _ | refine Bel.set ?_ (by first | exact Nat.le_refl _ | (simp; done) | (simp; omega) | omega) _))⟩
  · obtain ⟨m, rfl⟩ : ∃ m : Nat, loc = (m : Int) := ⟨loc.toNat, by omega⟩
    obtain ⟨b, off, rfl, hb, hA⟩ := HG.out.at_ (by omega)
    have c0 := hA m (by omega)
    rw [Nat.mul_one] at c0
    have HR : Hid (goodM p ⟨(m : Int), [u0, u1, u2]⟩ = p.good.getD m false) := Lib.hid (by simp [goodM])
    generalize p.good.getD m false = g at *
    have hd : decide (0 ≤ (m : Int)) = true := by simp
    clear hA h0
    go_enter Try.func39, Try.ntmps39
    go_wp2
    go_ret
    exact ⟨ret_bool HR.out.symm, by (repeat (first | exact Bel.refl | refine Bel.alloc ?_ _ | refine Bel.drew ?_ | refine Bel.drewN ?_ _ | refine Bel.set ?_ (by first | exact Nat.le_refl _ | (simp; done) | (simp; omega) | omega) _))⟩
end Go.Proofs.Ythidbmeocifkcaa
