import Derived.Test.YtbilfpoghohddaaZSleaf
namespace Go.Proofs.Ytbilfpoghohddaa
open Go.RowKit
set_option maxRecDepth 100000 in
set_option maxHeartbeats 4000000 in
theorem leastF_any (f : Int → Int) (most : Int) (b1 b2 b3 b4 : Nat) (w : World) (hm0 : 0 ≤ most) (hm1 : most ≤ 20000) (hm : ∀ a b, 1 ≤ a → a ≤ b → f a ≤ f b) (h1 : 1 ≤ f 1)
    (HF : Hid (∀ (r : Int) (W : World), Bel w W → 1 ≤ r → r ≤ most → Calls Try.prog 60 #[.int .i64 r, .pointer (some ⟨b1, 0, none⟩), .pointer (some ⟨b2, 0, none⟩), .pointer (some ⟨b3, 0, none⟩), .pointer (some ⟨b4, 0, none⟩)] W fun e w' => e = .returned (.int .i64 (f r)) ∧ Bel W w')) :
    Calls Try.prog 59 #[.int .i64 most, .func (.func 60) #[] #[.pointer (some ⟨b1, 0, none⟩), .pointer (some ⟨b2, 0, none⟩), .pointer (some ⟨b3, 0, none⟩), .pointer (some ⟨b4, 0, none⟩)]] w fun e w' => e = .returned (.int .i64 (fixN f most.toNat 1)) ∧ Bel w w' := by
  have HM := Lib.hid hm
  have HRES : Hid (fixN f (most + 1 - 1).toNat 1 = fixN f most.toNat 1) := Lib.hid (by rw [show most + 1 - 1 = most by omega])
  have HF1 := Lib.hid h1
  clear hm h1
  go_enter Try.func59, Try.ntmps59
  go_wp2
  go_loopg [5] 20001 (fun gk s5 wr => ∃ (r : Int) (z : Ext w), s5 = .int .i64 r ∧ wr = z.w ∧ 1 ≤ r ∧ (20001 : Int) ≤ gk + r ∧ (r ≤ most → r ≤ f r) ∧ fixN f (most + 1 - r).toNat r = fixN f most.toNat 1)
  case atStart => exact ⟨1, ⟨w, Bel.refl⟩, rfl, rfl, by omega, by omega, fun _ => HF1.out, HRES.out⟩
  case round =>
    obtain ⟨r, z, rfl, rfl, hr, hg, hrf, hfx⟩ := hrel
    by_cases hlt : r ≤ most
    · have hd : decide (r ≤ most) = true := by simpa using hlt
      have hc := HF.out r z.w z.bel hr hlt
      have hge := hrf hlt
      have HFX := Lib.hid hfx
      have HRF := Lib.hid hrf
      by_cases he : f r = r
      · have HR : Hid (fixN f most.toNat 1 = r) := Lib.hid (by rw [← hfx, fixN_at hlt he])
        rw [he] at hc
        have HC := Lib.hid hc
        clear hc hfx hrf he
        go_wp2_with (first | (go_at_call 60; (with_reducible refine (HC.out).mono ?_); rintro e w2 ⟨rfl, hb2⟩; obtain ⟨x, rfl⟩ : ∃ x : Ext w, w2 = x.w := ext_of (z.bel.trans hb2); clear hb2))
        go_ret
        exact ⟨ret_int HR.out.symm, x.bel⟩
      · have hst := fix_step HM.out hr hlt (show r < f r by omega)
        have hnx : f r ≤ most → f r ≤ f (f r) := fun _ => HM.out r (f r) hr hge
        have hfx2 : fixN f (most + 1 - f r).toNat (f r) = fixN f most.toNat 1 := by
          rcases Int.lt_or_le most (f r) with h | h
          · rw [fixN_out h, ← hfx, hst.2 h]
          · rw [← hst.1 h, hfx]
        have HN := Lib.hid hnx
        have HX2 := Lib.hid hfx2
        have HC := Lib.hid hc
        have hne : (f r == r) = false := by simpa using he
        clear hc hfx hrf hst hnx hfx2
        generalize hq : f r = q at *
        clear hq
        go_wp2_with (first | (go_at_call 60; (with_reducible refine (HC.out).mono ?_); rintro e w2 ⟨rfl, hb2⟩; obtain ⟨x, rfl⟩ : ∃ x : Ext w, w2 = x.w := ext_of (z.bel.trans hb2); clear hb2))
        go_roundg (gk - 1)
        case measure => omega
        case rel => exact ⟨q, x, rfl, rfl, by omega, by omega, HN.out, HX2.out⟩
    · have hd : decide (r ≤ most) = false := by simpa using hlt
      have HR : Hid (fixN f most.toNat 1 = 0) := Lib.hid (by rw [← hfx, fixN_out (by omega)])
      clear hfx hrf
      go_wp2
      go_ret
      exact ⟨ret_int HR.out.symm, z.bel⟩
theorem busyF_mono {l : List Tsk} (ht : ∀ t ∈ l, TOk t) : ∀ a b, 1 ≤ a → a ≤ b → busyF l a ≤ busyF l b := fun a b h1 h2 => sumB_mono h1 h2 l 0 0 (Int.le_refl _) ht
theorem busyF_one {l : List Tsk} (ht : ∀ t ∈ l, TOk t) (h0 : 0 < l.length) : 1 ≤ busyF l 1 := by
  cases l with
  | nil => simp at h0
  | cons t ts =>
    have hk := ht t (by simp)
    have := job_cost (r := 1) hk (by omega) (by omega)
    have h2 := sumB_ge (f := fun _ => true) (r := 1) (by omega) ts (0 + jobsF 1 t.per * t.cost) (fun x hx => ht x (by simp [hx]))
    show 1 ≤ sumB (fun _ => true) 1 0 (t :: ts)
    simp only [sumB, if_true]
    omega
theorem respF_mono {l : List Tsk} {c p : Int} (ht : ∀ t ∈ l, TOk t) : ∀ a b, 1 ≤ a → a ≤ b → respF l c p a ≤ respF l c p b := fun a b h1 h2 => sumB_mono h1 h2 l c c (Int.le_refl _) ht
theorem respF_one {l : List Tsk} {c p : Int} (ht : ∀ t ∈ l, TOk t) (hc : 1 ≤ c) : 1 ≤ respF l c p 1 := by
  have := sumB_ge (f := aboveB p) (r := 1) (by omega) l c ht
  unfold respF
  omega
end Go.Proofs.Ytbilfpoghohddaa
