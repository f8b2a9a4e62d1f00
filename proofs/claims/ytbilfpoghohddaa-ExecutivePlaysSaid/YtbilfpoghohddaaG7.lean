import Derived.Test.YtbilfpoghohddaaG3
import Derived.Test.YtbilfpoghohddaaG4
import Derived.Test.YtbilfpoghohddaaG1
namespace Go.Proofs.Ytbilfpoghohddaa
open Go.RowKit
def resIs2 (r : Int) (s : Sec) : Bool := decide (s.res = r)
set_option maxRecDepth 100000 in
set_option maxHeartbeats 4000000 in
theorem ruses_any (t : Tsk) (sv : Value) (r : Int) (w : World) (h : SecsAt w w.heap.size sv t.secs) (hl : t.secs.length ≤ 1000000) :
    Calls Try.prog 67 #[.agg #[.string t.name, .int .i64 t.per, .int .i64 t.off, .int .i64 t.dl, .int .i64 t.cost, .int .i64 t.prio, sv], .int .i64 r] w fun e w' => e = .returned (.bool (usesB t r)) ∧ Bel w w' := by
  have HS := Lib.hid h
  have HU : Hid ((t.secs.drop 0).any (resIs2 r) = usesB t r) := Lib.hid rfl
  obtain ⟨A, c, rfl, _⟩ := h.form
  clear h
  go_enter Try.func67, Try.ntmps67
  go_upto_region 1 with (fail)
  generalize hW1 : World.alloc w _ = W1 at *
  have r1 : RowAt W1 w.heap.size 57 [.string t.name, .int .i64 t.per, .int .i64 t.off, .int .i64 t.dl, .int .i64 t.cost, .int .i64 t.prio, .slice A t.secs.length c] := by rw [← hW1]; exact RowAt.new _ _ _
  have b1 : Bel w W1 := by rw [← hW1]; exact Bel.refl.alloc _
  clear hW1
  have HS1 := Lib.hid (HS.out.keep b1.keeps b1.le)
  have c6 := r1.cell (i := 6) rfl
  have z1 := r1.lt
  have HB := Lib.hid b1
  clear r1 b1 HS
  generalize w.heap.size = p2 at *
  go_wp2
  go_loopg [5] t.secs.length (fun gk s5 wr => ∃ (j : Nat), j + gk = t.secs.length ∧ s5 = .int .i64 j ∧ wr = W1 ∧ (t.secs.drop j).any (resIs2 r) = usesB t r)
  case atStart => exact ⟨0, by omega, rfl, rfl, HU.out⟩
  case round =>
    clear HU
    obtain ⟨j, hj, rfl, rfl, hd⟩ := hrel
    by_cases hlt : j < t.secs.length
    · have hdl : decide ((j : Int) < (t.secs.length : Int)) = true := by simp; omega
      have hil : (j : Int) < (t.secs.length : Int) := by omega
      rw [secs_drop hlt, List.any_cons] at hd
      obtain ⟨bs, os, rfl, hbs, hS⟩ := HS1.out.at_ (by omega)
      obtain ⟨c0, _, _⟩ := hS j hlt
      clear hS
      by_cases hh : (secAt t.secs j).res = r
      · have q : ((secAt t.secs j).res == r) = true := by simpa using hh
        have HD : Hid (usesB t r = true) := Lib.hid (by rw [← hd]; simp [resIs2, hh])
        clear hd hh
        go_wp2
        go_ret
        exact ⟨ret_bool HD.out.symm, HB.out⟩
      · have q : ((secAt t.secs j).res == r) = false := by simpa using hh
        have HD : Hid ((t.secs.drop (j + 1)).any (resIs2 r) = usesB t r) := Lib.hid (by rw [← hd]; simp [resIs2, hh])
        clear hd hh
        go_wp2
        go_roundg (gk - 1)
        case measure => omega
        case rel => exact ⟨j + 1, by omega, by go_num, rfl, HD.out⟩
    · obtain rfl : j = t.secs.length := by omega
      have hdl : decide ((t.secs.length : Int) < (t.secs.length : Int)) = false := by simp
      have HD : Hid (usesB t r = false) := Lib.hid (by rw [← hd]; simp)
      clear hd
      go_wp2
      go_ret
      exact ⟨ret_bool HD.out.symm, HB.out⟩
end Go.Proofs.Ytbilfpoghohddaa
namespace Go.Proofs.Ytbilfpoghohddaa
open Go.RowKit
def resIs (r : Int) (s : Sec) : Bool := decide (s.res = r)
def idxS (f : Sec → Bool) : List Sec → Nat → Int
  | [], _ => -1
  | s :: ss, k => if f s then k else idxS f ss (k + 1)
theorem idxS_any (f : Sec → Bool) : ∀ (ss : List Sec) (k : Nat), decide (0 ≤ idxS f ss k) = ss.any f
  | [], k => rfl
  | s :: ss, k => by
    have h2 := idxS_any f ss (k + 1)
    rw [List.any_cons]
    by_cases h : f s = true
    · have e : idxS f (s :: ss) k = k := by simp [idxS, h]
      rw [e, h]; simp
    · have e : idxS f (s :: ss) k = idxS f ss (k + 1) := by simp [idxS, h]
      have h3 : f s = false := by simpa using h
      rw [e, h3, h2, Bool.false_or]
set_option maxRecDepth 100000 in
set_option maxHeartbeats 4000000 in
theorem uses1_one (s : Sec) (b : Nat) (r : Int) (w : World) (hb : b < w.heap.size) (hc : w.cell? ⟨b, 0, none⟩ = some (.int .i64 r)) :
    Calls Try.prog 85 #[.agg #[.int .i64 s.res, .int .i64 s.frm, .int .i64 s.len], .pointer (some ⟨b, 0, none⟩)] w fun e w' => e = .returned (.bool (resIs r s)) ∧ Bel w w' := by
  have HR : Hid (resIs r s = decide (s.res = r)) := Lib.hid rfl
  go_enter Try.func85, Try.ntmps85
  by_cases h : s.res = r
  · have q : (s.res == r) = true := by simpa using h
    go_wp2
    go_ret
    exact ⟨ret_bool (by rw [HR.out]; simp [h]), Bel.refl.alloc _⟩
  · have q : (s.res == r) = false := by simpa using h
    go_wp2
    go_ret
    exact ⟨ret_bool (by rw [HR.out]; simp [h]), Bel.refl.alloc _⟩
set_option maxRecDepth 100000 in
set_option maxHeartbeats 4000000 in
theorem uses1_idx (sv : Value) (ss : List Sec) (b : Nat) (r : Int) (w : World) (h : SecsAt w w.heap.size sv ss) (hl : ss.length ≤ 1000000) (hb : b < w.heap.size) (hc : w.cell? ⟨b, 0, none⟩ = some (.int .i64 r)) :
    Calls Try.prog 89 #[sv, .func (.func 85) #[] #[.pointer (some ⟨b, 0, none⟩)]] w fun e w' => e = .returned (.int .i64 (idxS (resIs r) ss 0)) ∧ Bel w w' := by
  obtain ⟨A, c, rfl, hc2⟩ := h.form
  have HS := Lib.hid h
  have HONE := Lib.hid (fun (s : Sec) (y : Ext w) => uses1_one s b r y.w (ext_lt y hb) (by rw [ext_cells y _ _ hb]; exact hc))
  clear h hc
  go_enter Try.func89, Try.ntmps89
  go_wp2
  go_loopg [8] ss.length (fun gk s8 wr => ∃ (j : Nat) (z : Ext w), j + gk = ss.length ∧ s8 = .int .i64 j ∧ wr = z.w ∧ idxS (resIs r) (ss.drop j) j = idxS (resIs r) ss 0)
  case atStart => exact ⟨0, ⟨w, Bel.refl⟩, by omega, rfl, rfl, rfl⟩
  case round =>
    obtain ⟨j, x, hj, rfl, rfl, hd⟩ := hrel
    by_cases hlt : j < ss.length
    · have hdl : decide ((j : Int) < (ss.length : Int)) = true := by simp; omega
      have hil : (j : Int) < (ss.length : Int) := by omega
      rw [secs_drop hlt] at hd
      obtain ⟨bs, os, rfl, hbs, hS⟩ := HS.out.at_ (by omega)
      obtain ⟨c0, c1, c2'⟩ := hS j hlt
      have HH := Lib.hid (fun (y : Ext w) => HONE.out (secAt ss j) y)
      clear hS
      cases hh : resIs r (secAt ss j)
      · have HD : Hid (idxS (resIs r) (ss.drop (j + 1)) (j + 1) = idxS (resIs r) ss 0) := Lib.hid (by rw [← hd]; simp only [idxS, hh]; rfl)
        rw [hh] at HH
        clear hd hh
        go_wp2_with (first | (go_at_call 85; (with_reducible refine (HH.out _).mono ?_); rintro e w2 ⟨rfl, hb2⟩; obtain ⟨x, rfl⟩ : ∃ x : Ext w, w2 = x.w := ext_of (hb2.after (by (repeat (first | exact Ext.bel _ | exact Bel.refl | refine Bel.alloc ?_ _ | refine Bel.drew ?_ | refine Bel.drewN ?_ _)))); clear hb2))
        go_roundg (gk - 1)
        case measure => omega
        case rel => exact ⟨j + 1, x, by omega, by go_num, rfl, HD.out⟩
      · have HD : Hid (idxS (resIs r) ss 0 = (j : Int)) := Lib.hid (by rw [← hd]; simp only [idxS, hh]; rfl)
        rw [hh] at HH
        clear hd hh
        go_wp2_with (first | (go_at_call 85; (with_reducible refine (HH.out _).mono ?_); rintro e w2 ⟨rfl, hb2⟩; obtain ⟨x, rfl⟩ : ∃ x : Ext w, w2 = x.w := ext_of (hb2.after (by (repeat (first | exact Ext.bel _ | exact Bel.refl | refine Bel.alloc ?_ _ | refine Bel.drew ?_ | refine Bel.drewN ?_ _)))); clear hb2))
        go_ret
        exact ⟨ret_int HD.out.symm, x.bel⟩
    · obtain rfl : j = ss.length := by omega
      have hdl : decide ((ss.length : Int) < (ss.length : Int)) = false := by simp
      have HD : Hid (idxS (resIs r) ss 0 = -1) := Lib.hid (by rw [← hd]; simp [idxS])
      clear hd
      go_wp2
      go_ret
      exact ⟨ret_int HD.out.symm, x.bel⟩
set_option maxRecDepth 100000 in
set_option maxHeartbeats 1000000 in
theorem uses1_has (sv : Value) (ss : List Sec) (b : Nat) (r : Int) (w : World) (h : SecsAt w w.heap.size sv ss) (hl : ss.length ≤ 1000000) (hb : b < w.heap.size) (hc : w.cell? ⟨b, 0, none⟩ = some (.int .i64 r)) :
    Calls Try.prog 84 #[sv, .func (.func 85) #[] #[.pointer (some ⟨b, 0, none⟩)]] w fun e w' => e = .returned (.bool (ss.any (resIs r))) ∧ Bel w w' := by
  have HK := Lib.hid (uses1_idx sv ss b r w h hl hb hc)
  have HR := Lib.hid (idxS_any (resIs r) ss 0)
  obtain ⟨A, c, rfl, _⟩ := h.form
  generalize idxS (resIs r) ss 0 = n at *
  clear h hc
  go_enter Try.func84, Try.ntmps84
  go_wp2_with (first | (go_at_call 89; (with_reducible refine (HK.out).mono ?_); rintro e w2 ⟨rfl, hb2⟩; obtain ⟨x, rfl⟩ : ∃ x : Ext w, w2 = x.w := ext_of (hb2.after (by (repeat (first | exact Ext.bel _ | exact Bel.refl | refine Bel.alloc ?_ _ | refine Bel.drew ?_ | refine Bel.drewN ?_ _)))); clear hb2))
  go_ret
  exact ⟨ret_bool (by rw [← HR.out]), x.bel⟩
set_option maxRecDepth 100000 in
set_option maxHeartbeats 2000000 in
theorem uses_any (t : Tsk) (sv : Value) (r : Int) (w : World) (h : SecsAt w w.heap.size sv t.secs) (hl : t.secs.length ≤ 1000000) :
    Calls Try.prog 74 #[.agg #[.string t.name, .int .i64 t.per, .int .i64 t.off, .int .i64 t.dl, .int .i64 t.cost, .int .i64 t.prio, sv], .int .i64 r] w fun e w' => e = .returned (.bool (usesB t r)) ∧ Bel w w' := by
  have HS := Lib.hid h
  have HU : Hid (t.secs.any (resIs r) = usesB t r) := Lib.hid rfl
  obtain ⟨A, c, rfl, _⟩ := h.form
  clear h
  go_enter Try.func74, Try.ntmps74
  go_upto_region 1 with (fail)
  generalize hW1 : World.alloc w _ = W1 at *
  generalize hW2 : World.alloc W1 _ = W2 at *
  have r1 : RowAt W1 w.heap.size 57 [.string t.name, .int .i64 t.per, .int .i64 t.off, .int .i64 t.dl, .int .i64 t.cost, .int .i64 t.prio, .slice A t.secs.length c] := by rw [← hW1]; exact RowAt.new _ _ _
  have r2 : RowAt W2 W1.heap.size 3 [.int .i64 r] := by rw [← hW2]; exact RowAt.new _ _ _
  have b1 : Bel w W1 := by rw [← hW1]; exact Bel.refl.alloc _
  have b2 : Bel W1 W2 := by rw [← hW2]; exact Bel.refl.alloc _
  have hz : W1.heap.size = w.heap.size + 1 := by rw [← hW1]; simp [go_sem]
  have r1' := r1.bel b2
  rw [hz] at r2
  have c6 := r1'.cell (i := 6) rfl
  have c0 := r2.cell (i := 0) rfl
  have z1 := r1'.lt
  have z2 := r2.lt
  have HB := Lib.hid (b1.trans b2)
  have HK := Lib.hid (uses1_has _ t.secs (w.heap.size + 1) r W2 (HS.out.keep (b1.trans b2).keeps (b1.trans b2).le) hl r2.lt c0)
  clear hW1 hW2 r1 r2 b1 b2 r1' hz
  go_wp2_with fail
  refine HK.out.mono ?_
  rintro e w' ⟨rfl, hB⟩
  rw [HU.out]
  go_wp2
  go_ret
  exact ⟨rfl, HB.out.trans hB⟩
end Go.Proofs.Ytbilfpoghohddaa
