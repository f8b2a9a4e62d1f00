import Derived.Test.YtbilfpoghohddaaG1
import Derived.Test.YtbilfpoghohddaaG13
import Derived.Test.YtbilfpoghohddaaG5
import Derived.Test.YtbilfpoghohddaaG9
/- tables.filled. -/
namespace Go.Proofs.Ytbilfpoghohddaa
open Go.RowKit
theorem row_made (w : World) (e : TypeId) (n : Nat) : RowAt (w.alloc (.cells (madeCells (Value.int .i64 0).cells (n * 1)) e)) w.heap.size e (List.replicate n (.int .i64 0)) := by
  have h := ArrAt.made w e n
  unfold ArrAt at h
  unfold RowAt
  rw [h]
  congr 2
  apply Array.ext
  · simp
  · intro i h1 h2; simp
/-- the first i are filled -/
def filledL (n i : Nat) (x : Int) : List Value := List.replicate i (.int .i64 x) ++ List.replicate (n - i) (.int .i64 0)
theorem filledL_len {n i : Nat} (x : Int) (h : i ≤ n) : (filledL n i x).length = n := by simp [filledL]; omega
theorem filledL_set {n i : Nat} (x : Int) (h : i < n) : (filledL n i x).set i (.int .i64 x) = filledL n (i + 1) x := by
  unfold filledL
  apply List.ext_getElem
  · simp; omega
  · intro j h1 h2
    simp only [List.getElem_set, List.getElem_append, List.getElem_replicate, List.length_replicate]
    by_cases a : i = j
    · subst a; simp
    · by_cases b : j < i
      · rw [if_neg a]; simp [b]; intro; omega
      · rw [if_neg a]; simp [b]; intro; omega
set_option maxRecDepth 100000 in
set_option maxHeartbeats 4000000 in
theorem filled_any (n : Nat) (x : Int) (w : World) (hn : n ≤ 1000000) :
    Calls Try.prog 43 #[.int .i64 n, .int .i64 x] w fun e w' => e = .returned (.slice (some ⟨w.heap.size, 0, none⟩) n n) ∧ RowAt w' w.heap.size 3 (List.replicate n (.int .i64 x)) ∧ Bel w w' := by
  obtain ⟨ii, hi, hz0, hz1, hz2⟩ := info_parts Try.infoInt
  have hmk := make_ints (P := Try.prog) Try.underlying23 hi hz0 hz1 hz2 n hn w
  have hr := row_made w 3 n
  have hb : Bel w (w.alloc (.cells (madeCells (Value.int .i64 0).cells (n * 1)) 3)) := Bel.refl.alloc _
  generalize w.alloc (.cells (madeCells (Value.int .i64 0).cells (n * 1)) 3) = W1 at *
  clear hi hz0 hz1 hz2
  have HR : Hid (RowAt W1 w.heap.size 3 (filledL n 0 x)) := Lib.hid (by simpa [filledL] using hr)
  have HB := Lib.hid hb
  have HP := Lib.hid (Nat.le_refl w.heap.size)
  have HM := Lib.hid hmk
  clear hr hb hmk
  go_enter Try.func43, Try.ntmps43
  have hmk := HM.out
  go_wp2
  clear hmk HM
  generalize hp : w.heap.size = p at HR HP ⊢
  have HPP := Lib.hid hp
  clear hp
  go_loopw [10] (fun si wr => ∃ (k : Nat), k ≤ n ∧ si = .int .i64 k ∧ RowAt wr p 3 (filledL n k x) ∧ Bel w wr) (fun si _ => n - (intOf si).toNat)
  case atStart => exact ⟨0, by omega, rfl, HR.out, HB.out⟩
  case round =>
    clear HR HB
    obtain ⟨k, hk, rfl, hr, hb⟩ := hrel
    by_cases hlt : k < n
    · have e0 := hr.cell (i := k) (v := .int .i64 0) (by unfold filledL; rw [List.getElem?_append_right (by simp), List.length_replicate, Nat.sub_self, List.getElem?_replicate, if_pos (by omega)])
      have g0 := hr.frozen k
      have ez := hr.lt
      have HR : Hid (RowAt (wr.setCell ⟨p, k, none⟩ (.int .i64 x)) p 3 (filledL n (k + 1) x)) := Lib.hid (by rw [← filledL_set x hlt]; exact hr.set k _)
      have HB := Lib.hid (hb.set (p := ⟨p, k, none⟩) (by rw [HPP.out]; exact Nat.le_refl _) (.int .i64 x))
      clear hr hb
      go_wp2
      go_roundw
      case rel => exact ⟨k + 1, by omega, by go_num, HR.out, HB.out⟩
      case measure => simp [intOf]; omega
    · obtain rfl : k = n := by omega
      have HR : Hid (RowAt wr p 3 (List.replicate k (.int .i64 x))) := Lib.hid (by simpa [filledL] using hr)
      have HB := Lib.hid hb
      clear hr hb
      go_wp2
      go_ret
      rw [HPP.out]
      exact ⟨rfl, HR.out, HB.out⟩
end Go.Proofs.Ytbilfpoghohddaa
/- slices.ContainsFunc over the jobs with tables.Make$1; tables.filled. -/
namespace Go.Proofs.Ytbilfpoghohddaa
open Go.RowKit
def idxD (f : Don → Bool) : List Don → Nat → Int
  | [], _ => -1
  | x :: xs, k => if f x then (k : Int) else idxD f xs (k + 1)
theorem idxD_any (f : Don → Bool) : ∀ (l : List Don) (k : Nat), decide (0 ≤ idxD f l k) = l.any f
  | [], k => by simp [idxD]
  | x :: xs, k => by
    rw [List.any_cons, idxD]
    by_cases h : f x = true
    · rw [if_pos h, h]; simp
    · rw [if_neg h, idxD_any f xs]
      have h2 : f x = false := by simpa using h
      rw [h2, Bool.false_or]
theorem idxD_bd (f : Don → Bool) : ∀ (l : List Don) (k : Nat), -1 ≤ idxD f l k ∧ idxD f l k < k + l.length + 1
  | [], k => by simp [idxD]; omega
  | x :: xs, k => by
    unfold idxD
    split
    · simp; omega
    · have := idxD_bd f xs (k + 1); simp only [List.length_cons]; omega
theorem dn_drop {l : List Don} {i : Nat} (h : i < l.length) : l.drop i = dnAt l i :: l.drop (i + 1) := by
  rw [List.drop_eq_getElem_cons h]; simp [dnAt, List.getD, h]
set_option maxRecDepth 100000 in
set_option maxHeartbeats 4000000 in
theorem mk1_one (a b c d : Int) (m : Bool) (w : World) :
    Calls Try.prog 42 #[.agg #[.int .i64 a, .int .i64 b, .int .i64 c, .int .i64 d, .bool m]] w fun e w' => e = .returned (.bool m) ∧ Bel w w' := by
  go_enter Try.func42, Try.ntmps42
  go_wp2
  go_ret
  exact ⟨rfl, Bel.refl.alloc _⟩
set_option maxRecDepth 100000 in
set_option maxHeartbeats 4000000 in
theorem mk1_idx (sv : Value) (l : List Don) (w : World) (h : RdAt w w.heap.size sv 5 donC l) (hl : l.length ≤ 1000000) :
    Calls Try.prog 70 #[sv, .func (.func 42) #[] #[]] w fun e w' => e = .returned (.int .i64 (idxD missD l 0)) ∧ Bel w w' := by
  have HA := Lib.hid h
  obtain ⟨A, c, rfl, hc⟩ := h.form
  clear h
  go_enter Try.func70, Try.ntmps70
  go_wp2
  go_loopw [8] (fun si wr => ∃ (j : Nat) (z : Ext w), j ≤ l.length ∧ si = .int .i64 j ∧ wr = z.w ∧ idxD missD (l.drop j) j = idxD missD l 0) (fun si _ => l.length - (intOf si).toNat)
  case atStart => exact ⟨0, ⟨w, Bel.refl⟩, by omega, rfl, rfl, rfl⟩
  case round =>
    obtain ⟨j, x, hj, rfl, rfl, hd⟩ := hrel
    by_cases hlt : j < l.length
    · rw [dn_drop hlt] at hd
      obtain ⟨b, off, rfl, hb, hA⟩ := HA.out.at_ (by omega)
      obtain ⟨d0, d1, d2, d3, d4⟩ := rd_don hlt hA
      clear hA
      have HH := fun (y : Ext w) => mk1_one (dnAt l j).tk (dnAt l j).job (dnAt l j).rel (dnAt l j).resp (dnAt l j).miss y.w
      have hm : missD (dnAt l j) = (dnAt l j).miss := rfl
      have HH := Lib.hid HH
      cases hh : (dnAt l j).miss
      · have HD : Hid (idxD missD (l.drop (j + 1)) (j + 1) = idxD missD l 0) := Lib.hid (by rw [← hd]; simp only [idxD, hm, hh]; rfl)
        rw [hh] at HH d4
        clear hd hh hm
        go_wp2_with (first | (go_at_call 42; (with_reducible refine (HH.out _).mono ?_); rintro e w2 ⟨rfl, hb2⟩; obtain ⟨x, rfl⟩ : ∃ x : Ext w, w2 = x.w := ext_of (hb2.after (by (repeat (first | exact Ext.bel _ | exact Bel.refl | refine Bel.alloc ?_ _ | refine Bel.drew ?_ | refine Bel.drewN ?_ _)))); clear hb2))
        go_roundw
        case rel => exact ⟨j + 1, x, by omega, by go_num, rfl, HD.out⟩
        case measure => simp [intOf]; omega
      · have HD : Hid (idxD missD l 0 = (j : Int)) := Lib.hid (by rw [← hd]; simp only [idxD, hm, hh]; rfl)
        rw [hh] at HH d4
        clear hd hh hm
        go_wp2_with (first | (go_at_call 42; (with_reducible refine (HH.out _).mono ?_); rintro e w2 ⟨rfl, hb2⟩; obtain ⟨x, rfl⟩ : ∃ x : Ext w, w2 = x.w := ext_of (hb2.after (by (repeat (first | exact Ext.bel _ | exact Bel.refl | refine Bel.alloc ?_ _ | refine Bel.drew ?_ | refine Bel.drewN ?_ _)))); clear hb2))
        go_ret
        exact ⟨ret_int HD.out.symm, x.bel⟩
    · obtain rfl : j = l.length := by omega
      have HD : Hid (idxD missD l 0 = -1) := Lib.hid (by rw [← hd]; simp [idxD])
      clear hd
      go_wp2
      go_ret
      exact ⟨ret_int HD.out.symm, x.bel⟩
set_option maxHeartbeats 1000000 in
theorem mk1_has (sv : Value) (l : List Don) (w : World) (h : RdAt w w.heap.size sv 5 donC l) (hl : l.length ≤ 1000000) :
    Calls Try.prog 41 #[sv, .func (.func 42) #[] #[]] w fun e w' => e = .returned (.bool (l.any missD)) ∧ Bel w w' := by
  have HK := Lib.hid (mk1_idx sv l w h hl)
  have HR := Lib.hid (idxD_any missD l 0)
  obtain ⟨A, c, rfl, hc⟩ := h.form
  generalize idxD missD l 0 = n at *
  clear h
  go_enter Try.func41, Try.ntmps41
  go_wp2_with (first | (go_at_call 70; (with_reducible refine (HK.out).mono ?_); rintro e w2 ⟨rfl, hb2⟩; obtain ⟨x, rfl⟩ : ∃ x : Ext w, w2 = x.w := ext_of (hb2.after (by (repeat (first | exact Ext.bel _ | exact Bel.refl | refine Bel.alloc ?_ _ | refine Bel.drew ?_ | refine Bel.drewN ?_ _)))); clear hb2))
  go_ret
  exact ⟨ret_bool (by rw [← HR.out]), x.bel⟩
end Go.Proofs.Ytbilfpoghohddaa
