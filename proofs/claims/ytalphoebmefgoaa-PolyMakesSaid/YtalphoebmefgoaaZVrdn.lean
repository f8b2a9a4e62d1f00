/- poly, the reference: down, empty, Empty. -/
import Derived.Test.YtalphoebmefgoaaG45
import Derived.Test.YtalphoebmefgoaaZVinc
namespace Go.Proofs.Ytalphoebmefgoaa
open Go.RowKit
theorem inr_pad {x : AL} (h : x.a.length ≤ 6) : (padL x).inr ↔ x.inr := by
  have e : (padL x).b = x.b := rfl
  unfold Ln.inr AL.inr
  rw [pad_a h, e]
  constructor
  · intro q c hc
    refine q c ?_
    rcases List.mem_append.1 hc with k | k
    · exact List.mem_append_left _ (List.mem_append_left _ k)
    · exact List.mem_append_right _ k
  · intro q c hc
    rcases List.mem_append.1 hc with k | k
    · rcases List.mem_append.1 k with k | k
      · exact q c (List.mem_append_left _ k)
      · rw [List.eq_of_mem_replicate k]; decide
    · exact q c (List.mem_append_right _ k)
theorem inr_padAll {l : List AL} (h : ∀ x, x ∈ l → x.a.length ≤ 6) : (∀ z, z ∈ padAll l → z.inr) ↔ ∀ x, x ∈ l → x.inr := by
  constructor
  · intro q x hx
    exact (inr_pad (h x hx)).1 (q _ (List.mem_map_of_mem hx))
  · intro q z hz
    obtain ⟨x, hx, rfl⟩ := List.mem_map.1 hz
    exact (inr_pad (h x hx)).2 (q x hx)
theorem leaveA_inr {l : List AL} {n i : Nat} (hn : n ≤ 6) (hi : i < n) (hl : ∀ x, x ∈ l → x.a.length = n) (hr : ∀ x, x ∈ l → x.inr) : ∀ x, x ∈ (leaveA l n i).1 → x.inr := by
  obtain ⟨h1, _, h3⟩ := leave_pad hn hi hl
  refine (inr_padAll (fun x hx => by have := h3 x hx; omega)).1 ?_
  rw [h1]
  exact leave_inr ((inr_padAll (fun x hx => by have := hl x hx; omega)).2 hr)
theorem leaveA_len {l : List AL} {n i : Nat} (hn : n ≤ 6) (hi : i < n) (hl : ∀ x, x ∈ l → x.a.length = n) : (leaveA l n i).1.length ≤ 1000 := by
  obtain ⟨h1, _, _⟩ := leave_pad hn hi hl
  rw [← pad_len, h1]; exact leave_len _ _
theorem tidyA_inr {l : List AL} {n : Nat} (hn : n ≤ 6) (hl : ∀ x, x ∈ l → x.a.length = n) (hr : ∀ x, x ∈ l → x.inr) : ∀ x, x ∈ tidyA n l → x.inr := by
  obtain ⟨h1, h3⟩ := tidy_pad hn hl
  refine (inr_padAll (fun x hx => by have := h3 x hx; omega)).1 ?_
  rw [h1]
  exact tidy_inr ((inr_padAll (fun x hx => by have := hl x hx; omega)).2 hr)
theorem tidyA_len {l : List AL} {n : Nat} (hn : n ≤ 6) (hl : ∀ x, x ∈ l → x.a.length = n) : (tidyA n l).length ≤ l.length := by
  obtain ⟨h1, _⟩ := tidy_pad hn hl
  rw [← pad_len, h1, ← pad_len l]; exact tidy_len _
/-- the coordinates k + m - 1 down to k are left out -/
def downA (k : Nat) : Nat → List AL → List AL × Int
  | 0, l => (l, 0)
  | m + 1, l => if (leaveA l (k + m + 1) (k + m)).2 = 0 then downA k m (leaveA l (k + m + 1) (k + m)).1 else ([], (leaveA l (k + m + 1) (k + m)).2)
theorem down_pad (k : Nat) : ∀ (m : Nat) {l : List AL}, k + m ≤ 6 → (∀ x, x ∈ l → x.a.length = k + m) →
    padAll (downA k m l).1 = (downL k m (padAll l)).1 ∧ (downA k m l).2 = (downL k m (padAll l)).2 ∧ ∀ x, x ∈ (downA k m l).1 → x.a.length = k
  | 0, l, _, hl => ⟨rfl, rfl, hl⟩
  | m + 1, l, hk, hl => by
    obtain ⟨h1, h2, h3⟩ := leave_pad (n := k + m + 1) (i := k + m) (by omega) (by omega) hl
    unfold downA downL
    rw [h2]
    split
    · rw [← h1]
      exact down_pad k m (by omega) (fun x hx => by have := h3 x hx; omega)
    · rename_i h0
      refine ⟨?_, rfl, by simp⟩
      rw [leave_nil _ _ h0]; rfl
set_option maxRecDepth 100000 in
set_option maxHeartbeats 4000000 in
theorem rdown_any (v : Value) (l : List AL) (k m n : Nat) (w : World) (hkm : n = k + m) (hm : n ≤ 5) (h : LinesAt w w.heap.size v l) (hl : l.length ≤ 2000) (hln : ∀ x, x ∈ l → x.a.length = n) (hin : ∀ x, x ∈ l → x.inr) :
    Calls Try.prog 67 #[.int .i64 n, v, .int .i64 k] w (LsPost (downA k m l) w) := by
  have HKM := Lib.hid hkm
  have H := Lib.hid h
  have HIN := Lib.hid hin
  have HLN := Lib.hid hln
  obtain ⟨A, c, rfl, hc⟩ := h.form
  clear h hin hkm hln
  have wn : IntKind.i64.wrap ((n : Int) - 1) = (n : Int) - 1 := IntWalk.i64_in _ (by omega)
  go_enter Try.func67, Try.ntmps67
  go_wp2
  clear wn
  go_loopw [1, 8] (fun s1 s8 wq => ∃ (j : Nat) (y : Ext w) (d : List AL) (z : Int), j ≤ m ∧ z = (k : Int) + (j : Int) - 1 ∧ s8 = .int .i64 z ∧ wq = y.w ∧ LinesAt y.w y.w.heap.size s1 d ∧ d.length ≤ 2000 ∧ (∀ x, x ∈ d → x.a.length = k + j) ∧ (∀ x, x ∈ d → x.inr) ∧ downA k j d = downA k m l) (fun _ s8 _ => (intOf s8 + 2 - (k : Int)).toNat)
  case atStart => exact ⟨m, ⟨w, Bel.refl⟩, l, _, Nat.le_refl _, by have := HKM.out; omega, rfl, rfl, H.out, hl, fun x hx => by rw [HLN.out x hx]; exact HKM.out, HIN.out, rfl⟩
  case round =>
    obtain ⟨j, y0, d, z, hj, hz, rfl, rfl, hd, hdl, hdn, hdi, hor⟩ := hrel
    have HD := Lib.hid hd
    obtain ⟨A1, c1, rfl, _⟩ := hd.form
    have HI := Lib.hid hdi
    have HN := Lib.hid hdn
    have HO := Lib.hid hor
    clear hd hdi hdn hor
    have HB := Lib.hid y0.bel
    cases j with
    | zero =>
      have hd1 : decide (z ≥ (k : Int)) = false := decide_eq_false (by omega)
      have hd2 : decide ((k : Int) ≤ z) = false := decide_eq_false (by omega)
      have HP : Hid (LsPost (downA k m l) w (.returned (.tuple #[.slice A1 d.length c1, .int .i64 0])) y0.w) := Lib.hid ⟨_, by rw [← HO.out]; rfl, by rw [← HO.out]; exact HD.out, HB.out⟩
      clear HO
      go_wp2
      go_ret2
      exact HP.out
    | succ j =>
      obtain ⟨i, hik⟩ : ∃ i, i = k + j := ⟨_, rfl⟩
      have hi5 : i ≤ 4 := by have := HKM.out; omega
      obtain rfl : z = (i : Int) := by omega
      have hd1 : decide ((i : Int) ≥ (k : Int)) = true := decide_eq_true (by omega)
      have hd2 : decide ((k : Int) ≤ (i : Int)) = true := decide_eq_true (by omega)
      have hd3 : decide (k ≤ i) = true := decide_eq_true (by omega)
      have wi : IntKind.i64.wrap ((i : Int) - 1) = (i : Int) - 1 := IntWalk.i64_in _ (by omega)
      have wi1 : IntKind.i64.wrap ((i : Int) + 1) = ((i + 1 : Nat) : Int) := IntWalk.i64_in _ (by omega)
      have HZ := Lib.hid hik
      have hdn1 : ∀ x, x ∈ d → x.a.length = i + 1 := fun x hx => by have := HN.out x hx; omega
      have HLV := Lib.hid (rleave_any (i + 1) i _ d y0.w HD.out hdl (by omega) (by omega) hdn1 HI.out)
      have hun : downA k (j + 1) d = if (leaveA d (i + 1) i).2 = 0 then downA k j (leaveA d (i + 1) i).1 else ([], (leaveA d (i + 1) i).2) := by rw [hik]; rfl
      have HLL := Lib.hid (leaveA_len (n := i + 1) (i := i) (by omega) (by omega) hdn1)
      have HLI := Lib.hid (leaveA_inr (n := i + 1) (i := i) (by omega) (by omega) hdn1 HI.out)
      have HLE := Lib.hid (leave_pad (n := i + 1) (i := i) (by omega) (by omega) hdn1).2.2
      clear hik hz hdn1 HN
      have HO2 : Hid ((if (leaveA d (i + 1) i).2 = 0 then downA k j (leaveA d (i + 1) i).1 else ([], (leaveA d (i + 1) i).2)) = downA k m l) := Lib.hid (by rw [← hun]; exact HO.out)
      clear HO hun
      generalize leaveA d (i + 1) i = M at *
      obtain ⟨d2, e2⟩ := M
      go_wp2_with fail
      refine HLV.out.mono ?_
      rintro e w2 ⟨v2, rfl, hln, hB⟩
      dsimp only at hln ⊢
      have HLN2 := Lib.hid hln
      obtain ⟨A2, c2, rfl, _⟩ := hln.form
      have HB2 := Lib.hid (HB.out.trans hB)
      clear hln hB HLV
      try dsimp only at HO2
      by_cases h0 : e2 = 0
      · subst h0
        have t0 : ((0 : Int) != 0) = false := rfl
        have HO3 : Hid (downA k j d2 = downA k m l) := Lib.hid (by have := HO2.out; rwa [if_pos rfl] at this)
        clear HO2
        go_wp2
        go_roundw
        case rel => exact ⟨j, ⟨_, HB2.out⟩, d2, _, by omega, by have := HZ.out; omega, rfl, rfl, HLN2.out, Nat.le_trans HLL.out (by decide), fun x hx => by have := HLE.out x hx; have := HZ.out; omega, HLI.out, HO3.out⟩
        case measure =>
          have := HZ.out
          simp only [intOf]
          omega
      · have t0 : (e2 != 0) = true := by simp [h0]
        have HO3 : Hid (downA k m l = ([], e2)) := Lib.hid (by have := HO2.out; rw [if_neg h0] at this; exact this.symm)
        clear HO2 h0
        go_wp2
        go_ret2
        exact ls_post HO3.out LinesAt.nil HB2.out
set_option maxRecDepth 100000 in
set_option maxHeartbeats 4000000 in
theorem rempty_any (v : Value) (l : List AL) (n : Nat) (w : World) (hn : n ≤ 5) (h : LinesAt w w.heap.size v l) (hl : l.length ≤ 2000) (hln : ∀ x, x ∈ l → x.a.length = n) (hin : ∀ x, x ∈ l → x.inr) :
    Calls Try.prog 56 #[.int .i64 n, v] w (BoPost (emptyL n (padAll l)) w) := by
  have HTD := Lib.hid (rtidy_any n v l w h (by omega) (by omega) (fun x hx => by have := hln x hx; omega) (fun x hx => (hin x hx).wf))
  have hT := tidy_pad (n := n) (by omega) hln
  have HTL := Lib.hid (tidyA_len (n := n) (by omega) hln)
  have HTI := Lib.hid (tidyA_inr (n := n) (by omega) hln hin)
  have hTN := hT.2
  have hD := down_pad 0 n (l := tidyA n l) (by omega) (fun x hx => by have := hTN x hx; omega)
  rw [hT.1] at hD
  have HM : Hid (emptyL n (padAll l) = (decide ((downA 0 n (tidyA n l)).2 = 0) && decide (0 < (downA 0 n (tidyA n l)).1.length), (downA 0 n (tidyA n l)).2)) := Lib.hid (by
    unfold emptyL
    rw [hD.2.1, ← hD.1, pad_len])
  obtain ⟨A, c, rfl, hc⟩ := h.form
  have HTN := Lib.hid hTN
  clear h hin hln hT hD hTN
  go_enter Try.func56, Try.ntmps56
  go_wp2_with fail
  refine HTD.out.mono ?_
  rintro e w2 ⟨v2, rfl, hln, hB⟩
  have HDN := Lib.hid (rdown_any v2 (tidyA n l) 0 n n w2 (by omega) hn hln (by have := HTL.out; omega) HTN.out HTI.out)
  obtain ⟨A2, c2, rfl, _⟩ := hln.form
  have HB2 := Lib.hid hB
  clear hln hB HTD
  rw [show ((0 : Nat) : Int) = 0 from rfl] at HDN
  go_wp2_with fail
  refine HDN.out.mono ?_
  rintro e w3 ⟨v3, rfl, hln, hB⟩
  have HB3 := Lib.hid (HB2.out.trans hB)
  clear hB HDN
  generalize downA 0 n (tidyA n l) = M at *
  obtain ⟨d, er⟩ := M
  dsimp only at hln ⊢
  obtain ⟨A3, c3, rfl, _⟩ := hln.form
  clear hln
  by_cases he : er = 0
  · subst he
    have h0 : ((0 : Int) == 0) = true := rfl
    by_cases hd : 0 < d.length
    · have d1 : decide ((d.length : Int) > 0) = true := decide_eq_true (by omega)
      have d2 : decide (0 < d.length) = true := decide_eq_true hd
      have d3 : decide ((0 : Int) < (d.length : Int)) = true := decide_eq_true (by omega)
      have HP : Hid (BoPost (emptyL n (padAll l)) w (.returned (.tuple #[.bool true, .int .i64 0])) w3) := Lib.hid ⟨by rw [HM.out]; simp [hd], HB3.out⟩
      clear hd HM
      go_wp2
      go_ret2
      exact HP.out
    · have d1 : decide ((d.length : Int) > 0) = false := decide_eq_false (by omega)
      have d2 : decide (0 < d.length) = false := decide_eq_false hd
      have d3 : decide ((0 : Int) < (d.length : Int)) = false := decide_eq_false (by omega)
      have HP : Hid (BoPost (emptyL n (padAll l)) w (.returned (.tuple #[.bool false, .int .i64 0])) w3) := Lib.hid ⟨by rw [HM.out]; simp [hd], HB3.out⟩
      clear hd HM
      go_wp2
      go_ret2
      exact HP.out
  · have h0 : (er == 0) = false := by simp [he]
    have HP : Hid (BoPost (emptyL n (padAll l)) w (.returned (.tuple #[.bool false, .int .i64 er])) w3) := Lib.hid ⟨by rw [HM.out]; simp [he], HB3.out⟩
    clear he HM
    go_wp2
    go_ret2
    exact HP.out
set_option maxRecDepth 100000 in
set_option maxHeartbeats 4000000 in
theorem rEmpty_any (n : Int) (v : Value) (l : List AL) (w : World) (h : LinesAt w w.heap.size v l) (hl : AlLens l) (hn : l.length ≤ 1000000) : Calls Try.prog 27 #[.int .i64 n, v] w (BoPost (EmptyM n l) w) := by
  have H := Lib.hid h
  have HCK := Lib.hid (rcheck_any n v l w h hl hn)
  obtain ⟨A, c, rfl, hc⟩ := h.form
  clear h hl
  go_enter Try.func27, Try.ntmps27
  go_wp2_with fail
  refine HCK.out.mono ?_
  rintro e w1 ⟨rfl, hB⟩
  have HB1 := Lib.hid hB
  clear hB HCK
  by_cases hck : checkM n l = 0
  · have HC := Lib.hid hck
    rw [hck]
    have h0 : ((0 : Int) != 0) = false := rfl
    obtain ⟨hn5, hl1, _⟩ := check_fits hck
    have HM : Hid (EmptyM n l = emptyL n.toNat (padAll l)) := Lib.hid (by unfold EmptyM; rw [if_neg (by simp [hck])])
    clear hck
    obtain ⟨m, rfl⟩ : ∃ m : Nat, n = (m : Int) := ⟨n.toNat, by omega⟩
    have hm5 : m ≤ 5 := by omega
    rw [Int.toNat_natCast] at HM
    clear hn5
    have HEM := Lib.hid (rempty_any _ l m w1 hm5 (H.out.bel HB1.out) (by omega) (by have := check_lenA HC.out; rwa [Int.toNat_natCast] at this) (check_inrA HC.out))
    rw [← HM.out] at HEM
    clear HM
    generalize EmptyM m l = M at *
    obtain ⟨eb, er⟩ := M
    go_wp2_with fail
    refine HEM.out.mono ?_
    rintro e w3 ⟨rfl, hB⟩
    have HB3 := Lib.hid (HB1.out.trans hB)
    clear hB
    go_wp2
    go_ret2
    exact ⟨rfl, HB3.out⟩
  · have h0 : (checkM n l != 0) = true := by simp [hck]
    have HP : Hid (BoPost (EmptyM n l) w (.returned (.tuple #[.bool false, .int .i64 (checkM n l)])) w1) := Lib.hid (by
      have e : EmptyM n l = (false, checkM n l) := by unfold EmptyM; rw [if_pos hck]
      exact ⟨by rw [e], HB1.out⟩)
    clear hck
    generalize checkM n l = er at *
    go_wp2
    go_ret2
    exact HP.out
end Go.Proofs.Ytalphoebmefgoaa
