import Derived.Test.YtbncnadjlppknaaTcopy
import Derived.Test.YtbncnadjlppknaaSless
import Derived.Laws.OwnMore
/- a copied task set: its cells, and what a store of a priority or of a cost makes of it. -/
namespace Go.Proofs.Ytbncnadjlppknaa
open Go.RowKit
theorem OwnT.form {w : World} {base : Nat} {v : Value} {l : List Tsk} (h : OwnT w base v l) (h0 : 0 < l.length) : ∃ g cap, v = .slice (some ⟨g, 0, none⟩) l.length cap ∧ l.length ≤ cap ∧ base ≤ g ∧ g < w.heap.size := by
  obtain ⟨svs, ho, _⟩ := h
  rcases ho.2 with ⟨_, hn⟩ | ⟨g, cap, cur, hv, h2, h3, h4, _⟩
  · omega
  · exact ⟨g, cap, hv, h4, h2, Blk1.lt h3⟩
theorem OwnT.bel {w w' : World} {base : Nat} {v : Value} {l : List Tsk} (h : OwnT w base v l) (hb : Bel w w') : OwnT w' base v l := by
  obtain ⟨svs, ho, hsv⟩ := h
  exact ⟨svs, ownsRow_bel ho hb, fun j hj => ownsRow_bel (hsv j hj) hb⟩
section
variable {w : World} {base b n cap : Nat} {l : List Tsk}
theorem OwnT.lt (h : OwnT w base (.slice (some ⟨b, 0, none⟩) n cap) l) (h0 : 0 < l.length) : b < w.heap.size := by
  obtain ⟨g, c, e, _, _, h2⟩ := h.form h0
  injection e with e _ _
  injection e with e
  injection e with e _ _
  subst e
  exact h2
theorem OwnT.cost (h : OwnT w base (.slice (some ⟨b, 0, none⟩) n cap) l) (hn : n = l.length) {k : Nat} (hk : k < l.length) : w.cell? ⟨b, k * 7 + 4, none⟩ = some (.int .i64 (tskAt l k).cost) := by
  subst hn
  obtain ⟨svs, ho, _⟩ := h
  rw [ho.cellAt (k * 7 + 4) (by omega), rowT_at l svs l.length k 4 hk (by omega)]; rfl
theorem OwnT.prio (h : OwnT w base (.slice (some ⟨b, 0, none⟩) n cap) l) (hn : n = l.length) {k : Nat} (hk : k < l.length) : w.cell? ⟨b, k * 7 + 5, none⟩ = some (.int .i64 (tskAt l k).prio) := by
  subst hn
  obtain ⟨svs, ho, _⟩ := h
  rw [ho.cellAt (k * 7 + 5) (by omega), rowT_at l svs l.length k 5 hk (by omega)]; rfl
theorem OwnT.frozen (h : OwnT w base (.slice (some ⟨b, 0, none⟩) n cap) l) (hn : n = l.length) (j : Nat) : w.frozen? ⟨b, j, none⟩ = false := by
  subst hn
  obtain ⟨svs, ho, _⟩ := h
  exact ho.frozenAt j
theorem rowT_set {l l' : List Tsk} {svs : Nat → Value} {n k r : Nat} {u : Value} (hk : k < n) (hr : r < 7)
    (h : ∀ q s, q < n → s < 7 → (tskCells (tskAt l' q) (svs q))[s]? = if q = k ∧ s = r then some u else (tskCells (tskAt l q) (svs q))[s]?) : (rowT l svs n).set (k * 7 + r) u = rowT l' svs n := by
  apply List.ext_getElem?
  intro j
  by_cases hj : j < n * 7
  · obtain ⟨q, s, rfl, hs⟩ : ∃ q s, j = q * 7 + s ∧ s < 7 := ⟨j / 7, j % 7, by omega, by omega⟩
    rw [rowT_at l' svs n q s (by omega) hs, h q s (by omega) hs, List.getElem?_set]
    by_cases he : k * 7 + r = q * 7 + s
    · rw [if_pos he, if_pos (by rw [rowT_len]; omega), if_pos ⟨by omega, by omega⟩]
    · rw [if_neg he, if_neg (by omega), rowT_at l svs n q s (by omega) hs]
  · rw [List.getElem?_eq_none (by rw [List.length_set, rowT_len]; omega), List.getElem?_eq_none (by rw [rowT_len]; omega)]
theorem OwnT.stored {l' : List Tsk} {k r : Nat} {u : Value} (h : OwnT w base (.slice (some ⟨b, 0, none⟩) n cap) l) (hn : n = l.length) (hl : l'.length = l.length) (hk : k < l.length) (hr : r < 7)
    (hc : ∀ q s, q < l.length → s < 7 → ∀ sv, (tskCells (tskAt l' q) sv)[s]? = if q = k ∧ s = r then some u else (tskCells (tskAt l q) sv)[s]?) (hs : ∀ q, q < l.length → (tskAt l' q).secs = (tskAt l q).secs) :
    OwnT (w.setCell ⟨b, k * 7 + r, none⟩ u) base (.slice (some ⟨b, 0, none⟩) n cap) l' := by
  subst hn
  obtain ⟨svs, ho, hsv⟩ := h
  obtain ⟨h1, h2⟩ := ho.stored (k * 7 + r) u
  refine ⟨svs, ?_, fun j hj => ?_⟩
  · rw [hl, ← rowT_set (l := l) (l' := l') hk hr fun q s hq hs => hc q s hq hs _]
    exact h1
  · rw [hl] at hj
    rw [hs j hj]
    exact (hsv j hj).kept h2 (own_types_ne (hsv j hj) ho (by decide))
theorem OwnT.set_prio {f g : Nat → Int} {k : Nat} {x : Int} (h : OwnT w base (.slice (some ⟨b, 0, none⟩) n cap) (mk l f g)) (hn : n = l.length) (hk : k < l.length) :
    OwnT (w.setCell ⟨b, k * 7 + 5, none⟩ (.int .i64 x)) base (.slice (some ⟨b, 0, none⟩) n cap) (mk l (fun r => if r = k then x else f r) g) := by
  refine h.stored (by rw [mk_len]; exact hn) (by rw [mk_len, mk_len]) (by rw [mk_len]; exact hk) (by omega) (fun q s hq hs sv => ?_) (fun q hq => ?_)
  · rw [mk_len] at hq
    rw [mk_at _ _ hq, mk_at _ _ hq]
    by_cases hqk : q = k
    · subst hqk
      rcases s with _ | _ | _ | _ | _ | _ | _ | s <;> simp [tskCells]
    · simp only [if_neg hqk]
      rw [if_neg (fun e => hqk e.1)]
  · rw [mk_len] at hq
    rw [mk_at _ _ hq, mk_at _ _ hq]
theorem OwnT.set_cost {f g : Nat → Int} {k : Nat} {x : Int} (h : OwnT w base (.slice (some ⟨b, 0, none⟩) n cap) (mk l f g)) (hn : n = l.length) (hk : k < l.length) :
    OwnT (w.setCell ⟨b, k * 7 + 4, none⟩ (.int .i64 x)) base (.slice (some ⟨b, 0, none⟩) n cap) (mk l f (fun r => if r = k then x else g r)) := by
  refine h.stored (by rw [mk_len]; exact hn) (by rw [mk_len, mk_len]) (by rw [mk_len]; exact hk) (by omega) (fun q s hq hs sv => ?_) (fun q hq => ?_)
  · rw [mk_len] at hq
    rw [mk_at _ _ hq, mk_at _ _ hq]
    by_cases hqk : q = k
    · subst hqk
      rcases s with _ | _ | _ | _ | _ | _ | _ | s <;> simp [tskCells]
    · simp only [if_neg hqk]
      rw [if_neg (fun e => hqk e.1)]
  · rw [mk_len] at hq
    rw [mk_at _ _ hq, mk_at _ _ hq]
end
theorem mk_sized {l : List Tsk} (h : Sized l) {f g : Nat → Int} (hf : ∀ k, k < l.length → i64 (f k)) (hg : ∀ k, k < l.length → i64 (g k)) : Sized (mk l f g) := by
  refine ⟨by rw [mk_len]; exact h.len, fun i hi => ?_, fun i hi => ?_⟩
  · rw [mk_len] at hi; rw [mk_at _ _ hi]; exact h.parts i hi
  · rw [mk_len] at hi; rw [mk_at _ _ hi]
    have := h.wf i hi
    exact ⟨this.per, this.off, this.dl, hg i hi, hf i hi, this.secs⟩
theorem maxF_i64 : ∀ (xs : List Tsk) (m : Int), i64 m → (∀ x ∈ xs, i64 x.prio) → i64 (maxF m xs)
  | [], m, h, _ => h
  | x :: xs, m, h, hx => by
    simp only [maxF]
    refine maxF_i64 xs _ ?_ fun y hy => hx y (by simp [hy])
    split
    · exact hx x (by simp)
    · exact h
set_option maxRecDepth 100000 in
set_option maxHeartbeats 4000000 in
theorem below_any (v : Value) (l : List Tsk) (p : Int) (w : World) (h : TsksAt w w.heap.size v l) (hl : l.length ≤ 8) :
    Calls Try.prog 19 #[v, .int .i64 p] w fun e w' => e = .returned (.int .i64 (belowM l p)) ∧ Bel w w' := by
  obtain ⟨A, c, rfl, hc, hA⟩ := h
  have HA := Lib.hid hA
  have HB : Hid (belowM l p = if blF p 0 l = 0 then p else blF p 0 l) := Lib.hid rfl
  clear hA
  go_enter Try.func19, Try.ntmps19
  go_wp2
  go_loopg [5, 6] l.length (fun gk s5 s6 wr => ∃ (j : Nat) (m : Int) (z : Ext w), j + gk = l.length ∧ s5 = .int .i64 m ∧ s6 = .int .i64 j ∧ wr = z.w ∧ blF p m (l.drop j) = blF p 0 l)
  case atStart => exact ⟨0, 0, ⟨w, Bel.refl⟩, by omega, rfl, rfl, rfl, rfl⟩
  case round =>
    obtain ⟨j, m, z, hj, rfl, rfl, rfl, hd⟩ := hrel
    by_cases hlt : j < l.length
    · have hdl : decide ((j : Int) < (l.length : Int)) = true := by simp; omega
      rw [tsks_drop hlt] at hd
      obtain ⟨b, off, rfl, hb, hA⟩ := HA.out (by omega)
      obtain ⟨sv, ⟨_, _, _, _, _, t5, _⟩, _⟩ := (hA j hlt)
      simp only [blF] at hd
      have HD := Lib.hid hd
      clear hA hd
      generalize (tskAt l j).prio = q at *
      by_cases hq : q < p
      · have hdq : decide (q < p) = true := by simpa using hq
        by_cases hm : m < q
        · have HE : Hid (blF p q (l.drop (j + 1)) = blF p 0 l) := Lib.hid (by have := HD.out; rw [if_pos hq, if_pos hm] at this; exact this)
          have hdm : decide (m < q) = true := by simpa using hm
          go_wp2
          all_goals
            go_roundg (gk - 1)
            case measure => omega
            case rel => exact ⟨j + 1, _, z, by omega, rfl, by go_num, rfl, HE.out⟩
        · have HE : Hid (blF p m (l.drop (j + 1)) = blF p 0 l) := Lib.hid (by have := HD.out; rw [if_pos hq, if_neg hm] at this; exact this)
          have hdm : decide (m < q) = false := by simpa using hm
          by_cases hme : m = q
          · subst hme
            go_wp2
            all_goals
              go_roundg (gk - 1)
              case measure => omega
              case rel => exact ⟨j + 1, _, z, by omega, rfl, by go_num, rfl, HE.out⟩
          · have hdm2 : decide (q < m) = true := by simp; omega
            go_wp2
            all_goals
              go_roundg (gk - 1)
              case measure => omega
              case rel => exact ⟨j + 1, _, z, by omega, rfl, by go_num, rfl, HE.out⟩
      · have hdq : decide (q < p) = false := by simpa using hq
        have HE : Hid (blF p m (l.drop (j + 1)) = blF p 0 l) := Lib.hid (by have := HD.out; rw [if_neg hq] at this; exact this)
        go_wp2
        go_roundg (gk - 1)
        case measure => omega
        case rel => exact ⟨j + 1, _, z, by omega, rfl, by go_num, rfl, HE.out⟩
    · obtain rfl : j = l.length := by omega
      have hdl : decide ((l.length : Int) < (l.length : Int)) = false := by simp
      have hm : blF p 0 l = m := by rw [← hd]; simp [blF]
      have hB := HB.out
      rw [hm] at hB
      clear hd hm HB
      by_cases h0 : m = 0
      · subst h0
        rw [if_pos rfl] at hB
        have HX := Lib.hid hB
        clear hB
        go_wp2
        go_ret
        exact ⟨ret_int HX.out.symm, z.bel⟩
      · rw [if_neg h0] at hB
        have HX := Lib.hid hB
        have hne : (m == 0) = false := by simpa using h0
        clear hB
        go_wp2
        go_ret
        exact ⟨ret_int HX.out.symm, z.bel⟩
end Go.Proofs.Ytbncnadjlppknaa
