import Derived.Test.YtbilfpoghohddaaG2
import Derived.Test.YtbilfpoghohddaaG1
import Derived.Test.YtbilfpoghohddaaRows
import Derived.Deep.Cut
import Derived.Laws.AppendOwnNone
import Derived.Deep.RegionHeld3
import Derived.Deep.LoopGhost
import Derived.Test.YtbilfpoghohddaaG3
namespace Go.Proofs.Ytbilfpoghohddaa
open Go.RowKit
def secCells (s : Sec) : List Value := [.int .i64 s.res, .int .i64 s.frm, .int .i64 s.len]
def flatS (ss : List Sec) : List Value := ss.flatMap secCells
def tskCells (t : Tsk) (sv : Value) : List Value := [.string t.name, .int .i64 t.per, .int .i64 t.off, .int .i64 t.dl, .int .i64 t.cost, .int .i64 t.prio, sv]
def rowT (l : List Tsk) (svs : Nat → Value) (n : Nat) : List Value := (List.range n).flatMap fun j => tskCells (tskAt l j) (svs j)
theorem Bel.cells' {w w' : World} (h : Bel w w') (p : Addr) (hp : p.block < w.heap.size) : w'.cell? p = w.cell? p := Below.cell h hp
theorem flatS_len (ss : List Sec) : (flatS ss).length = ss.length * 3 := by
  induction ss with
  | nil => rfl
  | cons s ss ih => simp only [flatS, List.flatMap_cons, List.length_append] at *; rw [ih]; simp [secCells]; omega
theorem flatS_at : ∀ (ss : List Sec) (i k : Nat), i < ss.length → k < 3 → (flatS ss)[i * 3 + k]? = (secCells (secAt ss i))[k]?
  | [], i, _, h, _ => by simp at h
  | s :: ss, 0, k, _, hk => by
    have e : (flatS (s :: ss)) = secCells s ++ flatS ss := rfl
    rw [e, List.getElem?_append_left (by simp [secCells]; omega)]
    simp [secAt]
  | s :: ss, i + 1, k, h, hk => by
    have e : (flatS (s :: ss)) = secCells s ++ flatS ss := rfl
    have hl : (secCells s).length = 3 := rfl
    rw [e, List.getElem?_append_right (by rw [hl]; omega), hl, show (i + 1) * 3 + k - 3 = i * 3 + k by omega, flatS_at ss i k (by simpa using h) hk]
    simp [secAt]
theorem rowT_succ (l : List Tsk) (svs : Nat → Value) (n : Nat) : rowT l svs (n + 1) = rowT l svs n ++ tskCells (tskAt l n) (svs n) := by simp [rowT, List.range_succ]
theorem rowT_congr (l : List Tsk) (f g : Nat → Value) (n : Nat) (h : ∀ j, j < n → f j = g j) : rowT l f n = rowT l g n := by
  unfold rowT
  induction n with
  | zero => rfl
  | succ n ih => simp only [List.range_succ, List.flatMap_append]; rw [ih (fun j hj => h j (by omega))]; simp [h n (by omega)]
theorem rowT_len (l : List Tsk) (svs : Nat → Value) : ∀ n, (rowT l svs n).length = n * 7
  | 0 => rfl
  | n + 1 => by rw [rowT_succ, List.length_append, rowT_len l svs n]; simp [tskCells]; omega
theorem rowT_at (l : List Tsk) (svs : Nat → Value) : ∀ (n i k : Nat), i < n → k < 7 → (rowT l svs n)[i * 7 + k]? = (tskCells (tskAt l i) (svs i))[k]?
  | 0, i, _, h, _ => by omega
  | n + 1, i, k, h, hk => by
    have hl := rowT_len l svs n
    rw [rowT_succ]
    by_cases hi : i = n
    · subst hi
      rw [List.getElem?_append_right (by rw [hl]; omega), hl, show i * 7 + k - i * 7 = k by omega]
    · rw [List.getElem?_append_left (by rw [hl]; omega)]
      exact rowT_at l svs n i k (by omega) hk
theorem own_types_ne {w : World} {base base' s1 s2 n1 n2 : Nat} {e1 e2 : TypeId} {v1 v2 : Value} {xs ys : List Value} (h1 : w.ownsRow base e1 s1 v1 n1 xs) (h2 : w.ownsRow base' e2 s2 v2 n2 ys) (hne : e1 ≠ e2) :
    v1.ownBlock = none ∨ v1.ownBlock ≠ v2.ownBlock := by
  rcases h1.2 with ⟨rfl, _⟩ | ⟨g, cap, cur, rfl, _, hg, _⟩
  · exact .inl rfl
  · right
    rcases h2.2 with ⟨rfl, _⟩ | ⟨g', cap', cur', rfl, _, hg', _⟩
    · simp [Value.ownBlock]
    · intro e
      simp [Value.ownBlock] at e
      subst e
      rw [hg] at hg'
      simp at hg'
      exact hne hg'.2
theorem Try.infoSec : (Try.prog.info? 119).map (fun i => (i.zero, i.size, i.bytes)) = some (some (.agg #[.int .i64 0, .int .i64 0, .int .i64 0]), 3, 24) := by kernel_rfl
theorem Try.infoTsk : (Try.prog.info? 57).map (fun i => (i.zero, i.size, i.bytes)) = some (some (.agg #[.string .empty, .int .i64 0, .int .i64 0, .int .i64 0, .int .i64 0, .int .i64 0, .slice none 0 0]), 7, 80) := by kernel_rfl
/-- a task set that the call has made itself -/
def OwnT (w : World) (base : Nat) (v : Value) (l : List Tsk) : Prop :=
  ∃ svs : Nat → Value, w.ownsRow base 57 7 v l.length (rowT l svs l.length) ∧ ∀ j, j < l.length → w.ownsRow base 119 3 (svs j) (tskAt l j).secs.length (flatS (tskAt l j).secs)
theorem OwnT.tsks {w : World} {base : Nat} {v : Value} {l : List Tsk} (h : OwnT w base v l) : TsksAt w w.heap.size v l := by
  obtain ⟨svs, ho, hsv⟩ := h
  rcases Nat.eq_zero_or_pos l.length with h0 | h0
  · rcases ho.2 with ⟨hv, _⟩ | ⟨g, cap, cur, hv, h2, h3, h4, _⟩
    · exact ⟨none, 0, by rw [h0]; exact hv, by omega, fun h => by omega⟩
    · exact ⟨_, cap, hv, h4, fun h => by omega⟩
  · rcases ho.2 with ⟨hv, hn⟩ | ⟨g, cap, cur, hv, h2, h3, h4, _⟩
    · omega
    · refine ⟨_, cap, hv, h4, fun _ => ⟨g, 0, rfl, Blk1.lt h3, fun j hj => ⟨svs j, ?_, ?_⟩⟩⟩
      · have hc : ∀ k, k < 7 → w.cell? ⟨g, 0 + j * 7 + k, none⟩ = (tskCells (tskAt l j) (svs j))[k]? := fun k hk => by
          have := rowT_at l svs l.length j k hj hk
          have hk7 : k < (tskCells (tskAt l j) (svs j)).length := by simp [tskCells]; omega
          rw [List.getElem?_eq_getElem hk7] at this ⊢
          have := ho.cells (g := g) (by rw [hv]; rfl) _ _ this
          rw [add_ofs] at this
          rw [Nat.zero_add]; exact this
        exact ⟨hc 0 (by omega), hc 1 (by omega), hc 2 (by omega), hc 3 (by omega), hc 4 (by omega), hc 5 (by omega), hc 6 (by omega)⟩
      · have hs2 := hsv j hj
        rcases hs2.2 with ⟨hv2, hn2⟩ | ⟨g2, cap2, cur2, hv2, _, h32, h42, _⟩
        · exact ⟨none, 0, by rw [hn2]; exact hv2, by omega, fun h => by omega⟩
        · refine ⟨_, cap2, hv2, h42, fun _ => ⟨g2, 0, rfl, Blk1.lt h32, fun q hq => ?_⟩⟩
          have hc : ∀ k, k < 3 → w.cell? ⟨g2, 0 + q * 3 + k, none⟩ = (secCells (secAt (tskAt l j).secs q))[k]? := fun k hk => by
            have := flatS_at (tskAt l j).secs q k hq hk
            have hk7 : k < (secCells (secAt (tskAt l j).secs q)).length := by simp [secCells]; omega
            rw [List.getElem?_eq_getElem hk7] at this ⊢
            have := hs2.cells (g := g2) (by rw [hv2]; rfl) _ _ this
            rw [add_ofs] at this
            rw [Nat.zero_add]; exact this
          exact ⟨hc 0 (by omega), hc 1 (by omega), hc 2 (by omega)⟩
end Go.Proofs.Ytbilfpoghohddaa
namespace Go.Proofs.Ytbilfpoghohddaa
open Go.RowKit
/-- the task set that Plain makes of rows of four numbers -/
def plT (q : Nat → Nat → Int) (i : Nat) : Tsk := ⟨⟨#[UInt8.ofNat (97 + i)]⟩, q i 0, 0, q i 1, q i 2, q i 3, []⟩
def plL (n : Nat) (q : Nat → Nat → Int) : List Tsk := (List.range n).map (plT q)
theorem plL_len (n : Nat) (q : Nat → Nat → Int) : (plL n q).length = n := by simp [plL]
theorem plL_at {n i : Nat} (q : Nat → Nat → Int) (h : i < n) : tskAt (plL n q) i = plT q i := by simp [plL, tskAt, List.getD, h]
theorem rowT_take (n : Nat) (q : Nat → Nat → Int) (svs : Nat → Value) : ∀ i, i ≤ n → rowT (plL n q) svs i = (List.range i).flatMap fun j => tskCells (plT q j) (svs j)
  | 0, _ => rfl
  | i + 1, h => by rw [rowT_succ, rowT_take n q svs i (by omega), plL_at q (by omega), List.range_succ, List.flatMap_append]; simp
set_option maxRecDepth 100000 in
set_option maxHeartbeats 8000000 in
theorem plain_any (b n c : Nat) (q : Nat → Nat → Int) (w : World) (hn : n ≤ 8) (hb : b < w.heap.size) (hq : ∀ i k, i < n → k < 4 → w.cell? ⟨b, i * 4 + k, none⟩ = some (.int .i64 (q i k))) :
    Calls Try.prog 35 #[.slice (some ⟨b, 0, none⟩) n c] w fun e w' => ∃ v', e = .returned v' ∧ TsksAt w' w'.heap.size v' (plL n q) ∧ Bel w w' := by
  have HQ := Lib.hid hq
  clear hq
  obtain ⟨j0, hj0, hy0, hy1, hy2⟩ := info_parts Try.infoTsk
  have HJ := Lib.hid (⟨hj0, hy0, hy1, hy2⟩ : _ ∧ _ ∧ _ ∧ _)
  clear hj0 hy0 hy1 hy2
  go_enter Try.func35, Try.ntmps35
  go_wp2
  go_loopg [3, 4] n (fun gk s3 s4 wr => ∃ (i : Nat) (u : Value) (x : Ext w), i + gk = n ∧ s3 = u ∧ s4 = .int .i64 i ∧ wr = x.w ∧ x.w.ownsRow w.heap.size 57 7 u i (rowT (plL n q) (fun _ => .slice none 0 0) i))
  case atStart => exact ⟨0, _, ⟨w, Bel.refl⟩, by omega, rfl, rfl, rfl, World.ownsRow_nil _ _ _ _⟩
  case round =>
    obtain ⟨i, u, x, hi, rfl, rfl, rfl, hown⟩ := hrel
    by_cases hlt : i < n
    · have hdl : decide ((i : Int) < (n : Int)) = true := by simp; omega
      have k0 : w.cell? ⟨b, i * 4, none⟩ = some (.int .i64 (q i 0)) := HQ.out i 0 hlt (by omega)
      have k1 := HQ.out i 1 hlt (by omega)
      have k2 := HQ.out i 2 hlt (by omega)
      have k3 := HQ.out i 3 hlt (by omega)
      have HOWN := Lib.hid hown
      have hbx : b < x.w.heap.size := Nat.lt_of_lt_of_le hb x.bel.le
      have hwc : IntKind.i64.wrap (97 + (i : Int)) = 97 + i := IntWalk.i64_in _ (by omega)
      have hwu : IntKind.u8.wrap (97 + (i : Int)) = 97 + i := by rw [IntKind.wrap_u8]; omega
      clear hown
      go_upto_region 5 with (fail)
      have hE0 := Lib.hid (show Bel w x.w.drew from x.bel.drew)
      refine wp_region_noPanic ?_
      refine wp_region_held_drew (S := fun V => Bel w V) (by kernel_rfl) hE0.out (fun hH => ?_)
      refine wpAnyH_take (i := 0) (v := u3) rfl (by kernel_rfl) (by kernel_rfl) (by kernel_rfl) (fun _ _ _ h => h) (Or.inl ⟨by rfl, ?_⟩) hH ?_
      · intro V hSV
        clear hSV
        go_simp
      try simp only [Act.put, List.getElem_toArray, List.getElem_cons_succ, List.getElem_cons_zero, List.setIfInBounds_toArray, List.set_cons_zero, List.set_cons_succ]
      refine wpAnyH_take (i := 1) (v := .int .i64 (i : Int)) rfl (by kernel_rfl) (by kernel_rfl) (by kernel_rfl) (fun _ _ _ h => h) (Or.inl ⟨by rfl, ?_⟩) hH ?_
      · intro V hSV
        clear hSV
        go_simp
      try simp only [Act.put, List.getElem_toArray, List.getElem_cons_succ, List.getElem_cons_zero, List.setIfInBounds_toArray, List.set_cons_zero, List.set_cons_succ]
      refine wpAnyH_take (i := 2) (v := .int .i64 (97 + (i : Int))) rfl (by kernel_rfl) (by kernel_rfl) (by kernel_rfl) (fun _ _ _ h => h) (Or.inl ⟨by rfl, ?_⟩) hH ?_
      · intro V hSV
        clear hSV
        go_simp
      try simp only [Act.put, List.getElem_toArray, List.getElem_cons_succ, List.getElem_cons_zero, List.setIfInBounds_toArray, List.set_cons_zero, List.set_cons_succ]
      refine wpAnyH_take (i := 3) (v := .int .u8 (97 + (i : Int))) rfl (by kernel_rfl) (by kernel_rfl) (by kernel_rfl) (fun _ _ _ h => h) (Or.inl ⟨by rfl, ?_⟩) hH ?_
      · intro V hSV
        clear hSV
        go_simp
      try simp only [Act.put, List.getElem_toArray, List.getElem_cons_succ, List.getElem_cons_zero, List.setIfInBounds_toArray, List.set_cons_zero, List.set_cons_succ]
      refine wpAnyH_take (i := 6) (v := .slice (some ⟨b, 0, none⟩) n c) rfl (by kernel_rfl) (by kernel_rfl) (by kernel_rfl) (fun _ _ _ h => h) (Or.inl ⟨by rfl, ?_⟩) hH ?_
      · intro V hSV
        clear hSV
        go_simp
      try simp only [Act.put, List.getElem_toArray, List.getElem_cons_succ, List.getElem_cons_zero, List.setIfInBounds_toArray, List.set_cons_zero, List.set_cons_succ]
      refine wpAnyH_take (i := 7) (v := .int .i64 (i : Int)) rfl (by kernel_rfl) (by kernel_rfl) (by kernel_rfl) (fun _ _ _ h => h) (Or.inl ⟨by rfl, ?_⟩) hH ?_
      · intro V hSV
        clear hSV
        go_simp
      try simp only [Act.put, List.getElem_toArray, List.getElem_cons_succ, List.getElem_cons_zero, List.setIfInBounds_toArray, List.set_cons_zero, List.set_cons_succ]
      refine wpAnyH_take (i := 8) (v := .pointer (some ⟨b, i * 4, none⟩)) rfl (by kernel_rfl) (by kernel_rfl) (by kernel_rfl) (fun _ _ _ h => h) (Or.inl ⟨by rfl, ?_⟩) hH ?_
      · intro V hSV
        clear hSV
        go_simp
      try simp only [Act.put, List.getElem_toArray, List.getElem_cons_succ, List.getElem_cons_zero, List.setIfInBounds_toArray, List.set_cons_zero, List.set_cons_succ]
      refine wpAnyH_take (i := 9) (v := .pointer (some ⟨b, i * 4, none⟩)) rfl (by kernel_rfl) (by kernel_rfl) (by kernel_rfl) (fun _ _ _ h => h) (Or.inl ⟨by rfl, ?_⟩) hH ?_
      · intro V hSV
        clear hSV
        go_simp
      try simp only [Act.put, List.getElem_toArray, List.getElem_cons_succ, List.getElem_cons_zero, List.setIfInBounds_toArray, List.set_cons_zero, List.set_cons_succ]
      refine wpAnyH_take (i := 10) (v := .int .i64 (q i 0)) rfl (by kernel_rfl) (by kernel_rfl) (by kernel_rfl) (fun _ _ _ h => h) (Or.inl ⟨by rfl, ?_⟩) hH ?_
      · intro V hSV
        have c0 := (hSV.cells _ _ hb).trans k0
        have hbv := Nat.lt_of_lt_of_le hb hSV.le
        clear hSV
        go_simp
      try simp only [Act.put, List.getElem_toArray, List.getElem_cons_succ, List.getElem_cons_zero, List.setIfInBounds_toArray, List.set_cons_zero, List.set_cons_succ]
      refine wpAnyH_take (i := 11) (v := .slice (some ⟨b, 0, none⟩) n c) rfl (by kernel_rfl) (by kernel_rfl) (by kernel_rfl) (fun _ _ _ h => h) (Or.inl ⟨by rfl, ?_⟩) hH ?_
      · intro V hSV
        clear hSV
        go_simp
      try simp only [Act.put, List.getElem_toArray, List.getElem_cons_succ, List.getElem_cons_zero, List.setIfInBounds_toArray, List.set_cons_zero, List.set_cons_succ]
      refine wpAnyH_take (i := 12) (v := .int .i64 (i : Int)) rfl (by kernel_rfl) (by kernel_rfl) (by kernel_rfl) (fun _ _ _ h => h) (Or.inl ⟨by rfl, ?_⟩) hH ?_
      · intro V hSV
        clear hSV
        go_simp
      try simp only [Act.put, List.getElem_toArray, List.getElem_cons_succ, List.getElem_cons_zero, List.setIfInBounds_toArray, List.set_cons_zero, List.set_cons_succ]
      refine wpAnyH_take (i := 13) (v := .pointer (some ⟨b, i * 4, none⟩)) rfl (by kernel_rfl) (by kernel_rfl) (by kernel_rfl) (fun _ _ _ h => h) (Or.inl ⟨by rfl, ?_⟩) hH ?_
      · intro V hSV
        clear hSV
        go_simp
      try simp only [Act.put, List.getElem_toArray, List.getElem_cons_succ, List.getElem_cons_zero, List.setIfInBounds_toArray, List.set_cons_zero, List.set_cons_succ]
      refine wpAnyH_take (i := 14) (v := .pointer (some ⟨b, i * 4 + 1, none⟩)) rfl (by kernel_rfl) (by kernel_rfl) (by kernel_rfl) (fun _ _ _ h => h) (Or.inl ⟨by rfl, ?_⟩) hH ?_
      · intro V hSV
        clear hSV
        go_simp
      try simp only [Act.put, List.getElem_toArray, List.getElem_cons_succ, List.getElem_cons_zero, List.setIfInBounds_toArray, List.set_cons_zero, List.set_cons_succ]
      refine wpAnyH_take (i := 15) (v := .int .i64 (q i 1)) rfl (by kernel_rfl) (by kernel_rfl) (by kernel_rfl) (fun _ _ _ h => h) (Or.inl ⟨by rfl, ?_⟩) hH ?_
      · intro V hSV
        have c0 := (hSV.cells _ _ hb).trans k1
        have hbv := Nat.lt_of_lt_of_le hb hSV.le
        clear hSV
        go_simp
      try simp only [Act.put, List.getElem_toArray, List.getElem_cons_succ, List.getElem_cons_zero, List.setIfInBounds_toArray, List.set_cons_zero, List.set_cons_succ]
      refine wpAnyH_take (i := 16) (v := .slice (some ⟨b, 0, none⟩) n c) rfl (by kernel_rfl) (by kernel_rfl) (by kernel_rfl) (fun _ _ _ h => h) (Or.inl ⟨by rfl, ?_⟩) hH ?_
      · intro V hSV
        clear hSV
        go_simp
      try simp only [Act.put, List.getElem_toArray, List.getElem_cons_succ, List.getElem_cons_zero, List.setIfInBounds_toArray, List.set_cons_zero, List.set_cons_succ]
      refine wpAnyH_take (i := 17) (v := .int .i64 (i : Int)) rfl (by kernel_rfl) (by kernel_rfl) (by kernel_rfl) (fun _ _ _ h => h) (Or.inl ⟨by rfl, ?_⟩) hH ?_
      · intro V hSV
        clear hSV
        go_simp
      try simp only [Act.put, List.getElem_toArray, List.getElem_cons_succ, List.getElem_cons_zero, List.setIfInBounds_toArray, List.set_cons_zero, List.set_cons_succ]
      refine wpAnyH_take (i := 18) (v := .pointer (some ⟨b, i * 4, none⟩)) rfl (by kernel_rfl) (by kernel_rfl) (by kernel_rfl) (fun _ _ _ h => h) (Or.inl ⟨by rfl, ?_⟩) hH ?_
      · intro V hSV
        clear hSV
        go_simp
      try simp only [Act.put, List.getElem_toArray, List.getElem_cons_succ, List.getElem_cons_zero, List.setIfInBounds_toArray, List.set_cons_zero, List.set_cons_succ]
      refine wpAnyH_take (i := 19) (v := .pointer (some ⟨b, i * 4 + 2, none⟩)) rfl (by kernel_rfl) (by kernel_rfl) (by kernel_rfl) (fun _ _ _ h => h) (Or.inl ⟨by rfl, ?_⟩) hH ?_
      · intro V hSV
        clear hSV
        go_simp
      try simp only [Act.put, List.getElem_toArray, List.getElem_cons_succ, List.getElem_cons_zero, List.setIfInBounds_toArray, List.set_cons_zero, List.set_cons_succ]
      refine wpAnyH_take (i := 20) (v := .int .i64 (q i 2)) rfl (by kernel_rfl) (by kernel_rfl) (by kernel_rfl) (fun _ _ _ h => h) (Or.inl ⟨by rfl, ?_⟩) hH ?_
      · intro V hSV
        have c0 := (hSV.cells _ _ hb).trans k2
        have hbv := Nat.lt_of_lt_of_le hb hSV.le
        clear hSV
        go_simp
      try simp only [Act.put, List.getElem_toArray, List.getElem_cons_succ, List.getElem_cons_zero, List.setIfInBounds_toArray, List.set_cons_zero, List.set_cons_succ]
      refine wpAnyH_take (i := 21) (v := .slice (some ⟨b, 0, none⟩) n c) rfl (by kernel_rfl) (by kernel_rfl) (by kernel_rfl) (fun _ _ _ h => h) (Or.inl ⟨by rfl, ?_⟩) hH ?_
      · intro V hSV
        clear hSV
        go_simp
      try simp only [Act.put, List.getElem_toArray, List.getElem_cons_succ, List.getElem_cons_zero, List.setIfInBounds_toArray, List.set_cons_zero, List.set_cons_succ]
      refine wpAnyH_take (i := 22) (v := .int .i64 (i : Int)) rfl (by kernel_rfl) (by kernel_rfl) (by kernel_rfl) (fun _ _ _ h => h) (Or.inl ⟨by rfl, ?_⟩) hH ?_
      · intro V hSV
        clear hSV
        go_simp
      try simp only [Act.put, List.getElem_toArray, List.getElem_cons_succ, List.getElem_cons_zero, List.setIfInBounds_toArray, List.set_cons_zero, List.set_cons_succ]
      refine wpAnyH_take (i := 23) (v := .pointer (some ⟨b, i * 4, none⟩)) rfl (by kernel_rfl) (by kernel_rfl) (by kernel_rfl) (fun _ _ _ h => h) (Or.inl ⟨by rfl, ?_⟩) hH ?_
      · intro V hSV
        clear hSV
        go_simp
      try simp only [Act.put, List.getElem_toArray, List.getElem_cons_succ, List.getElem_cons_zero, List.setIfInBounds_toArray, List.set_cons_zero, List.set_cons_succ]
      refine wpAnyH_take (i := 24) (v := .pointer (some ⟨b, i * 4 + 3, none⟩)) rfl (by kernel_rfl) (by kernel_rfl) (by kernel_rfl) (fun _ _ _ h => h) (Or.inl ⟨by rfl, ?_⟩) hH ?_
      · intro V hSV
        clear hSV
        go_simp
      try simp only [Act.put, List.getElem_toArray, List.getElem_cons_succ, List.getElem_cons_zero, List.setIfInBounds_toArray, List.set_cons_zero, List.set_cons_succ]
      refine wpAnyH_take (i := 25) (v := .int .i64 (q i 3)) rfl (by kernel_rfl) (by kernel_rfl) (by kernel_rfl) (fun _ _ _ h => h) (Or.inl ⟨by rfl, ?_⟩) hH ?_
      · intro V hSV
        have c0 := (hSV.cells _ _ hb).trans k3
        have hbv := Nat.lt_of_lt_of_le hb hSV.le
        clear hSV
        go_simp
      try simp only [Act.put, List.getElem_toArray, List.getElem_cons_succ, List.getElem_cons_zero, List.setIfInBounds_toArray, List.set_cons_zero, List.set_cons_succ]
      clear k0 k1 k2 k3 hH
      have HOV : Hid (x.w.drew.ownsRow w.heap.size 57 7 u3 i (rowT (plL n q) (fun _ => .slice none 0 0) i)) := Lib.hid HOWN.out
      generalize x.w.drew = V0 at *
      refine wpAnyH_ready (rs := [4]) (by kernel_rfl) (by simp) ?_
      refine AllReadyH.cons rfl (fun K hK => ?_) AllReadyH.nil
      go_simp
      refine hK.out _ _ (hE0.out.alloc _) (fun hH => ?_)
      clear hK K hH
      try simp only [Act.put, List.getElem_toArray, List.getElem_cons_succ, List.getElem_cons_zero, List.setIfInBounds_toArray, List.set_cons_zero, List.set_cons_succ]
      generalize hV1 : World.alloc V0 _ = V1
      have hc1 : V1.cell? ⟨V0.heap.size, 0, none⟩ = some (.int .u8 (97 + (i : Int))) := by rw [← hV1]; simp [go_sem]
      have hz1 : V0.heap.size < V1.heap.size := by rw [← hV1]; simp [go_sem]
      have hE1 := Lib.hid (show Bel w V1 by rw [← hV1]; exact hE0.out.alloc _)
      have hX1 := Lib.hid (show Bel V0 V1 by rw [← hV1]; exact Bel.refl.alloc _)
      clear hV1
      have hcv : (convert 117 9 (.slice (some ⟨V0.heap.size, 0, none⟩) 1 1)).run Try.prog V1 = .ok (.string (plT q i).name) V1 := by
        rw [run_convert_bytes_string V1 _ _ 5 _ _ _ Try.underlying117 Try.underlying5 Try.underlying9, run_bytesToString V1 ⟨V0.heap.size, 0, none⟩ 1 1 [97 + (i : Int)] (run_loadCells_list V1 ⟨V0.heap.size, 0, none⟩ [.int .u8 (97 + (i : Int))] (fun j v hv => by cases j with | zero => (injection hv with hv; subst hv; exact hc1) | succ j => cases hv))]
        show Result.ok (Value.string (ByteArray.empty.push (UInt8.ofNat (97 + (i : Int)).toNat))) V1 = _
        rw [show (97 + (i : Int)).toNat = 97 + i by omega]
        rfl
      refine wpAnyH_ready (rs := [5]) (by kernel_rfl) (by simp) ?_
      refine AllReadyH.cons rfl (fun K hK => ?_) AllReadyH.nil
      go_simp
      refine hK.out _ _ hE1.out (fun hH => ?_)
      clear hK K hH hcv hc1
      try simp only [Act.put, List.getElem_toArray, List.getElem_cons_succ, List.getElem_cons_zero, List.setIfInBounds_toArray, List.set_cons_zero, List.set_cons_succ]
      refine wpAnyH_ready (rs := [26]) (by kernel_rfl) (by simp) ?_
      refine AllReadyH.cons rfl (fun K hK => ?_) AllReadyH.nil
      go_simp
      refine hK.out _ _ hE1.out (fun hH => ?_)
      clear hK K hH
      try simp only [Act.put, List.getElem_toArray, List.getElem_cons_succ, List.getElem_cons_zero, List.setIfInBounds_toArray, List.set_cons_zero, List.set_cons_succ]
      refine wpAnyH_ready (rs := [27]) (by kernel_rfl) (by simp) ?_
      refine AllReadyH.cons rfl (fun K hK => ?_) AllReadyH.nil
      go_simp
      refine hK.out _ _ (hE1.out.alloc _) (fun hH => ?_)
      clear hK K hH
      try simp only [Act.put, List.getElem_toArray, List.getElem_cons_succ, List.getElem_cons_zero, List.setIfInBounds_toArray, List.set_cons_zero, List.set_cons_succ]
      have hown1 := (ownsRow_bel HOV.out hX1.out).alloc (.cells #[.string (plT q i).name, .int .i64 (q i 0), .int .i64 0, .int .i64 (q i 1), .int .i64 (q i 2), .int .i64 (q i 3), .slice none 0 0] 57)
      obtain ⟨hj0, hy0, hy1, hy2⟩ := HJ.out
      have hxw := hE1.out.le
      refine wpAnyH_ready (rs := [28]) (by kernel_rfl) (by simp) ?_
      refine AllReadyH.cons rfl (fun K hK => ?_) AllReadyH.nil
      rw [if_pos (by rfl)]
      refine wp_append_own _ _ _ 22 rfl w.heap.size 57 j0 _ 7 80 Try.underlying22 hj0 hy0 hy1 hy2 rfl (by decide) _ _ _ rfl hown1 ⟨V1.heap.size, 0, none⟩ 1 1 (tskCells (plT q i) (.slice none 0 0)) rfl rfl ?d1 ?d2 ?d3 ?d4 ?d5 ?_
      case d1 => exact cells_new _ (tskCells (plT q i) (.slice none 0 0)) _
      case d2 => intro u hu; simp [tskCells] at hu; rcases hu with h | h | h | h | h | h | h <;> subst h <;> rfl
      case d3 => unfold maxLen; omega
      case d4 => omega
      case d5 => simp; omega
      intro v' w3 hown3 hg3 _
      have hbel := bel_grown (hE1.out.alloc _) hown1 hg3
      refine hK.out _ _ hbel (fun hH => ?_)
      clear hK K hH
      try simp only [Act.put, List.getElem_toArray, List.getElem_cons_succ, List.getElem_cons_zero, List.setIfInBounds_toArray, List.set_cons_zero, List.set_cons_succ]
      have HB3 := Lib.hid hbel
      have HO3 : Hid (w3.ownsRow w.heap.size 57 7 v' (i + 1) (rowT (plL n q) (fun _ => .slice none 0 0) (i + 1))) := Lib.hid (by rw [rowT_succ, plL_at q hlt]; exact hown3)
      clear hown3 hg3 hown1 hbel
      refine wpAnyH_ready (rs := [29]) (by kernel_rfl) (by simp) ?_
      refine AllReadyH.cons rfl (fun K hK => ?_) AllReadyH.nil
      go_simp
      refine hK.out _ _ HB3.out (fun hH => ?_)
      clear hK K hH
      try simp only [Act.put, List.getElem_toArray, List.getElem_cons_succ, List.getElem_cons_zero, List.setIfInBounds_toArray, List.set_cons_zero, List.set_cons_succ]
      refine wpAnyH_done (by kernel_rfl) ?_ _
      refine NoPanic.normal ?_
      obtain ⟨y, rfl⟩ := ext_of HB3.out
      go_wp2
      go_roundg (gk - 1)
      case measure => omega
      case rel => exact ⟨i + 1, _, y, by omega, rfl, by go_num, rfl, HO3.out⟩
    · obtain rfl : i = n := by omega
      have hdl : decide ((i : Int) < (i : Int)) = false := by simp
      have HOWN := Lib.hid hown
      clear hown
      go_wp2
      go_ret
      refine ⟨_, rfl, ?_, x.bel⟩
      rcases HOWN.out.2 with ⟨hv, hn0⟩ | ⟨g, cap, cur, hv, h2, h3, h4, _⟩
      · exact ⟨none, 0, by rw [plL_len, hn0]; exact hv, by rw [plL_len]; omega, fun h => by rw [plL_len] at h; omega⟩
      · refine ⟨_, cap, by rw [plL_len]; exact hv, by rw [plL_len]; exact h4, fun _ => ⟨g, 0, rfl, Blk1.lt h3, fun j hj => ⟨.slice none 0 0, ?_, ?_⟩⟩⟩
        · rw [plL_len] at hj
          have ho := HOWN.out
          rw [hv] at ho
          have hc : ∀ k, k < 7 → x.w.cell? ⟨g, 0 + j * 7 + k, none⟩ = (tskCells (tskAt (plL i q) j) (.slice none 0 0))[k]? := fun k hk => by
            rw [Nat.zero_add, ho.cellAt (j * 7 + k) (by omega)]
            exact rowT_at (plL i q) (fun _ => .slice none 0 0) i j k hj hk
          exact ⟨hc 0 (by omega), hc 1 (by omega), hc 2 (by omega), hc 3 (by omega), hc 4 (by omega), hc 5 (by omega), hc 6 (by omega)⟩
        · rw [plL_len] at hj
          rw [plL_at q hj]
          exact ⟨none, 0, rfl, Nat.le_refl _, fun h => absurd h (by simp [plT])⟩
end Go.Proofs.Ytbilfpoghohddaa
/- the task sets that the statements make with Plain. -/
namespace Go.Proofs.Ytbilfpoghohddaa
open Go.RowKit
def q1 (i k : Nat) : Int := (([[2, 2, 1, 2], [4, 3, 2, 1]] : List (List Int)).getD i []).getD k 0
def q2 (i k : Nat) : Int := (([[2, 1, 1, 2], [4, 2, 2, 1]] : List (List Int)).getD i []).getD k 0
def plc (q : Nat → Nat → Int) : Array Value := #[.int .i64 (q 0 0), .int .i64 (q 0 1), .int .i64 (q 0 2), .int .i64 (q 0 3), .int .i64 (q 1 0), .int .i64 (q 1 1), .int .i64 (q 1 2), .int .i64 (q 1 3)]
theorem pl_chk1 : rchk (plL 2 q1) = 0 := by
  simp [plL, plT, q1, List.range_succ, rchk, rchkT, manySecs, tskBad, rsecsOk, okAll, noClash, clashAny, twinAny, twin, ByteArray.size, ByteArray.toList_eq]
theorem pl_chk2 : rchk (plL 2 q2) = 0 := by
  simp [plL, plT, q2, List.range_succ, rchk, rchkT, manySecs, tskBad, rsecsOk, okAll, noClash, clashAny, twinAny, twin, ByteArray.size, ByteArray.toList_eq]
theorem pl_sized (q : Nat → Nat → Int) (n : Nat) (hn : n ≤ 8) (h : ∀ i k, i64 (q i k)) : Sized (plL n q) := by
  refine ⟨by rw [plL_len]; omega, fun i hi => ?_, fun i hi => ?_⟩
  · rw [plL_len] at hi; rw [plL_at q hi]; simp [plT, ByteArray.size]
  · rw [plL_len] at hi; rw [plL_at q hi]
    exact ⟨h i 0, by simp [plT, i64], h i 1, h i 2, h i 3, by intro s hs; simp [plT] at hs⟩
theorem q1_i64 : ∀ i k, i64 (q1 i k) := fun i k => by
  rcases i with _ | _ | i <;> rcases k with _ | _ | _ | _ | k <;> simp [q1, i64]
theorem q2_i64 : ∀ i k, i64 (q2 i k) := fun i k => by
  rcases i with _ | _ | i <;> rcases k with _ | _ | _ | _ | k <;> simp [q2, i64]
theorem plain_new (q : Nat → Nat → Int) (w : World) (e : TypeId) :
    Calls Try.prog 35 #[.slice (some ⟨w.heap.size, 0, none⟩) 2 2] (w.alloc (.cells (plc q) e)) fun en w' => ∃ v', en = .returned v' ∧ TsksAt w' w'.heap.size v' (plL 2 q) ∧ Bel w w' :=
  (plain_any w.heap.size 2 2 q (w.alloc (.cells (plc q) e)) (by omega) (by simp) (fun i k hi hk => by
    have h1 : i = 0 ∨ i = 1 := by omega
    have h2 : k = 0 ∨ k = 1 ∨ k = 2 ∨ k = 3 := by omega
    rcases h1 with rfl | rfl <;> rcases h2 with rfl | rfl | rfl | rfl <;> (unfold World.cell?; dsimp only; rw [heap_alloc_new]; rfl))).mono fun _ _ ⟨v', a, b, c⟩ => ⟨v', a, b, (Bel.refl.alloc _).trans c⟩
end Go.Proofs.Ytbilfpoghohddaa
