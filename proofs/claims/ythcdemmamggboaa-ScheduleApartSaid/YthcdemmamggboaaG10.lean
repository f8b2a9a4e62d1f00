import Derived.Test.YthcdemmamggboaaG2
import Derived.Test.YthcdemmamggboaaG1
import Derived.Test.YthcdemmamggboaaRows
import Derived.Deep.Cut
import Derived.Laws.AppendOwnNone
namespace Go.Proofs.Ythcdemmamggboaa
open Go.RowKit
def secCells (s : Sec) : List Value := [.int .i64 s.res, .int .i64 s.frm, .int .i64 s.len]
def flatS (ss : List Sec) : List Value := ss.flatMap secCells
def tskCells (t : Tsk) (sv : Value) : List Value := [.string t.name, .int .i64 t.per, .int .i64 t.off, .int .i64 t.dl, .int .i64 t.cost, .int .i64 t.prio, sv]
def rowT (l : List Tsk) (svs : Nat → Value) (n : Nat) : List Value := (List.range n).flatMap fun j => tskCells (tskAt l j) (svs j)
theorem Bel.cells' {w w' : World} (h : Bel w w') (p : Addr) (hp : p.block < w.heap.size) : w'.cell? p = w.cell? p := Below.cell h hp
theorem flatS_len (ss : List Sec) : (flatS ss).length = ss.length * 3 := by
  induction ss with
  | nil => rfl
  | cons s ss ih => simp only [flatS, List.flatMap_cons, List.length_append] at *; rw [ih]; simp [secCells]; omega
theorem flatS_at : ∀ (ss : List Sec) (i k : Nat), i < ss.length → k < 3 → (flatS ss)[i * 3 + k]? = (secCells (secAt ss i))[k]?
  | [], i, _, h, _ => by simp at h
  | s :: ss, 0, k, _, hk => by
    have e : (flatS (s :: ss)) = secCells s ++ flatS ss := rfl
    rw [e, List.getElem?_append_left (by simp [secCells]; omega)]
    simp [secAt]
  | s :: ss, i + 1, k, h, hk => by
    have e : (flatS (s :: ss)) = secCells s ++ flatS ss := rfl
    have hl : (secCells s).length = 3 := rfl
    rw [e, List.getElem?_append_right (by rw [hl]; omega), hl, show (i + 1) * 3 + k - 3 = i * 3 + k by omega, flatS_at ss i k (by simpa using h) hk]
    simp [secAt]
theorem rowT_succ (l : List Tsk) (svs : Nat → Value) (n : Nat) : rowT l svs (n + 1) = rowT l svs n ++ tskCells (tskAt l n) (svs n) := by simp [rowT, List.range_succ]
theorem rowT_congr (l : List Tsk) (f g : Nat → Value) (n : Nat) (h : ∀ j, j < n → f j = g j) : rowT l f n = rowT l g n := by
  unfold rowT
  induction n with
  | zero => rfl
  | succ n ih => simp only [List.range_succ, List.flatMap_append]; rw [ih (fun j hj => h j (by omega))]; simp [h n (by omega)]
theorem rowT_len (l : List Tsk) (svs : Nat → Value) : ∀ n, (rowT l svs n).length = n * 7
  | 0 => rfl
  | n + 1 => by rw [rowT_succ, List.length_append, rowT_len l svs n]; simp [tskCells]; omega
theorem rowT_at (l : List Tsk) (svs : Nat → Value) : ∀ (n i k : Nat), i < n → k < 7 → (rowT l svs n)[i * 7 + k]? = (tskCells (tskAt l i) (svs i))[k]?
  | 0, i, _, h, _ => by omega
  | n + 1, i, k, h, hk => by
    have hl := rowT_len l svs n
    rw [rowT_succ]
    by_cases hi : i = n
    · subst hi
      rw [List.getElem?_append_right (by rw [hl]; omega), hl, show i * 7 + k - i * 7 = k by omega]
    · rw [List.getElem?_append_left (by rw [hl]; omega)]
      exact rowT_at l svs n i k (by omega) hk
theorem own_types_ne {w : World} {base base' s1 s2 n1 n2 : Nat} {e1 e2 : TypeId} {v1 v2 : Value} {xs ys : List Value} (h1 : w.ownsRow base e1 s1 v1 n1 xs) (h2 : w.ownsRow base' e2 s2 v2 n2 ys) (hne : e1 ≠ e2) :
    v1.ownBlock = none ∨ v1.ownBlock ≠ v2.ownBlock := by
  rcases h1.2 with ⟨rfl, _⟩ | ⟨g, cap, cur, rfl, _, hg, _⟩
  · exact .inl rfl
  · right
    rcases h2.2 with ⟨rfl, _⟩ | ⟨g', cap', cur', rfl, _, hg', _⟩
    · simp [Value.ownBlock]
    · intro e
      simp [Value.ownBlock] at e
      subst e
      rw [hg] at hg'
      simp at hg'
      exact hne hg'.2
theorem Try.infoSec : (Try.prog.info? 70).map (fun i => (i.zero, i.size, i.bytes)) = some (some (.agg #[.int .i64 0, .int .i64 0, .int .i64 0]), 3, 24) := by kernel_rfl
theorem Try.infoTsk : (Try.prog.info? 45).map (fun i => (i.zero, i.size, i.bytes)) = some (some (.agg #[.string .empty, .int .i64 0, .int .i64 0, .int .i64 0, .int .i64 0, .int .i64 0, .slice none 0 0]), 7, 80) := by kernel_rfl
/-- a task set that the call has made itself -/
def OwnT (w : World) (base : Nat) (v : Value) (l : List Tsk) : Prop :=
  ∃ svs : Nat → Value, w.ownsRow base 45 7 v l.length (rowT l svs l.length) ∧ ∀ j, j < l.length → w.ownsRow base 70 3 (svs j) (tskAt l j).secs.length (flatS (tskAt l j).secs)
theorem OwnT.tsks {w : World} {base : Nat} {v : Value} {l : List Tsk} (h : OwnT w base v l) : TsksAt w w.heap.size v l := by
  obtain ⟨svs, ho, hsv⟩ := h
  rcases Nat.eq_zero_or_pos l.length with h0 | h0
  · rcases ho.2 with ⟨hv, _⟩ | ⟨g, cap, cur, hv, h2, h3, h4, _⟩
    · exact ⟨none, 0, by rw [h0]; exact hv, by omega, fun h => by omega⟩
    · exact ⟨_, cap, hv, h4, fun h => by omega⟩
  · rcases ho.2 with ⟨hv, hn⟩ | ⟨g, cap, cur, hv, h2, h3, h4, _⟩
    · omega
    · refine ⟨_, cap, hv, h4, fun _ => ⟨g, 0, rfl, Blk1.lt h3, fun j hj => ⟨svs j, ?_, ?_⟩⟩⟩
      · have hc : ∀ k, k < 7 → w.cell? ⟨g, 0 + j * 7 + k, none⟩ = (tskCells (tskAt l j) (svs j))[k]? := fun k hk => by
          have := rowT_at l svs l.length j k hj hk
          have hk7 : k < (tskCells (tskAt l j) (svs j)).length := by simp [tskCells]; omega
          rw [List.getElem?_eq_getElem hk7] at this ⊢
          have := ho.cells (g := g) (by rw [hv]; rfl) _ _ this
          rw [add_ofs] at this
          rw [Nat.zero_add]; exact this
        exact ⟨hc 0 (by omega), hc 1 (by omega), hc 2 (by omega), hc 3 (by omega), hc 4 (by omega), hc 5 (by omega), hc 6 (by omega)⟩
      · have hs2 := hsv j hj
        rcases hs2.2 with ⟨hv2, hn2⟩ | ⟨g2, cap2, cur2, hv2, _, h32, h42, _⟩
        · exact ⟨none, 0, by rw [hn2]; exact hv2, by omega, fun h => by omega⟩
        · refine ⟨_, cap2, hv2, h42, fun _ => ⟨g2, 0, rfl, Blk1.lt h32, fun q hq => ?_⟩⟩
          have hc : ∀ k, k < 3 → w.cell? ⟨g2, 0 + q * 3 + k, none⟩ = (secCells (secAt (tskAt l j).secs q))[k]? := fun k hk => by
            have := flatS_at (tskAt l j).secs q k hq hk
            have hk7 : k < (secCells (secAt (tskAt l j).secs q)).length := by simp [secCells]; omega
            rw [List.getElem?_eq_getElem hk7] at this ⊢
            have := hs2.cells (g := g2) (by rw [hv2]; rfl) _ _ this
            rw [add_ofs] at this
            rw [Nat.zero_add]; exact this
          exact ⟨hc 0 (by omega), hc 1 (by omega), hc 2 (by omega)⟩
set_option maxRecDepth 100000 in
set_option maxHeartbeats 8000000 in
theorem copied_own (v : Value) (l : List Tsk) (w : World) (h : TsksAt w w.heap.size v l) (hl : l.length ≤ 1000000) (hs : ∀ i, i < l.length → (tskAt l i).secs.length ≤ 1000000) :
    Calls Try.prog 9 #[v] w fun e w' => ∃ v', e = .returned v' ∧ OwnT w' w.heap.size v' l ∧ Bel w w' := by
  obtain ⟨A, c, rfl, _⟩ := h.form
  go_enter Try.func9, Try.ntmps9
  go_wp2
  go_loopw [3, 4] (fun u i' wr => ∃ (i : Nat) (x : Ext w) (svs : Nat → Value), i ≤ l.length ∧ i' = .int .i64 i ∧ wr = x.w ∧ x.w.ownsRow w.heap.size 45 7 u i (rowT l svs i) ∧ ∀ j, j < i → x.w.ownsRow w.heap.size 70 3 (svs j) (tskAt l j).secs.length (flatS (tskAt l j).secs)) (fun _ i' _ => l.length - (intOf i').toNat)
  case atStart => exact ⟨0, ⟨_, Bel.refl⟩, fun _ => .slice none 0 0, by omega, rfl, rfl, World.ownsRow_nil _ _ _ _, fun j hj => by omega⟩
  case round =>
    obtain ⟨i, x, svs, hi, rfl, rfl, hown, hsv⟩ := hrel
    by_cases hlt : i < l.length
    · obtain ⟨b, off, rfl, hb, hA⟩ := h.at_ (by omega)
      obtain ⟨sv, hT, hS⟩ := hA i hlt
      obtain ⟨A2, c2, rfl, hc2⟩ := hS.form
      obtain ⟨t0, t1, t2, t3, t4, t5, t6⟩ := hT
      have hs1 := hs i hlt
      have HOWN := Lib.hid hown
      have HSV := Lib.hid hsv
      have HA := Lib.hid hA
      clear hown hsv hA hs h
      obtain ⟨i0, hi0, hz0, hz1, hz2⟩ := info_parts Try.infoSec
      -- what is appended, and where it lies
      have hsrc : A2 = none ∧ (tskAt l i).secs = [] ∨ ∃ ad, A2 = some ad ∧ ∀ j u, (flatS (tskAt l i).secs)[j]? = some u → ad.block < w.heap.size ∧ w.cell? (ad.add j) = some u := by
        rcases Nat.eq_zero_or_pos (tskAt l i).secs.length with h0 | h0
        · have hnil : (tskAt l i).secs = [] := List.length_eq_zero_iff.1 h0
          rcases A2 with _ | ad
          · exact .inl ⟨rfl, hnil⟩
          · exact .inr ⟨ad, rfl, fun j u hu => by rw [hnil] at hu; simp [flatS] at hu⟩
        · obtain ⟨b2, off2, rfl, hb2, hc⟩ := hS.at_ h0
          refine .inr ⟨_, rfl, fun j u hu => ⟨hb2, ?_⟩⟩
          have hj : j < (tskAt l i).secs.length * 3 := by rw [← flatS_len]; exact (List.getElem?_eq_some_iff.1 hu).1
          obtain ⟨q, r, rfl, hr⟩ : ∃ q r, j = q * 3 + r ∧ r < 3 := ⟨j / 3, j % 3, by omega, by omega⟩
          have hq : q < (tskAt l i).secs.length := by omega
          rw [flatS_at _ q r hq hr] at hu
          obtain ⟨c0, c1, c2⟩ := hc q hq
          rw [show (⟨b2, off2, none⟩ : Addr).add (q * 3 + r) = ⟨b2, off2 + q * 3 + r, none⟩ by
            unfold Addr.add; split
            · have : q * 3 + r = 0 := by assumption
              rw [show off2 + q * 3 + r = off2 by omega]
            · simp; omega]
          rcases r with _ | _ | _ | r
          · simp [secCells] at hu; subst hu; exact c0
          · simp [secCells] at hu; subst hu; exact c1
          · simp [secCells] at hu; subst hu; exact c2
          · omega
      have HM : Hid (∀ (B : Addr) (W : World), (Builtin.append_ #[43, 43] 43 #[.slice (some B) 0 0, .slice none 0 c2]).run Try.prog W = .ok (.slice (some B) 0 0) W) := Lib.hid (fun B W => by
        simp [Builtin.append_, run_underlying Try.underlying43, sizeOf, typeInfo, hi0, Builtin.lenOf, Builtin.firstCells, storeCells])
      go_upto_region 6 with (fail)
      generalize hW : World.alloc x.w _ = W1 at *
      have q0 : W1.heap[x.w.heap.size]? = some (.cells #[.string (tskAt l i).name, .int .i64 (tskAt l i).per, .int .i64 (tskAt l i).off, .int .i64 (tskAt l i).dl, .int .i64 (tskAt l i).cost, .int .i64 (tskAt l i).prio, .slice A2 (tskAt l i).secs.length c2] 45 (0, 0)) := by rw [← hW]; exact heap_alloc_new _ _
      have qsz : W1.heap.size = x.w.heap.size + 1 := by rw [← hW]; simp
      have HB1 : Hid (Bel x.w W1) := Lib.hid (by rw [← hW]; exact Bel.refl.alloc _)
      have qlt : x.w.heap.size < W1.heap.size := by omega
      have HQ0 := Lib.hid q0
      have HQS := Lib.hid qsz
      have q6 : W1.cell? ⟨x.w.heap.size, 6, none⟩ = some (.slice A2 (tskAt l i).secs.length c2) := by simp [World.cell?, q0]
      have f6W : W1.frozen? ⟨x.w.heap.size, 6, none⟩ = false := by simp [World.frozen?, q0]
      clear hW t0 t1 t2 t3 t4 t5 t6 q0 qsz
      rcases hsrc with ⟨rfl, hnil⟩ | ⟨ad, rfl, hadc⟩
      · have hm : (tskAt l i).secs.length = 0 := by rw [hnil]; rfl
        rw [hm] at q6
        have hap := HM.out
        have HM0 := Lib.hid hm
        have HNIL := Lib.hid hnil
        clear hm hnil
        go_upto_region 7 with (fail)
        generalize hW2 : World.alloc (World.setCell W1 _ _) _ = W2
        have F1 : W2.heap[x.w.heap.size]? = some (.cells #[.string (tskAt l i).name, .int .i64 (tskAt l i).per, .int .i64 (tskAt l i).off, .int .i64 (tskAt l i).dl, .int .i64 (tskAt l i).cost, .int .i64 (tskAt l i).prio, Value.slice (some ⟨W1.heap.size, 0, none⟩) 0 0] 45 (0, 0)) := by
          rw [← hW2, Below.heap_alloc _ _ _ (by simp [World.setCell]; omega)]
          simp [World.setCell, Array.getElem?_modify, HQ0.out]
        have F3 : Bel x.w W2 := by
          rw [← hW2]
          exact (HB1.out.set (Nat.le_refl _) _).alloc _
        have F2 : W2.ownsRow w.heap.size 70 3 (Value.slice (some ⟨W1.heap.size, 0, none⟩) 0 0) (tskAt l i).secs.length (flatS (tskAt l i).secs) := by
          rw [HM0.out, HNIL.out, ← hW2]
          have := World.ownsRow_made (base := w.heap.size) (e := 70) (size := 3) (W1.setCell ⟨x.w.heap.size, 6, none⟩ (Value.slice (some ⟨W1.heap.size, 0, none⟩) 0 0)) #[] 0 (by simp [World.setCell]; have := x.bel.le; omega) (by unfold maxLen; omega) (by simp)
          rw [show (W1.setCell ⟨x.w.heap.size, 6, none⟩ (Value.slice (some ⟨W1.heap.size, 0, none⟩) 0 0)).heap.size = W1.heap.size by simp [World.setCell]] at this
          exact this
        have FO : (Value.slice (some ⟨W1.heap.size, 0, none⟩) 0 0).oneCell' = true := rfl
        generalize (Value.slice (some ⟨W1.heap.size, 0, none⟩) 0 0) = vs at *
        clear hW2 f6W q6 hap HM HB1 HQ0 HM0 HNIL
        have k0 : W2.cell? ⟨x.w.heap.size, 0, none⟩ = some (.string (tskAt l i).name) := by simp [World.cell?, F1]
        have k1 : W2.cell? ⟨x.w.heap.size, 1, none⟩ = some (.int .i64 (tskAt l i).per) := by simp [World.cell?, F1]
        have k2 : W2.cell? ⟨x.w.heap.size, 2, none⟩ = some (.int .i64 (tskAt l i).off) := by simp [World.cell?, F1]
        have k3 : W2.cell? ⟨x.w.heap.size, 3, none⟩ = some (.int .i64 (tskAt l i).dl) := by simp [World.cell?, F1]
        have k4 : W2.cell? ⟨x.w.heap.size, 4, none⟩ = some (.int .i64 (tskAt l i).cost) := by simp [World.cell?, F1]
        have k5 : W2.cell? ⟨x.w.heap.size, 5, none⟩ = some (.int .i64 (tskAt l i).prio) := by simp [World.cell?, F1]
        have k6 : W2.cell? ⟨x.w.heap.size, 6, none⟩ = some vs := by simp [World.cell?, F1]
        have hown2 := ownsRow_bel HOWN.out F3
        have hle2 := F3.le
        have hle1 := x.bel.le
        have HF1 := Lib.hid F1
        have HF2 := Lib.hid F2
        have HF3 := Lib.hid F3
        have HFO := Lib.hid FO
        obtain ⟨j0, hj0, hy0, hy1, hy2⟩ := info_parts Try.infoTsk
        clear F1 F2 F3 FO
        go_wp2_with (at_builtin; go_must (refine wpList_append_own _ rfl _ _ 22 rfl w.heap.size 45 j0 _ 7 80 Try.underlying22 hj0 hy0 hy1 hy2 rfl (by decide) _ _ _ rfl (hown2.alloc _) ⟨W2.heap.size, 0, none⟩ 1 1 (tskCells (tskAt l i) vs) rfl rfl ?d1 ?d2 ?d3 ?d4 ?d5 ?_))
        case d1 => exact cells_new _ (tskCells (tskAt l i) vs) _
        case d2 => intro u hu; simp [tskCells] at hu; rcases hu with h | h | h | h | h | h | h <;> subst h <;> first | rfl | exact HFO.out
        case d3 => unfold maxLen; omega
        case d4 => omega
        case d5 => simp; omega
        intro v' w3 hown3 hg3 _
        have hbel := bel_grown ((x.bel.trans HF3.out).alloc _) (hown2.alloc _) hg3
        have HSV3 : Hid (∀ j, j < i + 1 → w3.ownsRow w.heap.size 70 3 ((fun j => if j = i then vs else svs j) j) (tskAt l j).secs.length (flatS (tskAt l j).secs)) := Lib.hid (fun j hj => by
          have hk : ∀ (vv : Value) (n : Nat) (xs : List Value), W2.ownsRow w.heap.size 70 3 vv n xs → w3.ownsRow w.heap.size 70 3 vv n xs := fun vv n xs ho =>
            (ho.alloc _).kept hg3 (own_types_ne ho hown2 (by decide))
          by_cases hji : j = i
          · subst hji; simp; exact hk _ _ _ HF2.out
          · simp [hji]; exact hk _ _ _ (ownsRow_bel (HSV.out j (by omega)) HF3.out))
        have HO3 : Hid (w3.ownsRow w.heap.size 45 7 v' (i + 1) (rowT l (fun j => if j = i then vs else svs j) (i + 1))) := Lib.hid (by
          rw [rowT_succ, rowT_congr l (fun j => if j = i then vs else svs j) svs i (fun j hj => by simp [show j ≠ i by omega])]
          simp; exact hown3)
        obtain ⟨y, rfl⟩ := ext_of hbel
        clear hown3 hg3 hbel hown2
        go_wp2
        go_roundw
        case rel => exact ⟨i + 1, y, _, by omega, by go_num, rfl, HO3.out, HSV3.out⟩
        case measure => simp [intOf]; omega
      · have hle := x.bel.le
        have hadk := Lib.hid hadc
        clear hadc
        go_wp2_with (at_builtin; go_must (refine wpList_append_own _ rfl _ _ 43 rfl w.heap.size 70 i0 _ 3 24 Try.underlying43 hi0 hz0 hz1 hz2 rfl (by decide) _ 0 [] rfl (World.ownsRow_made W1 #[] 0 ?c0 (by unfold maxLen; omega) (by simp)) ad (tskAt l i).secs.length c2 (flatS (tskAt l i).secs) rfl ?c1 ?c2 ?c3 ?c4 ?c5 ?c6 ?_))
        case c0 => omega
        case c1 => exact flatS_len _
        case c2 => intro j u hj; have hadb := (hadk.out j u hj).1; rw [World.cell?_alloc_lt _ _ _ (by rw [show (ad.add j).block = ad.block from by unfold Addr.add; split <;> rfl]; omega), HB1.out.cells' _ (by rw [show (ad.add j).block = ad.block from by unfold Addr.add; split <;> rfl]; omega), x.bel.cells' _ (by rw [show (ad.add j).block = ad.block from by unfold Addr.add; split <;> rfl]; exact hadb)]; exact (hadk.out j u hj).2
        case c3 => intro u hu; simp [flatS, secCells] at hu; obtain ⟨s, _, h | h | h⟩ := hu <;> subst h <;> rfl
        case c4 => unfold maxLen; omega
        case c5 => omega
        case c6 => simp; omega
        intro v' w1 hown1 hg1 hne1
        have hform : ∃ g cap, v' = .slice (some ⟨g, 0, none⟩) (tskAt l i).secs.length cap := by
          rcases hown1.2 with ⟨h, _⟩ | ⟨g, cap, cur, h, _⟩
          · exact absurd h hne1
          · exact ⟨g, cap, h⟩
        obtain ⟨g, cap, rfl⟩ := hform
        have HV := Lib.hid hown1
        have hq : w1.heap[x.w.heap.size]? = some (.cells #[.string (tskAt l i).name, .int .i64 (tskAt l i).per, .int .i64 (tskAt l i).off, .int .i64 (tskAt l i).dl, .int .i64 (tskAt l i).cost, .int .i64 (tskAt l i).prio, .slice (some ad) (tskAt l i).secs.length c2] 45 (0, 0)) := by
          rw [hg1.block x.w.heap.size (by simp; omega) (by simp [Value.ownBlock]; have := HQS.out; omega), Below.heap_alloc _ _ _ qlt]; exact HQ0.out
        have hbx1 : Bel x.w w1 := Below.grown ((HB1.out.alloc (.cells #[] 70))) hg1 (HB1.out.alloc (.cells #[] 70)).size (fun k hk => by simp [Value.ownBlock] at hk; have := HQS.out; omega)
        have HQ := Lib.hid hq
        have HBX1 := Lib.hid hbx1
        have c6 : w1.cell? ⟨x.w.heap.size, 6, none⟩ = some (.slice (some ad) (tskAt l i).secs.length c2) := by simp [World.cell?, hq]
        have f6 : w1.frozen? ⟨x.w.heap.size, 6, none⟩ = false := by simp [World.frozen?, hq]
        have HG1 := Lib.hid hg1
        clear hown1 hg1 hne1 hq hbx1
        go_upto_region 7 with (fail)
        generalize hW2 : World.setCell w1 _ _ = W2
        have F1 : W2.heap[x.w.heap.size]? = some (.cells #[.string (tskAt l i).name, .int .i64 (tskAt l i).per, .int .i64 (tskAt l i).off, .int .i64 (tskAt l i).dl, .int .i64 (tskAt l i).cost, .int .i64 (tskAt l i).prio, Value.slice (some ⟨g, 0, none⟩) (tskAt l i).secs.length cap] 45 (0, 0)) := by
          rw [← hW2]
          simp [World.setCell, Array.getElem?_modify, HQ.out]
        have F3 : Bel x.w W2 := by
          rw [← hW2]
          exact HBX1.out.set (Nat.le_refl _) _
        have F2 : W2.ownsRow w.heap.size 70 3 (Value.slice (some ⟨g, 0, none⟩) (tskAt l i).secs.length cap) (tskAt l i).secs.length (flatS (tskAt l i).secs) := by
          rw [← hW2]
          refine HV.out.kept (row := some x.w.heap.size) ⟨rfl, rfl, rfl, by simp [World.setCell], fun k hk hne => Below.heap_setCell w1 ⟨x.w.heap.size, 6, none⟩ _ k (fun e => hne (by rw [e]))⟩ (.inr ?_)
          intro e
          simp [Value.ownBlock] at e
          subst e
          rcases HV.out.2 with ⟨h, _⟩ | ⟨g', cap', cur, h, _, hgg, _⟩
          · cases h
          · injection h with h
            injection h with h
            injection h with h
            subst h
            rw [HQ.out] at hgg
            simp at hgg
        have FO : (Value.slice (some ⟨g, 0, none⟩) (tskAt l i).secs.length cap).oneCell' = true := rfl
        generalize (Value.slice (some ⟨g, 0, none⟩) (tskAt l i).secs.length cap) = vs at *
        clear hW2 f6W q6 HM HB1 HQ0 HQ HBX1 HV HG1 hadk c6 f6
        have k0 : W2.cell? ⟨x.w.heap.size, 0, none⟩ = some (.string (tskAt l i).name) := by simp [World.cell?, F1]
        have k1 : W2.cell? ⟨x.w.heap.size, 1, none⟩ = some (.int .i64 (tskAt l i).per) := by simp [World.cell?, F1]
        have k2 : W2.cell? ⟨x.w.heap.size, 2, none⟩ = some (.int .i64 (tskAt l i).off) := by simp [World.cell?, F1]
        have k3 : W2.cell? ⟨x.w.heap.size, 3, none⟩ = some (.int .i64 (tskAt l i).dl) := by simp [World.cell?, F1]
        have k4 : W2.cell? ⟨x.w.heap.size, 4, none⟩ = some (.int .i64 (tskAt l i).cost) := by simp [World.cell?, F1]
        have k5 : W2.cell? ⟨x.w.heap.size, 5, none⟩ = some (.int .i64 (tskAt l i).prio) := by simp [World.cell?, F1]
        have k6 : W2.cell? ⟨x.w.heap.size, 6, none⟩ = some vs := by simp [World.cell?, F1]
        have hown2 := ownsRow_bel HOWN.out F3
        have hle2 := F3.le
        have hle1 := x.bel.le
        have HF1 := Lib.hid F1
        have HF2 := Lib.hid F2
        have HF3 := Lib.hid F3
        have HFO := Lib.hid FO
        obtain ⟨j0, hj0, hy0, hy1, hy2⟩ := info_parts Try.infoTsk
        clear F1 F2 F3 FO
        go_wp2_with (at_builtin; go_must (refine wpList_append_own _ rfl _ _ 22 rfl w.heap.size 45 j0 _ 7 80 Try.underlying22 hj0 hy0 hy1 hy2 rfl (by decide) _ _ _ rfl (hown2.alloc _) ⟨W2.heap.size, 0, none⟩ 1 1 (tskCells (tskAt l i) vs) rfl rfl ?d1 ?d2 ?d3 ?d4 ?d5 ?_))
        case d1 => exact cells_new _ (tskCells (tskAt l i) vs) _
        case d2 => intro u hu; simp [tskCells] at hu; rcases hu with h | h | h | h | h | h | h <;> subst h <;> first | rfl | exact HFO.out
        case d3 => unfold maxLen; omega
        case d4 => omega
        case d5 => simp; omega
        intro v' w3 hown3 hg3 _
        have hbel := bel_grown ((x.bel.trans HF3.out).alloc _) (hown2.alloc _) hg3
        have HSV3 : Hid (∀ j, j < i + 1 → w3.ownsRow w.heap.size 70 3 ((fun j => if j = i then vs else svs j) j) (tskAt l j).secs.length (flatS (tskAt l j).secs)) := Lib.hid (fun j hj => by
          have hk : ∀ (vv : Value) (n : Nat) (xs : List Value), W2.ownsRow w.heap.size 70 3 vv n xs → w3.ownsRow w.heap.size 70 3 vv n xs := fun vv n xs ho =>
            (ho.alloc _).kept hg3 (own_types_ne ho hown2 (by decide))
          by_cases hji : j = i
          · subst hji; simp; exact hk _ _ _ HF2.out
          · simp [hji]; exact hk _ _ _ (ownsRow_bel (HSV.out j (by omega)) HF3.out))
        have HO3 : Hid (w3.ownsRow w.heap.size 45 7 v' (i + 1) (rowT l (fun j => if j = i then vs else svs j) (i + 1))) := Lib.hid (by
          rw [rowT_succ, rowT_congr l (fun j => if j = i then vs else svs j) svs i (fun j hj => by simp [show j ≠ i by omega])]
          simp; exact hown3)
        obtain ⟨y, rfl⟩ := ext_of hbel
        clear hown3 hg3 hbel hown2
        go_wp2
        go_roundw
        case rel => exact ⟨i + 1, y, _, by omega, by go_num, rfl, HO3.out, HSV3.out⟩
        case measure => simp [intOf]; omega
    · have : i = l.length := by omega
      subst this
      have HOWN := Lib.hid hown
      have HSV := Lib.hid hsv
      clear hown hsv
      go_wp2
      go_ret
      exact ⟨_, rfl, ⟨svs, HOWN.out, HSV.out⟩, x.bel⟩
theorem copied_any (v : Value) (l : List Tsk) (w : World) (h : TsksAt w w.heap.size v l) (hl : l.length ≤ 1000000) (hs : ∀ i, i < l.length → (tskAt l i).secs.length ≤ 1000000) :
    Calls Try.prog 9 #[v] w fun e w' => ∃ v', e = .returned v' ∧ TsksAt w' w'.heap.size v' l ∧ Bel w w' :=
  (copied_own v l w h hl hs).mono fun _ _ ⟨v', a, b, c⟩ => ⟨v', a, b.tsks, c⟩
end Go.Proofs.Ythcdemmamggboaa
