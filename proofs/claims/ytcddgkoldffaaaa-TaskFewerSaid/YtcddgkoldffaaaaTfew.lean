import Derived.Test.YtcddgkoldffaaaaTfewl
import Derived.Test.YtcddgkoldffaaaaTsets
import Derived.RegionTactic
import Derived.BigRegion
import Derived.Deep.Cut
import Derived.Deep.RegionLaw
namespace Go.Proofs.Ytcddgkoldffaaaa
open Go.RowKit
set_option maxHeartbeats 400000 in
theorem pick_any (i n : Int) (w : World) (hn : 1 ≤ n) (hn2 : n ≤ 1000000) (hi : i64 i) : Calls Try.prog 19 #[.int .i64 i, .int .i64 n] w fun e w' => (∃ k : Nat, (k : Int) < n ∧ e = .returned (.int .i64 k)) ∧ Bel w w' := by
  unfold i64 at hi
  have h1 : i.tmod n < n ∧ -n < i.tmod n := by
    have h2 := Int.natAbs_tmod i n
    have h3 := Nat.mod_lt i.natAbs (y := n.natAbs) (by omega)
    omega
  have h4 := Int.tmod_eq_emod_of_nonneg (a := i.tmod n + n) (b := n) (by omega)
  have h2 : 0 ≤ (i.tmod n + n) % n ∧ (i.tmod n + n) % n < n := ⟨Int.emod_nonneg _ (by omega), Int.emod_lt_of_pos _ (by omega)⟩
  have h5 : (i.tmod n + n) % n = i.tmod n % n := by simp
  have hz : (n == 0) = false := by simp; omega
  go_enter Try.func19, Try.ntmps19
  go_wp2
  go_ret
  refine ⟨⟨((i.tmod n + n) % n).toNat, by omega, ?_⟩, Bel.refl⟩
  exact ret_int (by omega)
/-- append to a row of the call's own, as one step of a region that draws -/
theorem step_append_own {P : Program} {w : World} {ops : Array Oper} {o : Oper} {a : Act} {K : Act → World → Prop} {Q : Exit → Act → World → Prop} {E : Prop} (hgd : o.guard = none) (s x : Operand) (t : TypeId)
    (ho : o.op = .call { callee := .builtin .append, args := #[s, x], argTypes := #[t, t] })
    (base : Nat) (e : TypeId) (i : TypeInfo) (z : Value) (size bytes : Nat) (ht : P.underlying t = some (.slice e)) (hi : P.info? e = some i) (hz : i.zero = some z)
    (hsize : i.size = size) (hby : i.bytes = bytes) (hzs : z.cells.size = size) (hsz : 0 < size)
    (v : Value) (n : Nat) (xs : List Value) (hs : a.eval s = v) (hown : w.ownsRow base e size v n xs)
    (ad : Addr) (m c : Nat) (news : List Value) (hx : a.eval x = .slice (some ad) m c) (hl : news.length = m * size) (hnews : ∀ j u, news[j]? = some u → w.cell? (ad.add j) = some u) (h1 : ∀ u ∈ news, u.oneCell' = true)
    (h63 : n + m ≤ maxLen) (hbytes : (n + m) * bytes ≤ 140737488355328) (hbase : base ≤ w.heap.size)
    (h : ∀ v' w', w'.ownsRow base e size v' (n + m) (xs ++ news) → w.grownBy w' v.ownBlock → K (a.put o.dst v') w') :
    if Region.wanted o (yielded ops a.tmps) = true then Oper.wp P o a w K Q else E := by
  have hw : Region.wanted o (yielded ops a.tmps) = true := by simp [Region.wanted, hgd]
  rw [if_pos hw]
  exact wp_append_own w s x t ho base e i z size bytes ht hi hz hsize hby hzs hsz v n xs hs hown ad m c news hx hl hnews h1 h63 hbytes hbase fun v' w' h2 h3 _ => h v' w' h2 h3
theorem add_off (b off j : Nat) : (⟨b, off, none⟩ : Addr).add j = ⟨b, off + j, none⟩ := by
  unfold Addr.add; split
  · subst_vars; rfl
  · rfl
/-- the cells of tasks, read as a row -/
theorem row_src {w : World} {b off : Nat} {l : List Tsk} {svs : Nat → Value} {n : Nat} (h : ∀ q, q < n → TskCells w b (off + q * 7) (tskAt l q) (svs q)) : ∀ j u, (rowT l svs n)[j]? = some u → w.cell? ((⟨b, off, none⟩ : Addr).add j) = some u := by
  intro j u hj
  have hlt : j < n * 7 := by
    rcases Nat.lt_or_ge j (n * 7) with h1 | h1
    · exact h1
    · rw [List.getElem?_eq_none (by rw [rowT_len]; exact h1)] at hj; cases hj
  have hq : j / 7 < n := by omega
  have e := rowT_at l svs n (j / 7) (j % 7) hq (by omega)
  rw [show j / 7 * 7 + j % 7 = j by omega, hj] at e
  obtain ⟨c0, c1, c2, c3, c4, c5, c6⟩ := h (j / 7) hq
  rw [add_off]
  have hr : j % 7 = 0 ∨ j % 7 = 1 ∨ j % 7 = 2 ∨ j % 7 = 3 ∨ j % 7 = 4 ∨ j % 7 = 5 ∨ j % 7 = 6 := by omega
  rcases hr with r | r | r | r | r | r | r <;> rw [r] at e <;> simp [tskCells] at e <;> subst e
  · rw [show off + j = off + j / 7 * 7 by omega]; exact c0
  · rw [show off + j = off + j / 7 * 7 + 1 by omega]; exact c1
  · rw [show off + j = off + j / 7 * 7 + 2 by omega]; exact c2
  · rw [show off + j = off + j / 7 * 7 + 3 by omega]; exact c3
  · rw [show off + j = off + j / 7 * 7 + 4 by omega]; exact c4
  · rw [show off + j = off + j / 7 * 7 + 5 by omega]; exact c5
  · rw [show off + j = off + j / 7 * 7 + 6 by omega]; exact c6
theorem rowT_one {l : List Tsk} {svs : Nat → Value} (hv : ∀ q, (svs q).oneCell' = true) (n : Nat) : ∀ u ∈ rowT l svs n, u.oneCell' = true := by
  intro u hu
  unfold rowT at hu
  obtain ⟨q, _, hq⟩ := List.mem_flatMap.mp hu
  simp [tskCells] at hq
  rcases hq with rfl | rfl | rfl | rfl | rfl | rfl | rfl <;> first | rfl | exact hv q
/-- a row that the call has made of a task set's cells, one left out, is the task set without that task -/
theorem tsks_of_row {w : World} {base : Nat} {e : TypeId} {v : Value} {l : List Tsk} {i : Nat} {svs : Nat → Value} (hi : i < l.length) (h2 : 2 ≤ l.length)
    (ho : w.ownsRow base e 7 v (i + (l.length - (i + 1))) (rowT l svs i ++ rowT (l.drop (i + 1)) (fun q => svs (i + 1 + q)) (l.length - (i + 1))))
    (hs : ∀ q, q < l.length → SecsAt w w.heap.size (svs q) (tskAt l q).secs) : TsksAt w w.heap.size v (l.eraseIdx i) := by
  have hlen : (l.eraseIdx i).length = i + (l.length - (i + 1)) := by rw [List.length_eraseIdx, if_pos hi]; omega
  rcases ho.2 with ⟨_, h⟩ | ⟨g, cap, cur, rfl, hb, h3, h4, _⟩
  · omega
  · refine ⟨_, cap, by rw [hlen], by rw [hlen]; exact h4, fun _ => ⟨g, 0, rfl, Blk0.lt h3, fun n hn => ?_⟩⟩
    rw [hlen] at hn
    have hcell : ∀ k, k < 7 → w.cell? ⟨g, n * 7 + k, none⟩ = (tskCells (tskAt (l.eraseIdx i) n) (svs (if n < i then n else n + 1)))[k]? := by
      intro k hk
      have hx : (rowT l svs i ++ rowT (l.drop (i + 1)) (fun q => svs (i + 1 + q)) (l.length - (i + 1)))[n * 7 + k]? = (tskCells (tskAt (l.eraseIdx i) n) (svs (if n < i then n else n + 1)))[k]? := by
        rw [tskAt_erase]
        by_cases hni : n < i
        · simp only [if_pos hni]; rw [List.getElem?_append_left (by rw [rowT_len]; omega)]
          exact rowT_at l svs i n k hni hk
        · simp only [if_neg hni]; rw [List.getElem?_append_right (by rw [rowT_len]; omega), rowT_len, show n * 7 + k - i * 7 = (n - i) * 7 + k by omega, rowT_at _ _ _ _ _ (by omega) hk]
          have e1 : tskAt (l.drop (i + 1)) (n - i) = tskAt l (n + 1) := by
            simp only [tskAt, List.getD, List.getElem?_drop]
            rw [show i + 1 + (n - i) = n + 1 by omega]
          rw [e1, show i + 1 + (n - i) = n + 1 by omega]
      rw [← hx]
      have hlt : n * 7 + k < (rowT l svs i ++ rowT (l.drop (i + 1)) (fun q => svs (i + 1 + q)) (l.length - (i + 1))).length := by
        rw [List.length_append, rowT_len, rowT_len]; omega
      have hget := List.getElem?_eq_getElem hlt
      rw [hget]
      have := ho.cells (g := g) rfl (n * 7 + k) _ hget
      rw [add_ofs] at this
      exact this
    refine ⟨svs (if n < i then n else n + 1), ⟨?_, ?_, ?_, ?_, ?_, ?_, ?_⟩, ?_⟩
    · have := hcell 0 (by omega); simpa [tskCells] using this
    · have := hcell 1 (by omega); simpa [tskCells] using this
    · have := hcell 2 (by omega); simpa [tskCells] using this
    · have := hcell 3 (by omega); simpa [tskCells] using this
    · have := hcell 4 (by omega); simpa [tskCells] using this
    · have := hcell 5 (by omega); simpa [tskCells] using this
    · have := hcell 6 (by omega); simpa [tskCells] using this
    · rw [tskAt_erase]
      exact hs _ (by split <;> omega)
theorem tsks_svs {w : World} {B b off : Nat} {l : List Tsk} (h : ∀ i, i < l.length → ∃ sv, TskCells w b (off + i * 7) (tskAt l i) sv ∧ SecsAt w B sv (tskAt l i).secs) :
    ∃ svs : Nat → Value, (∀ q, (svs q).oneCell' = true) ∧ ∀ i, i < l.length → TskCells w b (off + i * 7) (tskAt l i) (svs i) ∧ SecsAt w B (svs i) (tskAt l i).secs := by
  refine ⟨fun i => if hi : i < l.length then Classical.choose (h i hi) else .bool false, fun q => ?_, fun i hi => ?_⟩
  · by_cases hq : q < l.length
    · simp only [dif_pos hq]
      obtain ⟨_, A, c, e, _⟩ := Classical.choose_spec (h q hq)
      rw [e]; rfl
    · simp only [dif_neg hq]; rfl
  · simp only [dif_pos hi]
    exact Classical.choose_spec (h i hi)
theorem sized_erase {l : List Tsk} (h : Sized l) (i : Nat) : Sized (l.eraseIdx i) := by
  have hl : (l.eraseIdx i).length ≤ l.length := List.length_eraseIdx_le ..
  have hm : ∀ n, n < (l.eraseIdx i).length → (if n < i then n else n + 1) < l.length := by
    intro n hn
    rw [List.length_eraseIdx] at hn
    split at hn <;> split <;> omega
  refine ⟨by have := h.len; omega, fun n hn => ?_, fun n hn => ?_⟩
  · rw [tskAt_erase]; exact h.parts _ (hm n hn)
  · rw [tskAt_erase]; exact h.wf _ (hm n hn)
set_option maxRecDepth 100000 in
set_option maxHeartbeats 8000000 in
theorem taskFewer_any (HCP : CheckP) (v : Value) (l : List Tsk) (i : Int) (w : World) (h : TsksAt w w.heap.size v l) (hl : l.length ≤ 9223372036854775807)
    (hs : ∀ i, i < l.length → (tskAt l i).secs.length ≤ 9223372036854775807 ∧ (tskAt l i).name.size ≤ 9223372036854775807) (hwf : ∀ i, i < l.length → (tskAt l i).wf) (hi : i64 i) :
    Calls Try.prog 4 #[v, .int .i64 i] w fun e w' => e = .returned (.bool true) ∧ Bel w w' := by
  have HC := Lib.hid HCP
  have HSH := Lib.hid (shown_any HCP)
  have HT := Lib.hid h
  have HS := Lib.hid hs
  have HW := Lib.hid hwf
  have HI := Lib.hid hi
  clear HCP h hs hwf hi
  go_enter Try.func4, Try.ntmps4
  go_wp2_with fail
  refine (HSH.out _).mono ?_
  rintro e w1 ⟨rfl, hB⟩
  have HB1 := Lib.hid hB
  have HT1 := Lib.hid (HT.out.keep hB.keeps hB.le)
  clear hB HSH
  go_wp2_with fail
  refine (beyond_any _ l w1 HT1.out HS.out hl).mono ?_
  rintro e w2 ⟨rfl, hw⟩
  obtain rfl : w1 = w2 := hw.symm
  cases hbe : beyond l
  case true =>
    go_wp2
    go_ret
    exact ⟨rfl, HB1.out⟩
  have HZ := Lib.hid (sized_of hbe HW.out)
  clear hbe HT HS HW
  go_wp2_with fail
  refine (HC.out _ l w1 HT1.out HZ.out).mono ?_
  rintro e w2 ⟨rfl, hB⟩
  have HB2 := Lib.hid (HB1.out.trans hB)
  have HT2 := Lib.hid (HT1.out.keep hB.keeps hB.le)
  clear hB HB1 HT1
  by_cases hck : rchk l = 0
  case neg =>
    have hz : (rchk l == 0) = false := by simpa using hck
    go_wp2
    go_ret
    exact ⟨rfl, HB2.out⟩
  have HBP := fun (w : World) hT => blocking_any HC.out v l w hT HZ.out
  unfold BlocksPost at HBP
  rw [hck, if_pos rfl] at HBP
  replace HBP := Lib.hid HBP
  have hz : (rchk l == 0) = true := by simpa using hck
  rw [hck]
  clear hz
  have HK := Lib.hid hck
  clear hck
  go_wp2_with fail
  refine (HBP.out w2 HT2.out).mono ?_
  rintro e w3 ⟨vb, rfl, hb, hB, _⟩
  have HB3 := Lib.hid (HB2.out.trans hB)
  have HT3 := Lib.hid (HT2.out.keep hB.keeps hB.le)
  have HVB3 := Lib.hid hb
  clear hB hb HB2 HT2 HBP
  have hlen : 1 ≤ l.length ∧ l.length ≤ 8 := by
    refine ⟨?_, (rchk_ok HK.out).1⟩
    rcases Nat.eq_zero_or_pos l.length with h0 | h0
    · have := HK.out
      have e : l = [] := List.eq_nil_of_length_eq_zero h0
      subst e
      simp [rchk, manySecs] at this
    · exact h0
  obtain ⟨A, c, rfl, hc, hA⟩ := HT3.out
  obtain ⟨A2, c2, rfl, hc2, hA2⟩ := HVB3.out
  rw [blocks_len] at hc2 hA2
  rw [blocks_len]
  obtain ⟨b, off, rfl, hb, hA⟩ := hA (by omega)
  obtain ⟨b2, off2, rfl, hb2, hA2⟩ := hA2 (by omega)
  replace hA := Lib.hid hA
  replace hA2 := Lib.hid hA2
  obtain ⟨hl1, hl8⟩ := hlen
  go_wp2
  go_loopw [7, 8] (fun sl sk wr => ∃ (k m : Nat) (z : Ext w3), k ≤ l.length ∧ m < l.length ∧ sl = .int .i64 m ∧ sk = .int .i64 k ∧ wr = z.w ∧ Hid (∀ j, j < k → (tskAt l m).prio ≤ (tskAt l j).prio)) (fun _ sk _ => l.length - (intOf sk).toNat)
  case atStart => exact ⟨0, 0, ⟨w3, Bel.refl⟩, by omega, by omega, rfl, rfl, rfl, Lib.hid fun j hj => by omega⟩
  case round =>
    obtain ⟨k, m, z, hk, hm, rfl, rfl, rfl, hd⟩ := hrel
    by_cases hlt : k < l.length
    · obtain ⟨sv, hT, _⟩ := hA.out k hlt
      obtain ⟨sv2, hT2, _⟩ := hA.out m hm
      have c5 := hT.c5
      have d5 := hT2.c5
      have e0 := hA2.out k hlt
      obtain ⟨f1, f2⟩ := blocks_bd HK.out hlt
      clear hT hT2
      generalize (blocks l).getD k 0 = B at e0 f1 f2
      go_upto_region 12 with (fail)
      by_cases hp : (tskAt l k).prio < (tskAt l m).prio
      · have hp2 : decide ((tskAt l k).prio < (tskAt l m).prio) = true := by simpa using hp
        (refine wp_region_ext (wb := w3) (by (repeat (first | exact Ext.bel _ | exact Bel.refl | refine Bel.alloc ?_ _ | refine Bel.drew ?_ | refine Bel.drewN ?_ _))) (by kernel_rfl) (by kernel_rfl) ?_; (repeat (any_goals (first | go_big_quiet_step (fail) | quiet_step (fail) | (refine wpQuiet_step (fun K hK => ?_); go_simp; split <;> (refine hK _ ?_; clear hK K))))); all_goals (refine wpQuiet_nil ?_; intro _ hw'; obtain ⟨y, hw''⟩ := hw'; subst hw''))
        go_wp2
        go_roundw
        case rel => exact ⟨k + 1, k, y, by omega, hlt, rfl, by go_num, rfl, Lib.hid fun j hj => by
          by_cases hjk : j = k
          · subst hjk; exact Int.le_refl _
          · have := hd.out j (by omega); omega⟩
        case measure => simp [intOf]; omega
      · have hp2 : decide ((tskAt l k).prio < (tskAt l m).prio) = false := by simpa using hp
        (refine wp_region_ext (wb := w3) (by (repeat (first | exact Ext.bel _ | exact Bel.refl | refine Bel.alloc ?_ _ | refine Bel.drew ?_ | refine Bel.drewN ?_ _))) (by kernel_rfl) (by kernel_rfl) ?_; (repeat (any_goals (first | go_big_quiet_step (fail) | quiet_step (fail) | (refine wpQuiet_step (fun K hK => ?_); go_simp; split <;> (refine hK _ ?_; clear hK K))))); all_goals (refine wpQuiet_nil ?_; intro _ hw'; obtain ⟨y, hw''⟩ := hw'; subst hw''))
        go_wp2
        go_roundw
        case rel => exact ⟨k + 1, m, y, by omega, hm, rfl, by go_num, rfl, Lib.hid fun j hj => by
          by_cases hjk : j = k
          · subst hjk; omega
          · exact hd.out j (by omega)⟩
        case measure => simp [intOf]; omega
    · obtain rfl : k = l.length := by omega
      have e0 := hA2.out m hm
      rw [blocks_low hm hd.out] at e0
      clear hd
      by_cases hl2 : l.length = 1
      · have hl2z : ((l.length : Int) == 1) = true := by simp; omega
        go_wp2
        go_ret
        exact ⟨rfl, HB3.out.trans z.bel⟩
      have hl2z : ((l.length : Int) == 1) = false := by simp; omega
      go_wp2_with fail
      refine (pick_any i l.length z.w (by omega) (by omega) HI.out).mono ?_
      rintro e w4 ⟨⟨q, hq, rfl⟩, hB⟩
      have hq : q < l.length := by omega
      have hB34 := z.bel.trans hB
      have HB4 := Lib.hid (HB3.out.trans hB34)
      have HT4 := Lib.hid (HT3.out.keep hB34.keeps hB34.le)
      have HV4 := Lib.hid (HVB3.out.keep hB34.keeps hB34.le)
      clear hB34 hB HI hA hA2 HT3 HVB3 e0
      obtain ⟨_, _, e, _, hA⟩ := HT4.out
      injection e with e1 _ e2
      subst e1 e2
      obtain ⟨_, _, e, hbl, hA⟩ := hA (by omega)
      injection e with e
      injection e with e1 e2
      subst e1 e2
      obtain ⟨svs, hsv1, hsv2⟩ := tsks_svs hA
      have S1 := Lib.hid (row_src (n := q) fun j hj => (hsv2 j (by omega)).1)
      have S2 := Lib.hid (row_src (w := w4) (b := b) (off := off + (q + 1) * 7) (l := l.drop (q + 1)) (svs := fun j => svs (q + 1 + j)) (n := l.length - (q + 1)) fun j hj => by
        have h1 := (hsv2 (q + 1 + j) (by omega)).1
        have e1 : tskAt (l.drop (q + 1)) j = tskAt l (q + 1 + j) := by simp [tskAt, List.getD, List.getElem?_drop]
        rw [e1, show off + (q + 1) * 7 + j * 7 = off + (q + 1 + j) * 7 by omega]
        exact h1)
      have O1 := Lib.hid (rowT_one (l := l) hsv1 q)
      have O2 := Lib.hid (rowT_one (l := l.drop (q + 1)) (svs := fun j => svs (q + 1 + j)) (fun j => hsv1 _) (l.length - (q + 1)))
      have SV := Lib.hid hsv2
      clear hsv1 hsv2 hA
      obtain ⟨j0, hj0, hji⟩ := Option.map_eq_some_iff.1 Try.infoTsk
      simp only [Prod.mk.injEq] at hji
      obtain ⟨hy0, hy1, hy2⟩ := hji
      replace hj0 := Lib.hid hj0
      have hqc : q ≤ c := by omega
      have hq1 : q + 1 ≤ l.length := by omega
      go_upto_region 21 with (fail)
      have HM := Lib.hid (ownsRow_bel (World.ownsRow_made (e := 41) (size := 7) w4 #[] 0 (Nat.le_refl _) (by unfold maxLen; omega) (by simp)) Bel.refl.drew)
      have HMB : Hid (Bel w4 (w4.alloc (.cells #[] 41)).drew) := Lib.hid (Bel.refl.alloc _).drew
      obtain ⟨ad2, hif, hsrc⟩ : ∃ ad2 : Addr, (if c = q + 1 then some (⟨b, off, none⟩ : Addr) else some ⟨b, off + (q + 1) * 7, none⟩) = some ad2 ∧ ∀ W, Bel w4 W → ∀ j u, (rowT (l.drop (q + 1)) (fun j => svs (q + 1 + j)) (l.length - (q + 1)))[j]? = some u → W.cell? (ad2.add j) = some u := by
        by_cases hcq : c = q + 1
        · refine ⟨_, if_pos hcq, fun W _ j u hj => ?_⟩
          rw [show l.length - (q + 1) = 0 by omega] at hj
          simp [rowT] at hj
        · refine ⟨_, if_neg hcq, fun W hW j u hj => ?_⟩
          have h := S2.out j u hj
          rw [add_off] at h ⊢
          exact (hW.cells b _ hbl).trans h
      replace hsrc := Lib.hid hsrc
      have hwr : IntKind.i64.wrap ((q : Int) + 1) = (q : Int) + 1 := IntWalk.i64_in _ (by omega)
      have hq1i : (q : Int) + 1 ≤ (l.length : Int) := by omega
      have hq0i : (0 : Int) ≤ (q : Int) + 1 := by omega
      have htn : ((q : Int) + 1).toNat = q + 1 := by omega
      go_region_law (first
        | (refine step_append_own rfl (.tmp 83) (.tmp 86) 22 rfl w4.heap.size 41 j0 _ 7 80 Try.underlying22 hj0.out hy0 hy1 hy2 rfl (by decide) _ 0 [] (by simp [Act.eval, Act.put]) HM.out ⟨b, off, none⟩ q c (rowT l svs q) (by simp [Act.eval, Act.put]) (rowT_len _ _ _) (fun j u hj => by rw [add_off]; have h := S1.out j u hj; rw [add_off] at h; exact (HMB.out.cells b _ hbl).trans h) O1.out (by unfold maxLen; omega) (by omega) HMB.out.le ?_; intro v1 u1 ho1 hg1; have HO1 := Lib.hid ho1; have HG1 := Lib.hid (bel_grown HMB.out HM.out hg1); clear ho1 hg1)
        | (refine step_append_own rfl (.tmp 87) (.tmp 91) 22 rfl w4.heap.size 41 j0 _ 7 80 Try.underlying22 hj0.out hy0 hy1 hy2 rfl (by decide) _ _ _ (by simp [Act.eval, Act.put]) HO1.out ad2 (l.length - (q + 1)) (c - (q + 1)) (rowT (l.drop (q + 1)) (fun j => svs (q + 1 + j)) (l.length - (q + 1))) (by simp [Act.eval, Act.put]) (rowT_len _ _ _) (hsrc.out _ HG1.out) O2.out (by unfold maxLen; omega) (by omega) HG1.out.le ?_; intro v2 u2 ho2 hg2; have HO2 := Lib.hid ho2; have HG2 := Lib.hid (bel_grown HG1.out HO1.out hg2); clear ho2 hg2))
      have HL := Lib.hid (tsks_of_row (w := u2) (v := v2) (l := l) (svs := svs) hq (by omega) (by have h := HO2.out; simp only [Nat.zero_add, List.nil_append] at h; exact h) (fun j hj => ((SV.out j hj).2.keep HG2.out.keeps HG2.out.le)))
      have HB6 := Lib.hid (HB4.out.trans HG2.out)
      have HT6 := Lib.hid (HT4.out.keep HG2.out.keeps HG2.out.le)
      have HV6 := Lib.hid (HV4.out.keep HG2.out.keeps HG2.out.le)
      have HLE := Lib.hid (rchk_erase HK.out (by omega) q)
      have hlen : (l.eraseIdx q).length = l.length - 1 := by rw [List.length_eraseIdx, if_pos hq]
      have hl0 : 0 < (l.eraseIdx q).length := by rw [hlen]; omega
      have HLS := Lib.hid (fun n (hn : n < (l.eraseIdx q).length) => blocks_less hq hn)
      have HY := Lib.hid (hyp_less HK.out (by omega) q)
      have HZ2 := Lib.hid (sized_erase HZ.out q)
      have HBP := fun (w : World) hT => blocking_any HC.out v2 (l.eraseIdx q) w hT HZ2.out
      unfold BlocksPost at HBP
      rw [HLE.out, if_pos rfl] at HBP
      replace HBP := Lib.hid HBP
      clear HO1 HG1 HO2 HG2 hsrc S1 S2 O1 O2 SV HM HMB HB3 HB4 HT4 HV4 hif hwr htn hy0 hy1 hy2 hj0 HLE
      generalize l.eraseIdx q = less at *
      go_wp2_with fail
      refine (HBP.out u2 HL.out).mono ?_
      rintro e u3 ⟨vc, rfl, hvc, hB, _⟩
      have HB7 := Lib.hid (HB6.out.trans hB)
      have HT7 := Lib.hid (HT6.out.keep hB.keeps hB.le)
      have HV7 := Lib.hid (HV6.out.keep hB.keeps hB.le)
      have HL7 := Lib.hid (HL.out.keep hB.keeps hB.le)
      have HC7 := Lib.hid hvc
      clear hB hvc HB6 HT6 HV6 HL HBP
      go_wp2_with fail
      refine (hyper_any HC.out _ l u3 HT7.out HZ.out).mono ?_
      rintro e u4 ⟨rfl, hB⟩
      have HB8 := Lib.hid (HB7.out.trans hB)
      have HV8 := Lib.hid (HV7.out.keep hB.keeps hB.le)
      have HL8 := Lib.hid (HL7.out.keep hB.keeps hB.le)
      have HC8 := Lib.hid (HC7.out.keep hB.keeps hB.le)
      clear hB HB7 HT7 HV7 HL7 HC7
      go_wp2_with fail
      refine (hyper_any HC.out _ less u4 HL8.out HZ2.out).mono ?_
      rintro e u5 ⟨rfl, hB⟩
      have HB9 := Lib.hid (HB8.out.trans hB)
      have HV9 := Lib.hid (HV8.out.keep hB.keeps hB.le)
      have HC9 := Lib.hid (HC8.out.keep hB.keeps hB.le)
      obtain ⟨A, c0, e, _⟩ := HL8.out.form
      subst e
      clear hB HB8 HV8 HL8 HC8
      obtain ⟨A3, c3, rfl, hc3, hA3⟩ := HC9.out
      rw [blocks_len] at hc3 hA3
      rw [blocks_len]
      obtain ⟨b3, off3, rfl, hb3, hA3⟩ := hA3 hl0
      obtain ⟨A2', c2', e, hc2', hA2⟩ := HV9.out
      rw [blocks_len] at hA2
      injection e with e1 _ e2
      subst e1 e2
      obtain ⟨b2', off2', e, hb2', hA2⟩ := hA2 (by omega)
      injection e with e
      injection e with e1 e2
      subst e1 e2
      replace hA2 := Lib.hid hA2
      replace hA3 := Lib.hid hA3
      clear HV9 HC9
      have hcase : ((hyp l).2 == 0) = false ∨ ((hyp l).2 = 0 ∧ ∃ k, hyp less = (k, 0) ∧ 1 ≤ k ∧ (hyp l).1.tmod k = 0) := by
        by_cases h0 : (hyp l).2 = 0
        · obtain ⟨k, h1, h2, h3⟩ := HY.out h0
          exact .inr ⟨h0, k, h1, h2, Int.tmod_eq_zero_of_dvd h3⟩
        · exact .inl (by simpa using h0)
      clear HY
      generalize hyp l = hl0 at *
      generalize hyp less = hl1 at *
      obtain ⟨h0, g0⟩ := hl0
      obtain ⟨h1, g1⟩ := hl1
      simp only at hcase
      go_upto_region 25 with (fail)
      go_cut [134] from 18 (fun s wx => s = .bool false ∧ wx = u5)
      case first =>
        rcases hcase with hz | ⟨rfl, k, e, hk1, hk2⟩
        · go_wp2
          all_goals
            go_meet
            case rel => exact ⟨rfl, rfl⟩
        · simp only [Prod.mk.injEq] at e
          obtain ⟨rfl, rfl⟩ := e
          have hkz : (h1 == 0) = false := by simp; omega
          go_wp2
          all_goals
            go_meet
            case rel => exact ⟨by first | rfl | (simp [hk2]; done) | (simp [hk2]; omega), rfl⟩
      case rest =>
      obtain ⟨rfl, rfl⟩ := hcut
      clear hcase
      go_wp2
      go_loopw [16] (fun sn wr => ∃ (n : Nat) (z : Ext wc), n ≤ less.length ∧ sn = .int .i64 n ∧ wr = z.w) (fun sn _ => less.length - (intOf sn).toNat)
      case atStart => exact ⟨0, ⟨wc, Bel.refl⟩, by omega, rfl, rfl⟩
      case round =>
        obtain ⟨n, z, hn, rfl, rfl⟩ := hrel
        by_cases hlt : n < less.length
        · have e3 := hA3.out n hlt
          have hle := HLS.out n hlt
          by_cases hnq : n < q
          · rw [if_pos hnq] at hle
            have e2 := hA2.out n (by omega)
            generalize (blocks l).getD n 0 = B at *
            generalize (blocks less).getD n 0 = D at *
            have hd : decide (B < D) = false := by simp; omega
            go_upto_region 33 with (fail)
            (refine wp_region_ext (wb := wc) (by (repeat (first | exact Ext.bel _ | exact Bel.refl | refine Bel.alloc ?_ _ | refine Bel.drew ?_ | refine Bel.drewN ?_ _))) (by kernel_rfl) (by kernel_rfl) ?_; (repeat (any_goals (first | go_big_quiet_step (fail) | quiet_step (fail) | (refine wpQuiet_step (fun K hK => ?_); go_simp; split <;> (refine hK _ ?_; clear hK K))))); all_goals (refine wpQuiet_nil ?_; intro _ hw'; obtain ⟨y, hw''⟩ := hw'; subst hw''))
            go_wp2
            go_roundw
            case rel => exact ⟨n + 1, y, by omega, by go_num, rfl⟩
            case measure => simp [intOf]; omega
          · rw [if_neg hnq] at hle
            have e2 := hA2.out (n + 1) (by omega)
            generalize (blocks l).getD (n + 1) 0 = B at *
            generalize (blocks less).getD n 0 = D at *
            have hd : decide (B < D) = false := by simp; omega
            go_upto_region 33 with (fail)
            (refine wp_region_ext (wb := wc) (by (repeat (first | exact Ext.bel _ | exact Bel.refl | refine Bel.alloc ?_ _ | refine Bel.drew ?_ | refine Bel.drewN ?_ _))) (by kernel_rfl) (by kernel_rfl) ?_; (repeat (any_goals (first | go_big_quiet_step (fail) | quiet_step (fail) | (refine wpQuiet_step (fun K hK => ?_); go_simp; split <;> (refine hK _ ?_; clear hK K))))); all_goals (refine wpQuiet_nil ?_; intro _ hw'; obtain ⟨y, hw''⟩ := hw'; subst hw''))
            go_wp2
            go_roundw
            case rel => exact ⟨n + 1, y, by omega, by go_num, rfl⟩
            case measure => simp [intOf]; omega
        · obtain rfl : n = less.length := by omega
          go_wp2
          go_ret
          exact ⟨rfl, HB9.out.trans z.bel⟩
end Go.Proofs.Ytcddgkoldffaaaa
