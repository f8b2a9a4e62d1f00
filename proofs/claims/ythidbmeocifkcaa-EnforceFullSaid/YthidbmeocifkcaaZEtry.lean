/- enforce: the search's closure. -/
import Derived.Test.YthidbmeocifkcaaG20
import Derived.Test.YthidbmeocifkcaaZEstep
import Derived.Test.YthidbmeocifkcaaZTakes
namespace Go.Proofs.Ythidbmeocifkcaa
open Go.RowKit
/-- what does not change while times runs -/
structure TryEnv (ws : World) (p : PP) (bm : Nat) (A : Option Addr) (c : Nat) (E : Int) (w : List PS) : Prop where
  hv : PValid p p.clks.toNat
  hs : PSized p
  mach : MachAt ws bm p
  wst : StampsAt ws ws.heap.size (.slice A w.length c) w
  wok : ∀ s ∈ w, 0 ≤ s.at_ ∧ s.at_ ≤ 1000000 ∧ i64 s.ev
  wl : w.length ≤ 1000
  e0 : 0 ≤ E ∧ E ≤ 2000000
def srP (p : PP) (E : Int) : List PS → Pt → Int → Option (List Int) := searchM (stepP p) (goodM p) (mostM p) E
def TryPost (ws W : World) (p : PP) (bm bl bw bv be bo bt bq g : Nat) (A : Option Addr) (c : Nat) (E : Int) (w : List PS) (outs : List Int) (N : Nat) (ss : List PS) (j : Nat) (x : Pt) (last : Int) (e : Ending) (W' : World) : Prop :=
  ∃ outs' m' N', e = .returned (.bool (srP p E ss x last).isSome) ∧ TmAt ws W' bm bl bw bv be bo bt bq g A c E w (srP p E) outs' m' N' ∧ GrsOk W [g, bq] W' ∧ N' ≤ N + putsM (stepP p) (mostM p) E ss x last ∧ outs'.take j = outs.take j ∧ ∀ l, srP p E ss x last = some l → outs'.drop j = l
theorem firstT_hit {f : Int → Option (List Int)} {t : Int} {k : Nat} (hk : 0 < k) {l : List Int} (h : f t = some l) : firstT f t k = some l := by
  obtain ⟨k, rfl⟩ : ∃ q, k = q + 1 := ⟨k - 1, by omega⟩
  simp only [firstT, h]
theorem firstT_miss {f : Int → Option (List Int)} {t : Int} {k : Nat} (hk : 0 < k) (h : f t = none) : firstT f t k = firstT f (t + 1) (k - 1) := by
  obtain ⟨k, rfl⟩ : ∃ q, k = q + 1 := ⟨k - 1, by omega⟩
  simp only [firstT, h]; rfl
theorem putsT_cons {f : Int → Nat} {t : Int} {k : Nat} (hk : 0 < k) : putsT f t k = f t + putsT f (t + 1) (k - 1) := by
  obtain ⟨k, rfl⟩ : ∃ q, k = q + 1 := ⟨k - 1, by omega⟩
  rfl
theorem grs_trans {a b c : World} {rs : List Nat} (h : GrsOk a rs b) (h2 : GrsOk b rs c) : GrsOk a rs c :=
  ⟨h2.os.trans h.os, h2.tape.trans h.tape, h2.output.trans h.output, Nat.le_trans h.size h2.size, fun k hk hr => (h2.block k (Nat.lt_of_lt_of_le hk h.size) hr).trans (h.block k hk hr)⟩
theorem grs_bel {a b : World} {rs : List Nat} (h : Bel a b) : GrsOk a rs b := ⟨h.os, h.tape, h.output, h.size, fun k hk _ => h.block k hk⟩
theorem row_grs {a b : World} {rs : List Nat} {q : Nat} {e : TypeId} {xs : List Value} (h : RowAt a q e xs) (hg : GrsOk a rs b) (hq : q ∉ rs) : RowAt b q e xs := (hg.block q h.lt hq).trans h
theorem rst_of {p : PP} {n : Nat} (hv : PValid p n) : ∀ y ∈ p.edges, ∀ c ∈ y.rst, 1 ≤ c ∧ c ≤ 3 := fun y hy c hc => by
  have h := hv.ed y hy
  have h3 := hv.n3
  have hcn := hv.cn
  unfold edgeBad at h
  split at h
  · cases h
  · split at h
    · cases h
    · have := (anyP_iff _ _).mp h c hc
      unfold rstBad at this
      simp only [Bool.or_eq_false_iff, decide_eq_false_iff_not] at this
      omega
theorem tk_less {a b : List Int} {j : Nat} {t : Int} (h : a.take (j + 1) = (b.set j t).take (j + 1)) : a.take j = b.take j := by
  have h2 := congrArg (List.take j) h
  rw [List.take_take, List.take_take, Nat.min_eq_left (by omega)] at h2
  rw [h2]
  apply List.ext_getElem?
  intro i
  simp only [List.getElem?_take, List.getElem?_set]
  by_cases hi : i < j
  · rw [if_pos hi, if_pos hi, if_neg (by omega)]
  · rw [if_neg hi, if_neg hi]
theorem tk_at {a b : List Int} {j : Nat} {t : Int} (hb : j < b.length) (hl : a.length = b.length) (h : a.take (j + 1) = (b.set j t).take (j + 1)) : a.drop j = t :: a.drop (j + 1) := by
  have h2 : a[j]? = some t := by
    have := congrArg (fun l => l[j]?) h
    simp only [List.getElem?_take] at this
    rw [if_pos (by omega), if_pos (by omega)] at this
    rw [this]; simp [hb]
  have h3 : j < a.length := by omega
  rw [List.drop_eq_getElem_cons h3]
  rw [List.getElem?_eq_getElem h3] at h2
  injection h2 with h2
  rw [h2]
theorem sr_neg {p : PP} {E : Int} {ss : List PS} {x : Pt} {last : Int} (h : x.loc < 0) : srP p E ss x last = none := by
  unfold srP
  cases ss with
  | nil =>
    have : goodM p x = false := by unfold goodM; rw [decide_eq_false (by omega)]; rfl
    simp only [searchM, this]; rfl
  | cons s ss => simp only [searchM]; rw [if_pos h]
set_option maxRecDepth 100000 in
set_option maxHeartbeats 16000000 in
theorem try_any {ws : World} {p : PP} {bm bl bw bv be bo bt bq g : Nat} {A : Option Addr} {c : Nat} {E : Int} {w : List PS} (H : TryEnv ws p bm A c E w) :
    ∀ (ss : List PS) (j : Nat) (loc c0 c1 c2 last : Int) (W : World) (outs : List Int) (m : Lit → Bool) (N : Nat), w.drop j = ss → j ≤ w.length → TmAt ws W bm bl bw bv be bo bt bq g A c E w (srP p E) outs m N →
      LocOk p ⟨loc, [c0, c1, c2]⟩ → Cl3 (mostM p) [c0, c1, c2] → 0 ≤ last → last + 100 * ss.length ≤ 100000000 → N + putsM (stepP p) (mostM p) E ss ⟨loc, [c0, c1, c2]⟩ last + 1 < 9223372036854775807 →
      Calls Try.prog 45 #[.agg #[.int .i64 loc, .int .i64 c0, .int .i64 c1, .int .i64 c2, .int .i64 last, .int .i64 j], .pointer (some ⟨bl, 0, none⟩), .pointer (some ⟨bw, 0, none⟩), .pointer (some ⟨bv, 0, none⟩), .pointer (some ⟨be, 0, none⟩), .pointer (some ⟨bo, 0, none⟩), .pointer (some ⟨bt, 0, none⟩)] W
        (TryPost ws W p bm bl bw bv be bo bt bq g A c E w outs N ss j ⟨loc, [c0, c1, c2]⟩ last) := by
  intro ss
  induction ss with
  | nil =>
    intro j loc c0 c1 c2 last W outs m N hd hj hT hl hc h0 hbd hN
    have hjl : j = w.length := by
      have := congrArg List.length hd
      simp at this
      omega
    have HJ := Lib.hid hjl
    clear hjl
    have hlb : last ≤ 100000000 := by simp at hbd; omega
    clear hbd
    have hM := most_bd H.hv
    have hjw := H.wl
    have hgl := H.hs.g
    have hkv : ∀ v ∈ keyL ⟨loc, [c0, c1, c2]⟩ last j, i64 v := by
      intro v hv
      have hc0 := hc.2 c0 (by simp)
      have hc1 := hc.2 c1 (by simp)
      have hc2 := hc.2 c2 (by simp)
      have hl1 : -1 ≤ loc := hl.1
      have hl2 : loc < p.good.length := hl.2
      simp [keyL] at hv
      unfold i64
      rcases hv with rfl | rfl | rfl | rfl | rfl | rfl <;> omega
    have hkl : keyOf Try.prog 105 (.agg #[.int .i64 loc, .int .i64 c0, .int .i64 c1, .int .i64 c2, .int .i64 last, .int .i64 j]) = some (klit 105 (keyL ⟨loc, [c0, c1, c2]⟩ last j)) := ikey_ps.of (ns := keyL ⟨loc, [c0, c1, c2]⟩ last j) rfl hkv
    have hki := ikey_ps.isKey (ns := keyL ⟨loc, [c0, c1, c2]⟩ last j) rfl hkv
    have HLK := Lib.hid (fun (y : Ext W) => (hT.mp.bel y.bel).look ikey_ps.key Try.underlying102 Try.underlying4 (rfl : (zeroValue 4).run Try.prog y.w = .ok (.bool false) y.w) hkl hki)
    have HKL := Lib.hid hkl
    have HKI := Lib.hid hki
    have HKV := Lib.hid hkv
    generalize hkk : klit 105 (keyL ⟨loc, [c0, c1, c2]⟩ last j) = kk at *
    have HKK := Lib.hid hkk
    have HT := Lib.hid hT
    have HC := Lib.hid hc
    have HL := Lib.hid hl
    have HM := Lib.hid hM
    have HD := Lib.hid hd
    clear hkk hkl hki hkv hT hc hl hM hd
    have l0 := HT.out.lost.cell (i := 0) rfl
    have lz := HT.out.lost.lt
    have w0 := HT.out.wv.cell (i := 0) rfl
    have wz := HT.out.wv.lt
    go_enter Try.func45, Try.ntmps45
    go_upto_region 1 with (fail)
    generalize hW : World.alloc W _ = W1 at *
    have rb : RowAt W1 W.heap.size 105 [.int .i64 loc, .int .i64 c0, .int .i64 c1, .int .i64 c2, .int .i64 last, .int .i64 j] := by rw [← hW]; exact RowAt.new _ _ _
    obtain ⟨x1, rfl⟩ : ∃ y : Ext W, W1 = y.w := ext_of (by rw [← hW]; exact Bel.refl.alloc _)
    clear hW
    have HRB := Lib.hid rb
    have s0 := rb.cell (i := 0) rfl
    have s1 := rb.cell (i := 1) rfl
    have s2 := rb.cell (i := 2) rfl
    have s3 := rb.cell (i := 3) rfl
    have s4 := rb.cell (i := 4) rfl
    have s5 := rb.cell (i := 5) rfl
    have sz := rb.lt
    have hbs : W.heap.size ≤ W.heap.size := Nat.le_refl _
    generalize hbse : W.heap.size = bs at *
    clear rb
    by_cases hloc : loc < 0
    · have hld : decide (loc < 0) = true := decide_eq_true hloc
      have HPO : Hid (TryPost ws W p bm bl bw bv be bo bt bq g A c E w outs N [] j ⟨loc, [c0, c1, c2]⟩ last (.returned (.bool false)) x1.w) := Lib.hid (by
        refine ⟨outs, m, N, by rw [sr_neg hloc]; rfl, HT.out.bel' x1.bel, ?_, by omega, rfl, fun l hl => by rw [sr_neg hloc] at hl; cases hl⟩
        exact ⟨x1.bel.os, x1.bel.tape, x1.bel.output, x1.bel.size, fun k hk _ => x1.bel.block k hk⟩)
      clear HLK
      go_wp2
      go_ret
      exact HPO.out
    · have hld : decide (loc < 0) = false := decide_eq_false hloc
      have hlk := HLK.out x1
      clear HLK
      cases hmk : m kk
      · rw [hmk] at hlk
        have hje : ((j : Int) == (w.length : Int)) = true := by have := HJ.out; rw [this]; exact beq_self_eq_true _
        obtain ⟨gv, bq2, nq2, mm, hr2, hgb, _⟩ := (H.mach.bel (HT.out.bel.trans x1.bel)).ex
        have hgc : x1.w.heap.size = x1.w.heap.size := rfl
        have hll : loc < p.good.length := HL.out.2
        obtain ⟨lo, rfl⟩ : ∃ q : Nat, loc = (q : Int) := ⟨loc.toNat, by omega⟩
        have hlo : lo < p.good.length := by omega
        obtain ⟨Ag, cg, rfl, hcg⟩ := hgb.form
        obtain ⟨b, off, rfl, hb, hA⟩ := hgb.at_ (by omega)
        have ag := hA lo hlo
        rw [Nat.mul_one] at ag
        have m0 := hr2.cell (i := 0) rfl
        have mz := hr2.lt
        have v0 := (HT.out.bel' x1.bel).mv.cell (i := 0) rfl
        have vz := (HT.out.bel' x1.bel).mv.lt
        have HPO : Hid (∀ w5, Bel x1.w w5 → TryPost ws W p bm bl bw bv be bo bt bq g A c E w outs N [] j ⟨(lo : Int), [c0, c1, c2]⟩ last (.returned (.bool (p.good.getD lo false))) w5) := Lib.hid (by
          intro w5 hB5
          have hgd : goodM p ⟨(lo : Int), [c0, c1, c2]⟩ = p.good.getD lo false := by
            unfold goodM
            simp
          have hR : srP p E [] ⟨(lo : Int), [c0, c1, c2]⟩ last = if p.good.getD lo false then some [] else none := by
            unfold srP; simp only [searchM]; rw [hgd]
          refine ⟨outs, m, N, by rw [hR]; cases p.good.getD lo false <;> rfl, HT.out.bel' (x1.bel.trans hB5), grs_bel (x1.bel.trans hB5), by omega, rfl, fun l hl => ?_⟩
          rw [hR] at hl
          split at hl
          · injection hl with hl
            subst hl
            exact List.drop_eq_nil_of_le (by rw [HT.out.ol]; exact Nat.le_of_eq HJ.out.symm)
          · cases hl)
        have hgi : (lo : Int) < (p.good.length : Int) := hll
        generalize p.good.getD lo false = gb at *
        clear hr2 hgb hA
        go_upto_region 4 with (fail)
        (refine wp_region_ext (wb := x1.w) (by (repeat (first | exact Ext.bel _ | exact Bel.refl | refine Bel.alloc ?_ _ | refine Bel.drew ?_ | refine Bel.drewN ?_ _))) (by kernel_rfl) (by kernel_rfl) ?_; (repeat (any_goals (first | go_big_quiet_step (fail) | quiet_step (fail) | (refine wpQuiet_step (fun K hK => ?_); go_simp; split <;> (refine hK _ ?_; clear hK K))))); all_goals (refine wpQuiet_nil ?_; intro _ hw'; obtain ⟨y, hw''⟩ := hw'; subst hw''))
        go_wp2
        go_ret
        exact HPO.out _ y.bel
      · rw [hmk] at hlk
        have HPO : Hid (TryPost ws W p bm bl bw bv be bo bt bq g A c E w outs N [] j ⟨loc, [c0, c1, c2]⟩ last (.returned (.bool false)) x1.w) := Lib.hid (by
          have hn : srP p E [] ⟨loc, [c0, c1, c2]⟩ last = none := by
            have := HT.out.ok ⟨loc, [c0, c1, c2]⟩ last j rfl HKV.out (by rw [HKK.out]; exact hmk)
            rw [HD.out] at this
            exact this
          refine ⟨outs, m, N, by rw [hn]; rfl, HT.out.bel' x1.bel, ?_, by omega, rfl, fun l hl => by rw [hn] at hl; cases hl⟩
          exact ⟨x1.bel.os, x1.bel.tape, x1.bel.output, x1.bel.size, fun k hk _ => x1.bel.block k hk⟩)
        clear hmk
        go_wp2
        go_ret
        exact HPO.out
  | cons s ss ih =>
    intro j loc c0 c1 c2 last W outs m N hd hj hT hl hc h0 hbd hN
    have hsl : ss.length + 1 + j = w.length := by
      have := congrArg List.length hd
      simp at this
      omega
    have hbL : last + 100 * ((ss.length : Int) + 1) ≤ 100000000 := by simp at hbd; omega
    clear hbd
    have HIH := Lib.hid ih
    clear ih
    have hjl : j < w.length := by
      rcases Nat.lt_or_ge j w.length with h | h
      · exact h
      · rw [List.drop_eq_nil_of_le h] at hd; cases hd
    have hM := most_bd H.hv
    have hjw := H.wl
    have hgl := H.hs.g
    have hkv : ∀ v ∈ keyL ⟨loc, [c0, c1, c2]⟩ last j, i64 v := by
      intro v hv
      have hc0 := hc.2 c0 (by simp)
      have hc1 := hc.2 c1 (by simp)
      have hc2 := hc.2 c2 (by simp)
      have hl1 : -1 ≤ loc := hl.1
      have hl2 : loc < p.good.length := hl.2
      simp [keyL] at hv
      unfold i64
      rcases hv with rfl | rfl | rfl | rfl | rfl | rfl <;> omega
    have hkl : keyOf Try.prog 105 (.agg #[.int .i64 loc, .int .i64 c0, .int .i64 c1, .int .i64 c2, .int .i64 last, .int .i64 j]) = some (klit 105 (keyL ⟨loc, [c0, c1, c2]⟩ last j)) := ikey_ps.of (ns := keyL ⟨loc, [c0, c1, c2]⟩ last j) rfl hkv
    have hki := ikey_ps.isKey (ns := keyL ⟨loc, [c0, c1, c2]⟩ last j) rfl hkv
    have HLK := Lib.hid (fun (y : Ext W) => (hT.mp.bel y.bel).look ikey_ps.key Try.underlying102 Try.underlying4 (rfl : (zeroValue 4).run Try.prog y.w = .ok (.bool false) y.w) hkl hki)
    have HKL := Lib.hid hkl
    have HKI := Lib.hid hki
    have HKV := Lib.hid hkv
    generalize hkk : klit 105 (keyL ⟨loc, [c0, c1, c2]⟩ last j) = kk at *
    have HKK := Lib.hid hkk
    have HT := Lib.hid hT
    have HC := Lib.hid hc
    have HL := Lib.hid hl
    have HM := Lib.hid hM
    have HD := Lib.hid hd
    clear hkk hkl hki hkv hT hc hl hM hd
    have l0 := HT.out.lost.cell (i := 0) rfl
    have lz := HT.out.lost.lt
    have w0 := HT.out.wv.cell (i := 0) rfl
    have wz := HT.out.wv.lt
    go_enter Try.func45, Try.ntmps45
    go_upto_region 1 with (fail)
    generalize hW : World.alloc W _ = W1 at *
    have rb : RowAt W1 W.heap.size 105 [.int .i64 loc, .int .i64 c0, .int .i64 c1, .int .i64 c2, .int .i64 last, .int .i64 j] := by rw [← hW]; exact RowAt.new _ _ _
    obtain ⟨x1, rfl⟩ : ∃ y : Ext W, W1 = y.w := ext_of (by rw [← hW]; exact Bel.refl.alloc _)
    clear hW
    have HRB := Lib.hid rb
    have s0 := rb.cell (i := 0) rfl
    have s1 := rb.cell (i := 1) rfl
    have s2 := rb.cell (i := 2) rfl
    have s3 := rb.cell (i := 3) rfl
    have s4 := rb.cell (i := 4) rfl
    have s5 := rb.cell (i := 5) rfl
    have sz := rb.lt
    have hbs : W.heap.size ≤ W.heap.size := Nat.le_refl _
    generalize hbse : W.heap.size = bs at *
    clear rb
    by_cases hloc : loc < 0
    · have hld : decide (loc < 0) = true := decide_eq_true hloc
      have HPO : Hid (TryPost ws W p bm bl bw bv be bo bt bq g A c E w outs N (s :: ss) j ⟨loc, [c0, c1, c2]⟩ last (.returned (.bool false)) x1.w) := Lib.hid (by
        refine ⟨outs, m, N, by rw [sr_neg hloc]; rfl, HT.out.bel' x1.bel, ?_, by omega, rfl, fun l hl => by rw [sr_neg hloc] at hl; cases hl⟩
        exact ⟨x1.bel.os, x1.bel.tape, x1.bel.output, x1.bel.size, fun k hk _ => x1.bel.block k hk⟩)
      clear HLK
      go_wp2
      go_ret
      exact HPO.out
    · have hld : decide (loc < 0) = false := decide_eq_false hloc
      have hlk := HLK.out x1
      clear HLK
      cases hmk : m kk
      · rw [hmk] at hlk
        have hje : decide ((j : Int) = (w.length : Int)) = false := by simp; omega
        have hsj : psAt w j = s ∧ w.drop (j + 1) = ss := by
          have := HD.out
          rw [ps_drop hjl] at this
          injection this with h1 h2
          exact ⟨h1, h2⟩
        have hso := H.wok (psAt w j) (ps_mem hjl)
        obtain ⟨b, off, rfl, hb, hA⟩ := H.wst.at_ (by omega)
        obtain ⟨a0, a1⟩ := hA j hjl
        rw [hsj.1] at a0 a1 hso
        have HA0 := Lib.hid a0
        have HA1 := Lib.hid a1
        have HSS := Lib.hid hsj.2
        have a0 := ((HT.out.bel.trans x1.bel).cells _ _ hb).trans a0
        have az := Nat.lt_of_lt_of_le hb (HT.out.bel.trans x1.bel).le
        have hjL : (j : Int) < (w.length : Int) := by omega
        clear hsj hA a1
        go_upto_region 5 with (fail)
        (refine wp_region_ext (wb := x1.w) (by (repeat (first | exact Ext.bel _ | exact Bel.refl | refine Bel.alloc ?_ _ | refine Bel.drew ?_ | refine Bel.drewN ?_ _))) (by kernel_rfl) (by kernel_rfl) ?_; (repeat (any_goals (first | go_big_quiet_step (fail) | quiet_step (fail) | (refine wpQuiet_step (fun K hK => ?_); go_simp; split <;> (refine hK _ ?_; clear hK K))))); all_goals (refine wpQuiet_nil ?_; intro _ hw'; obtain ⟨y, hw''⟩ := hw'; subst hw''))
        clear a0 az s0 s1 s2 s3 s4 s5 sz l0 lz w0 wz hlk hld hje
        rw [show (if last < s.at_ then s.at_ else last) = mx last s.at_ from rfl]
        have hlst1 := mx_l last s.at_
        have hlst2 : mx last s.at_ ≤ last ∨ mx last s.at_ = s.at_ := (mx_or last s.at_).imp (fun h => by omega) id
        generalize hlst : mx last s.at_ = lst at *
        have HLST := Lib.hid hlst
        obtain ⟨k, hk⟩ : ∃ k, k = spanT (mostM p) E lst := ⟨_, rfl⟩
        have HK := Lib.hid hk
        obtain ⟨f, hf⟩ : ∃ f : Int → Option (List Int), f = fun t => (srP p E ss (stepP p ⟨loc, [c0, c1, c2]⟩ (t - last) s.ev) t).map (t :: ·) := ⟨_, rfl⟩
        obtain ⟨pf, hpf⟩ : ∃ pf : Int → Nat, pf = fun t => putsM (stepP p) (mostM p) E ss (stepP p ⟨loc, [c0, c1, c2]⟩ (t - last) s.ev) t := ⟨_, rfl⟩
        have HF := Lib.hid hf
        have HPF := Lib.hid hpf
        have HR1 : Hid (srP p E (s :: ss) ⟨loc, [c0, c1, c2]⟩ last = firstT f lst k) := Lib.hid (by
          unfold srP; simp only [searchM]; rw [if_neg (by assumption), hf, hk, hlst]; rfl)
        have HR2 : Hid (putsM (stepP p) (mostM p) E (s :: ss) ⟨loc, [c0, c1, c2]⟩ last = 1 + putsT pf lst k) := Lib.hid (by
          simp only [putsM]; rw [if_neg (by assumption), hpf, hk, hlst])
        rw [HR2.out] at hN
        have HTX := Lib.hid (HT.out.bel' (x1.bel.trans y.bel))
        have HRX := Lib.hid (HRB.out.bel y.bel)
        have HBX := Lib.hid (x1.bel.trans y.bel)
        have hng : bs ≠ g := by have := HT.out.row.lt; omega
        have hnq : bs ≠ bq := by have := HT.out.mp.lt; omega
        have hrs : bs ∉ [g, bq] := by simp; exact ⟨hng, hnq⟩
        clear hlst hk hf hpf
        generalize y.w = wb at *
        clear HT HRB x1 y hbs hbse
        go_wp2
        go_loopw [10] (fun st wr => ∃ (i : Nat) (z : World) (outs' : List Int) (m' : Lit → Bool) (N' : Nat), i ≤ k ∧ st = .int .i64 (lst + i) ∧ wr = z ∧ TmAt ws z bm bl bw bv be bo bt bq g (some ⟨b, off, none⟩) c E w (srP p E) outs' m' N' ∧ GrsOk wb [g, bq] z ∧ firstT f (lst + i) (k - i) = firstT f lst k ∧ N' + putsT pf (lst + i) (k - i) ≤ N + putsT pf lst k ∧ outs'.take j = outs.take j) (fun st _ => k - ((intOf st) - lst).toNat)
        case atStart => exact ⟨0, wb, outs, m, N, by omega, by simp, rfl, HTX.out, grs_refl _ _, by simp, by simp, rfl⟩
        case round =>
          obtain ⟨i, z, outs', m', N', hi, rfl, rfl, T1, G1, hf1, hp1, ht1⟩ := hrel
          obtain ⟨gv, bq2, nq2, mm, hr2, _⟩ := (H.mach.bel T1.bel).ex
          have e0 := T1.ev.cell (i := 0) rfl
          have ez := T1.ev.lt
          have v0 := T1.mv.cell (i := 0) rfl
          have vz := T1.mv.lt
          have q2 := hr2.cell (i := 2) rfl
          have qz := hr2.lt
          have hRX := row_grs HRX.out G1 hrs
          have s0 := hRX.cell (i := 0) rfl
          have s1 := hRX.cell (i := 1) rfl
          have s2 := hRX.cell (i := 2) rfl
          have s3 := hRX.cell (i := 3) rfl
          have s4 := hRX.cell (i := 4) rfl
          have s5 := hRX.cell (i := 5) rfl
          have sz := hRX.lt
          have hE := H.e0
          have hM0 := HM.out.1
          have hM1 := HM.out.2.1
          have hlu : lst ≤ 100000000 - 100 * ((ss.length : Int) + 1) := by rcases hlst2 with h | h <;> omega
          have hmxE : (if lst < E then E else lst) = mx lst E := rfl
          have hmx1 := mx_l lst E
          have hmx2 := mx_or lst E
          have hkk : (k : Int) = mx lst E + mostM p + 1 + 1 - lst := by rw [HK.out]; unfold spanT; omega
          have hw1 : IntKind.i64.wrap ((if lst < E then E else lst) + mostM p) = (if lst < E then E else lst) + mostM p := IntWalk.i64_in _ (by rw [hmxE]; rcases hmx2 with h | h <;> omega)
          have hw2 : IntKind.i64.wrap ((if lst < E then E else lst) + mostM p + 1) = (if lst < E then E else lst) + mostM p + 1 := IntWalk.i64_in _ (by rw [hmxE]; rcases hmx2 with h | h <;> omega)
          have HT1 := Lib.hid T1
          have HG1 := Lib.hid G1
          have HR3 := Lib.hid hRX
          by_cases hik : i < k
          · have hco : decide (lst + (i : Int) ≤ (if lst < E then E else lst) + mostM p + 1) = true := decide_eq_true (by rw [hmxE]; omega)
            have htb : lst + (i : Int) ≤ 100000000 - 100 * ((ss.length : Int) + 1) + 40 := by rcases hmx2 with h | h <;> omega
            have o0 := T1.ov.cell (i := 0) rfl
            have oz := T1.ov.lt
            have r0 := T1.row.cell (i := j) (v := .int .i64 (outs'.getD j 0)) (by have := T1.ol; simp [List.getD, show j < outs'.length by omega])
            have rf := T1.row.frozen j
            have rz := T1.row.lt
            clear T1 G1 hRX hr2 hmxE hmx1 hmx2 hkk hE
            go_wp2_with fail
            (refine wp_region_ext (wb := wr) (by (repeat (first | exact Ext.bel _ | exact Bel.refl | refine Bel.alloc ?_ _ | refine Bel.drew ?_ | refine Bel.drewN ?_ _))) (by kernel_rfl) (by kernel_rfl) ?_; (repeat (any_goals (first | go_big_quiet_step (fail) | quiet_step (fail) | (refine wpQuiet_step (fun K hK => ?_); go_simp; split <;> (refine hK _ ?_; clear hK K))))); all_goals (refine wpQuiet_nil ?_; intro _ hw'; obtain ⟨y, hw''⟩ := hw'; subst hw''))
            have HW3 : Hid (IntKind.i64.wrap (lst + (i : Int) - last) = lst + (i : Int) - last) := Lib.hid (IntWalk.i64_in _ (by omega))
            have HW4 : Hid (IntKind.i64.wrap ((j : Int) + 1) = (j : Int) + 1) := Lib.hid (IntWalk.i64_in _ (by omega))
            have HA3 : Hid (0 ≤ lst + (i : Int) - last ∧ lst + (i : Int) - last ≤ 1000000000) := Lib.hid (by omega)
            have HLB : Hid (0 ≤ lst + (i : Int) ∧ lst + (i : Int) + 100 * (ss.length : Int) ≤ 100000000) := Lib.hid (by omega)
            have HIL : Hid (i64 loc) := Lib.hid (by have h1 : -1 ≤ loc := HL.out.1; have h2 : loc < p.good.length := HL.out.2; unfold i64; omega)
            have HEV := Lib.hid hso.2.2
            have HW5 : Hid (IntKind.i64.wrap (lst + (i : Int) + 1) = lst + (i : Int) + 1) := Lib.hid (IntWalk.i64_in _ (by omega))
            have HTB := Lib.hid htb
            have HN := Lib.hid hN
            have HBL := Lib.hid hbL
            have HW := Lib.hid hw1
            have HF1 := Lib.hid hf1
            have HP1 := Lib.hid hp1
            have HTK := Lib.hid ht1
            clear hf1 hp1 ht1 hmk
            generalize (if lst < E then E else lst) = Q at *
            clear htb hN hbL hw1 hw2 hco hlu hlst1 hlst2 hM0 hM1 hso hsl e0 ez v0 vz q2 qz s0 s1 s2 s3 s4 HTX
            go_upto_region 10 with (fail)
            have T2 := Lib.hid ((HT1.out.bel' y.bel).set j (lst + (i : Int)))
            have G2 := Lib.hid (grs_set (grs_trans HG1.out (grs_bel y.bel)) g (by simp) j (.int .i64 (lst + (i : Int))))
            generalize hW2 : World.setCell y.w _ _ = w2 at *
            clear hW2 o0 oz r0 rf rz s5 sz y
            have hR2 := row_grs HRX.out G2.out hrs
            have s0 := hR2.cell (i := 0) rfl
            have s1 := hR2.cell (i := 1) rfl
            have s2 := hR2.cell (i := 2) rfl
            have s3 := hR2.cell (i := 3) rfl
            have s4 := hR2.cell (i := 4) rfl
            have s5 := hR2.cell (i := 5) rfl
            have sz := hR2.lt
            have t0 := T2.out.tv.cell (i := 0) rfl
            have tz := T2.out.tv.lt
            have v0 := T2.out.mv.cell (i := 0) rfl
            have vz := T2.out.mv.lt
            have w0 := T2.out.wv.cell (i := 0) rfl
            have wz := T2.out.wv.lt
            have a1 := (T2.out.bel.cells _ _ hb).trans HA1.out
            have az := Nat.lt_of_lt_of_le hb T2.out.bel.le
            have hw3 := HW3.out
            have hw4 := HW4.out
            have hjL : (j : Int) < (w.length : Int) := by omega
            have hnk := step3_ok (es := p.edges) (x := ⟨loc, [c0, c1, c2]⟩) (ev := s.ev) HM.out.1 HC.out HA3.out.1
            have hnl := step3_loc H.hv (mostM p) (x := ⟨loc, [c0, c1, c2]⟩) (lst + (i : Int) - last) s.ev
            have HST := Lib.hid (fun W' (hW' : Bel w2 W') => mstep_any p bm ⟨loc, [c0, c1, c2]⟩ (lst + (i : Int) - last) s.ev W' ((H.mach.bel T2.out.bel).bel hW') ⟨HM.out.1, HM.out.2.1⟩ (rst_of H.hv) H.hs.e (fun y hy => (H.hs.x y hy).2) HC.out HIL.out HEV.out HA3.out.1 HA3.out.2)
            have hfv : f (lst + (i : Int)) = (srP p E ss (step3 (mostM p) p.edges ⟨loc, [c0, c1, c2]⟩ (lst + (i : Int) - last) s.ev) (lst + (i : Int))).map ((lst + (i : Int)) :: ·) := by rw [HF.out]; rfl
            have hpv : pf (lst + (i : Int)) = putsM (stepP p) (mostM p) E ss (step3 (mostM p) p.edges ⟨loc, [c0, c1, c2]⟩ (lst + (i : Int) - last) s.ev) (lst + (i : Int)) := by rw [HPF.out]; rfl
            generalize step3 (mostM p) p.edges ⟨loc, [c0, c1, c2]⟩ (lst + (i : Int) - last) s.ev = nx at *
            obtain ⟨nl, ncl⟩ := nx
            obtain ⟨d0, d1, d2, rfl⟩ : ∃ d0 d1 d2, ncl = [d0, d1, d2] := by
              match ncl, hnk.1 with
              | [x, y, z], _ => exact ⟨x, y, z, rfl⟩
            have HSTP : Hid (∀ W', Bel w2 W' → Calls Try.prog 36 #[.pointer (some ⟨bm, 0, none⟩), .agg #[.int .i64 loc, .int .i64 c0, .int .i64 c1, .int .i64 c2], .int .i64 (lst + (i : Int) - last), .int .i64 s.ev] W' fun en w' => en = .returned (.agg #[.int .i64 nl, .int .i64 d0, .int .i64 d1, .int .i64 d2]) ∧ Bel W' w') := Lib.hid HST.out
            have HFV := Lib.hid hfv
            have HPV := Lib.hid hpv
            have HNK := Lib.hid hnk
            have HNL := Lib.hid hnl
            clear hfv hpv hnk hnl HST hR2
            (refine wp_region_qtail 20 (wb := w2) (by (repeat (first | exact Ext.bel _ | exact Bel.refl | refine Bel.alloc ?_ _ | refine Bel.drew ?_ | refine Bel.drewN ?_ _))) (by kernel_rfl) (by kernel_rfl) ?_; simp only [List.take_succ_cons, List.take_zero, List.drop_succ_cons, List.drop_zero]; (repeat (any_goals (first | go_big_quiet_step (first | (go_at_call 36; with_reducible exact ext_call (HSTP.out _ (Ext.bel _)))) | quiet_step (first | (go_at_call 36; with_reducible exact ext_call (HSTP.out _ (Ext.bel _)))) | (refine wpQuiet_step (fun K hK => ?_); go_simp; split <;> (refine hK _ ?_; clear hK K))))); all_goals (refine wpQuiet_nil ?_; intro _ hw'; obtain ⟨y, hw''⟩ := hw'; subst hw''))
            clear s0 s1 s2 s3 s4 s5 sz t0 tz v0 vz w0 wz a1 az hw3 hw4 hjL
            have hpc := putsT_cons (f := pf) (t := lst + (i : Int)) (k := k - i) (by omega)
            rw [HPV.out] at hpc
            have hnu : N' + putsM (stepP p) (mostM p) E ss ⟨nl, [d0, d1, d2]⟩ (lst + (i : Int)) + 1 < 9223372036854775807 := by
              have := HN.out
              have := HP1.out
              omega
            have HPC := Lib.hid hpc
            have HI := Lib.hid (HIH.out (j + 1) nl d0 d1 d2 (lst + (i : Int)) y.w (outs'.set j (lst + (i : Int))) m' N' HSS.out (by omega) (T2.out.bel' y.bel) HNL.out HNK.out HLB.out.1 HLB.out.2 hnu)
            have HG3 := Lib.hid (grs_trans G2.out (grs_bel y.bel))
            clear hpc hnu T2 G2 HSTP
            go_step
            go_simp
            refine HI.out.mono ?_
            rintro _ w3 ⟨outs3, m3, N3, rfl, T3, G3, hN3, htk3, hre3⟩
            have HT3 := Lib.hid T3
            have HG4 := Lib.hid (grs_trans HG3.out G3)
            have HN3 := Lib.hid hN3
            have HTK3 := Lib.hid htk3
            have HRE3 := Lib.hid hre3
            have HOL := Lib.hid HT1.out.ol
            clear T3 G3 hN3 htk3 hre3 HI HG3 y
            have hw5 := HW5.out
            cases hsr : srP p E ss ⟨nl, [d0, d1, d2]⟩ (lst + (i : Int)) with
            | none =>
              have HFN : Hid (f (lst + (i : Int)) = none) := Lib.hid (by rw [HFV.out, hsr]; rfl)
              simp only [Option.isSome_none]
              clear hsr
              go_wp2
              go_roundw
              case rel =>
                refine ⟨i + 1, w3, outs3, m3, N3, by omega, by go_num, rfl, HT3.out, HG4.out, ?_, ?_, (tk_less HTK3.out).trans HTK.out⟩
                · rw [← HF1.out, firstT_miss (by omega) HFN.out, show k - (i + 1) = k - i - 1 by omega, show lst + ((i + 1 : Nat) : Int) = lst + (i : Int) + 1 by omega]
                · have h1 := HPC.out
                  have h2 := HP1.out
                  have h3 := HN3.out
                  rw [show k - (i + 1) = k - i - 1 by omega, show lst + ((i + 1 : Nat) : Int) = lst + (i : Int) + 1 by omega]
                  omega
              case measure => simp [intOf]; omega
            | some l' =>
              have HPO : Hid (TryPost ws W p bm bl bw bv be bo bt bq g (some ⟨b, off, none⟩) c E w outs N (s :: ss) j ⟨loc, [c0, c1, c2]⟩ last (.returned (.bool true)) w3) := Lib.hid (by
                have hR : srP p E (s :: ss) ⟨loc, [c0, c1, c2]⟩ last = some ((lst + (i : Int)) :: l') := by
                  rw [HR1.out, ← HF1.out]
                  exact firstT_hit (by omega) (by rw [HFV.out, hsr]; rfl)
                refine ⟨outs3, m3, N3, by rw [hR]; rfl, HT3.out, grs_trans (grs_bel HBX.out) HG4.out, ?_, (tk_less HTK3.out).trans HTK.out, fun l hl => ?_⟩
                · have h1 := HPC.out
                  have h2 := HP1.out
                  have h3 := HN3.out
                  have h4 := HR2.out
                  omega
                · rw [hR] at hl
                  injection hl with hl
                  subst hl
                  rw [tk_at (by rw [HOL.out]; exact hjl) (by rw [HT3.out.ol, HOL.out]) HTK3.out, HRE3.out l' hsr])
              simp only [Option.isSome_some]
              clear hsr
              go_wp2
              go_ret
              exact HPO.out
          · obtain rfl : i = k := by omega
            have hco : decide (lst + (i : Int) ≤ (if lst < E then E else lst) + mostM p + 1) = false := decide_eq_false (by rw [hmxE]; omega)
            have HPO : Hid (∀ w5 w4 m4, Bel wr w5 → w5.grownBy w4 (some bq) → BSet w4 Try.prog 105 4 bq (N' + 1) m4 → (∀ x, x ≠ kk → m4 x = m' x) → TryPost ws W p bm bl bw bv be bo bt bq g (some ⟨b, off, none⟩) c E w outs N (s :: ss) j ⟨loc, [c0, c1, c2]⟩ last (.returned (.bool false)) w4) := Lib.hid (by
              intro w5 w4 m4 hB5 hg4 hm4 hmo
              have hR : srP p E (s :: ss) ⟨loc, [c0, c1, c2]⟩ last = none := by
                rw [HR1.out, ← hf1, Nat.sub_self]; rfl
              refine ⟨outs', m4, N' + 1, by rw [hR]; rfl, (HT1.out.bel' hB5).put hg4 hm4 (HT1.out.ok.put rfl HKV.out (by rw [HD.out]; exact hR) (fun q hq => hmo q (by rw [← HKK.out]; exact hq))), grs_trans (grs_bel HBX.out) (grs_trans HG1.out (grs_trans (grs_bel hB5) ⟨hg4.os, hg4.tape, hg4.output, hg4.size, fun q hq hr => hg4.block q hq (fun e => hr (by injection e with e; simp [e]))⟩)), ?_, ht1, fun l hl => by rw [hR] at hl; cases hl⟩
              have h4 := HR2.out
              rw [Nat.sub_self] at hp1
              have : putsT pf (lst + (i : Int)) 0 = 0 := rfl
              omega)
            have l0 := T1.lost.cell (i := 0) rfl
            have lz := T1.lost.lt
            have HNB : Hid (N' < Go.maxLen) := Lib.hid (by
              rw [Nat.sub_self] at hp1
              have : putsT pf (lst + (i : Int)) 0 = 0 := rfl
              unfold Go.maxLen
              omega)
            clear T1 G1 hRX hr2 hmxE hmx1 hmx2 hkk hE
            go_wp2_with fail
            (refine wp_region_ext (wb := wr) (by (repeat (first | exact Ext.bel _ | exact Bel.refl | refine Bel.alloc ?_ _ | refine Bel.drew ?_ | refine Bel.drewN ?_ _))) (by kernel_rfl) (by kernel_rfl) ?_; (repeat (any_goals (first | go_big_quiet_step (fail) | quiet_step (fail) | (refine wpQuiet_step (fun K hK => ?_); go_simp; split <;> (refine hK _ ?_; clear hK K))))); all_goals (refine wpQuiet_nil ?_; intro _ hw'; obtain ⟨y, hw''⟩ := hw'; subst hw''))
            all_goals
              generalize (if lst < E then E else lst) = Q at *
              clear hco hw1 hw2 hN hbL hf1 hp1 ht1 hmk hlu hlst1 hlst2 hM0 hM1 hso hsl e0 ez v0 vz q2 qz
              obtain ⟨w4, m4, hup, hm4, hg4, _, hmo4⟩ := (HT1.out.bel' y.bel).mp.put ikey_ps.key Try.underlying102 Try.underlying4 HNB.out HKL.out HKI.out
              have HPO2 := Lib.hid (HPO.out y.w w4 m4 y.bel hg4 hm4 hmo4)
              clear hm4 hg4 hmo4 HPO
              go_wp2
              go_ret
              exact HPO2.out
      · rw [hmk] at hlk
        have HPO : Hid (TryPost ws W p bm bl bw bv be bo bt bq g A c E w outs N (s :: ss) j ⟨loc, [c0, c1, c2]⟩ last (.returned (.bool false)) x1.w) := Lib.hid (by
          have hn : srP p E (s :: ss) ⟨loc, [c0, c1, c2]⟩ last = none := by
            have := HT.out.ok ⟨loc, [c0, c1, c2]⟩ last j rfl HKV.out (by rw [HKK.out]; exact hmk)
            rw [HD.out] at this
            exact this
          refine ⟨outs, m, N, by rw [hn]; rfl, HT.out.bel' x1.bel, ?_, by omega, rfl, fun l hl => by rw [hn] at hl; cases hl⟩
          exact ⟨x1.bel.os, x1.bel.tape, x1.bel.output, x1.bel.size, fun k hk _ => x1.bel.block k hk⟩)
        clear hmk
        go_wp2
        go_ret
        exact HPO.out
end Go.Proofs.Ythidbmeocifkcaa
