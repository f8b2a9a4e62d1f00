import Derived.Test.YtalphoebmefgoaaG44
import Derived.Test.YtalphoebmefgoaaG39
/- poly, the reference: leave (plain), and three rows of lines of the call's own. -/
namespace Go.Proofs.Ytalphoebmefgoaa
open Go.RowKit
def cA (x : AL) (i : Nat) : Int := x.a.getD i 0
def gdA (i : Nat) (x y : AL) : Nat := Nat.gcd (cA y i).natAbs (cA x i).natAbs
/-- the line that two lines make when coordinate i is left out -/
def sumP (i : Nat) (x y : AL) : AL := sumA ((-(cA y i)).tdiv (gdA i x y)) x ((cA x i).tdiv (gdA i x y)) y i
def sumD (n i : Nat) (x : AL) : List AL → List AL → Option (List AL)
  | acc, [] => some acc
  | acc, y :: t => if (sumP i x y).fits ((n : Int) - 1) = true then sumD n i x (acc ++ [sumP i x y]) t else none
def sumU (n i : Nat) (D : List AL) : List AL → List AL → Option (List AL)
  | acc, [] => some acc
  | acc, x :: t => match sumD n i x acc D with
    | none => none
    | some a => sumU n i D a t
def sumM (n i : Nat) (D : List AL) (x : AL) (acc ds us : List AL) : Option (List AL) := match sumD n i x acc ds with
  | none => none
  | some a => sumU n i D a us
theorem sumM_cons (n i : Nat) (D : List AL) (x y : AL) (acc ds us : List AL) : sumM n i D x acc (y :: ds) us = if (sumP i x y).fits ((n : Int) - 1) = true then sumM n i D x (acc ++ [sumP i x y]) ds us else none := by
  unfold sumM
  rw [sumD]
  split
  · rename_i h; split at h
    · rw [h, if_pos (by assumption)]
    · rw [if_neg (by assumption)]
  · rename_i h; split at h
    · rw [h, if_pos (by assumption)]
    · cases h
theorem map_drop {L : List (Value × AL)} {k : Nat} (h : k < L.length) : (L.map Prod.snd).drop k = (L[k]).2 :: (L.map Prod.snd).drop (k + 1) := by
  rw [List.drop_eq_getElem_cons (by simpa using h), List.getElem_map]
theorem map_dropall (L : List (Value × AL)) : (L.map Prod.snd).drop L.length = [] := List.drop_eq_nil_of_le (by simp)
def outA (l : List AL) (i : Nat) : List AL := (l.filter fun x => decide (cA x i = 0)).map (shortA · i)
def upA (l : List AL) (i : Nat) : List AL := l.filter fun x => decide (0 < cA x i)
def dnA (l : List AL) (i : Nat) : List AL := l.filter fun x => decide (cA x i < 0)
def leaveR (n : Nat) : Option (List AL) → List AL × Int
  | none => ([], 7)
  | some a => (tidyA (n - 1) a, 0)
def leaveA (l : List AL) (n i : Nat) : List AL × Int :=
  if 1000 < (outA l i).length + (upA l i).length * (dnA l i).length then ([], 3)
  else leaveR n (sumU n i (dnA l i) (outA l i) (upA l i))
theorem take_al {l : List AL} {k : Nat} (h : k < l.length) : l.take (k + 1) = l.take k ++ [alAt l k] := by
  rw [List.take_succ_eq_append_getElem h, alAt_get h]
theorem outA_step {l : List AL} {k i : Nat} (h : k < l.length) : outA (l.take (k + 1)) i = if cA (alAt l k) i = 0 then outA (l.take k) i ++ [shortA (alAt l k) i] else outA (l.take k) i := by
  unfold outA
  rw [take_al h, List.filter_append, List.map_append]
  by_cases hc : cA (alAt l k) i = 0
  · rw [if_pos hc]; simp [hc]
  · rw [if_neg hc]; simp [hc]
theorem upA_step {l : List AL} {k i : Nat} (h : k < l.length) : upA (l.take (k + 1)) i = if 0 < cA (alAt l k) i then upA (l.take k) i ++ [alAt l k] else upA (l.take k) i := by
  unfold upA
  rw [take_al h, List.filter_append]
  by_cases hc : 0 < cA (alAt l k) i
  · rw [if_pos hc]; simp [hc]
  · rw [if_neg hc]; simp [hc]
theorem dnA_step {l : List AL} {k i : Nat} (h : k < l.length) : dnA (l.take (k + 1)) i = if cA (alAt l k) i < 0 then dnA (l.take k) i ++ [alAt l k] else dnA (l.take k) i := by
  unfold dnA
  rw [take_al h, List.filter_append]
  by_cases hc : cA (alAt l k) i < 0
  · rw [if_pos hc]; simp [hc]
  · rw [if_neg hc]; simp [hc]
/-- two slices of the call's own in blocks of their own -/
def NeB (v1 v2 : Value) : Prop := ∀ g, v1.ownBlock = some g → v2.ownBlock ≠ some g
theorem NeB.symm {v1 v2 : Value} (h : NeB v1 v2) : NeB v2 v1 := fun g h2 h1 => h g h1 h2
theorem NeB.kept {v1 v2 : Value} (h : NeB v1 v2) : v1.ownBlock = none ∨ v1.ownBlock ≠ v2.ownBlock := by
  cases e : v1.ownBlock with
  | none => exact .inl rfl
  | some g => exact .inr fun q => h g e q.symm
theorem AR.kept {W W' : World} {base : Nat} {v v2 : Value} {L L2 : List (Value × AL)} (h : AR W base v L) (h2 : AR W base v2 L2) (hne : NeB v v2) (hs : base ≤ W.heap.size) (hg : W.grownBy W' v2.ownBlock) : AR W' base v L :=
  ⟨h.own.kept hg hne.kept, fun p hp => (h.at_ p hp).gro h2.own (Nat.le_refl _) hs hg⟩
structure A3 (W : World) (base : Nat) (v1 v2 v3 : Value) (L1 L2 L3 : List (Value × AL)) : Prop where
  a : AR W base v1 L1
  b : AR W base v2 L2
  c : AR W base v3 L3
  ab : NeB v1 v2
  ac : NeB v1 v3
  bc : NeB v2 v3
theorem A3.nil {W : World} {base : Nat} : A3 W base (.slice none 0 0) (.slice none 0 0) (.slice none 0 0) [] [] [] :=
  ⟨AR.nil, AR.nil, AR.nil, fun g h => by simp [Value.ownBlock] at h, fun g h => by simp [Value.ownBlock] at h, fun g h => by simp [Value.ownBlock] at h⟩
theorem A3.bel {W W' : World} {base : Nat} {v1 v2 v3 : Value} {L1 L2 L3 : List (Value × AL)} (h : A3 W base v1 v2 v3 L1 L2 L3) (hb : Bel W W') (hs : base ≤ W.heap.size) : A3 W' base v1 v2 v3 L1 L2 L3 :=
  ⟨h.a.bel hb hs, h.b.bel hb hs, h.c.bel hb hs, h.ab, h.ac, h.bc⟩
theorem A3.s12 {W : World} {base : Nat} {v1 v2 v3 : Value} {L1 L2 L3 : List (Value × AL)} (h : A3 W base v1 v2 v3 L1 L2 L3) : A3 W base v2 v1 v3 L2 L1 L3 := ⟨h.b, h.a, h.c, h.ab.symm, h.bc, h.ac⟩
theorem A3.s13 {W : World} {base : Nat} {v1 v2 v3 : Value} {L1 L2 L3 : List (Value × AL)} (h : A3 W base v1 v2 v3 L1 L2 L3) : A3 W base v3 v2 v1 L3 L2 L1 := ⟨h.c, h.b, h.a, h.bc.symm, h.ac.symm, h.ab.symm⟩
/-- a line is appended to the first row -/
theorem a3_app {w0 W : World} {v1 v2 v3 : Value} {L1 L2 L3 : List (Value × AL)} {p : Value × AL} {q : Nat} {e2 : TypeId} (hb : Bel w0 W) (h : A3 W w0.heap.size v1 v2 v3 L1 L2 L3) (hl : L1.length ≤ 1000000) (r : RowAt W q e2 (arC p)) (hp : IntsK W w0.heap.size p.1 p.2.a) (h1 : p.1.oneCell' = true) :
    ∃ g c W', (∀ ty, (Builtin.append_ #[22, 22] ty #[v1, .slice (some ⟨q, 0, none⟩) 1 1]).run Try.prog W = .ok (.slice (some ⟨g, 0, none⟩) (L1.length + 1) c) W') ∧ A3 W' w0.heap.size (.slice (some ⟨g, 0, none⟩) (L1.length + 1) c) v2 v3 (L1 ++ [p]) L2 L3 ∧ Bel w0 W' := by
  obtain ⟨g, c, W', hr, ha, hb2, hg, hl⟩ := ar_lies hb h.a hl r hp h1
  refine ⟨g, c, W', hr, ⟨ha, h.b.kept h.a h.ab.symm hb.le hg, h.c.kept h.a h.ac.symm hb.le hg, ?_, ?_, h.bc⟩, hb2⟩
  · intro x hx hx2
    obtain rfl : g = x := by simpa [Value.ownBlock] using hx
    rcases hl with hl | hl
    · exact h.ab g hl hx2
    · have := (h.b.lt g hx2).2; omega
  · intro x hx hx2
    obtain rfl : g = x := by simpa [Value.ownBlock] using hx
    rcases hl with hl | hl
    · exact h.ac g hl hx2
    · have := (h.c.lt g hx2).2; omega
end Go.Proofs.Ytalphoebmefgoaa
/- poly, the reference: leave. -/
namespace Go.Proofs.Ytalphoebmefgoaa
open Go.RowKit
theorem outA_len (l : List AL) (i : Nat) : (outA l i).length ≤ l.length := by unfold outA; rw [List.length_map]; exact List.length_filter_le _ _
theorem upA_len (l : List AL) (i : Nat) : (upA l i).length ≤ l.length := List.length_filter_le _ _
theorem dnA_len (l : List AL) (i : Nat) : (dnA l i).length ≤ l.length := List.length_filter_le _ _
theorem short_inrA {x : AL} (h : x.inr) (i : Nat) : (shortA x i).inr := fun c hc => by
  rcases List.mem_append.1 hc with hc | hc
  · rcases List.mem_append.1 hc with hc | hc
    · exact h c (List.mem_append_left _ (List.mem_of_mem_take hc))
    · exact h c (List.mem_append_left _ (List.mem_of_mem_drop hc))
  · exact h c (List.mem_append_right _ hc)
theorem short_lenA {x : AL} {i n : Nat} (h : x.a.length = n) (hi : i < n) : (shortA x i).a.length = n - 1 := by simp [shortA]; omega
theorem ls_post {M : List AL × Int} {w W : World} {v : Value} {ls : List AL} {er : Int} (h : M = (ls, er)) (hl : LinesAt W W.heap.size v ls) (hb : Bel w W) : LsPost M w (.returned (.tuple #[v, .int .i64 er])) W := by subst h; exact ⟨v, rfl, hl, hb⟩
theorem fits_inrA {n : Int} {x : AL} (h : x.fits n = true) : x.inr := fun c hc => by
  unfold AL.fits at h
  simp only [Bool.and_eq_true, decide_eq_true_eq] at h
  obtain ⟨⟨⟨h1, h2⟩, h3⟩, h4⟩ := h
  rcases List.mem_append.1 hc with hc | hc
  · have := List.all_eq_true.1 h1 c hc
    simp only [Bool.and_eq_true, decide_eq_true_eq] at this
    omega
  · obtain rfl : c = x.b := by simpa using hc
    omega
theorem tdiv_inr {a : Int} {g : Nat} (h : a.natAbs ≤ 2147483647) : (a.tdiv (g : Int)).natAbs ≤ 2147483647 := tdiv_le h
theorem low_len (x : AL) : (lowA x).a.length = x.a.length := by unfold lowA; split <;> simp
theorem sumP_len {i : Nat} {x y : AL} : (sumP i x y).a.length ≤ x.a.length := by
  unfold sumP sumA
  rw [low_len]
  unfold shortA linA
  simp only [List.length_append, List.length_take, List.length_drop, linK_len]
  omega
set_option maxRecDepth 100000 in
set_option maxHeartbeats 16000000 in
theorem rleave_any (n i : Nat) (v : Value) (l : List AL) (w : World) (h : LinesAt w w.heap.size v l) (hl : l.length ≤ 2000) (hn : n ≤ 6) (hi : i < n) (hln : ∀ x, x ∈ l → x.a.length = n) (hir : ∀ x, x ∈ l → x.inr) :
    Calls Try.prog 42 #[v, .int .i64 n, .int .i64 i] w (LsPost (leaveA l n i) w) := by
  have H := Lib.hid h
  have HLN := Lib.hid hln
  have HIR := Lib.hid hir
  obtain ⟨A, c, rfl, hc⟩ := h.form
  clear h hln hir
  go_enter Try.func42, Try.ntmps42
  go_upto_block 0 with (fail)
  go_cut [8, 9, 10] from 18 to 64 (fun s8 s9 s10 wx => ∃ (y : Ext w) (O U D : List (Value × AL)), wx = y.w ∧ A3 y.w w.heap.size s8 s9 s10 O U D ∧ O.map Prod.snd = outA l i ∧ U.map Prod.snd = upA l i ∧ D.map Prod.snd = dnA l i)
  case first =>
    go_wp2
    go_loopw [8, 9, 10, 11] (fun s8 s9 s10 s11 wq => ∃ (k : Nat) (y : Ext w) (O U D : List (Value × AL)), k ≤ l.length ∧ s11 = .int .i64 k ∧ wq = y.w ∧ A3 y.w w.heap.size s8 s9 s10 O U D ∧ O.map Prod.snd = outA (l.take k) i ∧ U.map Prod.snd = upA (l.take k) i ∧ D.map Prod.snd = dnA (l.take k) i) (fun _ _ _ s11 _ => l.length - (intOf s11).toNat)
    case atStart => exact ⟨0, ⟨_, Bel.refl⟩, [], [], [], Nat.zero_le _, rfl, rfl, A3.nil, rfl, rfl, rfl⟩
    case round =>
      obtain ⟨k, y, O, U, D, hk, rfl, rfl, h3, hO, hU, hD⟩ := hrel
      have H3 := Lib.hid h3
      have HO := Lib.hid hO
      have HU := Lib.hid hU
      have HD := Lib.hid hD
      clear h3 hO hU hD
      by_cases hlt : k < l.length
      · have hd : decide ((k : Int) < (l.length : Int)) = true := by simp; omega
        have hkl : (k : Int) < (l.length : Int) := by omega
        have hw : IntKind.i64.wrap ((k : Int) + 1) = (k : Int) + 1 := IntWalk.i64_in _ (by omega)
        obtain ⟨b, off, rfl, hbb, hA⟩ := (H.out.keep y.bel.keeps y.bel.le).at_ (by omega)
        obtain ⟨rv0, ⟨c0, c1, c2⟩, hrv⟩ := hA k hlt
        have hxn := HLN.out _ (alAt_mem hlt)
        have HSO := Lib.hid (outA_step (i := i) hlt)
        have HSU := Lib.hid (upA_step (i := i) hlt)
        have HSD := Lib.hid (dnA_step (i := i) hlt)
        have HKO : Hid (O.length ≤ k ∧ U.length ≤ k ∧ D.length ≤ k) := Lib.hid (by
          have e1 := outA_len (l.take k) i
          have e2 := upA_len (l.take k) i
          have e3 := dnA_len (l.take k) i
          rw [← HO.out, List.length_map, List.length_take] at e1
          rw [← HU.out, List.length_map, List.length_take] at e2
          rw [← HD.out, List.length_map, List.length_take] at e3
          omega)
        rw [← HO.out] at HSO
        rw [← HU.out] at HSU
        rw [← HD.out] at HSD
        -- the coefficients as they lie below
        obtain ⟨b0, off0, eb0, hb0, hA0⟩ : ∃ b off, (some ⟨b, off, none⟩ : Option Addr) = some ⟨b, off, none⟩ ∧ b < w.heap.size ∧ ∃ rv, AlCells w b (off + k * 3) (alAt l k) rv ∧ IntsAt w w.heap.size rv (alAt l k).a := by
          obtain ⟨b, off, _, hb, hA⟩ := H.out.at_ (by omega)
          exact ⟨b, off, rfl, hb, hA k hlt⟩
        clear eb0 hb0
        have HKB : Hid (IntsK y.w w.heap.size rv0 (alAt l k).a) := Lib.hid (.inl (by
          obtain ⟨b1, off1, e1, hb1, hA1⟩ := H.out.at_ (by omega)
          injection e1 with e1
          injection e1 with e1 e2 _
          subst e1 e2
          obtain ⟨rv1, ⟨d0, _, _⟩, hi1⟩ := hA1 k hlt
          have := y.bel.cells _ (off + k * 3) hb1
          rw [c0, d0] at this
          injection this with this
          subst this
          exact hi1.keep y.bel.keeps (Nat.le_refl _)))
        clear hA0 b0 off0
        obtain ⟨A0, k0, rfl, _⟩ := hrv.form
        obtain ⟨b1, o1, rfl, hb1, hA1⟩ := hrv.at_ (by omega)
        have ci0 := hA1 i (by omega)
        have HRV := Lib.hid hrv
        have hin : (i : Int) < ((alAt l k).a.length : Int) := by omega
        clear hA1 hA hrv
        have hbw : b < y.w.heap.size := hbb
        have HXN := Lib.hid hxn
        have hcA : cA (alAt l k) i = (alAt l k).a.getD i 0 := rfl
        rw [hcA] at HSO HSU HSD
        clear hcA hxn
        generalize alAt l k = X at *
        obtain ⟨Xa, Xb, Xs⟩ := X
        dsimp only at *
        generalize Xa.getD i 0 = ci at *
        rcases Int.lt_trichotomy ci 0 with hci | hci | hci
        · have d1 : decide (ci > 0) = false := decide_eq_false (by omega)
          have d1' : decide (0 < ci) = false := decide_eq_false (by omega)
          have d2 : decide (ci < 0) = true := decide_eq_true hci
          obtain ⟨g, gc, W1, hap, h31, hb1'⟩ := a3_app (w0 := w) (W := y.w.alloc (.cells (arC (.slice (some ⟨b1, o1, none⟩) Xa.length k0, ⟨Xa, Xb, Xs⟩)).toArray 25)) (y.bel.alloc _) ((H3.out.s13).bel (Bel.refl.alloc _) y.bel.le) (by have := HKO.out; omega) (RowAt.new y.w 25 (arC (.slice (some ⟨b1, o1, none⟩) Xa.length k0, ⟨Xa, Xb, Xs⟩))) (HKB.out.bel (Bel.refl.alloc _) y.bel.le) rfl
          have H31 := Lib.hid h31.s13
          have HB1 := Lib.hid hb1'
          rw [if_neg (by omega)] at HSO HSU
          rw [if_pos hci] at HSD
          have HD2 : Hid ((D ++ [((.slice (some ⟨b1, o1, none⟩) Xa.length k0, ⟨Xa, Xb, Xs⟩) : Value × AL)]).map Prod.snd = dnA (l.take (k + 1)) i) := Lib.hid (by rw [HSD.out]; simp)
          unfold arC at hap
          clear h31 hb1' hci
          obtain ⟨A9, c9, rfl, _⟩ := H3.out.c.form
          go_wp2_with (at_builtin; go_must (refine wpList_append_run rfl _ _ 22 rfl _ _ _ rfl rfl (hap _) ?_))
          go_roundw
          case rel => exact ⟨k + 1, ⟨_, HB1.out⟩, O, U, _, by omega, by go_num, rfl, H31.out, HSO.out.symm, HSU.out.symm, HD2.out⟩
          case measure => simp [intOf]; omega
        · subst hci
          have d1 : decide ((0 : Int) > 0) = false := rfl
          have d1' : decide ((0 : Int) < 0) = false := rfl
          have HSH := Lib.hid (rshort_any ⟨Xa, Xb, Xs⟩ _ i y.w HRV.out (by have := HXN.out; dsimp only; omega) (by have := HXN.out; dsimp only; omega))
          unfold AlPost at HSH
          dsimp only at HSH
          rw [if_pos rfl] at HSO
          rw [if_neg (by omega)] at HSU HSD
          clear HKB
          generalize shortA ⟨Xa, Xb, Xs⟩ i = Z at *
          obtain ⟨Za, Zb, Zs⟩ := Z
          dsimp only at HSH
          obtain ⟨A9, c9, rfl, _⟩ := H3.out.a.form
          go_wp2_with fail
          refine HSH.out.mono ?_
          rintro e w2 ⟨rvz, rfl, hoz, hB2⟩
          obtain ⟨Az, kz, rfl, _⟩ := own_slice hoz
          have hbz := y.bel.trans hB2
          obtain ⟨g, gc, W1, hap, h31, hb1'⟩ := a3_app (w0 := w) (W := w2.alloc (.cells (arC (.slice Az Za.length kz, ⟨Za, Zb, Zs⟩)).toArray 25)) (hbz.alloc _) ((H3.out.bel hB2 y.bel.le).bel (Bel.refl.alloc _) hbz.le) (by have := HKO.out; omega) (RowAt.new w2 25 (arC (.slice Az Za.length kz, ⟨Za, Zb, Zs⟩))) (.inr (ownsRow_bel (own_base hoz y.bel.le) (Bel.refl.alloc _))) rfl
          have H31 := Lib.hid h31
          have HB1 := Lib.hid hb1'
          have HD2 : Hid ((O ++ [((.slice Az Za.length kz, ⟨Za, Zb, Zs⟩) : Value × AL)]).map Prod.snd = outA (l.take (k + 1)) i) := Lib.hid (by rw [HSO.out]; simp)
          unfold arC at hap
          clear h31 hb1' hoz hB2 hbz HSH
          go_wp2_with (at_builtin; go_must (refine wpList_append_run rfl _ _ 22 rfl _ _ _ rfl rfl (hap _) ?_))
          go_roundw
          case rel => exact ⟨k + 1, ⟨_, HB1.out⟩, _, U, D, by omega, by go_num, rfl, H31.out, HD2.out, HSU.out.symm, HSD.out.symm⟩
          case measure => simp [intOf]; omega
        · have d1 : decide (ci > 0) = true := decide_eq_true hci
          have d1' : decide (0 < ci) = true := decide_eq_true hci
          obtain ⟨g, gc, W1, hap, h31, hb1'⟩ := a3_app (w0 := w) (W := y.w.alloc (.cells (arC (.slice (some ⟨b1, o1, none⟩) Xa.length k0, ⟨Xa, Xb, Xs⟩)).toArray 25)) (y.bel.alloc _) ((H3.out.s12).bel (Bel.refl.alloc _) y.bel.le) (by have := HKO.out; omega) (RowAt.new y.w 25 (arC (.slice (some ⟨b1, o1, none⟩) Xa.length k0, ⟨Xa, Xb, Xs⟩))) (HKB.out.bel (Bel.refl.alloc _) y.bel.le) rfl
          have H31 := Lib.hid h31.s12
          have HB1 := Lib.hid hb1'
          rw [if_neg (by omega)] at HSO HSD
          rw [if_pos hci] at HSU
          have HD2 : Hid ((U ++ [((.slice (some ⟨b1, o1, none⟩) Xa.length k0, ⟨Xa, Xb, Xs⟩) : Value × AL)]).map Prod.snd = upA (l.take (k + 1)) i) := Lib.hid (by rw [HSU.out]; simp)
          unfold arC at hap
          clear h31 hb1' hci
          obtain ⟨A9, c9, rfl, _⟩ := H3.out.b.form
          go_wp2_with (at_builtin; go_must (refine wpList_append_run rfl _ _ 22 rfl _ _ _ rfl rfl (hap _) ?_))
          go_roundw
          case rel => exact ⟨k + 1, ⟨_, HB1.out⟩, O, _, D, by omega, by go_num, rfl, H31.out, HSO.out.symm, HD2.out, HSD.out.symm⟩
          case measure => simp [intOf]; omega
      · obtain rfl : k = l.length := by omega
        have hd : decide ((l.length : Int) < (l.length : Int)) = false := by simp
        rw [List.take_length] at HO HU HD
        go_wp2
        go_meet
        case rel => exact ⟨y, O, U, D, rfl, H3.out, HO.out, HU.out, HD.out⟩
  case rest =>
  obtain ⟨y, O, U, D, rfl, h3, hO, hU, hD⟩ := hcut
  have HOL := Lib.hid (outA_len l i)
  have HUL := Lib.hid (upA_len l i)
  have HDL := Lib.hid (dnA_len l i)
  have HM : Hid (leaveA l n i = if 1000 < (O.map Prod.snd).length + (U.map Prod.snd).length * (D.map Prod.snd).length then (([] : List AL), (3 : Int)) else leaveR n (sumU n i (D.map Prod.snd) (O.map Prod.snd) (U.map Prod.snd))) := Lib.hid (by rw [hO, hU, hD]; rfl)
  rw [← hO, List.length_map] at HOL
  rw [← hU, List.length_map] at HUL
  rw [← hD, List.length_map] at HDL
  rw [List.length_map, List.length_map, List.length_map] at HM
  have HOX : Hid (∀ p, p ∈ O → p.2.a.length = n - 1 ∧ p.2.inr) := Lib.hid (fun p hp => by
    have h1 : p.2 ∈ outA l i := by rw [← hO]; exact List.mem_map_of_mem hp
    obtain ⟨x, hx, e⟩ := List.mem_map.1 h1
    have hx2 := (List.mem_filter.1 hx).1
    rw [← e]
    exact ⟨short_lenA (HLN.out x hx2) hi, short_inrA (HIR.out x hx2) i⟩)
  have HUX : Hid (∀ p, p ∈ U → p.2.a.length = n ∧ p.2.inr ∧ 0 < cA p.2 i) := Lib.hid (fun p hp => by
    have h1 : p.2 ∈ upA l i := by rw [← hU]; exact List.mem_map_of_mem hp
    have hx2 := List.mem_filter.1 h1
    exact ⟨HLN.out _ hx2.1, HIR.out _ hx2.1, by simpa using hx2.2⟩)
  have HDX : Hid (∀ p, p ∈ D → p.2.a.length = n ∧ p.2.inr ∧ cA p.2 i < 0) := Lib.hid (fun p hp => by
    have h1 : p.2 ∈ dnA l i := by rw [← hD]; exact List.mem_map_of_mem hp
    have hx2 := List.mem_filter.1 h1
    exact ⟨HLN.out _ hx2.1, HIR.out _ hx2.1, by simpa using hx2.2⟩)
  have H3 := Lib.hid h3
  clear h3 hO hU hD
  obtain ⟨A8, c8, rfl, _⟩ := H3.out.a.form
  obtain ⟨A9, c9, rfl, _⟩ := H3.out.b.form
  obtain ⟨A10, c10, rfl, _⟩ := H3.out.c.form
  have hol : O.length ≤ 2000 := by have := HOL.out; omega
  have hul : U.length ≤ 2000 := by have := HUL.out; omega
  have hdl : D.length ≤ 2000 := by have := HDL.out; omega
  have hpr : U.length * D.length ≤ 4000000 := Nat.le_trans (Nat.mul_le_mul hul hdl) (by decide)
  have wm : IntKind.i64.wrap ((U.length : Int) * (D.length : Int)) = (U.length : Int) * (D.length : Int) := by rw [← Int.natCast_mul]; exact IntWalk.i64_in _ (by omega)
  have ws : IntKind.i64.wrap ((O.length : Int) + (U.length : Int) * (D.length : Int)) = ((O.length + U.length * D.length : Nat) : Int) := by rw [← Int.natCast_mul, ← Int.natCast_add]; exact IntWalk.i64_in _ (by omega)
  clear HOL HUL HDL hpr hol
  go_upto_region 10 with (fail)
  obtain ⟨T, hT⟩ : ∃ T, T = O.length + U.length * D.length := ⟨_, rfl⟩
  rw [← hT] at HM ws
  have HT := Lib.hid hT
  clear hT
  by_cases hbig : 1000 < T
  · have d1 : decide ((T : Int) > 1000) = true := decide_eq_true (by omega)
    have d1' : decide (1000 < (T : Int)) = true := decide_eq_true (by omega)
    have d1'' : decide (1000 < T) = true := decide_eq_true hbig
    have HM2 : Hid (leaveA l n i = ([], 3)) := Lib.hid (by rw [HM.out, if_pos hbig])
    go_wp2
    go_ret2
    exact ls_post HM2.out LinesAt.nil y.bel
  · have d1 : decide ((T : Int) > 1000) = false := decide_eq_false (by omega)
    have d1' : decide (1000 < (T : Int)) = false := decide_eq_false (by omega)
    have d1'' : decide (1000 < T) = false := decide_eq_false hbig
    have HM2 : Hid (leaveA l n i = leaveR n (sumU n i (D.map Prod.snd) (O.map Prod.snd) (U.map Prod.snd))) := Lib.hid (by rw [HM.out, if_neg hbig])
    have HT2 : Hid (O.length + (U.length - 0) * D.length ≤ 1000) := Lib.hid (by have := HT.out; rw [Nat.sub_zero]; omega)
    obtain ⟨R, hR⟩ : ∃ R, sumU n i (D.map Prod.snd) (O.map Prod.snd) ((U.map Prod.snd).drop 0) = R := ⟨_, rfl⟩
    rw [← List.drop_zero (l := U.map Prod.snd), hR] at HM2
    have HR := Lib.hid hR
    clear HM HT hR
    go_wp2
    go_loopw [8, 12] (fun s8 s12 wq => ∃ (k : Nat) (y : Ext w) (O : List (Value × AL)), k ≤ U.length ∧ s12 = .int .i64 k ∧ wq = y.w ∧ A3 y.w w.heap.size s8 (.slice A9 U.length c9) (.slice A10 D.length c10) O U D ∧ O.length + (U.length - k) * D.length ≤ 1000 ∧ (∀ p, p ∈ O → p.2.a.length = n - 1 ∧ p.2.inr) ∧ sumU n i (D.map Prod.snd) (O.map Prod.snd) ((U.map Prod.snd).drop k) = R) (fun _ s12 _ => U.length - (intOf s12).toNat)
    case atStart => exact ⟨0, y, O, Nat.zero_le _, rfl, rfl, H3.out, HT2.out, HOX.out, HR.out⟩
    case round =>
      clear H3 HT2 HOX HR
      obtain ⟨k, y, O, hk, rfl, rfl, h3, hT, hox, hr⟩ := hrel
      have H3 := Lib.hid h3
      have HT := Lib.hid hT
      have HOX := Lib.hid hox
      have HR := Lib.hid hr
      clear h3 hT hox hr
      by_cases hlt : k < U.length
      · have hd : decide ((k : Int) < (U.length : Int)) = true := by simp; omega
        have hkl : (k : Int) < (U.length : Int) := by omega
        have hw : IntKind.i64.wrap ((k : Int) + 1) = (k : Int) + 1 := IntWalk.i64_in _ (by omega)
        obtain ⟨q, hq⟩ : ∃ q, q = (U.length - (k + 1)) * D.length := ⟨_, rfl⟩
        have HT3 : Hid (O.length + (D.length - 0) + q ≤ 1000) := Lib.hid (by have := HT.out; rw [show U.length - k = (U.length - (k + 1)) + 1 by omega, Nat.add_mul, ← hq] at this; omega)
        have HUK := Lib.hid (HUX.out _ (List.getElem_mem hlt))
        have HR2 : Hid (sumM n i (D.map Prod.snd) (U[k]).2 (O.map Prod.snd) ((D.map Prod.snd).drop 0) ((U.map Prod.snd).drop (k + 1)) = R) := Lib.hid (by
          rw [← HR.out, map_drop hlt]; rfl)
        have HQ := Lib.hid hq
        clear hq HT HR
        generalize hUK : U[k] = pk at HUK HR2
        have HUE := Lib.hid hUK
        clear hUK
        obtain ⟨rvk, ⟨Ka, Kb, Ks⟩⟩ := pk
        dsimp only at HUK HR2
        go_wp2
        go_loopw [8, 13] (fun s8 s13 wq => ∃ (m : Nat) (y : Ext w) (O : List (Value × AL)), m ≤ D.length ∧ s13 = .int .i64 m ∧ wq = y.w ∧ A3 y.w w.heap.size s8 (.slice A9 U.length c9) (.slice A10 D.length c10) O U D ∧ O.length + (D.length - m) + q ≤ 1000 ∧ (∀ p, p ∈ O → p.2.a.length = n - 1 ∧ p.2.inr) ∧ sumM n i (D.map Prod.snd) ⟨Ka, Kb, Ks⟩ (O.map Prod.snd) ((D.map Prod.snd).drop m) ((U.map Prod.snd).drop (k + 1)) = R) (fun _ s13 _ => D.length - (intOf s13).toNat)
        case atStart => exact ⟨0, y, O, Nat.zero_le _, rfl, rfl, H3.out, HT3.out, HOX.out, HR2.out⟩
        case round =>
          clear H3 HT3 HOX HR2
          obtain ⟨m, y, O, hm, rfl, rfl, h3, hT, hox, hr⟩ := hrel
          have H3 := Lib.hid h3
          have HT := Lib.hid hT
          have HOX := Lib.hid hox
          have HR := Lib.hid hr
          clear h3 hT hox hr
          by_cases hmt : m < D.length
          · have hmd : decide ((m : Int) < (D.length : Int)) = true := by simp; omega
            have hml : (m : Int) < (D.length : Int) := by omega
            have hwm : IntKind.i64.wrap ((m : Int) + 1) = (m : Int) + 1 := IntWalk.i64_in _ (by omega)
            have HBY := Lib.hid y.bel
            generalize y.w = wy at *
            obtain ⟨gu, cu, eu, _, hgu, c0, c1, c2, _⟩ := H3.out.b.get hlt
            injection eu with eu1 eu2 eu3
            clear eu2
            subst eu1 eu3
            obtain ⟨gd, cd, ed, _, hgd, d0, d1, d2, _⟩ := H3.out.c.get hmt
            injection ed with ed1 ed2 ed3
            clear ed2
            subst ed1 ed3
            have hik := (H3.out.b.at_ _ (List.getElem_mem hlt)).ints HBY.out.le
            have hid := (H3.out.c.at_ _ (List.getElem_mem hmt)).ints HBY.out.le
            have HDM := Lib.hid (HDX.out _ (List.getElem_mem hmt))
            have hR := HR.out
            rw [map_drop hmt, sumM_cons] at hR
            rw [HUE.out] at c0 c1 c2 hik
            generalize D[m] = pm at d0 d1 d2 hid HDM hR
            obtain ⟨rvm, ⟨Ma, Mb, Ms⟩⟩ := pm
            dsimp only at c0 c1 c2 d0 d1 d2 hik hid HDM hR
            have HRS := Lib.hid hR
            obtain ⟨Ak, kk, rfl, _⟩ := hik.form
            obtain ⟨Am, km, rfl, _⟩ := hid.form
            obtain ⟨bk, ok, rfl, hbk, hAk⟩ := hik.at_ (by have := HUK.out.1; omega)
            obtain ⟨bm, om, rfl, hbm, hAm⟩ := hid.at_ (by have := HDM.out.1; omega)
            have ck := hAk i (by have := HUK.out.1; omega)
            have cm := hAm i (by have := HDM.out.1; omega)
            have hik2 : (i : Int) < (Ka.length : Int) := by have := HUK.out.1; omega
            have him2 : (i : Int) < (Ma.length : Int) := by have := HDM.out.1; omega
            have HIK := Lib.hid hik
            have HID := Lib.hid hid
            obtain ⟨xi, hxi⟩ : ∃ p : Nat, Ka.getD i 0 = (p : Int) := ⟨(Ka.getD i 0).toNat, by have := HUK.out.2.2; unfold cA at this; dsimp only at this; omega⟩
            obtain ⟨yi, hyi⟩ : ∃ p : Nat, -(Ma.getD i 0) = (p : Int) := ⟨(-(Ma.getD i 0)).toNat, by have := HDM.out.2.2; unfold cA at this; dsimp only at this; omega⟩
            have HXI : Hid (1 ≤ xi ∧ xi ≤ 2147483647) := Lib.hid (by
              have h1 := HUK.out.2.2
              have h2 := HUK.out.2.1.at_ i
              unfold cA at h1; dsimp only at h1 h2; omega)
            have HYI : Hid (1 ≤ yi ∧ yi ≤ 2147483647) := Lib.hid (by
              have h1 := HDM.out.2.2
              have h2 := HDM.out.2.1.at_ i
              unfold cA at h1; dsimp only at h1 h2; omega)
            have HSP : Hid (sumP i ⟨Ka, Kb, Ks⟩ ⟨Ma, Mb, Ms⟩ = sumA ((yi : Int).tdiv (Nat.gcd yi xi : Nat)) ⟨Ka, Kb, Ks⟩ ((xi : Int).tdiv (Nat.gcd yi xi : Nat)) ⟨Ma, Mb, Ms⟩ i) := Lib.hid (by
              unfold sumP gdA cA
              dsimp only
              rw [hyi, hxi, show (Ma.getD i 0).natAbs = yi by omega, Int.natAbs_natCast])
            have wny : IntKind.i64.wrap (-(Ma.getD i 0)) = (yi : Int) := by rw [hyi]; exact IntWalk.i64_in _ (by have := HYI.out; omega)
            rw [hxi] at ck
            clear hxi hyi hR hik hid hAk hAm HR
            generalize Ma.getD i 0 = my at *
            go_wp2
            (refine wp_region_ext (wb := wy) (by (repeat (first | exact Ext.bel _ | exact Bel.refl | refine Bel.alloc ?_ _ | refine Bel.drew ?_ | refine Bel.drewN ?_ _))) (by kernel_rfl) (by kernel_rfl) ?_; (repeat (any_goals (first | go_big_quiet_step (fail) | quiet_step (fail) | (refine wpQuiet_step (fun K hK => ?_); go_simp; split <;> (refine hK _ ?_; clear hK K))))); all_goals (refine wpQuiet_nil ?_; intro _ hw'; obtain ⟨y, hw''⟩ := hw'; subst hw''))
            have H3Z := Lib.hid (H3.out.bel y.bel HBY.out.le)
            have HBZ := Lib.hid (HBY.out.trans y.bel)
            have HIKZ := Lib.hid (HIK.out.keep y.bel.keeps y.bel.le)
            have HIDZ := Lib.hid (HID.out.keep y.bel.keeps y.bel.le)
            have HDV := Lib.hid (fun W => dvr_any yi xi W (by have := HYI.out; omega) (by have := HXI.out; omega))
            have gk0 := (y.bel.cells gu (k * 3) hgu).trans c0
            have gk1 := (y.bel.cells gu (k * 3 + 1) hgu).trans c1
            have gk2 := (y.bel.cells gu (k * 3 + 2) hgu).trans c2
            have gm0 := (y.bel.cells gd (m * 3) hgd).trans d0
            have gm1 := (y.bel.cells gd (m * 3 + 1) hgd).trans d1
            have gm2 := (y.bel.cells gd (m * 3 + 2) hgd).trans d2
            have lgu := Nat.lt_of_lt_of_le hgu y.bel.le
            have lgd := Nat.lt_of_lt_of_le hgd y.bel.le
            clear c0 c1 c2 d0 d1 d2 ck cm hgu hgd hbk hbm H3 HBY HIK HID wny
            generalize y.w = wz at *
            go_wp2_with fail
            refine (HDV.out _).mono ?_
            rintro e w2 ⟨rfl, hB⟩
            have H3V := Lib.hid (H3Z.out.bel hB HBZ.out.le)
            have HBV := Lib.hid (HBZ.out.trans hB)
            have HIKV := Lib.hid (HIKZ.out.keep hB.keeps hB.le)
            have HIDV := Lib.hid (HIDZ.out.keep hB.keeps hB.le)
            have fk0 := (hB.cells gu (k * 3) lgu).trans gk0
            have fk1 := (hB.cells gu (k * 3 + 1) lgu).trans gk1
            have fk2 := (hB.cells gu (k * 3 + 2) lgu).trans gk2
            have fm0 := (hB.cells gd (m * 3) lgd).trans gm0
            have fm1 := (hB.cells gd (m * 3 + 1) lgd).trans gm1
            have fm2 := (hB.cells gd (m * 3 + 2) lgd).trans gm2
            have lu := Nat.lt_of_lt_of_le lgu hB.le
            have ld := Nat.lt_of_lt_of_le lgd hB.le
            clear gk0 gk1 gk2 gm0 gm1 gm2 lgu lgd hB HDV H3Z HBZ HIKZ HIDZ
            have hG0 : ¬ ((Nat.gcd yi xi : Nat) : Int) = 0 := by
              have h1 := Nat.gcd_pos_of_pos_left xi (show 0 < yi by have := HYI.out; omega)
              omega
            have hGd : (((Nat.gcd yi xi : Nat) : Int) == 0) = false := by simp only [beq_eq_false_iff_ne, ne_eq]; exact hG0
            have HSA : Hid (((yi : Int).tdiv (Nat.gcd yi xi : Nat)).natAbs ≤ 2147483647) := Lib.hid (tdiv_inr (by have := HYI.out; omega))
            have HSB : Hid (((xi : Int).tdiv (Nat.gcd yi xi : Nat)).natAbs ≤ 2147483647) := Lib.hid (tdiv_inr (by have := HXI.out; omega))
            clear HXI HYI
            generalize ((Nat.gcd yi xi : Nat) : Int) = G at *
            generalize (yi : Int) = YI at *
            generalize (xi : Int) = XI at *
            have wsa : IntKind.i64.wrap (YI.tdiv G) = YI.tdiv G := IntWalk.i64_in _ (by have := HSA.out; omega)
            have wsb : IntKind.i64.wrap (XI.tdiv G) = XI.tdiv G := IntWalk.i64_in _ (by have := HSB.out; omega)
            have HSM := Lib.hid (fun W (hW : Bel w2 W) => rsum_any (YI.tdiv G) (XI.tdiv G) ⟨Ka, Kb, Ks⟩ ⟨Ma, Mb, Ms⟩ _ _ i W (HIKV.out.keep hW.keeps hW.le) (HIDV.out.keep hW.keeps hW.le) (by have := HUK.out.1; dsimp only at this ⊢; omega) (by have := HUK.out.1; have := HDM.out.1; dsimp only at *; omega) (by have := HUK.out.1; dsimp only at *; omega) HSA.out HSB.out HUK.out.2.1 HDM.out.2.1)
            unfold AlPost at HSM
            rw [← HSP.out] at HSM
            dsimp only at HSM
            clear HSP HSA HSB HIKV HIDV
            have HZL : Hid ((sumP i ⟨Ka, Kb, Ks⟩ ⟨Ma, Mb, Ms⟩).a.length ≤ 1000000) := Lib.hid (by have := sumP_len (i := i) (x := ⟨Ka, Kb, Ks⟩) (y := ⟨Ma, Mb, Ms⟩); have := HUK.out.1; dsimp only at *; omega)
            generalize sumP i ⟨Ka, Kb, Ks⟩ ⟨Ma, Mb, Ms⟩ = Z at *
            obtain ⟨Za, Zb, Zs⟩ := Z
            dsimp only at HZL
            dsimp only at HSM
            go_upto_region 20 with (fail)
            go_cut [17] from 106 to 121 (fun s17 wx => ∃ (z : Ext w2) (p17 : Nat) (rv : Value), wx = z.w ∧ s17 = .pointer (some ⟨p17, 0, none⟩) ∧ RowAt z.w p17 25 [rv, .int .i64 Zb, .bool Zs] ∧ z.w.ownsRow w2.heap.size 2 1 rv Za.length (intsV Za))
            case first =>
              (refine wp_region_E 17 none (by kernel_rfl) ?_; refine anyE_takes [0, 1, 2, 3, 4, 5, 6, 7, 8, 9, 10, 11, 12, 13, 14] (fun _ _ _ _ _ h => h) ⟨⟨_, gro_drew (gro_refl _)⟩, rfl⟩ (by kernel_rfl) (by rfl) ?_; simp only [opsOf, List.filterMap_cons, List.filterMap_nil, List.getElem?_toArray, List.getElem?_cons_succ, List.getElem?_cons_zero, List.foldl_cons, List.foldl_nil]; (repeat (any_goals (first | go_big_quiet_step (fail) | quiet_step (fail)))); refine wpQuiet_nil ?_)
              have G0 : Hid (w2.grownBy w2.drew none) := Lib.hid (gro_drew (gro_refl _))
              have B0 := Lib.hid ((Bel.refl (w := w2)).drew)
              clear fk0 fk1 fk2 fm0 fm1 fm2 lu ld
              generalize w2.drew = W0 at *
              refine anyE_two 15 16 _ _ (by kernel_rfl) (by rfl) (by rfl) ?_ ?_
              · intro K hK
                rw [if_pos (by rfl)]
                go_simp
                refine (HSM.out _ B0.out).mono ?_
                rintro _ W1 ⟨rv1, rfl, ho, hB⟩
                obtain ⟨A1, k1, rfl, _⟩ := own_slice ho
                have G1 := Lib.hid (G0.out.trans (gro_of_bel2 hB))
                have B1 := Lib.hid (B0.out.trans hB)
                have O1 := Lib.hid (own_base ho B0.out.le)
                refine hK _ _ (fun _ => ⟨⟨_, G1.out⟩, rfl⟩) ?_
                clear hK K ho hB
                (refine anyE_one 16 _ (by kernel_rfl) (by rfl) (fun K hK => ?_))
                rw [if_pos (by rfl)]
                go_simp
                refine hK _ _ (fun _ => ⟨⟨_, gro_alloc G1.out _⟩, rfl⟩) ?_
                clear hK K
                have G2 := Lib.hid (gro_alloc G1.out (.cells #[.slice none 0 0, .int .i64 0, .bool false] 25))
                have B2 := Lib.hid (B1.out.alloc (.cells #[.slice none 0 0, .int .i64 0, .bool false] 25))
                have O_L2 := Lib.hid (ownsRow_bel O1.out (Bel.refl.alloc (.cells #[.slice none 0 0, .int .i64 0, .bool false] 25)))
                have R2 : Hid (RowAt (W1.alloc (.cells #[.slice none 0 0, .int .i64 0, .bool false] 25)) W1.heap.size 25 [.slice none 0 0, .int .i64 0, .bool false]) := Lib.hid (RowAt.new W1 25 [.slice none 0 0, .int .i64 0, .bool false])
                have N2 : Hid (w2.heap.size ≤ W1.heap.size) := Lib.hid B1.out.le
                generalize World.alloc W1 _ = W2 at *
                generalize W1.heap.size = b2 at *
                (refine anyE_tail 17 (by decide) (by rfl) (by kernel_rfl) ?_; simp only [List.drop_succ_cons, List.drop_zero])
                have q0 := R2.out.cell (i := 0) rfl
                have q1 := R2.out.cell (i := 1) rfl
                have q2 := R2.out.cell (i := 2) rfl
                have fq := fun k => R2.out.frozen k
                have lq := R2.out.lt
                go_wp2
                refine NoPanic.normal ?_
                go_wp2
                go_meet
                case rel => exact ⟨⟨_, ((B2.out.set (p := ⟨b2, 0, none⟩) N2.out _).set (p := ⟨b2, 1, none⟩) N2.out _).set (p := ⟨b2, 2, none⟩) N2.out _⟩, b2, _, rfl, rfl, ((R2.out.set 0 _).set 1 _).set 2 _, own_farB (own_farB (own_farB O_L2.out R2.out line_ne_i64) (R2.out.set 0 _) line_ne_i64) ((R2.out.set 0 _).set 1 _) line_ne_i64⟩
              · intro K hK
                rw [if_pos (by rfl)]
                go_simp
                refine hK _ _ (fun _ => ⟨⟨_, gro_alloc G0.out _⟩, rfl⟩) ?_
                clear hK K
                have G3 := Lib.hid (gro_alloc G0.out (.cells #[.slice none 0 0, .int .i64 0, .bool false] 25))
                have B3 := Lib.hid (B0.out.alloc (.cells #[.slice none 0 0, .int .i64 0, .bool false] 25))
                have R3 : Hid (RowAt (W0.alloc (.cells #[.slice none 0 0, .int .i64 0, .bool false] 25)) W0.heap.size 25 [.slice none 0 0, .int .i64 0, .bool false]) := Lib.hid (RowAt.new W0 25 [.slice none 0 0, .int .i64 0, .bool false])
                have N3 : Hid (w2.heap.size ≤ W0.heap.size) := Lib.hid B0.out.le
                generalize World.alloc W0 _ = W3 at *
                generalize W0.heap.size = b3 at *
                (refine anyE_one 15 _ (by kernel_rfl) (by rfl) (fun K hK => ?_))
                rw [if_pos (by rfl)]
                go_simp
                refine (HSM.out _ B3.out).mono ?_
                rintro _ W4 ⟨rv4, rfl, ho, hB⟩
                obtain ⟨A4, k4, rfl, _⟩ := own_slice ho
                have G4 := Lib.hid (G3.out.trans (gro_of_bel2 hB))
                have B4 := Lib.hid (B3.out.trans hB)
                have O4 := Lib.hid (own_base ho B3.out.le)
                refine hK _ _ (fun _ => ⟨⟨_, G4.out⟩, rfl⟩) ?_
                have P_C4 := Lib.hid (R3.out.bel hB)
                clear hK K ho hB
                (refine anyE_tail 17 (by decide) (by rfl) (by kernel_rfl) ?_; simp only [List.drop_succ_cons, List.drop_zero])
                have q0 := P_C4.out.cell (i := 0) rfl
                have q1 := P_C4.out.cell (i := 1) rfl
                have q2 := P_C4.out.cell (i := 2) rfl
                have fq := fun k => P_C4.out.frozen k
                have lq := P_C4.out.lt
                go_wp2
                refine NoPanic.normal ?_
                go_wp2
                go_meet
                case rel => exact ⟨⟨_, ((B4.out.set (p := ⟨b3, 0, none⟩) N3.out _).set (p := ⟨b3, 1, none⟩) N3.out _).set (p := ⟨b3, 2, none⟩) N3.out _⟩, b3, _, rfl, rfl, ((P_C4.out.set 0 _).set 1 _).set 2 _, own_farB (own_farB (own_farB O4.out P_C4.out line_ne_i64) (P_C4.out.set 0 _) line_ne_i64) ((P_C4.out.set 0 _).set 1 _) line_ne_i64⟩
            case rest =>
              obtain ⟨z, p17, rv, rfl, rfl, hr17, ho17⟩ := hcut
              have HR17 := Lib.hid hr17
              have HO17 := Lib.hid (own_base ho17 HBV.out.le)
              have H3W := Lib.hid (H3V.out.bel z.bel HBV.out.le)
              have HBW := Lib.hid (HBV.out.trans z.bel)
              clear hr17 ho17 fk0 fk1 fk2 fm0 fm1 fm2 lu ld H3V HBV hG0 hGd wsa wsb HSM
              generalize z.w = wv at *
              obtain ⟨Az, kz, rfl, _⟩ := own_slice HO17.out
              have q0 := HR17.out.cell (i := 0) rfl
              have q1 := HR17.out.cell (i := 1) rfl
              have q2 := HR17.out.cell (i := 2) rfl
              have lq := HR17.out.lt
              have wn1 : IntKind.i64.wrap ((n : Int) - 1) = (n : Int) - 1 := IntWalk.i64_in _ (by omega)
              have HVA := Lib.hid (rvalid_any ((n : Int) - 1) ⟨Za, Zb, Zs⟩ _ wv (IntsAt.of_own HO17.out) HZL.out)
              dsimp only at HVA
              go_wp2_with fail
              refine HVA.out.mono ?_
              rintro e w6 ⟨rfl, hB⟩
              have HB6 := Lib.hid (HBW.out.trans hB)
              have H36 := Lib.hid (H3W.out.bel hB HBW.out.le)
              have HR6 := Lib.hid (HR17.out.bel hB)
              have HO6 := Lib.hid (ownsRow_bel HO17.out hB)
              clear hB HVA H3W HBW HR17 HO17 q0 q1 q2 lq
              by_cases hfit : (⟨Za, Zb, Zs⟩ : AL).fits ((n : Int) - 1) = true
              · have HFI := Lib.hid hfit
                have HRT : Hid (sumM n i (D.map Prod.snd) ⟨Ka, Kb, Ks⟩ (O.map Prod.snd ++ [⟨Za, Zb, Zs⟩]) ((D.map Prod.snd).drop (m + 1)) ((U.map Prod.snd).drop (k + 1)) = R) := Lib.hid (by have := HRS.out; rw [if_pos hfit] at this; exact this)
                rw [hfit]
                clear hfit HRS
                have q0 := HR6.out.cell (i := 0) rfl
                have q1 := HR6.out.cell (i := 1) rfl
                have q2 := HR6.out.cell (i := 2) rfl
                have lq := HR6.out.lt
                obtain ⟨g7, c7, W7, hap, h37, hb7⟩ := a3_app (w0 := w) (W := w6.alloc (.cells (arC (.slice Az Za.length kz, ⟨Za, Zb, Zs⟩)).toArray 25)) (HB6.out.alloc _) (H36.out.bel (Bel.refl.alloc _) HB6.out.le) (by have := HT.out; omega) (RowAt.new w6 25 (arC (.slice Az Za.length kz, ⟨Za, Zb, Zs⟩))) (.inr (ownsRow_bel HO6.out (Bel.refl.alloc _))) rfl
                have H37 := Lib.hid h37
                have HB7 := Lib.hid hb7
                have HRM : Hid (sumM n i (D.map Prod.snd) ⟨Ka, Kb, Ks⟩ ((O ++ [((.slice Az Za.length kz, ⟨Za, Zb, Zs⟩) : Value × AL)]).map Prod.snd) ((D.map Prod.snd).drop (m + 1)) ((U.map Prod.snd).drop (k + 1)) = R) := Lib.hid (by rw [List.map_append]; exact HRT.out)
                have HOX7 : Hid (∀ p, p ∈ O ++ [((.slice Az Za.length kz, ⟨Za, Zb, Zs⟩) : Value × AL)] → p.2.a.length = n - 1 ∧ p.2.inr) := Lib.hid (fun p hp => by
                  rcases List.mem_append.1 hp with hp | hp
                  · exact HOX.out p hp
                  · obtain rfl : p = (.slice Az Za.length kz, ⟨Za, Zb, Zs⟩) := by simpa using hp
                    have := fits_len HFI.out
                    exact ⟨by dsimp only at this ⊢; omega, fits_inrA HFI.out⟩)
                have HT7 : Hid ((O ++ [((.slice Az Za.length kz, ⟨Za, Zb, Zs⟩) : Value × AL)]).length + (D.length - (m + 1)) + q ≤ 1000) := Lib.hid (by have := HT.out; simp; omega)
                unfold arC at hap
                obtain ⟨A5, c5, rfl, _⟩ := H36.out.a.form
                clear h37 hb7 HRT
                go_wp2_with (at_builtin; go_must (refine wpList_append_run rfl _ _ 22 rfl _ _ _ rfl rfl (hap _) ?_))
                go_roundw
                case rel => exact ⟨m + 1, ⟨_, HB7.out⟩, _, by omega, by go_num, rfl, H37.out, HT7.out, HOX7.out, HRM.out⟩
                case measure => simp [intOf]; omega
              · have hff : (⟨Za, Zb, Zs⟩ : AL).fits ((n : Int) - 1) = false := by simpa using hfit
                have HRT : Hid (R = none) := Lib.hid (by have := HRS.out; rw [if_neg hfit] at this; exact this.symm)
                have HM3 : Hid (leaveA l n i = ([], 7)) := Lib.hid (by rw [HM2.out, HRT.out]; rfl)
                rw [hff]
                clear hff hfit HRS
                go_wp2
                go_ret2
                exact ls_post HM3.out LinesAt.nil HB6.out
          · obtain rfl : m = D.length := by omega
            have hmd : decide ((D.length : Int) < (D.length : Int)) = false := by simp
            have HR3 : Hid (sumU n i (D.map Prod.snd) (O.map Prod.snd) ((U.map Prod.snd).drop (k + 1)) = R) := Lib.hid (by rw [← HR.out, map_dropall]; rfl)
            have HT2 : Hid (O.length + (U.length - (k + 1)) * D.length ≤ 1000) := Lib.hid (by rw [← HQ.out]; have := HT.out; omega)
            go_wp2
            go_roundw
            case rel => exact ⟨k + 1, y, O, by omega, by go_num, rfl, H3.out, HT2.out, HOX.out, HR3.out⟩
            case measure => simp [intOf]; omega
      · obtain rfl : k = U.length := by omega
        have hd : decide ((U.length : Int) < (U.length : Int)) = false := by simp
        have HRE : Hid (R = some (O.map Prod.snd)) := Lib.hid (by rw [← HR.out, map_dropall]; rfl)
        have HM3 : Hid (leaveA l n i = (tidyA (n - 1) (O.map Prod.snd), 0)) := Lib.hid (by rw [HM2.out, HRE.out]; rfl)
        have wn : IntKind.i64.wrap ((n : Int) - 1) = ((n - 1 : Nat) : Int) := by rw [show (n : Int) - 1 = ((n - 1 : Nat) : Int) by omega]; exact IntWalk.i64_in _ (by omega)
        have HTD := Lib.hid (rtidy_any (n - 1) _ (O.map Prod.snd) y.w (H3.out.a.lines y.bel.le) (by omega) (by rw [List.length_map]; have := HT.out; omega) (fun x hx => by
          obtain ⟨p, hp, rfl⟩ := List.mem_map.1 hx
          have := (HOX.out p hp).1; omega) (fun x hx => by
          obtain ⟨p, hp, rfl⟩ := List.mem_map.1 hx
          exact (HOX.out p hp).2.wf))
        unfold LinPost at HTD
        generalize tidyA (n - 1) (O.map Prod.snd) = TL at *
        obtain ⟨A5, c5, rfl, _⟩ := H3.out.a.form
        go_wp2_with fail
        refine HTD.out.mono ?_
        rintro e w2 ⟨v2, rfl, hls, hB⟩
        have HLS := Lib.hid hls
        have HB := Lib.hid (y.bel.trans hB)
        obtain ⟨A6, c6, rfl, _⟩ := hls.form
        clear hls hB HTD
        go_wp2
        go_ret2
        exact ls_post HM3.out HLS.out HB.out
end Go.Proofs.Ytalphoebmefgoaa
/- poly, the reference: Without, down, empty, Empty. -/
namespace Go.Proofs.Ytalphoebmefgoaa
open Go.RowKit
def rwithoutM (n : Int) (l : List AL) (i : Int) : List AL × Int :=
  if checkM n l ≠ 0 then ([], checkM n l) else if i < 0 ∨ n ≤ i then ([], 2) else leaveA l n.toNat i.toNat
theorem check_lenA {n : Int} {l : List AL} (h : checkM n l = 0) : ∀ x, x ∈ l → x.a.length = n.toNat := fun x hx => by
  have := fits_len ((check_fits h).2.2 x hx); omega
theorem check_inrA {n : Int} {l : List AL} (h : checkM n l = 0) : ∀ x, x ∈ l → x.inr := fun x hx => fits_inrA ((check_fits h).2.2 x hx)
set_option maxRecDepth 100000 in
set_option maxHeartbeats 4000000 in
theorem rwithout_any (n i : Int) (v : Value) (l : List AL) (w : World) (h : LinesAt w w.heap.size v l) (hl : AlLens l) (hn : l.length ≤ 1000000) : Calls Try.prog 15 #[.int .i64 n, v, .int .i64 i] w (LsPost (rwithoutM n l i) w) := by
  have H := Lib.hid h
  have HCK := Lib.hid (rcheck_any n v l w h hl hn)
  obtain ⟨A, c, rfl, hc⟩ := h.form
  clear h hl
  go_enter Try.func15, Try.ntmps15
  go_wp2_with fail
  refine HCK.out.mono ?_
  rintro e w1 ⟨rfl, hB⟩
  have HB1 := Lib.hid hB
  clear hB HCK
  by_cases hck : checkM n l = 0
  · have HC := Lib.hid hck
    rw [hck]
    have h0 : ((0 : Int) != 0) = false := rfl
    obtain ⟨hn5, hl1, _⟩ := check_fits hck
    have HM : Hid (rwithoutM n l i = if i < 0 ∨ n ≤ i then ([], 2) else leaveA l n.toNat i.toNat) := Lib.hid (by unfold rwithoutM; rw [if_neg (by simp [hck])])
    clear hck
    by_cases hi1 : i < 0
    · have d1 : decide (i < 0) = true := decide_eq_true hi1
      have HM2 : Hid (rwithoutM n l i = ([], 2)) := Lib.hid (by rw [HM.out, if_pos (.inl hi1)])
      clear hi1 HM
      go_wp2
      go_ret2
      exact ls_post HM2.out LinesAt.nil HB1.out
    · have d1 : decide (i < 0) = false := decide_eq_false hi1
      by_cases hi2 : n ≤ i
      · have d2 : decide (i ≥ n) = true := decide_eq_true hi2
        have d3 : decide (n ≤ i) = true := decide_eq_true hi2
        have HM2 : Hid (rwithoutM n l i = ([], 2)) := Lib.hid (by rw [HM.out, if_pos (.inr hi2)])
        clear hi1 hi2 HM
        go_wp2
        go_ret2
        exact ls_post HM2.out LinesAt.nil HB1.out
      · have d2 : decide (i ≥ n) = false := decide_eq_false hi2
        have d3 : decide (n ≤ i) = false := decide_eq_false hi2
        obtain ⟨j, rfl⟩ : ∃ j : Nat, i = (j : Int) := ⟨i.toNat, by omega⟩
        obtain ⟨m, rfl⟩ : ∃ m : Nat, n = (m : Int) := ⟨n.toNat, by omega⟩
        have d4 : decide (m ≤ j) = false := decide_eq_false (by omega)
        have HM2 : Hid (rwithoutM m l j = leaveA l m j) := Lib.hid (by rw [HM.out, if_neg (by omega), Int.toNat_natCast, Int.toNat_natCast])
        have HLV := Lib.hid (rleave_any m j _ l w1 (H.out.bel HB1.out) (by omega) (by omega) (by omega) (by have := check_lenA HC.out; rwa [Int.toNat_natCast] at this) (check_inrA HC.out))
        rw [← HM2.out] at HLV
        clear HM HM2 hi1 hi2 hn5
        generalize rwithoutM m l j = M at *
        go_wp2_with fail
        refine HLV.out.mono ?_
        rintro e w3 ⟨v3, rfl, hln, hB⟩
        have HLN := Lib.hid hln
        have HB3 := Lib.hid (HB1.out.trans hB)
        obtain ⟨A3, c3, rfl, _⟩ := hln.form
        clear hln hB HLV
        obtain ⟨d, er⟩ := M
        dsimp only at *
        go_wp2
        go_ret2
        exact ls_post rfl HLN.out HB3.out
  · have h0 : (checkM n l != 0) = true := by simp [hck]
    have HM : Hid (rwithoutM n l i = ([], checkM n l)) := Lib.hid (by unfold rwithoutM; rw [if_pos hck])
    clear hck
    go_wp2
    go_ret2
    exact ls_post HM.out LinesAt.nil HB1.out
end Go.Proofs.Ytalphoebmefgoaa
/- poly (plain): what the reference computes, padded, is what the program computes. -/
namespace Go.Proofs.Ytalphoebmefgoaa
theorem ln_eq {x y : Ln} (ha : x.a = y.a) (hb : x.b = y.b) (hs : x.s = y.s) : x = y := by
  obtain ⟨a0, a1, a2, a3, a4, a5, b, s⟩ := x
  obtain ⟨c0, c1, c2, c3, c4, c5, d, t⟩ := y
  simp only [Ln.a, List.cons.injEq, and_true] at ha
  simp only at hb hs
  obtain ⟨rfl, rfl, rfl, rfl, rfl, rfl⟩ := ha
  subst hb hs; rfl
theorem pad_a {x : AL} (h : x.a.length ≤ 6) : (padL x).a = x.a ++ List.replicate (6 - x.a.length) 0 := by
  obtain ⟨a, b, s⟩ := x
  match a, h with
  | [], _ => rfl
  | [_], _ => rfl
  | [_, _], _ => rfl
  | [_, _, _], _ => rfl
  | [_, _, _, _], _ => rfl
  | [_, _, _, _, _], _ => rfl
  | [_, _, _, _, _, _], _ => rfl
theorem ci_pad {x : AL} (h : x.a.length ≤ 6) (i : Nat) : ci (padL x) i = cA x i := by
  unfold ci cA
  rw [pad_a h, List.getD_eq_getElem?_getD, List.getD_eq_getElem?_getD]
  rcases Nat.lt_or_ge i x.a.length with q | q
  · rw [List.getElem?_append_left q]
  · rw [List.getElem?_append_right q, List.getElem?_eq_none q]
    by_cases hq : i - x.a.length < 6 - x.a.length
    · rw [List.getElem?_replicate, if_pos hq]; rfl
    · rw [List.getElem?_eq_none (by simp; omega)]
theorem tell_pad {x : AL} {n : Nat} (h : x.a.length = n) (hn : n ≤ 6) : tellA n (padL x) = x := by
  unfold tellA
  rw [pad_a (by omega), List.take_append_of_le_length (by omega), List.take_of_length_le (by omega)]; rfl
theorem gcdF_zeros : ∀ (k g : Nat), gcdF (List.replicate k 0) g = g
  | 0, _ => rfl
  | k + 1, g => by rw [List.replicate_succ, gcdF]; simp [gcdF_zeros k g]
theorem gcdF_app : ∀ (a b : List Int) (g : Nat), gcdF (a ++ b) g = gcdF b (gcdF a g)
  | [], _, _ => rfl
  | _c :: t, b, _g => gcdF_app t b _
theorem gcdF_foldl : ∀ (a : List Int) (g : Nat), a.foldl (fun (g : Nat) c => Int.gcd (g : Int) c) g = gcdF a g
  | [], _ => rfl
  | c :: t, g => by
    rw [List.foldl_cons, gcdF_foldl t]; rfl
theorem gk_pad {x : AL} (h : x.a.length ≤ 6) : gk (padL x) 6 = gcdA x := by
  unfold gk gcdA
  rw [show (padL x).a.take 6 = (padL x).a from rfl, gcdF_foldl, pad_a h, gcdF_app, gcdF_zeros]
  congr 1
  show Nat.gcd 0 x.b.natAbs = x.b.natAbs
  rw [Nat.gcd_zero_left]
theorem dk_a (x : Ln) (g : Int) : (dk x g 6).a = x.a.map (fun c => c.tdiv g) := rfl
theorem low_pad {x : AL} (h : x.a.length ≤ 6) : padL (lowA x) = lowL (padL x) := by
  unfold lowL lowA
  rw [gk_pad h]
  by_cases h0 : gcdA x = 0
  · rw [if_pos h0, if_neg (by omega)]
  · rw [if_neg h0]
    by_cases h1 : 1 < gcdA x
    · rw [if_pos h1]
      refine ln_eq ?_ rfl rfl
      show (padL ⟨x.a.map (fun c => c.tdiv (gcdA x)), x.b.tdiv (gcdA x), x.s⟩).a = (dk (padL x) (gcdA x) 6).a
      rw [pad_a (by simpa using h), dk_a, pad_a h, List.map_append, List.map_replicate, Int.zero_tdiv]
      simp
    · rw [if_neg h1]
      have e : gcdA x = 1 := by omega
      rw [e]
      refine ln_eq ?_ (by show x.b.tdiv ((1 : Nat) : Int) = x.b; simp) rfl
      rw [pad_a (by simpa using h), pad_a h]
      simp
theorem lex_appz : ∀ (a b z : List Int), a.length = b.length → lexL (a ++ z) (b ++ z) = lexL a b
  | [], [], z, _ => by rw [List.nil_append]; exact lex_self z
  | [], _ :: _, _, h => by simp at h
  | _ :: _, [], _, h => by simp at h
  | x :: a, y :: b, z, h => by
    simp only [List.cons_append, lexL]
    rw [lex_appz a b z (by simpa using h)]
theorem lex_pad {x y : AL} {n : Nat} (hx : x.a.length = n) (hy : y.a.length = n) (hn : n ≤ 6) : lexL (padL x).a (padL y).a = lexL x.a y.a := by
  rw [pad_a (by omega), pad_a (by omega), hx, hy]
  exact lex_appz _ _ _ (by omega)
theorem zero_pad {x : AL} (h : x.a.length ≤ 6) : zeroB x.a = true ↔ (padL x).a = [0, 0, 0, 0, 0, 0] := by
  rw [zeroB_iff]
  have e6 : ([0, 0, 0, 0, 0, 0] : List Int) = List.replicate 6 0 := rfl
  rw [e6, List.eq_replicate_iff, pad_a h]
  constructor
  · intro hz
    refine ⟨by simp; omega, fun c hc => ?_⟩
    rcases List.mem_append.1 hc with q | q
    · exact hz c q
    · exact (List.mem_replicate.1 q).2
  · rintro ⟨_, hz⟩ c hc
    exact hz c (List.mem_append_left _ hc)
theorem false_pad {n : Nat} (hn : n ≤ 6) : padL (falseA n) = falseLn := by
  refine ln_eq ?_ rfl rfl
  rw [pad_a (by simpa [falseA] using hn)]
  simp only [falseA, List.length_replicate, List.replicate_append_replicate]
  rw [show n + (6 - n) = 6 by omega]; rfl
theorem ins_pad {n : Nat} (hn : n ≤ 6) {X : AL} (hX : X.a.length = n) : ∀ {M : List AL}, (∀ x, x ∈ M → x.a.length = n) → padAll (insA M X) = insL (padAll M) (padL X)
  | [], _ => rfl
  | y :: t, h => by
    have hy := h y (List.mem_cons_self ..)
    have ht := ins_pad hn hX (M := t) (fun x hx => h x (List.mem_cons_of_mem _ hx))
    unfold insA
    show padAll _ = insL (padL y :: padAll t) (padL X)
    unfold insL
    rw [lex_pad hy hX hn]
    split
    · show padL y :: padAll (insA t X) = _
      rw [ht]
    · split
      · show padL _ :: padAll t = _
        congr 1
        show padL (if X.b < y.b ∨ X.b = y.b ∧ X.s = true then X else y) = if X.b < y.b ∨ X.b = y.b ∧ X.s = true then padL X else padL y
        split <;> rfl
      · rfl
theorem ins_lens {n : Nat} {X : AL} (hX : X.a.length = n) : ∀ {M : List AL}, (∀ x, x ∈ M → x.a.length = n) → ∀ x, x ∈ insA M X → x.a.length = n
  | [], _, x, hx => by
    obtain rfl : x = X := by simpa [insA] using hx
    exact hX
  | y :: t, h, x, hx => by
    have hy := h y (List.mem_cons_self ..)
    have h2 : ∀ x, x ∈ t → x.a.length = n := fun x hx => h x (List.mem_cons_of_mem _ hx)
    unfold insA at hx
    split at hx
    · rcases List.mem_cons.1 hx with rfl | hx
      · exact hy
      · exact ins_lens hX h2 x hx
    · split at hx
      · rcases List.mem_cons.1 hx with rfl | hx
        · split
          · exact hX
          · exact hy
        · exact h2 x hx
      · rcases List.mem_cons.1 hx with rfl | hx
        · exact hX
        · rcases List.mem_cons.1 hx with rfl | hx
          · exact hy
          · exact h2 x hx
def finL : Option (List Ln) → List Ln
  | none => [falseLn]
  | some c => c.foldl insL []
theorem tidyL_fin (l : List Ln) : tidyL l = finL (colL [] l) := by
  unfold tidyL
  cases h : colL [] l <;> rfl
theorem none_pad (x : AL) : noneA x ↔ (padL x).b < 0 ∨ (padL x).b = 0 ∧ (padL x).s = true := Iff.rfl
theorem tidyF_pad {n : Nat} (hn : n ≤ 6) : ∀ (l out : List AL) (c : List Ln), (∀ x, x ∈ l → x.a.length = n) → (∀ x, x ∈ out → x.a.length = n) → padAll out = c.foldl insL [] →
    padAll (tidyF n out l) = finL (colL c (padAll l)) ∧ ∀ x, x ∈ tidyF n out l → x.a.length = n
  | [], out, c, _, ho, h => ⟨h, ho⟩
  | x :: t, out, c, hl, ho, h => by
    have hx := hl x (List.mem_cons_self ..)
    have ht : ∀ x, x ∈ t → x.a.length = n := fun x hx => hl x (List.mem_cons_of_mem _ hx)
    have hxl : (lowA x).a.length = n := by rw [low_len]; exact hx
    show padAll (tidyF n out (x :: t)) = finL (colL c (padL x :: padAll t)) ∧ ∀ z, z ∈ tidyF n out (x :: t) → z.a.length = n
    unfold colL tidyF
    rw [← low_pad (by omega)]
    by_cases hz : zeroB (lowA x).a = true
    · rw [if_pos hz]
      rw [if_neg (show ¬ (padL (lowA x)).a ≠ [0, 0, 0, 0, 0, 0] from fun q => q ((zero_pad (by omega)).1 hz))]
      by_cases hno : noneA (lowA x)
      · rw [if_pos hno, if_pos ((none_pad _).1 hno)]
        refine ⟨?_, fun z hz => ?_⟩
        · show [padL (falseA n)] = [falseLn]
          rw [false_pad hn]
        · obtain rfl : z = falseA n := by simpa using hz
          simp [falseA]
      · rw [if_neg hno, if_neg (fun q => hno ((none_pad _).2 q))]
        exact tidyF_pad hn t out c ht ho h
    · rw [if_neg hz]
      rw [if_pos (show (padL (lowA x)).a ≠ [0, 0, 0, 0, 0, 0] from fun q => hz ((zero_pad (by omega)).2 q))]
      refine tidyF_pad hn t _ _ ht (ins_lens hxl ho) ?_
      rw [ins_pad hn hxl ho, h, List.foldl_append]; rfl
theorem tidy_pad {n : Nat} (hn : n ≤ 6) {l : List AL} (hl : ∀ x, x ∈ l → x.a.length = n) : padAll (tidyA n l) = tidyL (padAll l) ∧ ∀ x, x ∈ tidyA n l → x.a.length = n := by
  rw [tidyL_fin]
  exact tidyF_pad hn l [] [] hl (by simp) rfl
theorem short_a (x : Ln) (i : Nat) (hi : i ≤ 5) : (shortL x i).a = x.a.take i ++ x.a.drop (i + 1) ++ [0] := by
  have : i = 0 ∨ i = 1 ∨ i = 2 ∨ i = 3 ∨ i = 4 ∨ i = 5 := by omega
  rcases this with rfl | rfl | rfl | rfl | rfl | rfl <;> rfl
theorem short_pad {x : AL} {i : Nat} (h : x.a.length ≤ 6) (hi : i < x.a.length) : padL (shortA x i) = shortL (padL x) i := by
  refine ln_eq ?_ rfl rfl
  have hl : (shortA x i).a.length = x.a.length - 1 := by simp [shortA]; omega
  rw [pad_a (by omega), short_a _ _ (by omega), pad_a h, hl]
  unfold shortA
  simp only
  rw [List.take_append_of_le_length (by omega), List.drop_append_of_le_length (by omega), List.append_assoc, List.append_assoc, List.append_assoc]
  congr 2
  rw [show 6 - (x.a.length - 1) = (6 - x.a.length) + 1 by omega, List.replicate_succ']
theorem mul_a (a : Int) (x : Ln) (b : Int) (y : Ln) : (mulL a x b y 6).a = [a * x.a0 + b * y.a0, a * x.a1 + b * y.a1, a * x.a2 + b * y.a2, a * x.a3 + b * y.a3, a * x.a4 + b * y.a4, a * x.a5 + b * y.a5] := rfl
theorem ln_a_range (x : Ln) : x.a = (List.range 6).map (fun i => ci x i) := rfl
theorem mul_range (a : Int) (x : Ln) (b : Int) (y : Ln) : (mulL a x b y 6).a = (List.range 6).map (fun i => a * ci x i + b * ci y i) := rfl
theorem lin_pad {a b : Int} {x y : AL} {n : Nat} (hx : x.a.length = n) (hy : y.a.length = n) (hn : n ≤ 6) : padL (linA a x b y) = mulL a (padL x) b (padL y) 6 := by
  refine ln_eq ?_ rfl rfl
  have hl : (linA a x b y).a.length = n := by simp [linA, linK_len, hx]
  rw [mul_range, ln_a_range]
  refine List.map_congr_left fun i _ => ?_
  rw [ci_pad (by omega), ci_pad (by omega), ci_pad (by omega)]
  unfold cA
  show (linK a x.a b y.a x.a.length x.a.length).getD i 0 = _
  rw [List.getD_eq_getElem?_getD]
  unfold linK
  rcases Nat.lt_or_ge i x.a.length with q | q
  · rw [List.getElem?_map, List.getElem?_range q]
    simp [q, linF]
  · rw [List.getElem?_eq_none (by simpa using q)]
    have e1 : x.a.getD i 0 = 0 := by rw [List.getD_eq_getElem?_getD, List.getElem?_eq_none q]; rfl
    have e2 : y.a.getD i 0 = 0 := by rw [List.getD_eq_getElem?_getD, List.getElem?_eq_none (by omega)]; rfl
    rw [e1, e2]; simp
theorem gd_pad {i : Nat} {x y : AL} (hx : x.a.length ≤ 6) (hy : y.a.length ≤ 6) : gdL i (padL x, padL y) = gdA i x y := by
  unfold gdL gdA
  show Int.gcd (-(ci (padL y) i)) (ci (padL x) i) = _
  rw [ci_pad hx, ci_pad hy]
  unfold Int.gcd
  rw [Int.natAbs_neg]
theorem sum_pad {i n : Nat} {x y : AL} (hx : x.a.length = n) (hy : y.a.length = n) (hn : n ≤ 6) (hi : i < n) : padL (sumP i x y) = sumL i (padL x, padL y) := by
  unfold sumP sumA sumL saL sbL
  have hl : ∀ a b, (linA a x b y).a.length = n := fun a b => by simp [linA, linK_len, hx]
  rw [low_pad (by rw [short_lenA (hl _ _) hi]; omega), short_pad (by rw [hl]; omega) (by rw [hl]; omega), lin_pad hx hy hn, gd_pad (by omega) (by omega)]
  rw [ci_pad (by omega), ci_pad (by omega)]
theorem sumP_lenn {i n : Nat} {x y : AL} (hx : x.a.length = n) (hi : i < n) : (sumP i x y).a.length = n - 1 := by
  unfold sumP sumA
  rw [low_len]
  exact short_lenA (by simp [linA, linK_len, hx]) hi
theorem fits_pad {x : AL} {n : Int} (hn : (x.a.length : Int) = n) (h6 : x.a.length ≤ 6) : x.fits n = okL (padL x) := by
  have h0 : ∀ k, (List.replicate k (0 : Int)).all inR = true := fun k => by
    rw [List.all_eq_true]; intro c hc; rw [(List.mem_replicate.1 hc).2]; rfl
  unfold AL.fits okL
  rw [pad_a h6, List.all_append, List.all_append, h0, Bool.and_true, decide_eq_true hn, Bool.and_true]
  show ((x.a.all inR && decide (-2147483647 ≤ x.b)) && decide (x.b ≤ 2147483647)) = (x.a.all inR && [x.b].all inR)
  simp only [List.all_cons, List.all_nil, Bool.and_true]
  unfold inR
  rw [Bool.and_assoc]
/-- the pairs of lines, in the reference's order -/
def prA (U D : List AL) : List (AL × AL) := U.flatMap fun x => D.map fun y => (x, y)
theorem sumD_eq (n i : Nat) (x : AL) : ∀ (D acc : List AL), sumD n i x acc D = if D.all (fun y => (sumP i x y).fits ((n : Int) - 1)) then some (acc ++ D.map (sumP i x)) else none
  | [], acc => by simp [sumD]
  | y :: t, acc => by
    unfold sumD
    rw [sumD_eq n i x t]
    simp only [List.all_cons, List.map_cons]
    by_cases h : (sumP i x y).fits ((n : Int) - 1) = true
    · rw [if_pos h, h, Bool.true_and, List.append_assoc]; rfl
    · rw [if_neg h]
      simp [h]
theorem sumU_eq (n i : Nat) (D : List AL) : ∀ (U acc : List AL), sumU n i D acc U = if (prA U D).all (fun p => (sumP i p.1 p.2).fits ((n : Int) - 1)) then some (acc ++ (prA U D).map (fun p => sumP i p.1 p.2)) else none
  | [], acc => by simp [sumU, prA]
  | x :: t, acc => by
    unfold sumU
    rw [sumD_eq]
    have e : prA (x :: t) D = D.map (fun y => (x, y)) ++ prA t D := rfl
    rw [e, List.all_append, List.map_append, List.all_map, List.map_map]
    by_cases h : D.all (fun y => (sumP i x y).fits ((n : Int) - 1)) = true
    · rw [if_pos h]
      show sumU n i D (acc ++ D.map (sumP i x)) t = _
      rw [sumU_eq n i D t]
      have h2 : D.all ((fun p : AL × AL => (sumP i p.1 p.2).fits ((n : Int) - 1)) ∘ fun y => (x, y)) = true := h
      rw [h2, Bool.true_and, List.append_assoc]; rfl
    · rw [if_neg h]
      have h2 : D.all ((fun p : AL × AL => (sumP i p.1 p.2).fits ((n : Int) - 1)) ∘ fun y => (x, y)) = false := by
        have : D.all (fun y => (sumP i x y).fits ((n : Int) - 1)) = false := by simpa using h
        exact this
      rw [h2]; rfl
theorem filter_pad {p : Ln → Bool} {q : AL → Bool} : ∀ {l : List AL}, (∀ x, x ∈ l → p (padL x) = q x) → (padAll l).filter p = padAll (l.filter q)
  | [], _ => rfl
  | x :: t, h => by
    have ht := filter_pad (p := p) (q := q) (l := t) (fun x hx => h x (List.mem_cons_of_mem _ hx))
    show (padL x :: padAll t).filter p = _
    rw [List.filter_cons, List.filter_cons, h x (List.mem_cons_self ..), ht]
    split <;> rfl
theorem pairs_pad {i n : Nat} (hn : n ≤ 6) {l : List AL} (hl : ∀ x, x ∈ l → x.a.length = n) : PL (padAll l) i = (prA (upA l i) (dnA l i)).map fun p => (padL p.1, padL p.2) := by
  have hneg : negL (padAll l) i = padAll (dnA l i) := filter_pad fun x hx => by rw [ci_pad (by rw [hl x hx]; exact hn)]
  unfold PL prA upA
  have : ∀ (t : List AL), (∀ x, x ∈ t → x.a.length = n) → (padAll t).flatMap (pairF (padAll l) i) = ((t.filter fun x => decide (0 < cA x i)).flatMap fun x => (dnA l i).map fun y => (x, y)).map fun p => (padL p.1, padL p.2) := by
    intro t
    induction t with
    | nil => intro _; rfl
    | cons x t ih =>
      intro ht
      show (padL x :: padAll t).flatMap _ = _
      rw [List.flatMap_cons, ih (fun x hx => ht x (List.mem_cons_of_mem _ hx)), List.filter_cons]
      unfold pairF
      rw [ci_pad (by rw [ht x (List.mem_cons_self ..)]; exact hn)]
      by_cases hc : cA x i ≤ 0
      · rw [if_pos hc, if_neg (by simp; omega)]; rfl
      · rw [if_neg hc, if_pos (by simp; omega), List.flatMap_cons, List.map_append, hneg]
        congr 1
        unfold padAll
        rw [List.map_map, List.map_map]; rfl
  exact this l hl
theorem leave_pad {n i : Nat} (hn : n ≤ 6) (hi : i < n) {l : List AL} (hl : ∀ x, x ∈ l → x.a.length = n) :
    padAll (leaveA l n i).1 = (leaveL (padAll l) i).1 ∧ (leaveA l n i).2 = (leaveL (padAll l) i).2 ∧ ∀ x, x ∈ (leaveA l n i).1 → x.a.length = n - 1 := by
  have hc : ∀ x, x ∈ l → x.a.length ≤ 6 := fun x hx => by rw [hl x hx]; exact hn
  have hout : ((padAll l).filter fun x => decide (ci x i = 0)).map (shortL · i) = padAll (outA l i) := by
    rw [filter_pad (q := fun x => decide (cA x i = 0)) (fun x hx => by rw [ci_pad (hc x hx)])]
    unfold outA padAll
    rw [List.map_map, List.map_map]
    refine List.map_congr_left fun x hx => ?_
    have hx2 := (List.mem_filter.1 hx).1
    exact (short_pad (hc x hx2) (by rw [hl x hx2]; exact hi)).symm
  have hpos : (posL (padAll l) i).length = (upA l i).length := by
    unfold posL; rw [filter_pad (q := fun x => decide (0 < cA x i)) (fun x hx => by rw [ci_pad (hc x hx)])]
    unfold padAll; rw [List.length_map]; rfl
  have hneg : (negL (padAll l) i).length = (dnA l i).length := by
    unfold negL; rw [filter_pad (q := fun x => decide (cA x i < 0)) (fun x hx => by rw [ci_pad (hc x hx)])]
    unfold padAll; rw [List.length_map]; rfl
  have hpm : ∀ p, p ∈ prA (upA l i) (dnA l i) → p.1.a.length = n ∧ p.2.a.length = n := fun p hp => by
    obtain ⟨x, hx, hp⟩ := List.mem_flatMap.1 hp
    obtain ⟨y, hy, rfl⟩ := List.mem_map.1 hp
    exact ⟨hl _ (List.mem_filter.1 hx).1, hl _ (List.mem_filter.1 hy).1⟩
  have hall : (PL (padAll l) i).all (fun p => okL (sumL i p)) = (prA (upA l i) (dnA l i)).all (fun p => (sumP i p.1 p.2).fits ((n : Int) - 1)) := by
    rw [pairs_pad hn hl, List.all_map]
    apply Bool.eq_iff_iff.2
    rw [List.all_eq_true, List.all_eq_true]
    have e : ∀ p, p ∈ prA (upA l i) (dnA l i) → ((fun p => okL (sumL i p)) ∘ fun p : AL × AL => (padL p.1, padL p.2)) p = (sumP i p.1 p.2).fits ((n : Int) - 1) := fun p hp => by
      obtain ⟨h1, h2⟩ := hpm p hp
      have hs := sumP_lenn (y := p.2) h1 hi
      rw [fits_pad (by omega) (by omega), sum_pad h1 h2 hn hi]; rfl
    constructor
    · intro h p hp; rw [← e p hp]; exact h p hp
    · intro h p hp; rw [e p hp]; exact h p hp
  have hmap : (PL (padAll l) i).map (sumL i) = padAll ((prA (upA l i) (dnA l i)).map (fun p => sumP i p.1 p.2)) := by
    rw [pairs_pad hn hl]
    unfold padAll
    rw [List.map_map, List.map_map]
    refine List.map_congr_left fun p hp => ?_
    obtain ⟨h1, h2⟩ := hpm p hp
    exact (sum_pad h1 h2 hn hi).symm
  have hol : (padAll (outA l i)).length = (outA l i).length := pad_len _
  unfold leaveA leaveL
  simp only
  rw [hout, hpos, hneg, hol, hall, hmap, sumU_eq]
  by_cases hb : 1000 < (outA l i).length + (upA l i).length * (dnA l i).length
  · rw [if_pos hb, if_pos hb]; exact ⟨rfl, rfl, by simp⟩
  · rw [if_neg hb, if_neg hb]
    by_cases ha : (prA (upA l i) (dnA l i)).all (fun p => (sumP i p.1 p.2).fits ((n : Int) - 1)) = true
    · rw [if_pos ha, if_pos ha]
      have hlen : ∀ x, x ∈ outA l i ++ (prA (upA l i) (dnA l i)).map (fun p => sumP i p.1 p.2) → x.a.length = n - 1 := fun x hx => by
        rcases List.mem_append.1 hx with hx | hx
        · obtain ⟨y, hy, rfl⟩ := List.mem_map.1 hx
          exact short_lenA (hl y (List.mem_filter.1 hy).1) hi
        · obtain ⟨p, hp, rfl⟩ := List.mem_map.1 hx
          exact sumP_lenn (hpm p hp).1 hi
      obtain ⟨t1, t2⟩ := tidy_pad (n := n - 1) (by omega) hlen
      refine ⟨?_, rfl, t2⟩
      show padAll (tidyA (n - 1) _) = _
      rw [t1]
      congr 1
      unfold padAll; rw [List.map_append]
    · rw [if_neg ha, if_neg ha]; exact ⟨rfl, rfl, by simp [leaveR]⟩
theorem tell_padAll {n : Nat} (hn : n ≤ 6) {l : List AL} (hl : ∀ x, x ∈ l → x.a.length = n) : (padAll l).map (tellA n) = l := by
  unfold padAll
  rw [List.map_map]
  conv => rhs; rw [← List.map_id l]
  exact List.map_congr_left fun x hx => tell_pad (hl x hx) hn
theorem without_eq (n : Int) (l : List AL) (i : Int) : withoutM n l i = rwithoutM n l i := by
  unfold withoutM rwithoutM
  by_cases hc : checkM n l = 0
  · have hc2 : ¬ (checkM n l ≠ 0) := by simp [hc]
    rw [if_neg hc2, if_neg hc2]
    by_cases hi : i < 0 ∨ n ≤ i
    · rw [if_pos hi, if_pos hi]
    · rw [if_neg hi, if_neg hi]
      have hn := (check_fits hc).1
      obtain ⟨h1, h2, h3⟩ := leave_pad (n := n.toNat) (i := i.toNat) (by omega) (by omega) (check_lenA hc)
      rw [← h2, ← h1]
      by_cases he : (leaveA l n.toNat i.toNat).2 = 0
      · rw [if_neg (by simp [he])]
        have := tell_padAll (n := (n - 1).toNat) (by omega) (l := (leaveA l n.toNat i.toNat).1) (fun x hx => by rw [h3 x hx]; omega)
        rw [this, ← he]
      · rw [if_pos he]
        have : (leaveA l n.toNat i.toNat).1 = [] := by
          have e := leave_nil (padAll l) i.toNat (by rw [← h2]; exact he)
          rw [e] at h1
          exact List.map_eq_nil_iff.1 h1
        rw [← this]
  · rw [if_pos hc, if_pos hc]
end Go.Proofs.Ytalphoebmefgoaa
