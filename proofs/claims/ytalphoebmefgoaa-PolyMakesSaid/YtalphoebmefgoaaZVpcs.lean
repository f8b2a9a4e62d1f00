/- poly: Point and Minus in plain words: Point meets the lines; the pieces of Minus. -/
import Derived.Test.YtalphoebmefgoaaZVprj
import Derived.Test.YtalphoebmefgoaaG41
import Derived.Test.YtalphoebmefgoaaZRplain
namespace Go.Proofs.Ytalphoebmefgoaa
theorem lt_cmp {a b : Rt} (ha : rval a = true) (hb : rval b = true) (h : a.q < b.q) : rcmp a b = (-1, 0) := by rw [rcmp_q ha hb, if_pos h]
theorem cmp_lt {a b : Rt} (h : rcmp a b = (-1, 0)) : rval a = true ∧ rval b = true ∧ a.q < b.q := by
  obtain ⟨h1, h2, _⟩ := rcmp_lt h
  refine ⟨h1, h2, ?_⟩
  rcases cmp_q h1 h2 with q | q | q
  · exact q.2
  · rw [h] at q; exact absurd q.1 (by decide)
  · rw [h] at q; exact absurd q.1 (by decide)
/-- the value that Point takes lies between the ends -/
theorem chosen_q {M : En × En × Int} {c : Rt} (h1 : EnV M.1) (h2 : EnV M.2.1) (hne : ∃ t : Rat, loE t M.1 ∧ hiE t M.2.1) (h : chosenE M = (c, 0)) : rval c = true ∧ loE c.q M.1 ∧ hiE c.q M.2.1 := by
  obtain ⟨lo, hi, er⟩ := M
  obtain ⟨t, ht1, ht2⟩ := hne
  dsimp only at *
  unfold chosenE at h
  dsimp only at h
  unfold EnV at h1 h2
  unfold loE okLo at *
  unfold hiE okUp at *
  dsimp only at *
  split at h
  · rename_i h0; simp only [Prod.mk.injEq] at h; exact absurd h.2 h0
  · split at h
    · rename_i hc
      simp only [Bool.and_eq_true, Bool.not_eq_true'] at hc
      simp only [Prod.mk.injEq] at h
      obtain ⟨rfl, _⟩ := h
      refine ⟨h1 hc.1, fun _ => ?_, fun hh => ?_⟩
      · rw [hc.2]; simp
      · have q1 := ht1 hc.1
        have q2 := ht2 hh
        rw [hc.2] at q1
        simp at q1
        split at q2
        · rw [if_pos (by assumption)]; grind
        · rw [if_neg (by assumption)]; grind
    · rename_i hc0
      split at h
      · rename_i hc
        simp only [Bool.and_eq_true] at hc
        have q1 := ht1 hc.1
        have q2 := ht2 hc.2
        have ho : lo.op = true := by
          cases q : lo.op
          · rw [hc.1, q] at hc0; exact absurd rfl hc0
          · rfl
        rw [ho] at q1
        simp at q1
        have hlt : lo.at_.q < hi.at_.q := by split at q2 <;> grind
        rcases laws_mid (lt_cmp (h1 hc.1) (h2 hc.2) hlt) with e | ⟨a, e, e1, e2, _⟩
        · rw [e] at h; cases h
        · rw [e] at h
          simp only [Prod.mk.injEq] at h
          obtain ⟨rfl, _⟩ := h
          obtain ⟨_, r1, r2⟩ := cmp_lt e1
          obtain ⟨_, _, r3⟩ := cmp_lt e2
          refine ⟨r1, fun _ => ?_, fun _ => ?_⟩
          · split
            · exact r2
            · grind
          · split
            · exact r3
            · grind
      · rename_i hc1
        split at h
        · rename_i hl
          have ho : lo.op = true := by
            cases q : lo.op
            · rw [hl, q] at hc0; exact absurd rfl hc0
            · rfl
          have hh : hi.is = false := by
            cases q : hi.is
            · rfl
            · rw [hl, q] at hc1; exact absurd rfl hc1
          obtain ⟨o1, o2⟩ := one_val (c := 1) (by decide)
          obtain ⟨a1, a2⟩ := radd_ok (h1 hl) o1 (by rw [h])
          rw [h] at a1 a2
          dsimp only at a1 a2
          refine ⟨a1, fun _ => ?_, fun q => ?_⟩
          · rw [ho, a2, o2]; simp; grind
          · rw [hh] at q; cases q
        · rename_i hl
          split at h
          · rename_i hc
            simp only [Bool.and_eq_true] at hc
            obtain ⟨o1, o2⟩ := one_val (c := 1) (by decide)
            obtain ⟨a1, a2⟩ := rsub_ok (h2 hc.1) o1 (by rw [h])
            rw [h] at a1 a2
            dsimp only at a1 a2
            refine ⟨a1, fun q => absurd q hl, fun _ => ?_⟩
            rw [hc.2, a2, o2]; simp; grind
          · rename_i hc2
            split at h
            · rename_i hh
              simp only [Prod.mk.injEq] at h
              obtain ⟨rfl, _⟩ := h
              have ho : hi.op = false := by
                cases q : hi.op
                · rfl
                · rw [hh, q] at hc2; exact absurd rfl hc2
              refine ⟨h2 hh, fun q => absurd q hl, fun _ => ?_⟩
              rw [ho]; simp
            · rename_i hh
              simp only [Prod.mk.injEq] at h
              obtain ⟨rfl, _⟩ := h
              exact ⟨zero_val.1, fun q => absurd q hl, fun q => absurd q hh⟩
theorem ptX_snoc (p : List Rt) (c : Rt) : ptX (p ++ [c]) = insX (ptX p) p.length c.q := by
  funext k
  unfold ptX insX rtAt
  simp only [List.length_append, List.length_cons, List.length_nil]
  by_cases hk : k < p.length
  · rw [if_pos (by omega), if_pos hk, if_pos hk, List.getD_eq_getElem?_getD, List.getD_eq_getElem?_getD, List.getElem?_append_left hk]
  · rw [if_neg hk]
    by_cases hk2 : k = p.length
    · subst hk2
      rw [if_pos (by omega), if_pos rfl, List.getD_eq_getElem?_getD, List.getElem?_append_right (Nat.le_refl _), Nat.sub_self]
      rfl
    · rw [if_neg (by omega), if_neg hk2, if_neg (by omega)]
theorem down_all {n j : Nat} {T : List Ln} (hj : j ≤ n) (h : (downL 0 n T).2 = 0) : (downL j (n - j) T).2 = 0 := by
  apply Classical.byContradiction
  intro q
  induction j with
  | zero => rw [Nat.sub_zero] at q; exact q h
  | succ j ih =>
    have hu := down_up j (n - (j + 1)) T
    rw [if_neg q, show n - (j + 1) + 1 = n - j by omega] at hu
    exact ih (by omega) (by rw [hu]; exact q)
theorem pointG_met {n : Nat} {T : List Ln} (hn : n ≤ 5) (hin : ∀ x, x ∈ T → x.inr) (hd : (downL 0 n T).2 = 0) :
    ∀ (m i : Nat) (p q : List Rt), i + m = n → p.length = i → (∀ r, r ∈ p → rval r = true) → metAll (ptX p) (downL i (n - i) T).1 → pointG T n m i p = (q, 0) → q.length = n ∧ (∀ r, r ∈ q → rval r = true) ∧ metAll (ptX q) T
  | 0, i, p, q, hi, hl, hv, hm, h => by
    obtain rfl : i = n := by omega
    unfold pointG at h
    simp only [Prod.mk.injEq, and_true] at h
    subst h
    rw [Nat.sub_self] at hm
    exact ⟨hl, hv, hm⟩
  | m + 1, i, p, q, hi, hl, hv, hm, h => by
    have he : (downL i (n - i) T).2 = 0 := down_all (by omega) hd
    have he2 : (downL (i + 1) (n - (i + 1)) T).2 = 0 := down_all (by omega) hd
    have hu := down_up i (n - (i + 1)) T
    rw [if_pos he2, show n - (i + 1) + 1 = n - i by omega] at hu
    rw [hu] at hm he
    unfold pointG at h
    split at h
    · cases h
    · rename_i h0
      unfold pickE at h h0
      rw [Nat.sub_sub] at h h0
      have hDi := down_inr (i + 1) (n - (i + 1)) hin
      generalize hD : (downL (i + 1) (n - (i + 1)) T).1 = D at *
      subst hl
      obtain ⟨t, ht⟩ := leave_complete _ (by omega) he hm
      have hend : (endsM p D).2.2 = 0 := by
        apply Classical.byContradiction
        intro q2
        unfold chosenE at h0
        rw [if_pos q2] at h0
        exact h0 q2
      obtain ⟨e1, e2, e3⟩ := ends_q (by omega) hv hDi hend
      have hc := chosen_q (c := (chosenE (endsM p D)).1) e1 e2 ⟨t, (e3 t).2 (fun x hx _ => ht x hx)⟩ (by
        have h00 : (chosenE (endsM p D)).2 = 0 := by simpa using h0
        rw [← h00])
      have hw := (e3 _).1 hc.2
      refine pointG_met hn hin hd m (p.length + 1) _ q (by omega) (by simp) (fun r hr => ?_) ?_ h
      · rcases List.mem_append.1 hr with k | k
        · exact hv r k
        · rw [show r = (chosenE (endsM p D)).1 by simpa using k]; exact hc.1
      · rw [hD, ptX_snoc]
        intro x hx
        by_cases h0x : ci x p.length = 0
        · have := ht x hx
          unfold met at this ⊢
          rw [vl_at _ x (by omega), h0x] at this ⊢
          simpa using this
        · exact hw x hx h0x
/-- Point that succeeds meets the lines -/
theorem point_ok {n : Int} {l : List AL} {p : List Rt} (h : pointM n l = (p, 0)) : checkM n l = 0 ∧ metAll (ptX p) (padAll l) ∧ p.length = n.toNat ∧ ∀ r, r ∈ p → rval r = true := by
  unfold pointM at h
  split at h
  · rename_i h0; simp only [Prod.mk.injEq] at h; exact absurd h.2 h0
  · rename_i h0
    have hc : checkM n l = 0 := by simpa using h0
    have hn := (check_fits hc).1
    unfold pointT at h
    split at h
    · rename_i h1; simp only [Prod.mk.injEq] at h; exact absurd h.2 h1
    · rename_i h1
      split at h
      · cases h
      · rename_i h2
        have hd : (downL 0 n.toNat (tidyL (padAll l))).2 = 0 := by simpa using h1
        have hnil : (downL 0 n.toNat (tidyL (padAll l))).1 = [] := List.length_eq_zero_iff.1 (by omega)
        obtain ⟨h4, h5, h3⟩ := pointG_met (by omega) (tidy_inr (pad_inr hc)) hd n.toNat 0 [] p (by omega) rfl (by simp) (by rw [Nat.sub_zero, hnil]; intro x hx; cases hx) h
        exact ⟨hc, (met_tidy _ _).1 h3, h4, h5⟩
theorem point_has {n : Int} {l : List AL} {p : List Rt} {is : Bool} (h : pointM n l = (p, 0)) (hh : hasM n l p = (is, 0)) : is = true := by
  obtain ⟨_, _, _, h4⟩ := has_q (n := n) (l := l) (p := p) (by rw [hh])
  rw [hh] at h4
  exact h4.2 (point_ok h).2.1
theorem pointG_err (T : List Ln) (n : Nat) : ∀ (m i : Nat) (p : List Rt), (pointG T n m i p).2 = 0 ∨ pointG T n m i p = ([], 7)
  | 0, _, _ => .inl rfl
  | m + 1, i, p => by
    unfold pointG
    split
    · exact .inr rfl
    · exact pointG_err T n m _ _
theorem point_nil {n : Int} {l : List AL} (h : (pointM n l).2 ≠ 0) : (pointM n l).1 = [] := by
  unfold pointM pointT at h ⊢
  split
  · rfl
  · rename_i h0
    rw [if_neg h0] at h
    split
    · rfl
    · rename_i h1
      rw [if_neg h1] at h
      split
      · rfl
      · rename_i h2
        rw [if_neg h2] at h
        rcases pointG_err (tidyL (padAll l)) n.toNat n.toNat 0 [] with q | q
        · exact absurd q h
        · rw [q]
theorem point_none {n : Int} {l : List AL} {none_ : Bool} (h : EmptyM n l = (none_, 0)) : (pointM n l).2 = 4 ↔ none_ = true := by
  unfold EmptyM at h
  split at h
  · rename_i h0; simp only [Prod.mk.injEq] at h; exact absurd h.2 h0
  · rename_i h0
    unfold emptyL at h
    simp only [Prod.mk.injEq] at h
    obtain ⟨h1, h2⟩ := h
    unfold pointM pointT
    rw [if_neg h0, if_neg (by simp [h2])]
    by_cases h3 : 0 < (downL 0 n.toNat (tidyL (padAll l))).1.length
    · rw [if_pos h3]
      simp [h2, h3] at h1
      simp [h1]
    · rw [if_neg h3]
      simp [h2, h3] at h1
      rw [h1]
      rcases pointG_err (tidyL (padAll l)) n.toNat n.toNat 0 [] with q | q
      · rw [q]; simp
      · rw [q]; simp
/-- the pieces of Minus, one after the other -/
def minusF (n : Nat) : List Ln → List Ln → List (List Ln) → List (List Ln) × Int
  | _, [], out => (out, 0)
  | rest, x :: bs, out =>
    if 1000 ≤ rest.length then ([], 3) else if (emptyL n (tidyL (rest ++ [oppL x]))).2 ≠ 0 then ([], (emptyL n (tidyL (rest ++ [oppL x]))).2)
    else minusF n (rest ++ [x]) bs (if (emptyL n (tidyL (rest ++ [oppL x]))).1 then out else out ++ [tidyL (rest ++ [oppL x])])
def minusM (n : Int) (a b : List AL) : List (List AL) × Int :=
  if check2 n a b ≠ 0 then ([], check2 n a b) else ((minusF n.toNat (padAll a) (padAll b) []).1.map (fun l => l.map (tellA n.toNat)), (minusF n.toNat (padAll a) (padAll b) []).2)
theorem met_opp (X : Nat → Rat) (x : Ln) : met X (oppL x) ↔ ¬ met X x := by
  unfold met
  have hv : vl X (oppL x) = - vl X x := by simp [vl, oppL]; grind
  have hb : (((oppL x).b : Int) : Rat) = - (x.b : Rat) := by simp [oppL]
  rw [hv, hb]
  have hs : (oppL x).s = !x.s := rfl
  rw [hs]
  generalize vl X x = v
  generalize (x.b : Rat) = b
  cases x.s <;> simp <;> grind
theorem zb_opp {n : Nat} {x : Ln} (h : zb1 n x) : zb1 n (oppL x) := fun k hk => by
  have := h k hk
  by_cases hk6 : 6 ≤ k
  · exact ci_big _ hk6
  · have : k = 0 ∨ k = 1 ∨ k = 2 ∨ k = 3 ∨ k = 4 ∨ k = 5 := by omega
    rcases this with rfl | rfl | rfl | rfl | rfl | rfl <;> simp [ci, Ln.a, oppL] at * <;> assumption
theorem empty_no {n : Nat} {l : List Ln} (hn : n ≤ 6) (hz : zb n l) (he : (emptyL n (tidyL l)).2 = 0) : (emptyL n (tidyL l)).1 = true ↔ ¬ ∃ X, metAll X l := by
  unfold emptyL at he ⊢
  dsimp only at he ⊢
  have := empty_iff hn (zb_tidy hz) he
  simp only [he, decide_true, Bool.true_and, decide_eq_true_eq]
  rw [this]
  constructor
  · rintro h ⟨X, hX⟩; exact h ⟨X, (met_tidy X l).2 hX⟩
  · rintro h ⟨X, hX⟩; exact h ⟨X, (met_tidy X l).1 hX⟩
/-- how many lists a point meets -/
def cntX (B : List Ln → Bool) (l : List (List Ln)) : Nat := (l.filter B).length
theorem minus_cnt {n : Nat} (hn : n ≤ 6) (X : Nat → Rat) (B : List Ln → Bool) (hB : ∀ l, B l = true ↔ metAll X l) : ∀ (bs rest : List Ln) (out r : List (List Ln)), zb n rest → zb n bs → minusF n rest bs out = (r, 0) →
    (metAll X rest → ¬ metAll X bs → cntX B r = cntX B out + 1) ∧ (¬ (metAll X rest ∧ ¬ metAll X bs) → cntX B r = cntX B out)
  | [], rest, out, r, _, _, h => by
    unfold minusF at h
    simp only [Prod.mk.injEq, and_true] at h
    subst h
    exact ⟨fun _ q => absurd (fun x hx => by cases hx) q, fun _ => rfl⟩
  | x :: bs, rest, out, r, hz, hzb, h => by
    unfold minusF at h
    split at h
    · cases h
    · split at h
      · rename_i h1; simp only [Prod.mk.injEq] at h; exact absurd h.2 h1
      · rename_i h1
        have he : (emptyL n (tidyL (rest ++ [oppL x]))).2 = 0 := by simpa using h1
        have hzx : zb1 n x := hzb x (List.mem_cons_self ..)
        have hz1 : zb n (rest ++ [oppL x]) := fun y hy => by
          rcases List.mem_append.1 hy with q | q
          · exact hz y q
          · rw [show y = oppL x by simpa using q]; exact zb_opp hzx
        have hz2 : zb n (rest ++ [x]) := fun y hy => by
          rcases List.mem_append.1 hy with q | q
          · exact hz y q
          · rw [show y = x by simpa using q]; exact hzx
        obtain ⟨i1, i2⟩ := minus_cnt hn X B hB bs (rest ++ [x]) _ r hz2 (fun y hy => hzb y (List.mem_cons_of_mem _ hy)) h
        have hem := empty_no hn hz1 he
        have hP : metAll X (tidyL (rest ++ [oppL x])) ↔ metAll X rest ∧ ¬ met X x := by
          rw [met_tidy]
          constructor
          · intro q
            exact ⟨fun y hy => q y (List.mem_append_left _ hy), (met_opp X x).1 (q _ (by simp))⟩
          · rintro ⟨q1, q2⟩ y hy
            rcases List.mem_append.1 hy with q | q
            · exact q1 y q
            · rw [show y = oppL x by simpa using q]; exact (met_opp X x).2 q2
        have hR : metAll X (rest ++ [x]) ↔ metAll X rest ∧ met X x := by
          constructor
          · intro q
            exact ⟨fun y hy => q y (List.mem_append_left _ hy), q _ (by simp)⟩
          · rintro ⟨q1, q2⟩ y hy
            rcases List.mem_append.1 hy with q | q
            · exact q1 y q
            · rw [show y = x by simpa using q]; exact q2
        have hC : metAll X (x :: bs) ↔ met X x ∧ metAll X bs := by
          constructor
          · intro q
            exact ⟨q x (List.mem_cons_self ..), fun y hy => q y (List.mem_cons_of_mem _ hy)⟩
          · rintro ⟨q1, q2⟩ y hy
            rcases List.mem_cons.1 hy with rfl | q
            · exact q1
            · exact q2 y q
        -- the count with the piece, if it is kept
        have hcnt : cntX B (if (emptyL n (tidyL (rest ++ [oppL x]))).1 then out else out ++ [tidyL (rest ++ [oppL x])]) = cntX B out + (if B (tidyL (rest ++ [oppL x])) then 1 else 0) := by
          split
          · rename_i q
            have : ¬ metAll X (tidyL (rest ++ [oppL x])) := fun k => hem.1 q ⟨X, (met_tidy _ _).1 k⟩
            rw [if_neg (fun k => this ((hB _).1 k))]; rfl
          · unfold cntX
            rw [List.filter_append, List.length_append]
            congr 1
            by_cases hb : B (tidyL (rest ++ [oppL x])) = true
            · rw [List.filter_cons_of_pos hb, if_pos hb]; rfl
            · rw [List.filter_cons_of_neg hb, if_neg hb]; rfl
        rw [hcnt] at i1 i2
        by_cases hr : metAll X rest
        · by_cases hx : met X x
          · have hBf : B (tidyL (rest ++ [oppL x])) ≠ true := fun k => (hP.1 ((hB _).1 k)).2 hx
            rw [if_neg hBf] at i1 i2
            refine ⟨fun _ q => ?_, fun q => ?_⟩
            · exact i1 (hR.2 ⟨hr, hx⟩) (fun k => q (hC.2 ⟨hx, k⟩))
            · exact i2 (fun k => q ⟨hr, fun k2 => k.2 (hC.1 k2).2⟩)
          · have hBt : B (tidyL (rest ++ [oppL x])) = true := (hB _).2 (hP.2 ⟨hr, hx⟩)
            rw [if_pos hBt] at i2
            have := i2 (fun k => hx (hR.1 k.1).2)
            exact ⟨fun _ _ => this, fun q => absurd ⟨hr, fun k => hx (hC.1 k).1⟩ q⟩
        · have hBf : B (tidyL (rest ++ [oppL x])) ≠ true := fun k => hr (hP.1 ((hB _).1 k)).1
          rw [if_neg hBf] at i2
          refine ⟨fun q => absurd q hr, fun _ => i2 (fun k => hr (hR.1 k.1).1)⟩
theorem minusF_zb {n : Nat} : ∀ (bs rest : List Ln) (out : List (List Ln)), zb n rest → zb n bs → (∀ l, l ∈ out → zb n l) → ∀ l, l ∈ (minusF n rest bs out).1 → zb n l
  | [], _, out, _, _, ho => ho
  | x :: bs, rest, out, hz, hzb, ho => by
    have hzx : zb1 n x := hzb x (List.mem_cons_self ..)
    have hz1 : zb n (rest ++ [oppL x]) := fun y hy => by
      rcases List.mem_append.1 hy with q | q
      · exact hz y q
      · rw [show y = oppL x by simpa using q]; exact zb_opp hzx
    have hz2 : zb n (rest ++ [x]) := fun y hy => by
      rcases List.mem_append.1 hy with q | q
      · exact hz y q
      · rw [show y = x by simpa using q]; exact hzx
    unfold minusF
    split
    · intro l hl; cases hl
    · split
      · intro l hl; cases hl
      · refine minusF_zb bs _ _ hz2 (fun y hy => hzb y (List.mem_cons_of_mem _ hy)) (fun l hl => ?_)
        split at hl
        · exact ho l hl
        · rcases List.mem_append.1 hl with q | q
          · exact ho l q
          · rw [show l = tidyL (rest ++ [oppL x]) by simpa using q]; exact zb_tidy hz1
theorem pad_tell {n : Nat} {x : Ln} (hn : n ≤ 6) (h : zb1 n x) : padL (tellA n x) = x := by
  have hb : ∀ k, n ≤ k → x.a.getD k 0 = 0 := h
  obtain ⟨a0, a1, a2, a3, a4, a5, b, s⟩ := x
  have : n = 0 ∨ n = 1 ∨ n = 2 ∨ n = 3 ∨ n = 4 ∨ n = 5 ∨ n = 6 := by omega
  have h0 := hb 0
  have h1 := hb 1
  have h2 := hb 2
  have h3 := hb 3
  have h4 := hb 4
  have h5 := hb 5
  rcases this with rfl | rfl | rfl | rfl | rfl | rfl | rfl <;> simp_all [padL, tellA, Ln.a]
theorem pad_tellAll {n : Nat} {l : List Ln} (hn : n ≤ 6) (h : zb n l) : padAll (l.map (tellA n)) = l := by
  unfold padAll
  rw [List.map_map]
  conv => rhs; rw [← List.map_id l]
  exact List.map_congr_left (fun x hx => pad_tell hn (h x hx))
/-- a point is in just one of the pieces, if it is in the first set and not in the second, and else in none -/
theorem pieces_plain {n : Int} {a b : List AL} {L : List (List AL)} {p : List Rt} {in_ also : Bool} (h : minusM n a b = (L, 0)) (ha : hasM n a p = (in_, 0)) (hb : hasM n b p = (also, 0)) (hL : ∀ l, l ∈ L → (hasM n l p).2 = 0) :
    (L.filter (fun l => (hasM n l p).1)).length = if in_ && !also then 1 else 0 := by
  unfold minusM at h
  split at h
  · rename_i h0; simp only [Prod.mk.injEq] at h; exact absurd h.2 h0
  · rename_i h0
    simp only [Prod.mk.injEq] at h
    obtain ⟨hl, he⟩ := h
    obtain ⟨hca, a1, a2, a3⟩ := has_q (n := n) (l := a) (p := p) (by rw [ha])
    obtain ⟨hcb, b1, b2, b3⟩ := has_q (n := n) (l := b) (p := p) (by rw [hb])
    rw [ha] at a3
    rw [hb] at b3
    dsimp only at a3 b3
    have hn := (check_fits hca).1
    have za := zb_pad (n := n.toNat) (l := a) (by omega) (check_lenA hca)
    have zb' := zb_pad (n := n.toNat) (l := b) (by omega) (check_lenA hcb)
    have hzr := minusF_zb (n := n.toNat) (padAll b) (padAll a) [] za zb' (by simp)
    obtain ⟨r, hr⟩ : ∃ r, minusF n.toNat (padAll a) (padAll b) [] = (r, 0) := ⟨_, by rw [← he]⟩
    rw [hr] at hl hzr
    dsimp only at hl hzr
    let B : List Ln → Bool := fun l => @decide (metAll (ptX p) l) (Classical.propDecidable _)
    have hBs : ∀ l, B l = true ↔ metAll (ptX p) l := fun l => @decide_eq_true_iff _ (Classical.propDecidable _)
    obtain ⟨c1, c2⟩ := minus_cnt (n := n.toNat) (by omega) (ptX p) B hBs (padAll b) (padAll a) [] r za zb' hr
    have hcc : (L.filter (fun l => (hasM n l p).1)).length = cntX B r := by
      subst hl
      unfold cntX
      rw [List.filter_map, List.length_map]
      congr 1
      refine List.filter_congr (fun l hlm => ?_)
      obtain ⟨_, _, _, q⟩ := has_q (n := n) (l := l.map (tellA n.toNat)) (p := p) (hL _ (List.mem_map_of_mem hlm))
      rw [pad_tellAll (by omega) (hzr l hlm)] at q
      show (hasM n (l.map (tellA n.toNat)) p).1 = B l
      exact Bool.eq_iff_iff.2 (q.trans (hBs l).symm)
    rw [hcc]
    cases in_
    · simp only [Bool.false_and]
      exact c2 (fun k => by have := a3.2 k.1; cases this)
    · cases also
      · exact c1 (a3.1 rfl) (fun k => by have := b3.2 k; cases this)
      · exact c2 (fun k => k.2 (b3.1 rfl))
theorem rval_wf {r : Rt} (h : rval r = true) : r.wf := by
  unfold rval absU at h
  simp only [Bool.and_eq_true, decide_eq_true_eq] at h
  obtain ⟨⟨⟨h1, h2⟩, h3⟩, _⟩ := h
  refine ⟨?_, ?_⟩ <;> unfold i64 <;> (try split at h3) <;> omega
theorem minusF_len {n : Nat} : ∀ (bs rest : List Ln) (out : List (List Ln)), (∀ l, l ∈ out → l.length ≤ 1000) → ∀ l, l ∈ (minusF n rest bs out).1 → l.length ≤ 1000
  | [], rest, out, ho => ho
  | x :: bs, rest, out, ho => by
    unfold minusF
    split
    · intro l hl; cases hl
    · rename_i hr
      split
      · intro l hl; cases hl
      · refine minusF_len bs _ _ (fun l hl => ?_)
        split at hl
        · exact ho l hl
        · rcases List.mem_append.1 hl with q | q
          · exact ho l q
          · rw [show l = tidyL (rest ++ [oppL x]) by simpa using q]
            have := tidy_len (rest ++ [oppL x])
            simp at this
            omega
theorem minusF_cnt {n : Nat} : ∀ (bs rest : List Ln) (out : List (List Ln)), (minusF n rest bs out).1.length ≤ out.length + bs.length
  | [], rest, out => by simp [minusF]
  | x :: bs, rest, out => by
    unfold minusF
    split
    · exact Nat.zero_le _
    · split
      · exact Nat.zero_le _
      · refine Nat.le_trans (minusF_cnt bs _ _) ?_
        split <;> simp <;> omega
theorem minusM_cnt {n : Int} {a b : List AL} : (minusM n a b).1.length ≤ 1000 := by
  unfold minusM
  split
  · exact Nat.zero_le _
  · rename_i h
    have hc : check2 n a b = 0 := by simpa using h
    have hb : checkM n b = 0 := by
      unfold check2 at hc
      by_cases ha : checkM n a = 0
      · rw [if_neg (by simp [ha])] at hc; exact hc
      · rw [if_pos ha] at hc; exact absurd hc ha
    have := minusF_cnt (n := n.toNat) (padAll b) (padAll a) []
    have h1 := (check_fits hb).2.1
    have h2 := pad_len b
    rw [List.length_map]
    simp at this
    omega
theorem minusM_len {n : Int} {a b : List AL} : ∀ l, l ∈ (minusM n a b).1 → l.length ≤ 1000 ∧ ∀ x, x ∈ l → x.a.length ≤ 6 := by
  unfold minusM
  split
  · intro l hl; cases hl
  · intro l hl
    obtain ⟨k, hk, rfl⟩ := List.mem_map.1 hl
    refine ⟨by rw [List.length_map]; exact minusF_len _ _ [] (by simp) k hk, fun x hx => ?_⟩
    obtain ⟨y, _, rfl⟩ := List.mem_map.1 hx
    show (y.a.take _).length ≤ 6
    rw [List.length_take]
    have : y.a.length = 6 := rfl
    omega
end Go.Proofs.Ytalphoebmefgoaa
