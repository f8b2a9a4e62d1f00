import Derived.Test.YtbncnadjlppknaaSdem
import Derived.Test.YtbncnadjlppknaaSfix
import Derived.Test.YtbncnadjlppknaaSleast
/- response: the plain law of ResponseLess. -/
namespace Go.Proofs.Ytbncnadjlppknaa
open Go.RowKit
/-- the task set with other priorities and costs -/
def mk (l : List Tsk) (f g : Nat → Int) : List Tsk := (List.range l.length).map fun k => { tskAt l k with prio := f k, cost := g k }
theorem mk_len (l : List Tsk) (f g : Nat → Int) : (mk l f g).length = l.length := by simp [mk]
theorem mk_at {l : List Tsk} (f g : Nat → Int) {k : Nat} (h : k < l.length) : tskAt (mk l f g) k = { tskAt l k with prio := f k, cost := g k } := by simp [mk, tskAt, List.getD, h]
theorem tskAt_ext {a b : List Tsk} (h : a.length = b.length) (he : ∀ k, k < a.length → tskAt a k = tskAt b k) : a = b := by
  apply List.ext_getElem h
  intro k h1 h2
  have := he k h1
  simpa [tskAt, List.getD, h1, h2] using this
theorem mk_self (l : List Tsk) : mk l (fun k => (tskAt l k).prio) (fun k => (tskAt l k).cost) = l :=
  tskAt_ext (mk_len _ _ _) fun k hk => by rw [mk_len] at hk; rw [mk_at _ _ hk]
theorem mk_congr {l : List Tsk} {f f' g g' : Nat → Int} (h1 : ∀ k, k < l.length → f k = f' k) (h2 : ∀ k, k < l.length → g k = g' k) : mk l f g = mk l f' g' :=
  tskAt_ext (by rw [mk_len, mk_len]) fun k hk => by rw [mk_len] at hk; rw [mk_at _ _ hk, mk_at _ _ hk, h1 k hk, h2 k hk]
theorem twinAny_iff {t : Tsk} : ∀ {L : List Tsk}, twinAny t L = false ↔ ∀ o ∈ L, twin t o = false
  | [] => by simp [twinAny]
  | o :: os => by
    cases h : twin t o
    · simp [twinAny, h, twinAny_iff (L := os)]
    · simp [twinAny, h]
theorem rchkT_iff : ∀ (ts pre : List Tsk), rchkT pre ts = 0 ↔ ∀ k, k < ts.length → tskBad (tskAt ts k) = false ∧ rsecsOk (tskAt ts k) = true ∧ twinAny (tskAt ts k) (pre ++ ts.take k) = false
  | [], pre => by simp [rchkT]
  | t :: ts, pre => by
    have ih := rchkT_iff ts (pre ++ [t])
    constructor
    · intro h
      unfold rchkT at h
      cases hb : tskBad t <;> cases hs : rsecsOk t <;> simp [hb, hs] at h
      cases hw : twinAny t pre <;> simp [hw] at h
      intro k hk
      cases k with
      | zero => exact ⟨hb, hs, by rw [List.take_zero, List.append_nil]; exact hw⟩
      | succ k =>
        have := ih.mp h k (by simpa using hk)
        simpa [tskAt] using this
    · intro h
      have h0 := h 0 (by simp)
      simp only [tskAt, List.getD_cons_zero, List.take_zero, List.append_nil] at h0
      unfold rchkT
      rw [h0.1, h0.2.1, h0.2.2]
      simp only [Bool.not_true, Bool.or_self, Bool.false_eq_true, if_false]
      exact ih.mpr fun k hk => by
        have := h (k + 1) (by simpa using hk)
        simpa [tskAt] using this
theorem manySecs_iff : ∀ {L : List Tsk}, manySecs L = false ↔ ∀ o ∈ L, o.secs.length ≤ 4
  | [] => by simp [manySecs]
  | o :: os => by
    by_cases h : 4 < o.secs.length
    · constructor
      · intro hh; simp [manySecs, h] at hh
      · intro hh; have := hh o (by simp); omega
    · rw [manySecs, if_neg h, manySecs_iff]
      constructor
      · intro hh x hx
        rcases List.mem_cons.mp hx with rfl | hx
        · omega
        · exact hh x hx
      · exact fun hh x hx => hh x (by simp [hx])
theorem rchk_iff {l : List Tsk} : rchk l = 0 ↔ l.length ≤ 8 ∧ manySecs l = false ∧ 0 < l.length ∧ rchkT [] l = 0 := by
  unfold rchk
  by_cases h8 : 8 < l.length
  · rw [if_pos h8]; constructor
    · intro h; cases h
    · intro h; omega
  · rw [if_neg h8]
    cases hm : manySecs l
    · by_cases h0 : l.length = 0
      · simp only [Bool.false_eq_true, if_false, if_pos h0]
        constructor
        · intro h; cases h
        · intro h; omega
      · simp only [Bool.false_eq_true, if_false, if_neg h0]
        exact ⟨fun h => ⟨by omega, by trivial, by omega, h⟩, fun h => h.2.2.2⟩
    · simp
theorem nosec {l : List Tsk} (h : secsB l = false) {t : Tsk} (ht : t ∈ l) : t.secs = [] := by
  have := List.any_eq_false.mp h t ht
  simpa using this
theorem tsk_in {l : List Tsk} {k : Nat} (h : k < l.length) : tskAt l k ∈ l := by simp [tskAt, List.getD, h]
theorem tsk_ex {l : List Tsk} {t : Tsk} (h : t ∈ l) : ∃ k, k < l.length ∧ tskAt l k = t := by
  obtain ⟨k, hk, rfl⟩ := List.mem_iff_getElem.mp h
  exact ⟨k, hk, by simp [tskAt, List.getD, hk]⟩
theorem prio_ne {l : List Tsk} (h : rchk l = 0) {a b : Nat} (hb : b < l.length) (hab : a < b) : (tskAt l a).prio ≠ (tskAt l b).prio ∧ ((tskAt l a).name.toList == (tskAt l b).name.toList) = false := by
  obtain ⟨_, _, h3⟩ := (rchkT_iff l []).mp (rchk_iff.mp h).2.2.2 b hb
  have := twinAny_iff.mp h3 (tskAt l a) (by
    simp only [List.nil_append]
    have ha : a < l.length := by omega
    have : tskAt l a = (l.take b)[a]'(by simp; omega) := by simp [tskAt, List.getD, ha]
    rw [this]; exact List.getElem_mem _)
  simp only [twin, Bool.or_eq_false_iff] at this
  exact ⟨by simpa using this.2, this.1⟩
theorem prio_ge {l : List Tsk} (h : rchk l = 0) {a : Nat} (ha : a < l.length) : 1 ≤ (tskAt l a).prio := (tskBad_false.1 ((rchk_ok h).2 a ha).1).2.2.1
/-- other priorities and costs leave a valid task set valid -/
theorem mk_chk {l : List Tsk} (h : rchk l = 0) (hs : secsB l = false) {f g : Nat → Int} (h1 : ∀ k, k < l.length → 1 ≤ f k) (h2 : ∀ a b, b < l.length → a < b → f a ≠ f b)
    (h3 : ∀ k, k < l.length → 1 ≤ g k ∧ g k ≤ (tskAt l k).dl) : rchk (mk l f g) = 0 := by
  obtain ⟨e1, e2, e3, e4⟩ := rchk_iff.mp h
  refine rchk_iff.mpr ⟨by rw [mk_len]; exact e1, manySecs_iff.mpr fun o ho => ?_, by rw [mk_len]; exact e3, (rchkT_iff _ _).mpr fun k hk => ?_⟩
  · obtain ⟨k, hk, rfl⟩ := tsk_ex ho
    rw [mk_len] at hk
    rw [mk_at _ _ hk]
    show (tskAt l k).secs.length ≤ 4
    rw [nosec hs (tsk_in hk)]; simp
  · rw [mk_len] at hk
    obtain ⟨b1, b2, b3⟩ := (rchkT_iff l []).mp e4 k hk
    have b := tskBad_false.1 b1
    rw [mk_at _ _ hk]
    refine ⟨tskBad_false.2 ⟨b.1, b.2.1, h1 k hk, b.2.2.2.1, b.2.2.2.2.1, b.2.2.2.2.2.1, b.2.2.2.2.2.2.1, b.2.2.2.2.2.2.2.1, b.2.2.2.2.2.2.2.2.1, (h3 k hk).1, (h3 k hk).2⟩, ?_, ?_⟩
    · show (okAll (g k) (tskAt l k).secs && noClash [] (tskAt l k).secs) = true
      rw [nosec hs (tsk_in hk)]; rfl
    · rw [List.nil_append]
      refine twinAny_iff.mpr fun o ho => ?_
      obtain ⟨a, ha, rfl⟩ := List.mem_iff_getElem.mp ho
      simp only [List.length_take, mk_len] at ha
      have ha2 : a < k := by omega
      have e : (List.take k (mk l f g))[a] = tskAt (mk l f g) a := by simp [tskAt, List.getD, mk_len, show a < l.length by omega]
      rw [e, mk_at _ _ (by omega)]
      simp only [twin, Bool.or_eq_false_iff]
      exact ⟨(prio_ne h hk ha2).2, by simpa using h2 a k hk ha2⟩
theorem mk_secs {l : List Tsk} (hs : secsB l = false) (f g : Nat → Int) : secsB (mk l f g) = false := by
  rw [secsB, List.any_eq_false]
  intro t ht
  obtain ⟨k, hk, rfl⟩ := tsk_ex ht
  rw [mk_len] at hk
  rw [mk_at _ _ hk, nosec hs (tsk_in hk)]
  simp
theorem blkT_nosec (l : List Tsk) (p : Int) : ∀ (ts : List Tsk) (m : Int), (∀ t ∈ ts, t.secs = []) → blkT l p ts m = m
  | [], m, _ => rfl
  | t :: ts, m, h => by
    have h0 := h t (by simp)
    simp only [blkT, h0, blkS]
    exact blkT_nosec l p ts m fun x hx => h x (by simp [hx])
theorem blocks_nosec {l : List Tsk} (hs : secsB l = false) (k : Nat) : (blocks l).getD k 0 = 0 := by
  by_cases hk : k < l.length
  · have e : (blocks l).getD k 0 = blkT l (tskAt l k).prio l 0 := by simp [blocks, List.getD, hk, tskAt]
    rw [e]; exact blkT_nosec l _ l 0 fun t ht => nosec hs ht
  · simp [blocks, List.getD, hk]
/-! a lesser function has a lesser first fixed point -/
theorem fix_less {f g : Int → Int} {n : Nat} {R : Int} (hg : ∀ a b, 1 ≤ a → a ≤ b → g a ≤ g b) (hle : ∀ r, 1 ≤ r → g r ≤ f r) (h1 : 1 ≤ g 1) (hR : 1 ≤ R) (hn : R ≤ n) (hf : f R = R) :
    fixN g n 1 ≠ 0 ∧ fixN g n 1 ≤ R := by
  have key : ∀ (k : Nat) (r : Int), 1 ≤ r → r + k = R → r ≤ g r → ∀ m : Nat, r + m = 1 + n → fixN g m r ≠ 0 ∧ fixN g m r ≤ R := by
    intro k
    induction k with
    | zero =>
      intro r hr hk hge m hm
      have : r = R := by omega
      subst this
      have e : g r = r := by have := hle r hr; omega
      obtain ⟨m, rfl⟩ : ∃ q, m = q + 1 := ⟨m - 1, by omega⟩
      rw [fixN_t e]; exact ⟨by omega, by omega⟩
    | succ k ih =>
      intro r hr hk hge m hm
      obtain ⟨m, rfl⟩ : ∃ q, m = q + 1 := ⟨m - 1, by omega⟩
      by_cases e : g r = r
      · rw [fixN_t e]; exact ⟨by omega, by omega⟩
      · rw [fixN_f e]
        exact ih (r + 1) (by omega) (by omega) (by have := hg r (r + 1) hr (by omega); omega) m (by omega)
  exact key (R - 1).toNat 1 (by omega) (by omega) h1 n (by omega)
/-- as another task set, but that jobs need less -/
def LessL : List Tsk → List Tsk → Prop
  | [], [] => True
  | x :: xs, y :: ys => (x.per = y.per ∧ x.prio = y.prio ∧ x.dl = y.dl ∧ x.cost ≤ y.cost) ∧ LessL xs ys
  | _, _ => False
theorem lessL_of : ∀ (a b : List Tsk), a.length = b.length → (∀ k, k < a.length → (tskAt a k).per = (tskAt b k).per ∧ (tskAt a k).prio = (tskAt b k).prio ∧ (tskAt a k).dl = (tskAt b k).dl ∧ (tskAt a k).cost ≤ (tskAt b k).cost) → LessL a b
  | [], [], _, _ => trivial
  | [], _ :: _, h, _ => by simp at h
  | _ :: _, [], h, _ => by simp at h
  | x :: xs, y :: ys, h, hk => ⟨hk 0 (by simp), lessL_of xs ys (by simpa using h) fun k h1 => hk (k + 1) (by simpa using h1)⟩
theorem sumB_less {p r : Int} (hr : 1 ≤ r) : ∀ (a b : List Tsk) (s u : Int), LessL a b → (∀ t ∈ b, TOk t) → s ≤ u → sumB (aboveB p) r s a ≤ sumB (aboveB p) r u b
  | [], [], s, u, _, _, h => h
  | [], _ :: _, _, _, h, _, _ => h.elim
  | _ :: _, [], _, _, h, _, _ => h.elim
  | x :: xs, y :: ys, s, u, ⟨⟨h1, h2, _, h4⟩, hl⟩, ht, h => by
    have hy := ht y (by simp)
    have hj := (jobs_bd (p := y.per) hr hy.p1).1
    have hm : jobsF r x.per * x.cost ≤ jobsF r y.per * y.cost := by rw [h1]; exact Int.mul_le_mul_of_nonneg_left h4 (by omega)
    have hab : aboveB p x = aboveB p y := by unfold aboveB; rw [h2]
    simp only [sumB]
    rw [hab]
    refine sumB_less hr xs ys _ _ hl (fun t hx => ht t (by simp [hx])) ?_
    by_cases hc : aboveB p y = true
    · rw [if_pos hc, if_pos hc]; omega
    · rw [if_neg hc, if_neg hc]; exact h
theorem busyF_less {r : Int} (hr : 1 ≤ r) : ∀ (a b : List Tsk) (s u : Int), LessL a b → (∀ t ∈ b, TOk t) → s ≤ u → sumB (fun _ => true) r s a ≤ sumB (fun _ => true) r u b
  | [], [], s, u, _, _, h => h
  | [], _ :: _, _, _, h, _, _ => h.elim
  | _ :: _, [], _, _, h, _, _ => h.elim
  | x :: xs, y :: ys, s, u, ⟨⟨h1, h2, _, h4⟩, hl⟩, ht, h => by
    have hy := ht y (by simp)
    have hj := (jobs_bd (p := y.per) hr hy.p1).1
    have hm : jobsF r x.per * x.cost ≤ jobsF r y.per * y.cost := by rw [h1]; exact Int.mul_le_mul_of_nonneg_left h4 (by omega)
    simp only [sumB, if_true]
    exact busyF_less hr xs ys _ _ hl (fun t hx => ht t (by simp [hx])) (by omega)
theorem dem_less {t : Int} (h0 : 0 ≤ t) (h1 : t ≤ 20000) : ∀ (a b : List Tsk) (s u : Int), LessL a b → (∀ t ∈ b, TOk t) → s ≤ u → demL t s a ≤ demL t u b
  | [], [], s, u, _, _, h => h
  | [], _ :: _, _, _, h, _, _ => h.elim
  | _ :: _, [], _, _, h, _, _ => h.elim
  | x :: xs, y :: ys, s, u, ⟨⟨e1, e2, e3, e4⟩, hl⟩, ht, h => by
    have hy := ht y (by simp)
    have hc := (cnt_bd hy h0 h1).1
    have e : cntU x t = cntU y t := by unfold cntU; rw [e1, e3]
    have hm : cntU x t * x.cost ≤ cntU y t * y.cost := by rw [e]; exact Int.mul_le_mul_of_nonneg_left e4 hc
    simp only [demL]
    exact dem_less h0 h1 xs ys _ _ hl (fun t hx => ht t (by simp [hx])) (by omega)
theorem due_less (t : Int) : ∀ (a b : List Tsk), LessL a b → dueB a t = dueB b t
  | [], [], _ => rfl
  | [], _ :: _, h => h.elim
  | _ :: _, [], h => h.elim
  | x :: xs, y :: ys, ⟨⟨e1, e2, e3, e4⟩, hl⟩ => by
    have ih := due_less t xs ys hl
    simp only [dueB, List.any_cons] at ih ⊢
    rw [ih]
    have : dueT t x = dueT t y := by unfold dueT; rw [e1, e3]
    rw [this]
theorem resp_less {l a : List Tsk} (h : rchk l = 0) (ha : rchk a = 0) (hs : secsB l = false) (hsa : secsB a = false) (hl : LessL a l) (hlen : a.length = l.length) {k : Nat} (hk : k < l.length)
    (hat : (tskAt a k).prio = (tskAt l k).prio ∧ (tskAt a k).dl = (tskAt l k).dl ∧ (tskAt a k).cost ≤ (tskAt l k).cost) (h0 : 0 ≤ respM l (blocks l) k) :
    0 ≤ respM a (blocks a) k ∧ respM a (blocks a) k ≤ respM l (blocks l) k := by
  have hT := toks_of h
  have hTa := toks_of ha
  have hka := hTa _ (tsk_in (l := a) (k := k) (by omega))
  unfold respM at h0 ⊢
  rw [blocks_nosec hs, blocks_nosec hsa, hat.1, hat.2.1] at *
  simp only [Int.add_zero] at *
  rcases fixN_bd (f := respF l (tskAt l k).cost (tskAt l k).prio) (tskAt l k).dl.toNat 1 (by omega) with e | ⟨e1, e2, e3⟩
  · rw [if_pos e] at h0; omega
  · obtain ⟨g1, g2⟩ := fix_less (n := (tskAt l k).dl.toNat) (respF_mono (l := a) (c := (tskAt a k).cost) (p := (tskAt l k).prio) hTa) (fun r hr => sumB_less hr a l _ _ hl hT hat.2.2) (respF_one hTa hka.c1) e1 (by omega) e3
    rw [if_neg g1, if_neg (by omega)]
    refine ⟨?_, g2⟩
    rcases fixN_bd (f := respF a (tskAt a k).cost (tskAt l k).prio) (tskAt l k).dl.toNat 1 (by omega) with e | ⟨q1, _, _⟩ <;> omega
theorem first_none {g : Int → Bool} : ∀ (n : Nat) (t : Int), 1 ≤ t → firstN g n t = 0 → ∀ v, t ≤ v → v < t + n → g v = false
  | 0, t, _, _, v, h1, h2 => by omega
  | n + 1, t, ht, h, v, h1, h2 => by
    cases e : g t
    · rw [firstN_f e] at h
      by_cases hv : v = t
      · subst hv; exact e
      · exact first_none n (t + 1) (by omega) h v (by omega) (by omega)
    · rw [firstN_t e] at h; omega
theorem first_zero {g : Int → Bool} : ∀ (n : Nat) (t : Int), (∀ v, t ≤ v → v < t + n → g v = false) → firstN g n t = 0
  | 0, t, _ => rfl
  | n + 1, t, h => by
    rw [firstN_f (h t (by omega) (by omega))]
    exact first_zero n (t + 1) fun v h1 h2 => h v (by omega) (by omega)
theorem demand_less {l a : List Tsk} (h : rchk l = 0) (ha : rchk a = 0) (hs : secsB l = false) (hsa : secsB a = false) (hl : LessL a l) (hd : (demandM l).1 = true) : demandM a = (true, 0, 0) := by
  have hT := toks_of h
  have hTa := toks_of ha
  have h1 : dmM l = 0 := by
    by_cases e : dmM l = 0
    · exact e
    · unfold demandM at hd; rw [if_pos h, hs] at hd; simp [e] at hd
  have h2 : busyM l ≠ 0 := by
    intro e
    unfold demandM at hd; rw [if_pos h, hs] at hd; simp [e, h1] at hd
  have hb := busyM_bd l
  have hpa : 0 < a.length := (rchk_iff.mp ha).2.2.1
  have hfx : busyF l (busyM l) = busyM l := by
    rcases fixN_bd (f := busyF l) 20000 1 (by omega) with e | ⟨_, _, e3⟩
    · exact absurd e h2
    · exact e3
  obtain ⟨g1, g2⟩ := fix_less (n := 20000) (busyF_mono hTa) (fun r hr => busyF_less hr a l 0 0 hl hT (Int.le_refl _)) (busyF_one hTa hpa) (R := busyM l) (by omega) (by omega) hfx
  have g3 : busyM a ≠ 0 := g1
  have g4 : busyM a ≤ busyM l := g2
  have hba := busyM_bd a
  have h3 : dmM a = 0 := by
    unfold dmM lastM
    rw [if_neg g3]
    refine first_zero _ 1 fun v v1 v2 => ?_
    unfold dmM lastM at h1
    rw [if_neg h2] at h1
    have hv := first_none _ 1 (by omega) h1 v v1 (by omega)
    unfold badB at hv ⊢
    rw [due_less v a l hl]
    cases hdu : dueB l v
    · rfl
    · rw [hdu] at hv
      simp only [Bool.true_and, decide_eq_false_iff_not] at hv ⊢
      have := dem_less (t := v) (by omega) (by omega) a l 0 0 hl hT (Int.le_refl _)
      omega
  unfold demandM
  rw [if_pos ha, hsa]
  simp [h3, g3]
/-! the highest priority -/
def maxF : Int → List Tsk → Int
  | m, [] => m
  | m, x :: xs => maxF (if m < x.prio then x.prio else m) xs
theorem maxF_ge : ∀ (xs : List Tsk) (m : Int), m ≤ maxF m xs ∧ ∀ x ∈ xs, x.prio ≤ maxF m xs
  | [], m => ⟨Int.le_refl _, fun x h => by simp at h⟩
  | x :: xs, m => by
    obtain ⟨a, b⟩ := maxF_ge xs (if m < x.prio then x.prio else m)
    simp only [maxF]
    refine ⟨by split at a <;> split <;> omega, fun y hy => ?_⟩
    rcases List.mem_cons.mp hy with rfl | hy
    · split at a <;> split <;> omega
    · exact b y hy
def blF (p : Int) : Int → List Tsk → Int
  | m, [] => m
  | m, x :: xs => blF p (if x.prio < p then (if m < x.prio then x.prio else m) else m) xs
theorem blF_pr {p : Int} : ∀ (xs : List Tsk) (m : Int), m < p → m ≤ blF p m xs ∧ blF p m xs < p ∧ ∀ x ∈ xs, x.prio < p → x.prio ≤ blF p m xs
  | [], m, h => ⟨Int.le_refl _, h, fun x hx => by simp at hx⟩
  | x :: xs, m, h => by
    obtain ⟨a, b, c⟩ := blF_pr (p := p) xs (if x.prio < p then (if m < x.prio then x.prio else m) else m) (by split <;> (try split) <;> omega)
    simp only [blF]
    refine ⟨?_, b, fun y hy hp => ?_⟩
    · refine Int.le_trans ?_ a; split <;> (try split) <;> omega
    · rcases List.mem_cons.mp hy with rfl | hy
      · refine Int.le_trans ?_ a; rw [if_pos hp]; split <;> omega
      · exact c y hy hp
def belowM (l : List Tsk) (p : Int) : Int := if blF p 0 l = 0 then p else blF p 0 l
/-- the priorities of 'high' -/
def hiP (l : List Tsk) (i k : Nat) : Int := if k = i then maxF (tskAt l i).prio l else if (tskAt l i).prio < (tskAt l k).prio then belowM l (tskAt l k).prio else (tskAt l k).prio
theorem below_pr {l : List Tsk} (h : rchk l = 0) {i : Nat} (hi : i < l.length) {p : Int} (hp : (tskAt l i).prio < p) :
    (tskAt l i).prio ≤ belowM l p ∧ belowM l p < p ∧ ∀ k, k < l.length → (tskAt l k).prio < p → (tskAt l k).prio ≤ belowM l p := by
  have h1 := prio_ge h hi
  obtain ⟨a, b, c⟩ := blF_pr (p := p) l 0 (by omega)
  have hii := c _ (tsk_in hi) hp
  unfold belowM
  rw [if_neg (by omega)]
  exact ⟨hii, b, fun k hk => c _ (tsk_in hk)⟩
theorem hiP_ok {l : List Tsk} (h : rchk l = 0) {i : Nat} (hi : i < l.length) :
    (∀ k, k < l.length → 1 ≤ hiP l i k) ∧ (∀ k, k < l.length → hiP l i k ≤ maxF (tskAt l i).prio l) ∧ ∀ a b, b < l.length → a < b → hiP l i a ≠ hiP l i b := by
  obtain ⟨m1, m2⟩ := maxF_ge l (tskAt l i).prio
  have hp1 := prio_ge h hi
  have hne : ∀ a b, a < l.length → b < l.length → a ≠ b → (tskAt l a).prio ≠ (tskAt l b).prio := fun a b ha hb hab => by
    rcases Nat.lt_or_gt_of_ne hab with h' | h'
    · exact (prio_ne h hb h').1
    · exact fun e => (prio_ne h ha h').1 e.symm
  have key : ∀ k, k < l.length → k ≠ i → 1 ≤ hiP l i k ∧ hiP l i k < maxF (tskAt l i).prio l := fun k hk hki => by
    unfold hiP
    rw [if_neg hki]
    have h3 := m2 _ (tsk_in hk)
    have h4 := hne k i hk hi hki
    have h5 := prio_ge h hk
    by_cases hp : (tskAt l i).prio < (tskAt l k).prio
    · rw [if_pos hp]
      obtain ⟨a, b, _⟩ := below_pr h hi hp
      omega
    · rw [if_neg hp]; omega
  refine ⟨fun k hk => ?_, fun k hk => ?_, fun a b hb hab => ?_⟩
  · by_cases hki : k = i
    · unfold hiP; rw [if_pos hki]; omega
    · exact (key k hk hki).1
  · by_cases hki : k = i
    · unfold hiP; rw [if_pos hki]; omega
    · have := (key k hk hki).2; omega
  · have ha : a < l.length := by omega
    by_cases hai : a = i
    · have h1 := key b hb (by omega)
      have h2 : hiP l i a = maxF (tskAt l i).prio l := by unfold hiP; rw [if_pos hai]
      omega
    · by_cases hbi : b = i
      · have h1 := key a ha hai
        have h2 : hiP l i b = maxF (tskAt l i).prio l := by unfold hiP; rw [if_pos hbi]
        omega
      · have e1 := hne a b ha hb (by omega)
        have e2 := hne a i ha hi hai
        have e3 := hne b i hb hi hbi
        unfold hiP
        rw [if_neg hai, if_neg hbi]
        by_cases hpa : (tskAt l i).prio < (tskAt l a).prio
        · obtain ⟨a1, a2, a3⟩ := below_pr h hi hpa
          rw [if_pos hpa]
          by_cases hpb : (tskAt l i).prio < (tskAt l b).prio
          · obtain ⟨b1, b2, b3⟩ := below_pr h hi hpb
            rw [if_pos hpb]
            rcases Int.lt_or_gt_of_ne e1 with hlt | hlt
            · have := b3 a ha hlt; omega
            · have := a3 b hb hlt; omega
          · rw [if_neg hpb]; omega
        · rw [if_neg hpa]
          by_cases hpb : (tskAt l i).prio < (tskAt l b).prio
          · obtain ⟨b1, b2, b3⟩ := below_pr h hi hpb
            rw [if_pos hpb]; omega
          · rw [if_neg hpb]; exact e1
theorem sumB_none {p r : Int} : ∀ (xs : List Tsk) (s : Int), (∀ x ∈ xs, x.prio ≤ p) → sumB (aboveB p) r s xs = s
  | [], s, _ => rfl
  | x :: xs, s, h => by
    have h0 := h x (by simp)
    have : aboveB p x = false := by simp [aboveB]; omega
    simp only [sumB, this, Bool.false_eq_true, if_false]
    exact sumB_none xs s fun y hy => h y (by simp [hy])
/-- with the highest priority the response time is the cost -/
theorem resp_high {l : List Tsk} (h : rchk l = 0) (hs : secsB l = false) {i : Nat} (hi : i < l.length) :
    rchk (mk l (hiP l i) fun k => (tskAt l k).cost) = 0 ∧ respM (mk l (hiP l i) fun k => (tskAt l k).cost) (blocks (mk l (hiP l i) fun k => (tskAt l k).cost)) i = (tskAt l i).cost
      ∧ (respM l (blocks l) i < 0 ∨ (tskAt l i).cost ≤ respM l (blocks l) i) := by
  obtain ⟨p1, p2, p3⟩ := hiP_ok h hi
  have hT := toks_of h
  have hk := hT _ (tsk_in hi)
  have hc1 := hk.c1
  have hc2 := hk.c2
  refine ⟨mk_chk h hs p1 p3 fun k hk => ⟨(hT _ (tsk_in hk)).c1, (hT _ (tsk_in hk)).c2⟩, ?_, ?_⟩
  · unfold respM
    rw [blocks_nosec (mk_secs hs _ _), mk_at _ _ hi]
    simp only [Int.add_zero]
    have e : ∀ r, respF (mk l (hiP l i) fun k => (tskAt l k).cost) (tskAt l i).cost (hiP l i i) r = (tskAt l i).cost := fun r => by
      refine sumB_none _ _ fun x hx => ?_
      obtain ⟨k, hk, rfl⟩ := tsk_ex hx
      rw [mk_len] at hk
      rw [mk_at _ _ hk]
      have : hiP l i i = maxF (tskAt l i).prio l := by unfold hiP; rw [if_pos rfl]
      rw [this]
      exact p2 k hk
    have hfx : fixN (respF (mk l (hiP l i) fun k => (tskAt l k).cost) (tskAt l i).cost (hiP l i i)) (tskAt l i).dl.toNat 1 = (tskAt l i).cost := by
      rcases fixN_bd (f := respF (mk l (hiP l i) fun k => (tskAt l k).cost) (tskAt l i).cost (hiP l i i)) (tskAt l i).dl.toNat 1 (by omega) with h0 | ⟨_, _, h3⟩
      · exfalso
        have := fix_less (f := fun _ => (tskAt l i).cost) (g := respF (mk l (hiP l i) fun k => (tskAt l k).cost) (tskAt l i).cost (hiP l i i)) (n := (tskAt l i).dl.toNat) (R := (tskAt l i).cost) (fun a b _ _ => by rw [e, e]; exact Int.le_refl _) (fun r _ => by rw [e]; exact Int.le_refl _) (by rw [e]; exact hc1) hc1 (by omega) rfl
        exact this.1 h0
      · rw [e] at h3; exact h3.symm
    rw [hfx, if_neg (by omega)]
  · unfold respM
    rw [blocks_nosec hs]
    simp only [Int.add_zero]
    rcases fixN_bd (f := respF l (tskAt l i).cost (tskAt l i).prio) (tskAt l i).dl.toNat 1 (by omega) with e | ⟨e1, e2, e3⟩
    · rw [if_pos e]; exact .inl (by omega)
    · rw [if_neg (by omega)]
      right
      have := sumB_ge (f := aboveB (tskAt l i).prio) (r := fixN (respF l (tskAt l i).cost (tskAt l i).prio) (tskAt l i).dl.toNat 1) e1 l (tskAt l i).cost hT
      unfold respF at e3
      unfold respF at this ⊢
      omega
end Go.Proofs.Ytbncnadjlppknaa
