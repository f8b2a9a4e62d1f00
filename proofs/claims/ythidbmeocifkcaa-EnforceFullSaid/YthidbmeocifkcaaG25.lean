import Derived.Test.YthidbmeocifkcaaZPrunm
import Derived.Test.YthidbmeocifkcaaG1
import Derived.Maps.OwnOps
import Derived.Maps.Views
import Derived.Maps.Keyed
import Derived.Maps.OwnSet
import Derived.WideKeyEntry
/- enforce: the model (plain). -/
namespace Go.Proofs.Ythidbmeocifkcaa
open Go.RowKit
def mx (a b : Int) : Int := if a < b then b else a
def mn (a b : Int) : Int := if b < a then b else a
theorem mx_l (a b : Int) : a ≤ mx a b := by unfold mx; split <;> omega
theorem mx_r (a b : Int) : b ≤ mx a b := by unfold mx; split <;> omega
theorem mx_or (a b : Int) : mx a b = a ∨ mx a b = b := by unfold mx; split <;> simp
/-- the greatest constant -/
def mostG (m : Int) (g : List PC) : Int := g.foldl (fun m c => mx m c.c) m
def mostE (m : Int) (es : List PE) : Int := es.foldl (fun m e => mostG m e.grd) m
def mostM (p : PP) : Int := mostE 0 p.edges
theorem mostG_le : ∀ (g : List PC) (m : Int), m ≤ mostG m g ∧ (∀ c ∈ g, c.c ≤ mostG m g) ∧ (∀ B, m ≤ B → (∀ c ∈ g, c.c ≤ B) → mostG m g ≤ B)
  | [], m => ⟨Int.le_refl _, by simp, fun B h _ => h⟩
  | x :: g, m => by
    obtain ⟨h1, h2, h3⟩ := mostG_le g (mx m x.c)
    have e : mostG m (x :: g) = mostG (mx m x.c) g := rfl
    rw [e]
    have := mx_l m x.c
    have := mx_r m x.c
    refine ⟨by omega, fun c hc => ?_, fun B hm hB => h3 B ?_ (fun c hc => hB c (by simp [hc]))⟩
    · rcases List.mem_cons.mp hc with rfl | hc
      · omega
      · exact h2 c hc
    · have := hB x (by simp)
      rcases mx_or m x.c with h | h <;> omega
theorem mostE_le : ∀ (es : List PE) (m : Int), m ≤ mostE m es ∧ (∀ e ∈ es, ∀ c ∈ e.grd, c.c ≤ mostE m es) ∧ (∀ B, m ≤ B → (∀ e ∈ es, ∀ c ∈ e.grd, c.c ≤ B) → mostE m es ≤ B)
  | [], m => ⟨Int.le_refl _, by simp, fun B h _ => h⟩
  | x :: es, m => by
    obtain ⟨h1, h2, h3⟩ := mostE_le es (mostG m x.grd)
    obtain ⟨g1, g2, g3⟩ := mostG_le x.grd m
    have e : mostE m (x :: es) = mostE (mostG m x.grd) es := rfl
    rw [e]
    refine ⟨by omega, fun y hy c hc => ?_, fun B hm hB => h3 B (g3 B hm (fun c hc => hB x (by simp) c hc)) (fun y hy => hB y (by simp [hy]))⟩
    rcases List.mem_cons.mp hy with rfl | hy
    · have := g2 c hc; omega
    · exact h2 y hy c hc
theorem edge_cons {p : PP} {x : PE} (h : edgeBad p x = false) : ∀ c ∈ x.grd, pcBad p.clks c = false := by
  have hh : edgeHead p x = false := by
    unfold edgeBad at h; cases hh : edgeHead p x <;> simp [hh] at h ⊢
  unfold edgeBad at h
  rw [hh, if_neg (by simp)] at h
  cases ha : anyP (pcBad p.clks) x.grd
  · exact (anyP_iff _ _).mp ha
  · rw [ha, if_pos rfl] at h; cases h
theorem most_bd {p : PP} {n : Nat} (hv : PValid p n) : 0 ≤ mostM p ∧ mostM p ≤ 30 ∧ ∀ e ∈ p.edges, ∀ c ∈ e.grd, 0 ≤ c.c ∧ c.c ≤ mostM p := by
  obtain ⟨h1, h2, h3⟩ := mostE_le p.edges 0
  refine ⟨h1, h3 30 (by omega) (fun e he c hc => ?_), fun e he c hc => ⟨?_, h2 e he c hc⟩⟩
  · have := pcBad_false.mp (edge_cons (hv.ed e he) c hc); omega
  · have := pcBad_false.mp (edge_cons (hv.ed e he) c hc); omega
/-! the program's step -/
def tick3 (M a : Int) (cl : List Int) (j : Nat) : List Int := (List.range 3).map fun i => if i < j then mn (cl.getD i 0 + a) (M + 1) else cl.getD i 0
def spans3 (M : Int) (g : List PC) : List (Int × Int) := g.foldl spansU (List.replicate 3 (0, M + 1))
def open3 (sp : List (Int × Int)) (cl : List Int) : Nat → Bool
  | 0 => true
  | j + 1 => open3 sp cl j && (decide ((sp.getD j (0, 0)).1 ≤ cl.getD j 0) && decide (cl.getD j 0 ≤ (sp.getD j (0, 0)).2))
def keyed (loc ev : Int) (x : PE) : Bool := x.frm == loc && x.ev == ev
def movesOf (es : List PE) (loc ev : Int) : List PE := es.filter (keyed loc ev)
def find3 (M : Int) (cl : List Int) : List PE → Option PE
  | [] => none
  | x :: xs => if open3 (spans3 M x.grd) cl 3 then some x else find3 M cl xs
def step3 (M : Int) (es : List PE) (x : Pt) (a ev : Int) : Pt :=
  match find3 M (tick3 M a x.cl 3) (movesOf es x.loc ev) with
  | some e => ⟨e.to, resetF (tick3 M a x.cl 3) e.rst⟩
  | none => ⟨-1, [0, 0, 0]⟩
/-- the clocks are between 0 and M + 1 -/
def Cl3 (M : Int) (cl : List Int) : Prop := cl.length = 3 ∧ ∀ c ∈ cl, 0 ≤ c ∧ c ≤ M + 1
theorem tick3_len (M a : Int) (cl : List Int) (j : Nat) : (tick3 M a cl j).length = 3 := by simp [tick3]
theorem tick3_at {M a : Int} {cl : List Int} {j i : Nat} (hi : i < 3) : (tick3 M a cl j).getD i 0 = if i < j then mn (cl.getD i 0 + a) (M + 1) else cl.getD i 0 := by
  simp [tick3, List.getD, hi]
theorem tick3_zero {M a : Int} {cl : List Int} (h : cl.length = 3) : tick3 M a cl 0 = cl := by
  match cl, h with
  | [x, y, z], _ => rfl
theorem tick3_succ {M a : Int} {cl : List Int} {j : Nat} (hj : j < 3) : (tick3 M a cl j).set j (mn (cl.getD j 0 + a) (M + 1)) = tick3 M a cl (j + 1) := by
  have : j = 0 ∨ j = 1 ∨ j = 2 := by omega
  rcases this with rfl | rfl | rfl <;> rfl
theorem cl3_at {M : Int} {cl : List Int} (h : Cl3 M cl) {i : Nat} (hi : i < 3) : 0 ≤ cl.getD i 0 ∧ cl.getD i 0 ≤ M + 1 :=
  h.2 _ (int_mem (by rw [h.1]; exact hi))
theorem tick3_ok {M a : Int} {cl : List Int} {j : Nat} (hM : 0 ≤ M) (h : Cl3 M cl) (ha : 0 ≤ a) : Cl3 M (tick3 M a cl j) := by
  refine ⟨tick3_len _ _ _ _, fun c hc => ?_⟩
  obtain ⟨i, hi, rfl⟩ := List.mem_map.mp hc
  have hi3 : i < 3 := by simpa using hi
  have := cl3_at h hi3
  split
  · unfold mn; split <;> omega
  · exact this
theorem reset3_ok {M : Int} (hM : 0 ≤ M) : ∀ (r cl : List Int), Cl3 M cl → Cl3 M (resetF cl r)
  | [], cl, h => h
  | c :: r, cl, h => by
    refine reset3_ok hM r _ ⟨by simp [h.1], fun x hx => ?_⟩
    rcases List.mem_or_eq_of_mem_set hx with h1 | h1
    · exact h.2 x h1
    · subst h1; omega
theorem step3_ok {M : Int} {es : List PE} {x : Pt} {a ev : Int} (hM : 0 ≤ M) (h : Cl3 M x.cl) (ha : 0 ≤ a) : Cl3 M (step3 M es x a ev).cl := by
  unfold step3
  split
  · exact reset3_ok hM _ _ (tick3_ok hM h ha)
  · exact ⟨rfl, fun c hc => by simp at hc; omega⟩
/-! the program's step does what the reference's does -/
structure RelP (M : Int) (n : Nat) (px rx : Pt) : Prop where
  loc : px.loc = rx.loc
  p3 : Cl3 M px.cl
  r3 : ClOk rx.cl
  cl : 0 ≤ rx.loc → ∀ i, i < n → px.cl.getD i 0 = mn (rx.cl.getD i 0) (M + 1)
theorem spans3_at : ∀ (g : List PC) (l : List (Int × Int)) (i : Nat), (∀ c ∈ g, 1 ≤ c.clk) → i < l.length →
    (g.foldl spansU l).getD i (0, 0) = g.foldl (fun s c => if c.clk = (i : Int) + 1 then spanU s c else s) (l.getD i (0, 0))
  | [], _, _, _, _ => rfl
  | c :: g, l, i, hg, hi => by
    have hc := hg c (by simp)
    rw [List.foldl_cons, List.foldl_cons, spans3_at g _ i (fun x hx => hg x (by simp [hx])) (by rw [spansU_len]; exact hi)]
    congr 1
    unfold spansU
    simp only [List.getD, List.getElem?_set]
    by_cases h : c.clk = (i : Int) + 1
    · have e : (c.clk - 1).toNat = i := by omega
      rw [if_pos h, e, if_pos rfl]
      simp [hi]
    · have e : ¬ (c.clk - 1).toNat = i := by omega
      rw [if_neg h, if_neg e]
theorem fold_none {k : Int} : ∀ (g : List PC) (s : Int × Int), (∀ c ∈ g, c.clk ≠ k) → g.foldl (fun s c => if c.clk = k then spanU s c else s) s = s
  | [], _, _ => rfl
  | c :: g, s, h => by
    rw [List.foldl_cons, if_neg (h c (by simp))]
    exact fold_none g s (fun x hx => h x (by simp [hx]))
theorem holds_mn {c : PC} {v M : Int} (h0 : 0 ≤ c.c) (h1 : c.c ≤ M) : holdsC c (mn v (M + 1)) = holdsC c v := by
  unfold holdsC mn
  rw [Bool.eq_iff_iff]
  split <;> (split <;> simp <;> split <;> omega)
theorem allC_mn {k v M : Int} : ∀ (g : List PC), (∀ c ∈ g, 0 ≤ c.c ∧ c.c ≤ M) → allC k (mn v (M + 1)) g = allC k v g
  | [], _ => rfl
  | c :: g, h => by
    have hc := h c (by simp)
    simp only [allC, holds_mn hc.1 hc.2, allC_mn g (fun x hx => h x (by simp [hx]))]
theorem open3_iff (sp : List (Int × Int)) (cl : List Int) : ∀ j, open3 sp cl j = true ↔ ∀ i : Nat, i < j → (sp.getD i (0, 0)).1 ≤ cl.getD i 0 ∧ cl.getD i 0 ≤ (sp.getD i (0, 0)).2
  | 0 => by simp [open3]
  | j + 1 => by
    simp only [open3, Bool.and_eq_true, decide_eq_true_eq, open3_iff sp cl j]
    constructor
    · rintro ⟨h1, h2⟩ i hi
      by_cases e : i = j
      · subst e; exact h2
      · exact h1 i (by omega)
    · exact fun h => ⟨fun i hi => h i (by omega), h j (by omega)⟩
theorem openF_iff (g : List PC) (cl : List Int) : ∀ j, openF g cl j = true ↔ ∀ i : Nat, i < j → allC ((i : Int) + 1) (cl.getD i 0) g = true
  | 0 => by simp [openF]
  | j + 1 => by
    simp only [openF, Bool.and_eq_true, openF_iff g cl j]
    constructor
    · rintro ⟨h1, h2⟩ i hi
      by_cases e : i = j
      · subst e; exact h2
      · exact h1 i (by omega)
    · exact fun h => ⟨fun i hi => h i (by omega), h j (by omega)⟩
theorem open_rel {M : Int} {n : Nat} {g : List PC} {cp cr : List Int} (hM : 0 ≤ M) (hn : n ≤ 3) (hg : ∀ c ∈ g, pcBad n c = false) (hc : ∀ c ∈ g, 0 ≤ c.c ∧ c.c ≤ M) (hp : Cl3 M cp) (h : ∀ i, i < n → cp.getD i 0 = mn (cr.getD i 0) (M + 1)) :
    open3 (spans3 M g) cp 3 = openF g cr n := by
  have hg1 : ∀ c ∈ g, 1 ≤ c.clk := fun c hc => (pcBad_false.mp (hg c hc)).1
  have hat : ∀ i : Nat, i < 3 → (spans3 M g).getD i (0, 0) = g.foldl (fun s c => if c.clk = (i : Int) + 1 then spanU s c else s) (0, M + 1) := fun i hi => by
    unfold spans3
    rw [spans3_at g _ i hg1 (by simpa using hi)]
    congr 1
    have : i = 0 ∨ i = 1 ∨ i = 2 := by omega
    rcases this with rfl | rfl | rfl <;> rfl
  rw [Bool.eq_iff_iff, open3_iff, openF_iff]
  constructor
  · intro h3 i hi
    have := h3 i (by omega)
    rw [hat i (by omega)] at this
    rw [← allC_mn g hc, ← h i hi]
    exact (allC_spanF _ _ g (0, M + 1) (cl3_at hp (by omega))).mpr this
  · intro hF i hi
    rw [hat i hi]
    by_cases hin : i < n
    · have := hF i hin
      rw [← allC_mn g hc, ← h i hin] at this
      exact (allC_spanF _ _ g (0, M + 1) (cl3_at hp hi)).mp this
    · rw [fold_none g _ (fun c hcg e => by have := pcBad_false.mp (hg c hcg); omega)]
      exact cl3_at hp hi
theorem find_rel {M : Int} {n : Nat} {cp cr : List Int} {loc ev : Int} : ∀ (es : List PE), (∀ e ∈ es, open3 (spans3 M e.grd) cp 3 = openF e.grd cr n) → find3 M cp (movesOf es loc ev) = findE n cr loc ev es
  | [], _ => rfl
  | x :: es, h => by
    have ih := find_rel (loc := loc) (ev := ev) es (fun e he => h e (by simp [he]))
    have hx := h x (by simp)
    unfold movesOf at ih ⊢
    rw [List.filter_cons]
    by_cases hk : keyed loc ev x = true
    · rw [if_pos hk]
      simp only [find3, hx]
      unfold keyed at hk
      by_cases ho : openF x.grd cr n = true
      · rw [findE_t (by unfold fits; rw [hk, ho]; rfl), if_pos ho]
      · rw [findE_f (by unfold fits; rw [hk]; simpa using ho), if_neg ho, ih]
    · rw [if_neg hk, findE_f (by unfold fits; unfold keyed at hk; rw [Bool.eq_false_iff.mpr hk]; rfl), ih]
theorem reset_rel {M : Int} (hM : 0 ≤ M) {n : Nat} (hn : n ≤ 3) : ∀ (r cp cr : List Int), cp.length = 3 → cr.length = 3 → (∀ i, i < n → cp.getD i 0 = mn (cr.getD i 0) (M + 1)) → ∀ i, i < n → (resetF cp r).getD i 0 = mn ((resetF cr r).getD i 0) (M + 1)
  | [], _, _, _, _, h => h
  | c :: r, cp, cr, h1, h2, h => by
    refine reset_rel hM hn r (cp.set (c - 1).toNat 0) (cr.set (c - 1).toNat 0) (by simp [h1]) (by simp [h2]) (fun i hi => ?_)
    generalize (c - 1).toNat = k
    by_cases e : k = i
    · subst e
      have e1 : (cp.set k 0).getD k 0 = 0 := by simp [List.getD, show k < cp.length by omega]
      have e2 : (cr.set k 0).getD k 0 = 0 := by simp [List.getD, show k < cr.length by omega]
      rw [e1, e2]; unfold mn; split <;> omega
    · have e1 : (cp.set k 0).getD i 0 = cp.getD i 0 := by simp only [List.getD, List.getElem?_set, if_neg e]
      have e2 : (cr.set k 0).getD i 0 = cr.getD i 0 := by simp only [List.getD, List.getElem?_set, if_neg e]
      rw [e1, e2]; exact h i hi
theorem step_rel {p : PP} {n : Nat} (hv : PValid p n) {px rx : Pt} {a ev : Int} (h : RelP (mostM p) n px rx) (h0 : 0 ≤ rx.loc) (ha : 0 ≤ a) : RelP (mostM p) n (step3 (mostM p) p.edges px a ev) (step n p.edges rx a ev) := by
  obtain ⟨hM0, hM1, hM2⟩ := most_bd hv
  have ht : ∀ i, i < n → (tick3 (mostM p) a px.cl 3).getD i 0 = mn ((tickJ a rx.cl n).getD i 0) (mostM p + 1) := fun i hi => by
    have hn3 := hv.n3
    rw [tick3_at (by omega), tickJ_at (by omega), if_pos (by omega), if_pos hi, h.cl h0 i hi]
    have := cl_at h.r3 (i := i) (by omega)
    unfold mn min31
    split <;> (try split) <;> (try split) <;> omega
  have hp := tick3_ok (j := 3) hM0 h.p3 ha
  have hr := tickJ_ok (j := n) h.r3 ha
  have hf := find_rel (M := mostM p) (n := n) (cp := tick3 (mostM p) a px.cl 3) (cr := tickJ a rx.cl n) (loc := rx.loc) (ev := ev) p.edges (fun e he => open_rel hM0 hv.n3 (by have := edge_cons (hv.ed e he); rwa [hv.cn] at this) (hM2 e he) hp ht)
  unfold step3 step
  rw [if_neg (by omega), h.loc, hf]
  cases findE n (tickJ a rx.cl n) rx.loc ev p.edges with
  | some e => exact ⟨rfl, reset3_ok hM0 _ _ hp, resetF_ok _ _ hr, fun _ => reset_rel hM0 hv.n3 _ _ _ hp.1 hr.1 ht⟩
  | none => exact ⟨rfl, ⟨rfl, fun c hc => by simp at hc; omega⟩, hr, fun h => by simp at h⟩
theorem start_rel {p : PP} {n : Nat} (hv : PValid p n) : RelP (mostM p) n (start p) (start p) := by
  obtain ⟨hM0, _, _⟩ := most_bd hv
  refine ⟨rfl, ⟨rfl, fun c hc => by simp [start] at hc; omega⟩, (start_ok hv).2, fun _ i hi => ?_⟩
  have hn3 := hv.n3
  have : i = 0 ∨ i = 1 ∨ i = 2 := by omega
  rcases this with rfl | rfl | rfl <;> (simp [start, mn]; omega)
/-! the search -/
def firstT (f : Int → Option (List Int)) : Int → Nat → Option (List Int)
  | _, 0 => none
  | t, k + 1 => match f t with
    | some l => some l
    | none => firstT f (t + 1) k
theorem firstT_congr {f g : Int → Option (List Int)} : ∀ (k : Nat) (t : Int), (∀ u, t ≤ u → f u = g u) → firstT f t k = firstT g t k
  | 0, _, _ => rfl
  | k + 1, t, h => by
    simp only [firstT]
    rw [h t (Int.le_refl _), firstT_congr k (t + 1) (fun u hu => h u (by omega))]
/-- how many times are looked at from 'least' on -/
def spanT (M E least : Int) : Nat := (mx least E + M + 1 + 1 - least).toNat
def searchM (stp : Pt → Int → Int → Pt) (gd : Pt → Bool) (M E : Int) : List PS → Pt → Int → Option (List Int)
  | [], x, _ => if gd x then some [] else none
  | s :: ss, x, last => if x.loc < 0 then none else
    firstT (fun t => (searchM stp gd M E ss (stp x (t - last) s.ev) t).map (t :: ·)) (mx last s.at_) (spanT M E (mx last s.at_))
theorem search_eq {stp stp' : Pt → Int → Int → Pt} {gd gd' : Pt → Bool} {M E : Int} (R : Pt → Pt → Prop) (hl : ∀ {x y : Pt}, R x y → x.loc = y.loc) (hg : ∀ {x y : Pt}, R x y → gd x = gd' y) (hs : ∀ {x y : Pt} (a ev : Int), R x y → 0 ≤ y.loc → 0 ≤ a → R (stp x a ev) (stp' y a ev)) :
    ∀ (ss : List PS) (x y : Pt) (last : Int), R x y → searchM stp gd M E ss x last = searchM stp' gd' M E ss y last
  | [], x, y, last, h => by simp only [searchM]; rw [hg h]
  | s :: ss, x, y, last, h => by
    simp only [searchM]
    rw [hl h]
    by_cases hy : y.loc < 0
    · rw [if_pos hy, if_pos hy]
    · rw [if_neg hy, if_neg hy]
      refine firstT_congr _ _ (fun u hu => ?_)
      have := mx_l last s.at_
      rw [search_eq R hl hg hs ss _ _ u (hs (u - last) s.ev h (by omega) (by omega))]
def stepP (p : PP) : Pt → Int → Int → Pt := step3 (mostM p) p.edges
def stepR (p : PP) : Pt → Int → Int → Pt := step p.clks.toNat p.edges
/-- the last time of a word -/
def endW (w : List PS) : Int := match w.getLast? with | some s => s.at_ | none => 0
def timesP (p : PP) (x : Pt) (last : Int) (w : List PS) : Option (List Int) := searchM (stepP p) (goodM p) (mostM p) (endW w) w x last
def timesR (p : PP) (x : Pt) (last : Int) (w : List PS) : Option (List Int) := searchM (stepR p) (goodM p) (mostM p) (endW w) w x last
theorem times_eq {p : PP} (hv : PValid p p.clks.toNat) {px rx : Pt} (h : RelP (mostM p) p.clks.toNat px rx) (last : Int) (w : List PS) : timesP p px last w = timesR p rx last w := by
  refine search_eq (RelP (mostM p) p.clks.toNat) (fun h => h.loc) (fun {x y} h => ?_) (fun {x y} a ev h h0 ha => step_rel (a := a) (ev := ev) hv h h0 ha) w px rx last h
  unfold goodM
  rw [h.loc]
def madeM (w : List PS) (l : List Int) : List PS := List.zipWith (fun s t => ⟨t, s.ev⟩) w l
theorem search_len {stp : Pt → Int → Int → Pt} {gd : Pt → Bool} {M E : Int} : ∀ (ss : List PS) (x : Pt) (last : Int) (l : List Int), searchM stp gd M E ss x last = some l → l.length = ss.length
  | [], x, last, l, h => by
    simp only [searchM] at h
    split at h
    · injection h with h; subst h; rfl
    · cases h
  | s :: ss, x, last, l, h => by
    simp only [searchM] at h
    split at h
    · cases h
    · have key : ∀ (k : Nat) (t : Int), firstT (fun t => (searchM stp gd M E ss (stp x (t - last) s.ev) t).map (t :: ·)) t k = some l → l.length = ss.length + 1 := by
        intro k
        induction k with
        | zero => intro t h; cases h
        | succ k ih =>
          intro t h
          simp only [firstT] at h
          split at h
          · next l' hl =>
            injection h with h; subst h
            cases hq : searchM stp gd M E ss (stp x (t - last) s.ev) t with
            | none => rw [hq] at hl; cases hl
            | some q =>
              rw [hq] at hl
              simp at hl
              subst hl
              simp [search_len ss _ _ q hq]
          · exact ih _ h
      exact key _ _ h
/-! the beginnings -/
def bestK (tm : List PS → Option (List Int)) (w : List PS) : Nat → List PS × Int
  | 0 => match tm [] with
    | some l => (madeM w l, 0)
    | none => ([], 4)
  | k + 1 => match tm (w.take (k + 1)) with
    | some l => (madeM w l, 0)
    | none => bestK tm w k
def longW (w : List PS) : Bool := decide (40 < w.length) || (decide (0 < w.length) && decide (200 < endW w - (psAt w 0).at_))
def bestM (tm : List PS → Option (List Int)) (p : PP) (w : List PS) : List PS × Int :=
  if rpword p w = 0 then (if longW w then ([], 3) else bestK tm w w.length) else ([], rpword p w)
def bestP (p : PP) (w : List PS) : List PS × Int := bestM (fun u => timesP p (start p) 0 u) p w
def bestR (p : PP) (w : List PS) : List PS × Int := bestM (fun u => timesR p (start p) 0 u) p w
theorem best_eq (p : PP) (w : List PS) : bestP p w = bestR p w := by
  unfold bestP bestR bestM
  by_cases h : rpword p w = 0
  · have hv := pvalid_of (rpword_ok h).1
    have e : (fun u => timesP p (start p) 0 u) = fun u => timesR p (start p) 0 u := funext fun u => times_eq hv (start_rel hv) 0 u
    rw [e]
  · rw [if_neg h, if_neg h]
end Go.Proofs.Ythidbmeocifkcaa
/- any seat: a map of the call's own, whose elements are any values. -/
namespace Go.Proofs.Ythidbmeocifkcaa
open Go.RowKit Go.Maps Go.WideElems
def tokR (v : Value) : Option (DataW Value × List MemPlace) := some (.held v, [])
/-- block b is a map (made by the call) of at most n entries: m says what each key holds, z what it holds if there is none -/
def VMap (w : World) (P : Program) (k : TypeId) (b n : Nat) (z : Value) (m : Lit → Value) : Prop :=
  ∃ D : DataW Value, w.ownsMap P k tokR b n D ∧ IsMap D ∧ ∀ kl, WideAt.IsKeyLit kl → D.atKey kl (.held z) = .held (m kl)
section
variable {P : Program} {k e t : TypeId} {w w' : World} {b n : Nat} {z : Value} {m : Lit → Value}
theorem VMap.made (w : World) (P : Program) (k : TypeId) (z : Value) : VMap (w.alloc (.map #[] 0)) P k w.heap.size 0 z (fun _ => z) :=
  ⟨.map [], World.ownsMap_made w P k _, isMap_empty, fun _ _ => rfl⟩
theorem VMap.lt (h : VMap w P k b n z m) : b < w.heap.size := let ⟨_, h, _⟩ := h; h.lt
theorem VMap.block (h : VMap w P k b n z m) (hb : w'.heap[b]? = w.heap[b]?) : VMap w' P k b n z m := by
  obtain ⟨D, ⟨es, clock, h1, h2⟩, h3⟩ := h
  exact ⟨D, ⟨es, clock, hb.trans h1, h2⟩, h3⟩
theorem VMap.bel (h : VMap w P k b n z m) (hb : Bel w w') : VMap w' P k b n z m := h.block (Below.block hb b h.lt)
theorem VMap.grown {row : Option Nat} (h : VMap w P k b n z m) (hg : w.grownBy w' row) (hne : some b ≠ row) : VMap w' P k b n z m := h.block (hg.block b h.lt hne)
theorem VMap.look (h : VMap w P k b n z m) (K : Keyed P k) (ht : P.underlying t = some (.map k e)) (hz : (zeroValue e).run P w = .ok z w)
    {key : Value} {kl : Lit} (hkey : keyOf P k key = some kl) (hk : WideAt.IsKeyLit kl) : (Instr.lookup t (.map (some b)) key false).run P w = .ok (m kl) w := by
  obtain ⟨D, h1, _, h3⟩ := h
  obtain ⟨v, ps, hrun, hv⟩ := h1.lookup K ht hz (zd := .held z) (zp := []) rfl hkey
  rw [h3 kl hk] at hv
  unfold tokR at hv
  injection hv with hv
  injection hv with hv _
  injection hv with hv
  rw [hrun, hv]
theorem nodup_key : ∀ {l : List MapEntry}, (l.map (·.key)).Nodup → ∀ {x y : MapEntry}, x ∈ l → y ∈ l → x.key = y.key → x = y
  | [], _, _, _, h, _, _ => by cases h
  | a :: l, hn, x, y, hx, hy, e => by
    simp only [List.map_cons, List.nodup_cons] at hn
    rcases List.mem_cons.mp hx with h1 | h1 <;> rcases List.mem_cons.mp hy with h2 | h2
    · rw [h1, h2]
    · exact absurd (List.mem_map.mpr ⟨y, h2, by rw [← e, h1]⟩) hn.1
    · exact absurd (List.mem_map.mpr ⟨x, h1, by rw [e, h2]⟩) hn.1
    · exact nodup_key hn.2 h1 h2 e
/-- m[k] = f(m[k]): the entry, and the store into it -/
theorem VMap.entry (h : VMap w P k b n z m) (KL : WideMaps.KeyLaw P k) (ht : P.underlying t = some (.map k e)) (hz : ∀ u : World, (zeroValue e).run P u = .ok z u) (hn : n < maxLen)
    {key : Value} {kl : Lit} (hkey : keyOf P k key = some kl) :
    ∃ (st : Nat) (w1 : World), (Instr.mapEntry t (.map (some b)) key).run P w = .ok (.tuple #[m kl, goInt st]) w1 ∧ w.grownBy w1 (some b) ∧ (∃ es c, w1.heap[b]? = some (.map es c)) ∧
      ∀ (w2 : World) (val : Value), w2.heap[b]? = w1.heap[b]? → ∃ (w3 : World) (m' : Lit → Value), (Instr.entryStore t (.map (some b)) (goInt st) val).run P w2 = .ok () w3 ∧ VMap w3 P k b (n + 1) z m' ∧ w2.grownBy w3 (some b) ∧ m' kl = val ∧ ∀ x, x ≠ kl → m' x = m x := by
  have K := Keyed.of_law KL
  have hk := K.key hkey
  obtain ⟨D, h1, hI, hat⟩ := h
  have h1' := h1
  obtain ⟨es, clock, hb, F, hs, rfl⟩ := h1'
  obtain ⟨v0, st, es1, clock1, hr1, hc, hth⟩ := entry_then_store KL ht hz hb F hkey
  have hv0 : v0 = m kl := by
    have hm := hat kl hk
    rcases fit_look false K ht (hz w) hb F hkey with ⟨_, hno, hz0⟩ | ⟨e0, y, he0, hk0, _, hR, hy, _⟩
    · rw [hz0] at hm
      injection hm with hm
      rcases hc with ⟨e1, he1, hke, _⟩ | ⟨_, hc⟩
      · exact absurd hke (hno e1 he1)
      · rw [hc, hm]
    · rw [hy] at hm
      unfold tokR at hR
      injection hR with hR
      rw [← hR] at hm
      injection hm with hm
      rcases hc with ⟨e1, he1, hke, hc⟩ | ⟨hno, _⟩
      · rw [hc, ← hm, nodup_key F.stamped.2.2 he1 he0 (hke.trans hk0.symm)]
      · exact absurd hk0 (hno e0 he0)
  subst hv0
  have hset : ∀ (u : World) (es0 : Array MapEntry) (c0 : Nat) (es9 : Array MapEntry) (c9 : Nat), u.heap[b]? = some (.map es0 c0) → u.grownBy (ChangeMaps.setBlock u b (.map es9 c9)) (some b) := fun u es0 c0 es9 c9 hu =>
    ⟨rfl, rfl, rfl, by simp [ChangeMaps.setBlock], fun i _ hi => ChangeMaps.heap_setBlock_other hu _ (fun e => hi (by rw [e]))⟩
  refine ⟨st, _, hr1, hset w es clock es1 clock1 hb, ⟨es1, clock1, ChangeMaps.heap_setBlock_same hb _⟩, fun w2 val hw2 => ?_⟩
  rw [ChangeMaps.heap_setBlock_same hb] at hw2
  obtain ⟨es', clock', hrs, hmu⟩ := hth w2 val hw2
  obtain ⟨w', hrun, hown, _⟩ := h1.update K ht hn hkey (val := val) (d := .held val) (ps := []) rfl
  rw [hmu] at hrun
  injection hrun with _ hrun
  subst hrun
  classical
  refine ⟨_, fun x => if x = kl then val else m x, hrs, ⟨(DataW.map ((es.toList.map (rg P k tokR)).foldr DataW.insert [])).put kl (.held val), ?_, hI.put kl _, fun x hx => ?_⟩, hset w2 es1 clock1 es' clock' hw2, by simp, fun x hx => by simp [hx]⟩
  · obtain ⟨es9, c9, q1, q2⟩ := hown
    rw [ChangeMaps.heap_setBlock_same hb] at q1
    exact ⟨es9, c9, by rw [ChangeMaps.heap_setBlock_same hw2]; exact q1, q2⟩
  · by_cases hxk : x = kl
    · subst hxk; rw [atKey_put_same hI hk]; simp
    · rw [atKey_put_other hxk, hat x hx]; simp [hxk]
end
end Go.Proofs.Ythidbmeocifkcaa
