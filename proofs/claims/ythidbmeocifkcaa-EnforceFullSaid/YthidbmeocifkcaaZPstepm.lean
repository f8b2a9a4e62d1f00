import Derived.Test.YthidbmeocifkcaaZPwordr
namespace Go.Proofs.Ythidbmeocifkcaa
open Go.RowKit
/-- a location (-1: the pit) and the clocks -/
structure Pt where
  loc : Int
  cl : List Int
  deriving DecidableEq
def min31 (x : Int) : Int := if 31 < x then 31 else x
/-- the first j clocks have gone on -/
def tickJ (a : Int) (cl : List Int) (j : Nat) : List Int := (List.range 3).map fun i => if i < j then min31 (cl.getD i 0 + a) else cl.getD i 0
def openF (g : List PC) (cl : List Int) : Nat → Bool
  | 0 => true
  | j + 1 => openF g cl j && allC ((j : Int) + 1) (cl.getD j 0) g
def fits (n : Nat) (cl : List Int) (loc ev : Int) (x : PE) : Bool := x.frm == loc && x.ev == ev && openF x.grd cl n
def findE (n : Nat) (cl : List Int) (loc ev : Int) : List PE → Option PE
  | [] => none
  | x :: xs => if fits n cl loc ev x then some x else findE n cl loc ev xs
def resetF (cl : List Int) (r : List Int) : List Int := r.foldl (fun l c => l.set (c - 1).toNat 0) cl
def step (n : Nat) (es : List PE) (x : Pt) (a ev : Int) : Pt :=
  if x.loc < 0 then ⟨x.loc, tickJ a x.cl n⟩ else
    match findE n (tickJ a x.cl n) x.loc ev es with
    | some e => ⟨e.to, resetF (tickJ a x.cl n) e.rst⟩
    | none => ⟨-1, tickJ a x.cl n⟩
/-- the clocks are between 0 and 31 -/
def ClOk (cl : List Int) : Prop := cl.length = 3 ∧ ∀ c ∈ cl, 0 ≤ c ∧ c ≤ 31
def ptL (loc : Int) (cl : List Int) : List Value := .int .i64 loc :: cl.map (Value.int .i64)
theorem tickJ_len (a : Int) (cl : List Int) (j : Nat) : (tickJ a cl j).length = 3 := by simp [tickJ]
theorem tickJ_at {a : Int} {cl : List Int} {j i : Nat} (hi : i < 3) : (tickJ a cl j).getD i 0 = if i < j then min31 (cl.getD i 0 + a) else cl.getD i 0 := by
  simp [tickJ, List.getD, hi]
theorem tickJ_zero {a : Int} {cl : List Int} (h : cl.length = 3) : tickJ a cl 0 = cl := by
  match cl, h with
  | [x, y, z], _ => rfl
theorem tickJ_succ {a : Int} {cl : List Int} {j : Nat} (hj : j < 3) : (tickJ a cl j).set j (min31 (cl.getD j 0 + a)) = tickJ a cl (j + 1) := by
  have : j = 0 ∨ j = 1 ∨ j = 2 := by omega
  rcases this with rfl | rfl | rfl <;> rfl
theorem cl_at {cl : List Int} (h : ClOk cl) {i : Nat} (hi : i < 3) : 0 ≤ cl.getD i 0 ∧ cl.getD i 0 ≤ 31 := by
  have : cl.getD i 0 ∈ cl := int_mem (by rw [h.1]; exact hi)
  exact h.2 _ this
theorem min31_bd {x : Int} (h : 0 ≤ x) : 0 ≤ min31 x ∧ min31 x ≤ 31 := by unfold min31; split <;> omega
theorem tickJ_ok {a : Int} {cl : List Int} {j : Nat} (h : ClOk cl) (ha : 0 ≤ a) : ClOk (tickJ a cl j) := by
  refine ⟨tickJ_len _ _ _, fun c hc => ?_⟩
  obtain ⟨i, hi, rfl⟩ := List.mem_map.mp hc
  have hi3 : i < 3 := by simpa using hi
  have := cl_at h hi3
  split
  · exact min31_bd (by omega)
  · exact this
theorem resetF_ok : ∀ (r cl : List Int), ClOk cl → ClOk (resetF cl r)
  | [], cl, h => h
  | c :: r, cl, h => by
    refine resetF_ok r _ ⟨by simp [h.1], fun x hx => ?_⟩
    rcases List.mem_or_eq_of_mem_set hx with h1 | h1
    · exact h.2 x h1
    · subst h1; omega
theorem step_ok {n : Nat} {es : List PE} {x : Pt} {a ev : Int} (h : ClOk x.cl) (ha : 0 ≤ a) : ClOk (step n es x a ev).cl := by
  unfold step
  split
  · exact tickJ_ok h ha
  · split
    · exact resetF_ok _ _ (tickJ_ok h ha)
    · exact tickJ_ok h ha
theorem fits_iff {n : Nat} {cl : List Int} {loc ev : Int} {x : PE} : fits n cl loc ev x = true ↔ (x.frm = loc ∧ x.ev = ev ∧ openF x.grd cl n = true) := by
  simp [fits, and_assoc]
theorem findE_t {n : Nat} {cl : List Int} {loc ev : Int} {x : PE} {xs : List PE} (h : fits n cl loc ev x = true) : findE n cl loc ev (x :: xs) = some x := by simp only [findE, h, if_true]
theorem findE_f {n : Nat} {cl : List Int} {loc ev : Int} {x : PE} {xs : List PE} (h : fits n cl loc ev x = false) : findE n cl loc ev (x :: xs) = findE n cl loc ev xs := by simp only [findE, h]; rfl
theorem findE_mem {n : Nat} {cl : List Int} {loc ev : Int} : ∀ {es : List PE} {e : PE}, findE n cl loc ev es = some e → e ∈ es
  | [], e, h => by cases h
  | x :: xs, e, h => by
    by_cases hf : fits n cl loc ev x = true
    · rw [findE_t hf] at h; injection h with h; subst h; simp
    · rw [findE_f (by simpa using hf)] at h; exact List.mem_cons_of_mem _ (findE_mem h)
/-- by the spans -/
theorem openF_spans {clks : Int} {g : List PC} (hg : ∀ c ∈ g, pcBad clks c = false) {cl : List Int} (hcl : ClOk cl) : ∀ (j : Nat), j ≤ 3 → (j : Int) ≤ clks →
    (openF g cl j = true ↔ ∀ i : Nat, i < j → ((spansM clks g).getD i (0, 0)).1 ≤ cl.getD i 0 ∧ cl.getD i 0 ≤ ((spansM clks g).getD i (0, 0)).2)
  | 0, _, _ => by simp [openF]
  | j + 1, h3, hc => by
    have hb := cl_at hcl (show j < 3 by omega)
    simp only [openF, Bool.and_eq_true]
    rw [openF_spans hg hcl j (by omega) (by omega), allC_span g hb.1 hb.2]
    have e := spansM_at hg (i := j) (by omega)
    constructor
    · rintro ⟨h1, h2⟩ i hi
      by_cases hij : i = j
      · subst hij; rw [e]; simpa using h2
      · exact h1 i (by omega)
    · intro h
      refine ⟨fun i hi => h i (by omega), ?_⟩
      have := h j (by omega)
      rw [e] at this
      simpa using this
theorem ptL_0 (loc : Int) (cl : List Int) : (ptL loc cl)[0]? = some (.int .i64 loc) := rfl
theorem ptL_s {loc : Int} {cl : List Int} {i : Nat} (h : i < cl.length) : (ptL loc cl)[i + 1]? = some (.int .i64 (cl.getD i 0)) := by
  simp [ptL, List.getD, h]
theorem ptL_set {loc : Int} {cl : List Int} {i : Nat} (v : Int) : (ptL loc cl).set (i + 1) (.int .i64 v) = ptL loc (cl.set i v) := by
  simp [ptL, List.map_set]
theorem ptL_loc {loc : Int} {cl : List Int} (v : Int) : (ptL loc cl).set 0 (.int .i64 v) = ptL v cl := rfl
def Pt.V (x : Pt) : Value := .agg #[.int .i64 x.loc, .int .i64 (x.cl.getD 0 0), .int .i64 (x.cl.getD 1 0), .int .i64 (x.cl.getD 2 0)]
theorem ptL_eq {loc : Int} {cl : List Int} (h : cl.length = 3) : ptL loc cl = [.int .i64 loc, .int .i64 (cl.getD 0 0), .int .i64 (cl.getD 1 0), .int .i64 (cl.getD 2 0)] := by
  match cl, h with
  | [x, y, z], _ => rfl
/-- an unlimited step of time is as good as one of at most 31 -/
theorem min31_min {c a : Int} (hc : 0 ≤ c) : min31 (c + (if 31 < a then 31 else a)) = min31 (c + a) := by
  unfold min31
  by_cases h : 31 < a
  · rw [if_pos h]; split <;> split <;> omega
  · rw [if_neg h]
end Go.Proofs.Ythidbmeocifkcaa
