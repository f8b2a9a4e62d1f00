import Derived.Test.YthcdemmamggboaaSmod
import Derived.Test.YthcdemmamggboaaSdem
/- schedule: the model of Run. -/
namespace Go.Proofs.Ythcdemmamggboaa
open Go.RowKit
structure Job where
  tk : Nat
  num : Int
  rel : Int
  dn : Int
  pos : Nat
structure Stn where
  tk : Int
  job : Int
  frm : Int
  to : Int
structure Don where
  tk : Nat
  job : Int
  rel : Int
  resp : Int
  miss : Bool
structure St where
  ready : List Job
  stints : List Stn
  jobs : List Don
def insideB (s : Sec) (d : Int) : Bool := decide (s.frm < d) && decide (d < s.frm + s.len)
def mx (a b : Int) : Int := if a < b then b else a
def rankS (l : List Tsk) (d : Int) : Int × Bool → List Sec → Int × Bool
  | p, [] => p
  | p, s :: ss => rankS l d (if insideB s d then (mx p.1 (ceilT s.res l 0), true) else p) ss
def rankM (l : List Tsk) (j : Job) : Int × Bool := rankS l j.dn ((tskAt l j.tk).prio, false) (tskAt l j.tk).secs
def dlJ (l : List Tsk) (j : Job) : Int := j.rel + (tskAt l j.tk).dl
def beforeM (l : List Tsk) (pol : Int) (a b : Job) : Bool :=
  if pol = 2 then
    if dlJ l a = dlJ l b then decide (a.tk < b.tk) || (decide (a.tk = b.tk) && decide (a.num < b.num)) else decide (dlJ l a < dlJ l b)
  else if (rankM l a).1 = (rankM l b).1 then
    if (rankM l a).2 = (rankM l b).2 then
      if a.rel = b.rel then decide (a.tk < b.tk) else decide (a.rel < b.rel)
    else (rankM l a).2
  else decide ((rankM l b).1 < (rankM l a).1)
/-- the program's key -/
def keyM (l : List Tsk) (pol : Int) (j : Job) : List Int :=
  if pol = 2 then [dlJ l j, j.tk, j.num, 0, 0] else [-(rankM l j).1, if (rankM l j).2 then 0 else 1, j.rel, j.tk, 0]
theorem keyM_len (l : List Tsk) (pol : Int) (j : Job) : (keyM l pol j).length = 5 := by unfold keyM; split <;> rfl
def cmpI (x y : Int) : Int := if x < y then -1 else if y < x then 1 else 0
def cmpL : List Int → List Int → Int
  | [], [] => 0
  | [], _ :: _ => -1
  | _ :: _, [] => 1
  | x :: xs, y :: ys => if cmpI x y = 0 then cmpL xs ys else cmpI x y
theorem cmp_cons (x y : Int) (xs ys : List Int) : decide (cmpL (x :: xs) (y :: ys) < 0) = if x = y then decide (cmpL xs ys < 0) else decide (x < y) := by
  simp only [cmpL, cmpI]
  by_cases h : x = y
  · subst h; simp
  · by_cases h2 : x < y
    · simp [h, h2]
    · have h3 : y < x := by omega
      simp [h, h2, h3]
/-- the array tells what 'before' tells -/
theorem cmp_before (l : List Tsk) (pol : Int) (a b : Job) : decide (cmpL (keyM l pol a) (keyM l pol b) < 0) = beforeM l pol a b := by
  unfold keyM beforeM
  by_cases hp : pol = 2
  · rw [if_pos hp, if_pos hp, if_pos hp]
    simp only [cmp_cons]
    by_cases h1 : dlJ l a = dlJ l b
    · rw [if_pos h1, if_pos h1]
      by_cases h2 : (a.tk : Int) = b.tk
      · rw [if_pos h2]
        have h2' : a.tk = b.tk := by omega
        by_cases h3 : a.num = b.num
        · simp [h2', h3, cmpL]
        · simp [h2', h3]
      · rw [if_neg h2]
        have h2' : ¬ a.tk = b.tk := by omega
        simp [h2']
    · rw [if_neg h1, if_neg h1]
  · rw [if_neg hp, if_neg hp, if_neg hp]
    simp only [cmp_cons]
    by_cases h1 : (rankM l a).1 = (rankM l b).1
    · rw [if_pos h1, if_pos (by omega)]
      by_cases h2 : (rankM l a).2 = (rankM l b).2
      · rw [if_pos h2, if_pos (by rw [h2])]
        by_cases h3 : a.rel = b.rel
        · rw [if_pos h3, if_pos h3]
          by_cases h4 : (a.tk : Int) = b.tk
          · rw [if_pos h4]
            have h4' : a.tk = b.tk := by omega
            simp [h4', cmpL]
          · rw [if_neg h4]; simp
        · rw [if_neg h3, if_neg h3]
      · rw [if_neg h2]
        cases ha : (rankM l a).2 <;> cases hb : (rankM l b).2 <;> simp_all
    · rw [if_neg h1, if_neg (by omega)]
      exact decide_eq_decide.mpr (by omega)
/-! a tick -/
def dueJ (t : Int) (x : Tsk) : Bool := decide (x.off ≤ t) && decide ((t - x.off) % x.per = 0)
def numJ (t : Int) (x : Tsk) : Int := (t - x.off) / x.per
def relJ (t : Int) : Nat → List Tsk → St → St
  | _, [], s => s
  | i, x :: xs, s => relJ t (i + 1) xs (if dueJ t x then { s with ready := s.ready ++ [⟨i, numJ t x, t, 0, s.jobs.length⟩], jobs := s.jobs ++ [⟨i, numJ t x, t, -1, false⟩] } else s)
def jbAt (l : List Job) (i : Nat) : Job := l.getD i ⟨0, 0, 0, 0, 0⟩
def stAt (l : List Stn) (i : Nat) : Stn := l.getD i ⟨0, 0, 0, 0⟩
def dnAt (l : List Don) (i : Nat) : Don := l.getD i ⟨0, 0, 0, 0, false⟩
/-- the index of the job that is executed -/
def bestF (l : List Tsk) (pol : Int) : Nat → Job → Nat → List Job → Nat
  | b, _, _, [] => b
  | b, c, i, j :: js => if beforeM l pol j c then bestF l pol i j (i + 1) js else bestF l pol b c (i + 1) js
def bestM (l : List Tsk) (pol : Int) (r : List Job) : Nat := bestF l pol 0 (jbAt r 0) 1 (r.drop 1)
def stintsM (t : Int) (j : Job) (ss : List Stn) : List Stn :=
  if 0 < ss.length ∧ (stAt ss (ss.length - 1)).tk = j.tk ∧ (stAt ss (ss.length - 1)).job = j.num ∧ (stAt ss (ss.length - 1)).to = t then
    ss.set (ss.length - 1) { stAt ss (ss.length - 1) with to := t + 1 }
  else ss ++ [⟨j.tk, j.num, t, t + 1⟩]
def runOne (l : List Tsk) (t : Int) (b : Nat) (s : St) : St :=
  let j := jbAt s.ready b
  if j.dn + 1 = (tskAt l j.tk).cost then
    { ready := s.ready.eraseIdx b, stints := stintsM t j s.stints, jobs := s.jobs.set j.pos { dnAt s.jobs j.pos with resp := t + 1 - j.rel } }
  else { ready := s.ready.set b { j with dn := j.dn + 1 }, stints := stintsM t j s.stints, jobs := s.jobs }
def exeM (l : List Tsk) (pol t : Int) (s : St) : St := if s.ready.length = 0 then s else runOne l t (bestM l pol s.ready) s
def tickM (l : List Tsk) (pol t : Int) (s : St) : St := exeM l pol t (relJ t 0 l s)
def runS (l : List Tsk) (pol : Int) : Nat → Int → St → St
  | 0, _, s => s
  | n + 1, t, s => runS l pol n (t + 1) (tickM l pol t s)
def missM (l : List Tsk) (ticks : Int) (d : Don) : Don := { d with miss := decide (d.rel + (tskAt l d.tk).dl ≤ ticks) && (decide (d.resp < 0) || decide ((tskAt l d.tk).dl < d.resp)) }
def endS (l : List Tsk) (pol ticks : Int) : St := runS l pol ticks.toNat 0 ⟨[], [], []⟩
def scheduleM (l : List Tsk) (pol ticks : Int) : List Stn × List Don × Int :=
  if rchk l = 0 then
    if (pol ≠ 1 ∧ (pol ≠ 2 ∨ secsB l = true)) ∨ ticks < 0 then ([], [], 2)
    else if 20000 < ticks then ([], [], 3)
    else ((endS l pol ticks).stints, (endS l pol ticks).jobs.map (missM l ticks), 0)
  else ([], [], rchk l)
/-! what holds of every state -/
structure JobOk (l : List Tsk) (t : Int) (n : Nat) (j : Job) : Prop where
  tk : j.tk < l.length
  n0 : 0 ≤ j.num
  n1 : j.num ≤ t
  r0 : 0 ≤ j.rel
  r1 : j.rel ≤ t
  d0 : 0 ≤ j.dn
  d1 : j.dn < (tskAt l j.tk).cost
  ps : j.pos < n
structure Inv (l : List Tsk) (t : Int) (s : St) : Prop where
  rd : ∀ j ∈ s.ready, JobOk l t s.jobs.length j
  rl : s.ready.length ≤ s.jobs.length
  jl : (s.jobs.length : Int) ≤ l.length * (t + 1)
  sl : (s.stints.length : Int) ≤ t + 1
  dt : ∀ d ∈ s.jobs, d.tk < l.length ∧ 0 ≤ d.rel ∧ d.rel ≤ t
end Go.Proofs.Ythcdemmamggboaa
