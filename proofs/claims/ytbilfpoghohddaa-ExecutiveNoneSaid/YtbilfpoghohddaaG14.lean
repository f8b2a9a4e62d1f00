import Derived.Test.YtbilfpoghohddaaG13
import Derived.Test.YtbilfpoghohddaaG1
import Derived.Test.YtbilfpoghohddaaG10
import Derived.Test.YtbilfpoghohddaaG9
import Derived.Deep.LoopGhost
/- executive: the model. -/
namespace Go.Proofs.Ytbilfpoghohddaa
open Go.RowKit
structure JobX where
  num : Int
  rel : Int
  lft : Int
structure ExS where
  now : Int
  js : List JobX
def jxAt (js : List JobX) (i : Nat) : JobX := js.getD i ⟨0, 0, 0⟩
/-- the tasks of which a job is released -/
def relL (now : Int) : Nat → List Tsk → List Nat
  | _, [] => []
  | i, x :: xs => if now % x.per = 0 then i :: relL now (i + 1) xs else relL now (i + 1) xs
def needOk (l : List Tsk) : List Nat → List Int → Bool
  | i :: is, n :: ns => decide (0 ≤ n) && decide (n ≤ (tskAt l i).cost) && needOk l is ns
  | _, _ => true
def startX (now : Int) : List Nat → List Int → List JobX × List Don → List JobX × List Don
  | i :: is, n :: ns, p => startX now is ns (p.1.set i ⟨(jxAt p.1 i).num + 1, now, n⟩, if n = 0 then p.2 ++ [⟨i, (jxAt p.1 i).num + 1, now, 0, false⟩] else p.2)
  | _, _, p => p
def runX (now k : Int) (p : List JobX × List Don) : Int × List JobX × List Don :=
  if k < 0 ∨ (jxAt p.1 k.toNat).lft = 0 then (-1, p)
  else (k, p.1.set k.toNat { jxAt p.1 k.toNat with lft := (jxAt p.1 k.toNat).lft - 1 },
    if (jxAt p.1 k.toNat).lft - 1 = 0 then p.2 ++ [⟨k.toNat, (jxAt p.1 k.toNat).num, (jxAt p.1 k.toNat).rel, now + 1 - (jxAt p.1 k.toNat).rel, false⟩] else p.2)
/-- who is asked in a tick -/
def tickK (xs : List Int) (now : Int) : Int := xs.getD (now % (xs.length : Int)).toNat 0
structure TickR where
  run : Int
  done : List Don
  err : Int
  st : ExS
def tickX (l : List Tsk) (xs : List Int) (st : ExS) (needs : List Int) : TickR :=
  if needs.length = (relL st.now 0 l).length ∧ needOk l (relL st.now 0 l) needs = true then
    let p := startX st.now (relL st.now 0 l) needs (st.js, [])
    let q := runX st.now (tickK xs st.now) p
    ⟨q.1, q.2.2, 0, ⟨st.now + 1, q.2.1⟩⟩
  else ⟨-1, [], 2, st⟩
def ex0 (l : List Tsk) : ExS := ⟨0, List.replicate l.length ⟨-1, 0, 0⟩⟩
/-! what holds of every state -/
structure ExOk (l : List Tsk) (xs : List Int) (st : ExS) : Prop where
  h0 : rchk l = 0
  n0 : 0 ≤ st.now
  ln : st.js.length = l.length
  l1 : 1 ≤ l.length
  l8 : l.length ≤ 8
  jn : ∀ i, i < l.length → -1 ≤ (jxAt st.js i).num ∧ (jxAt st.js i).num ≤ st.now - 1
  jr : ∀ i, i < l.length → 0 ≤ (jxAt st.js i).rel ∧ (jxAt st.js i).rel ≤ st.now
  jl : ∀ i, i < l.length → 0 ≤ (jxAt st.js i).lft ∧ (jxAt st.js i).lft ≤ (tskAt l i).cost
  xk : ∀ k ∈ xs, -1 ≤ k ∧ k < l.length
  x1 : 1 ≤ xs.length
  x2 : xs.length ≤ 20000
theorem relL_mem {now : Int} {i : Nat} : ∀ (ts : List Tsk) (k : Nat), i ∈ relL now k ts → k ≤ i ∧ i < k + ts.length
  | [], k, h => by simp [relL] at h
  | x :: xs, k, h => by
    unfold relL at h
    simp only [List.length_cons]
    split at h
    · rcases List.mem_cons.mp h with rfl | h
      · omega
      · have := relL_mem xs (k + 1) h; omega
    · have := relL_mem xs (k + 1) h; omega
theorem relL_sorted (now : Int) : ∀ (ts : List Tsk) (k : Nat), (relL now k ts).Pairwise (· < ·)
  | [], _ => .nil
  | x :: xs, k => by
    unfold relL
    split
    · refine .cons (fun p hp => ?_) (relL_sorted now xs (k + 1))
      have := relL_mem xs (k + 1) hp; omega
    · exact relL_sorted now xs (k + 1)
theorem relL_len (now : Int) : ∀ (ts : List Tsk) (k : Nat), (relL now k ts).length ≤ ts.length
  | [], _ => Nat.le_refl _
  | x :: xs, k => by
    have := relL_len now xs (k + 1)
    unfold relL
    split <;> simp <;> omega
theorem jxAt_set {js : List JobX} {p k : Nat} {d : JobX} (hp : p < js.length) : jxAt (js.set p d) k = if k = p then d else jxAt js k := by
  by_cases h : k = p
  · subst h; simp [jxAt, List.getD, hp]
  · rw [if_neg h]; simp [jxAt, List.getD, List.getElem?_set, Ne.symm h]
theorem tickK_mem {xs : List Int} {now : Int} (h0 : 0 ≤ now) (h1 : 1 ≤ xs.length) : tickK xs now ∈ xs := by
  unfold tickK
  have h2 := Int.emod_nonneg now (b := (xs.length : Int)) (by omega)
  have h3 := Int.emod_lt_of_pos now (b := (xs.length : Int)) (by omega)
  have : (now % (xs.length : Int)).toNat < xs.length := by omega
  simp [List.getD, this]
/-- what holds in the midst of a tick -/
structure MidOk (l : List Tsk) (now : Int) (js : List JobX) : Prop where
  ln : js.length = l.length
  jn : ∀ i, i < l.length → -1 ≤ (jxAt js i).num ∧ (jxAt js i).num ≤ now
  jr : ∀ i, i < l.length → 0 ≤ (jxAt js i).rel ∧ (jxAt js i).rel ≤ now
  jl : ∀ i, i < l.length → 0 ≤ (jxAt js i).lft ∧ (jxAt js i).lft ≤ (tskAt l i).cost
theorem ExOk.mid {l : List Tsk} {xs : List Int} {st : ExS} (h : ExOk l xs st) : MidOk l st.now st.js :=
  ⟨h.ln, fun i hi => by have := h.jn i hi; omega, h.jr, h.jl⟩
/-- the jobs that are still to be released have numbers of the past -/
def Fresh (now : Int) (js : List JobX) (is : List Nat) : Prop := ∀ i ∈ is, (jxAt js i).num ≤ now - 1
theorem mid_start {l : List Tsk} {now n : Int} {js : List JobX} {i : Nat} (h : MidOk l now js) (hi : i < l.length) (h0 : 0 ≤ now) (hf : (jxAt js i).num ≤ now - 1) (hn0 : 0 ≤ n) (hn1 : n ≤ (tskAt l i).cost) :
    MidOk l now (js.set i ⟨(jxAt js i).num + 1, now, n⟩) := by
  have hl : i < js.length := by rw [h.ln]; exact hi
  refine ⟨by rw [List.length_set]; exact h.ln, fun k hk => ?_, fun k hk => ?_, fun k hk => ?_⟩ <;> rw [jxAt_set hl] <;> split
  · have := h.jn i hi; dsimp only; omega
  · exact h.jn k hk
  · dsimp only; omega
  · exact h.jr k hk
  · next e => subst e; exact ⟨hn0, hn1⟩
  · exact h.jl k hk
theorem fresh_start {now : Int} {js : List JobX} {i : Nat} {is : List Nat} {j : JobX} (h : Fresh now js is) (hl : i < js.length) (hne : ∀ k ∈ is, i < k) : Fresh now (js.set i j) is := by
  intro k hk
  rw [jxAt_set hl, if_neg (by have := hne k hk; omega)]
  exact h k hk
theorem start_ok {l : List Tsk} {now : Int} (h0 : 0 ≤ now) : ∀ (is : List Nat) (ns : List Int) (js : List JobX) (d : List Don), MidOk l now js → Fresh now js is → is.Pairwise (· < ·) → (∀ i ∈ is, i < l.length) → needOk l is ns = true →
    MidOk l now (startX now is ns (js, d)).1 ∧ (startX now is ns (js, d)).2.length ≤ d.length + is.length
  | [], ns, js, d, h, _, _, _, _ => by cases ns <;> exact ⟨h, by simp [startX]⟩
  | i :: is, [], js, d, h, _, _, _, _ => ⟨h, by simp [startX]⟩
  | i :: is, n :: ns, js, d, h, hf, hs, hi, hn => by
    rw [List.pairwise_cons] at hs
    simp only [needOk, Bool.and_eq_true, decide_eq_true_eq] at hn
    have hil := hi i (by simp)
    have hl : i < js.length := by rw [h.ln]; exact hil
    have hm := mid_start h hil h0 (hf i (by simp)) hn.1.1 hn.1.2
    have := start_ok h0 is ns _ (if n = 0 then d ++ [⟨i, (jxAt js i).num + 1, now, 0, false⟩] else d) hm (fresh_start (fun k hk => hf k (by simp [hk])) hl hs.1) hs.2 (fun k hk => hi k (by simp [hk])) hn.2
    simp only [startX]
    refine ⟨this.1, Nat.le_trans this.2 ?_⟩
    split <;> simp <;> omega
theorem run_ok {l : List Tsk} {now k : Int} {p : List JobX × List Don} (h : MidOk l now p.1) (hk : k < l.length) : MidOk l now (runX now k p).2.1 := by
  obtain ⟨js, d⟩ := p
  dsimp only at h
  unfold runX
  split
  · exact h
  · next hc =>
    dsimp only at hc ⊢
    have hl : k.toNat < js.length := by rw [h.ln]; omega
    have hj := h.jl k.toNat (by omega)
    refine ⟨by rw [List.length_set]; exact h.ln, fun i hi => ?_, fun i hi => ?_, fun i hi => ?_⟩ <;> rw [jxAt_set hl] <;> split
    · exact h.jn _ (by omega)
    · exact h.jn i hi
    · exact h.jr _ (by omega)
    · exact h.jr i hi
    · next e => subst e; dsimp only; omega
    · exact h.jl i hi
theorem tick_ok {l : List Tsk} {xs : List Int} {st : ExS} (h : ExOk l xs st) (needs : List Int) : ExOk l xs (tickX l xs st needs).st := by
  unfold tickX
  split
  · next hc =>
    dsimp only
    have h1 := (start_ok h.n0 (relL st.now 0 l) needs st.js [] h.mid (fun i hi => (h.jn i (by have := relL_mem l 0 hi; omega)).2) (relL_sorted _ _ _) (fun i hi => by have := relL_mem l 0 hi; omega) hc.2).1
    have hk := h.xk _ (tickK_mem h.n0 h.x1)
    have h2 := run_ok h1 hk.2
    exact ⟨h.h0, by dsimp only; have := h.n0; omega, h2.ln, h.l1, h.l8, fun i hi => by have := h2.jn i hi; dsimp only; omega, fun i hi => by have := h2.jr i hi; dsimp only; omega, h2.jl, h.xk, h.x1, h.x2⟩
  · exact h
theorem ex0_ok {l : List Tsk} {xs : List Int} (h : chkT l xs = 0) : ExOk l xs (ex0 l) := by
  have he : (hyp l).2 = 0 := by
    by_cases he : (hyp l).2 = 0
    · exact he
    · rw [chkT_err he] at h; exact absurd h he
  have h0 := rchk_pos_e he
  cases ho : offsB l with
  | true => rw [chkT_off he ho] at h; exact absurd h (by decide)
  | false =>
    rw [chkT_on he ho] at h
    obtain ⟨_, a, b⟩ := hyp_dvd h0 he
    have hc0 : 1 ≤ l.length := by
      rcases Nat.eq_zero_or_pos l.length with e | e
      · exfalso
        have : l = [] := List.length_eq_zero_iff.mp e
        subst this
        exact absurd h0 (by decide)
      · exact e
    split at h
    · exact absurd h (by decide)
    · next hl =>
      have hl' : (xs.length : Int) = (hyp l).1 := by simpa using hl
      split at h
      · exact absurd h (by decide)
      · next hb =>
        have hb' : xs.any (badK l) = false := by simpa using hb
        have hat : ∀ i, i < l.length → jxAt (ex0 l).js i = ⟨-1, 0, 0⟩ := fun i hi => by simp [ex0, jxAt, List.getD, hi]
        refine ⟨h0, by simp [ex0], by simp [ex0], hc0, (rchk_ok h0).1, fun i hi => ?_, fun i hi => ?_, fun i hi => ?_, badK_false hb', by omega, by omega⟩
        · rw [hat i hi]; simp [ex0]
        · rw [hat i hi]; simp [ex0]
        · rw [hat i hi]; have := (tok_at h0 hi).c1; dsimp only; omega
end Go.Proofs.Ytbilfpoghohddaa
/- executive: the program's memory; none, Now, Released. -/
namespace Go.Proofs.Ytbilfpoghohddaa
open Go.RowKit
def jxC (j : JobX) : List Value := [.int .i64 j.num, .int .i64 j.rel, .int .i64 j.lft]
theorem jxC_len (j : JobX) : (jxC j).length = 3 := rfl
/-- the array of the jobs, whole -/
def exJ (js : List JobX) : List JobX := js ++ List.replicate (8 - js.length) ⟨-1, 0, 0⟩
theorem exJ_len {js : List JobX} (h : js.length ≤ 8) : (exJ js).length = 8 := by simp [exJ]; omega
theorem exJ_at {js : List JobX} {i : Nat} (h : i < js.length) : (exJ js)[i]? = some (jxAt js i) := by
  simp [exJ, jxAt, List.getD, List.getElem?_append_left h, h]
theorem exJ_set {js : List JobX} {i : Nat} (h : i < js.length) (j : JobX) : exJ (js.set i j) = (exJ js).set i j := by
  unfold exJ; rw [List.length_set, List.set_append_left _ _ h]
def exC (lv tv : Value) (st : ExS) : List Value := lv :: tv :: .int .i64 st.now :: (exJ st.js).flatMap jxC
/-- the program's executive -/
structure ExAt (wb w : World) (be : Nat) (lv tv : Value) (l : List Tsk) (xs : List Int) (st : ExS) : Prop where
  bl : Bel wb w
  be_ : wb.heap.size ≤ be
  own : ∃ sv : Nat → Value, (∀ i, i < l.length → SecsAt wb wb.heap.size (sv i) (tskAt l i).secs) ∧ w.ownsRow wb.heap.size 57 7 lv l.length (rowT l sv l.length)
  ox : w.ownsRow wb.heap.size 3 1 tv xs.length (intsC xs)
  row : RowAt w be 51 (exC lv tv st)
theorem tsks_own {w : World} {base : Nat} {v : Value} {l : List Tsk} {svs : Nat → Value} (h : w.ownsRow base 57 7 v l.length (rowT l svs l.length)) (h0 : 0 < l.length) (hs : ∀ i, i < l.length → SecsAt w w.heap.size (svs i) (tskAt l i).secs) : TsksAt w w.heap.size v l := by
  obtain ⟨g, cap, rfl, hc, _, hlt⟩ := own_form h h0
  refine ⟨_, cap, rfl, hc, fun _ => ⟨g, 0, rfl, hlt, fun i hi => ⟨svs i, ?_, hs i hi⟩⟩⟩
  have hk : ∀ k, k < 7 → w.cell? ⟨g, 0 + i * 7 + k, none⟩ = (tskCells (tskAt l i) (svs i))[k]? := fun k hk => by
    rw [Nat.zero_add, h.cellAt (i * 7 + k) (by omega), rowT_at _ _ _ i k hi hk]
  exact ⟨hk 0 (by omega), hk 1 (by omega), hk 2 (by omega), hk 3 (by omega), hk 4 (by omega), hk 5 (by omega), hk 6 (by omega)⟩
section
variable {wb w w' : World} {be : Nat} {lv tv : Value} {l : List Tsk} {xs : List Int} {st : ExS}
theorem ExAt.bel (h : ExAt wb w be lv tv l xs st) (hb : Bel w w') : ExAt wb w' be lv tv l xs st := ⟨h.bl.trans hb, h.be_, let ⟨sv, h1, h2⟩ := h.own; ⟨sv, h1, ownsRow_bel h2 hb⟩, ownsRow_bel h.ox hb, h.row.bel hb⟩
theorem ExAt.tsks (h : ExAt wb w be lv tv l xs st) (h0 : 0 < l.length) : TsksAt w w.heap.size lv l :=
  let ⟨_, h1, h2⟩ := h.own; tsks_own h2 h0 (fun i hi => (h1 i hi).keep h.bl.keeps h.bl.le)
theorem ExAt.ints (h : ExAt wb w be lv tv l xs st) : IntsAt w w.heap.size tv xs := IntsAt.of_own h.ox
theorem ExAt.lform (h : ExAt wb w be lv tv l xs st) : ∃ A c, lv = .slice A l.length c ∧ l.length ≤ c := let ⟨_, _, h2⟩ := h.own; own_slice h2
theorem ExAt.xform (h : ExAt wb w be lv tv l xs st) : ∃ A c, tv = .slice A xs.length c ∧ xs.length ≤ c := own_slice h.ox
/-- another executive is turned -/
theorem ExAt.gro (h : ExAt wb w be lv tv l xs st) {p : Nat} {cs : List Value} (g : w.grownBy w' (some p)) (hp : wb.heap.size ≤ p) (hr : RowAt w p 51 cs) (hne : be ≠ p) : ExAt wb w' be lv tv l xs st :=
  ⟨bel_gro h.bl g (fun k e => by injection e with e; omega), h.be_, let ⟨sv, h1, h2⟩ := h.own; ⟨sv, h1, h2.kept g (own_box_ne hr h2 (by decide))⟩, h.ox.kept g (own_box_ne hr h.ox (by decide)), h.row.gro g (fun e => by injection e with e; exact hne e)⟩
theorem ExAt.lt (h : ExAt wb w be lv tv l xs st) : be < w.heap.size := h.row.lt
theorem ExAt.c0 (h : ExAt wb w be lv tv l xs st) : w.cell? ⟨be, 0, none⟩ = some lv := h.row.cell rfl
theorem ExAt.c1 (h : ExAt wb w be lv tv l xs st) : w.cell? ⟨be, 1, none⟩ = some tv := h.row.cell rfl
theorem ExAt.c2 (h : ExAt wb w be lv tv l xs st) : w.cell? ⟨be, 2, none⟩ = some (.int .i64 st.now) := h.row.cell rfl
theorem exC_at {js : List JobX} {i r : Nat} (h : i < js.length) (hr : r < 3) : ((exJ js).flatMap jxC)[i * 3 + r]? = (jxC (jxAt js i))[r]? := by
  have hl : i < (exJ js).length := by simp [exJ]; omega
  rw [flat_at jxC_len (exJ js) i r hl hr]
  have := exJ_at h
  rw [List.getElem?_eq_getElem hl] at this
  injection this with this
  rw [this]
theorem ExAt.cj (h : ExAt wb w be lv tv l xs st) {i r : Nat} (hi : i < st.js.length) (hr : r < 3) : w.cell? ⟨be, 3 + i * 3 + r, none⟩ = (jxC (jxAt st.js i))[r]? := by
  rw [h.row.cell?, show 3 + i * 3 + r = (i * 3 + r) + 1 + 1 + 1 by omega, exC, List.getElem?_cons_succ, List.getElem?_cons_succ, List.getElem?_cons_succ, exC_at hi hr]
end
set_option maxRecDepth 100000 in
set_option maxHeartbeats 1000000 in
theorem none_at {be n c : Nat} {A : Option Addr} (w : World) (hc : w.cell? ⟨be, 1, none⟩ = some (.slice A n c)) : Calls Try.prog 36 #[.pointer (some ⟨be, 0, none⟩)] w fun e w' => e = .returned (.bool (decide (n = 0))) ∧ w = w' := by
  go_enter Try.func36, Try.ntmps36
  by_cases h : n = 0
  · subst h
    go_wp2
    go_ret
    exact ⟨rfl, rfl⟩
  · have q1 : ((n : Int) == 0) = false := by simp; omega
    have q2 : decide (n = 0) = false := by simpa using h
    rw [q2]
    go_wp2
    go_ret
    exact ⟨rfl, rfl⟩
set_option maxRecDepth 100000 in
set_option maxHeartbeats 1000000 in
theorem none_nil (w : World) : Calls Try.prog 36 #[.pointer none] w fun e w' => e = .returned (.bool true) ∧ w = w' := by
  go_enter Try.func36, Try.ntmps36
  go_wp2
  go_ret
  exact ⟨rfl, rfl⟩
set_option maxRecDepth 100000 in
set_option maxHeartbeats 1000000 in
theorem now_nil (w : World) : Calls Try.prog 16 #[.pointer none] w fun e w' => e = .returned (.int .i64 0) ∧ w = w' := by
  have HN := Lib.hid (none_nil w)
  go_enter Try.func16, Try.ntmps16
  go_wp2_with (first | (go_at_call 36; (with_reducible refine (HN.out).mono ?_); rintro e w2 ⟨rfl, rfl⟩))
  go_ret
  exact ⟨rfl, rfl⟩
set_option maxRecDepth 100000 in
set_option maxHeartbeats 1000000 in
theorem now_at {be n c : Nat} {A : Option Addr} {t : Int} (w : World) (hc : w.cell? ⟨be, 1, none⟩ = some (.slice A n c)) (ht : w.cell? ⟨be, 2, none⟩ = some (.int .i64 t)) : Calls Try.prog 16 #[.pointer (some ⟨be, 0, none⟩)] w fun e w' => e = .returned (.int .i64 (if n = 0 then 0 else t)) ∧ w = w' := by
  have HN := Lib.hid (none_at w hc)
  clear hc
  go_enter Try.func16, Try.ntmps16
  by_cases h : n = 0
  · have q2 : decide (n = 0) = true := by simpa using h
    rw [if_pos h]
    rw [q2] at HN
    clear h q2
    go_wp2_with (first | (go_at_call 36; (with_reducible refine (HN.out).mono ?_); rintro e w2 ⟨rfl, rfl⟩))
    go_ret
    exact ⟨rfl, rfl⟩
  · have q2 : decide (n = 0) = false := by simpa using h
    rw [if_neg h]
    rw [q2] at HN
    clear h q2
    go_wp2_with (first | (go_at_call 36; (with_reducible refine (HN.out).mono ?_); rintro e w2 ⟨rfl, rfl⟩))
    go_ret
    exact ⟨rfl, rfl⟩
end Go.Proofs.Ytbilfpoghohddaa
/- executive: Released of the program and of the reference. -/
namespace Go.Proofs.Ytbilfpoghohddaa
open Go.RowKit
def natC (is : List Nat) : List Value := is.map fun i : Nat => Value.int .i64 (i : Int)
theorem rel_split {now : Int} {l : List Tsk} {i : Nat} (h : i < l.length) : relL now i (l.drop i) = (if now % (tskAt l i).per = 0 then [i] else []) ++ relL now (i + 1) (l.drop (i + 1)) := by
  rw [tsks_drop h]
  conv => lhs; unfold relL
  split <;> simp
theorem rel_none {now : Int} {l : List Tsk} : relL now l.length (l.drop l.length) = [] := by rw [List.drop_length]; rfl
def RelPost (is : List Nat) (w : World) (e : Ending) (w' : World) : Prop := ∃ v, e = .returned v ∧ w'.ownsRow w.heap.size 3 1 v is.length (natC is) ∧ Bel w w'
theorem nat_ints {is : List Nat} {base : Nat} {w' : World} {v : Value} (ho : w'.ownsRow base 3 1 v is.length (natC is)) : IntsAt w' w'.heap.size v (is.map fun i : Nat => (i : Int)) := by
  rcases ho.2 with ⟨hv, h0⟩ | ⟨g, cap, cur, hv, h2, h3, h4, _⟩
  · have : is = [] := List.length_eq_zero_iff.mp h0
    subst this
    exact ⟨none, 0, hv, Nat.le_refl _, fun h => absurd h (by simp)⟩
  · subst hv
    refine ⟨_, cap, by simp, by simpa using h4, fun _ => ⟨g, 0, rfl, Blk.lt h3, fun i hi => ?_⟩⟩
    rw [List.length_map] at hi
    rw [Nat.zero_add]
    have := ho.cellAt i (by omega)
    rw [this]
    simp [natC, List.getD, hi]
theorem relPost_own {is : List Nat} {w w' : World} {v : Value} (ho : w'.ownsRow w.heap.size 3 1 v is.length (natC is)) (hb : Bel w w') : RelPost is w (.returned v) w' := ⟨v, rfl, ho, hb⟩
theorem relPost_nil {w w' : World} (hb : Bel w w') : RelPost [] w (.returned (.slice none 0 0)) w' := relPost_own (World.ownsRow_nil _ _ _ _) hb
set_option maxRecDepth 100000 in
set_option maxHeartbeats 1000000 in
theorem released_nil (w : World) : Calls Try.prog 14 #[.pointer none] w (RelPost [] w) := by
  have HN := Lib.hid (none_nil w)
  go_enter Try.func14, Try.ntmps14
  go_wp2_with (first | (go_at_call 36; (with_reducible refine (HN.out).mono ?_); rintro e w2 ⟨rfl, rfl⟩))
  go_ret
  exact relPost_nil Bel.refl
set_option maxRecDepth 100000 in
set_option maxHeartbeats 1000000 in
theorem released_none {be c : Nat} {A : Option Addr} (w : World) (hc : w.cell? ⟨be, 1, none⟩ = some (.slice A 0 c)) : Calls Try.prog 14 #[.pointer (some ⟨be, 0, none⟩)] w (RelPost [] w) := by
  have HN := Lib.hid (none_at w hc)
  have q2 : decide ((0 : Nat) = 0) = true := rfl
  rw [q2] at HN
  clear hc q2
  go_enter Try.func14, Try.ntmps14
  go_wp2_with (first | (go_at_call 36; (with_reducible refine (HN.out).mono ?_); rintro e w2 ⟨rfl, rfl⟩))
  go_ret
  exact relPost_nil Bel.refl
set_option maxRecDepth 100000 in
set_option maxHeartbeats 8000000 in
theorem released_any {wb : World} {be : Nat} {lv tv : Value} {l : List Tsk} {xs : List Int} {st : ExS} (w : World) (h : ExAt wb w be lv tv l xs st) (hok : ExOk l xs st) (hn : st.now ≤ 1000000) :
    Calls Try.prog 14 #[.pointer (some ⟨be, 0, none⟩)] w (RelPost (relL st.now 0 l) w) := by
  obtain ⟨Al, cl, rfl, _⟩ := h.lform
  obtain ⟨Ax, cx, rfl, _⟩ := h.xform
  have hl1 := hok.l1
  have hl8 := hok.l8
  have hx1 := hok.x1
  have HN := Lib.hid (none_at w h.c1)
  have q2 : decide (xs.length = 0) = false := decide_eq_false (by omega)
  rw [q2] at HN
  have HX := Lib.hid h
  have HT := Lib.hid (h.tsks (by omega))
  have HOK := Lib.hid hok
  have c0 := h.c0
  have c2 := h.c2
  have cz := h.lt
  have hn0 := hok.n0
  obtain ⟨iI, hiI, hz0, hz1, hz2⟩ := info_parts Try.infoInt
  clear h hok q2
  go_enter Try.func14, Try.ntmps14
  go_wp2_with (first | (go_at_call 36; (with_reducible refine (HN.out).mono ?_); rintro e w2 ⟨rfl, rfl⟩))
  have HE0 : Hid (relL st.now 0 l = [] ++ relL st.now 0 (l.drop 0)) := Lib.hid rfl
  clear HN
  go_loopw [12, 2] (fun si sv wr => ∃ (i : Nat) (z : Ext w) (v : Value) (is : List Nat), i ≤ l.length ∧ si = .int .i64 i ∧ sv = v ∧ wr = z.w ∧ z.w.ownsRow w.heap.size 3 1 v is.length (natC is) ∧ relL st.now 0 l = is ++ relL st.now i (l.drop i)) (fun si _ _ => l.length - (intOf si).toNat)
  case atStart => exact ⟨0, ⟨w, Bel.refl⟩, _, [], by omega, rfl, rfl, rfl, World.ownsRow_nil _ _ _ _, HE0.out⟩
  case round =>
    clear HE0
    obtain ⟨i, z, v, is, hi, rfl, rfl, rfl, ho, he⟩ := hrel
    have HO := Lib.hid ho
    have HE := Lib.hid he
    clear ho he
    by_cases hlt : i < l.length
    · have hdl : decide ((i : Int) < (l.length : Int)) = true := by simp; omega
      have hil : (i : Int) < (l.length : Int) := by omega
      obtain ⟨bt, ot, rfl, hbt, hA⟩ := HT.out.at_ (by omega)
      obtain ⟨sv, ⟨t0, t1, t2, t3, t4, t5, t6⟩, hS⟩ := hA i hlt
      obtain ⟨As, cs, rfl, _⟩ := hS.form
      have hpk := tok_at HOK.out.h0 hlt
      have hp1 := hpk.p1
      have hp2 := hpk.p2
      have HSP := Lib.hid (rel_split (now := st.now) hlt)
      have HLN : Hid (is.length ≤ 8) := Lib.hid (by
        have := relL_len st.now l 0
        rw [HE.out, List.length_append] at this
        omega)
      clear hA hS hpk
      go_upto_region 6 with (fail)
      generalize hW : World.alloc z.w _ = w4 at *
      have hb : Bel z.w w4 := by rw [← hW]; exact Bel.refl.alloc _
      have r4 : RowAt w4 z.w.heap.size 57 [.string (tskAt l i).name, .int .i64 (tskAt l i).per, .int .i64 (tskAt l i).off, .int .i64 (tskAt l i).dl, .int .i64 (tskAt l i).cost, .int .i64 (tskAt l i).prio, .slice As (tskAt l i).secs.length cs] := by rw [← hW]; exact RowAt.new _ _ _
      clear hW t0 t1 t2 t3 t4 t5 t6
      have HO4 := Lib.hid (ownsRow_bel HO.out hb)
      have d0 := ((HX.out.bel (z.bel.trans hb)).c2)
      have dz := ((HX.out.bel (z.bel.trans hb)).lt)
      have e1 := r4.cell (i := 1) rfl
      have ez := r4.lt
      have HB4 := Lib.hid (z.bel.trans hb)
      clear hb r4 HO
      generalize z.w.heap.size = n4 at *
      generalize (tskAt l i).per = p at *
      have hm1 := Int.emod_nonneg st.now (b := p) (by omega)
      have hm2 := Int.emod_lt_of_pos st.now (b := p) (by omega)
      have htm := Int.tmod_eq_emod_of_nonneg (a := st.now) (b := p) hn0
      have hpz : (p == 0) = false := by simp; omega
      have HMM : Hid ((st.now % p == 0) = decide (st.now % p = 0)) := Lib.hid (by rw [Bool.eq_iff_iff]; simp)
      by_cases hmz : st.now % p = 0
      · have hq : (st.now % p == 0) = true := by simpa using hmz
        rw [if_pos hmz] at HSP
        clear hmz
        (refine wp_region_ext (wb := w4) (by (repeat (first | exact Ext.bel _ | exact Bel.refl | refine Bel.alloc ?_ _ | refine Bel.drew ?_ | refine Bel.drewN ?_ _))) (by kernel_rfl) (by kernel_rfl) ?_; (repeat (any_goals (first | go_big_quiet_step (fail) | quiet_step (fail) | (refine wpQuiet_step (fun K hK => ?_); go_simp; split <;> (refine hK _ ?_; clear hK K))))); all_goals (refine wpQuiet_nil ?_; intro _ hw'; obtain ⟨y, hw''⟩ := hw'; subst hw''))
        have HO5 := Lib.hid (ownsRow_bel HO4.out y.bel)
        have HB5 := Lib.hid (HB4.out.trans y.bel)
        have hle := HB5.out.le
        have hln := HLN.out
        clear hm1 hm2 htm hpz hq
        go_wp2_with (at_builtin; go_must (refine wpList_append_own _ rfl _ _ 23 rfl w.heap.size 3 iI (.int .i64 0) 1 8 Try.underlying23 hiI hz0 hz1 hz2 rfl (by decide) _ _ _ rfl (HO5.out.alloc _) ⟨y.w.heap.size, 0, none⟩ 1 1 [.int .i64 (i : Int)] rfl rfl ?c1 ?c2 ?c3 ?c4 ?c5 ?_))
        case c1 => exact cells_new _ [.int .i64 (i : Int)] _
        case c2 => intro u hu; simp at hu; subst hu; rfl
        case c3 => unfold maxLen; omega
        case c4 => omega
        case c5 => simp; omega
        intro v' w5 hown1 hg1 _
        have hbel := bel_grown (HB5.out.alloc _) (HO5.out.alloc _) hg1
        obtain ⟨z5, rfl⟩ := ext_of hbel
        have HO6 : Hid (z5.w.ownsRow w.heap.size 3 1 v' (is ++ [i]).length (natC (is ++ [i]))) := Lib.hid (by
          rw [natC, List.map_append, List.length_append]; exact hown1)
        have HE6 : Hid (relL st.now 0 l = (is ++ [i]) ++ relL st.now (i + 1) (l.drop (i + 1))) := Lib.hid (by rw [HE.out, HSP.out, List.append_assoc])
        clear hown1 hg1 hbel
        go_wp2
        go_roundw
        case rel => exact ⟨i + 1, z5, v', is ++ [i], by omega, by go_num, rfl, rfl, HO6.out, HE6.out⟩
        case measure => simp [intOf]; omega
      · have hq : (st.now % p == 0) = false := by simpa using hmz
        rw [if_neg hmz] at HSP
        clear hmz
        (refine wp_region_ext (wb := w4) (by (repeat (first | exact Ext.bel _ | exact Bel.refl | refine Bel.alloc ?_ _ | refine Bel.drew ?_ | refine Bel.drewN ?_ _))) (by kernel_rfl) (by kernel_rfl) ?_; (repeat (any_goals (first | go_big_quiet_step (fail) | quiet_step (fail) | (refine wpQuiet_step (fun K hK => ?_); go_simp; split <;> (refine hK _ ?_; clear hK K))))); all_goals (refine wpQuiet_nil ?_; intro _ hw'; obtain ⟨y, hw''⟩ := hw'; subst hw''))
        have HO5 := Lib.hid (ownsRow_bel HO4.out y.bel)
        obtain ⟨z5, hz5⟩ := ext_of (HB4.out.trans y.bel)
        have HE6 : Hid (relL st.now 0 l = is ++ relL st.now (i + 1) (l.drop (i + 1))) := Lib.hid (by rw [HE.out, HSP.out, List.nil_append])
        rw [hz5] at HO5 ⊢
        clear hz5
        go_wp2
        go_roundw
        case rel => exact ⟨i + 1, z5, _, is, by omega, by go_num, rfl, rfl, HO5.out, HE6.out⟩
        case measure => simp [intOf]; omega
    · obtain rfl : i = l.length := by omega
      have hdl : decide ((l.length : Int) < (l.length : Int)) = false := by simp
      have HE6 : Hid (relL st.now 0 l = is) := Lib.hid (by rw [HE.out, rel_none, List.append_nil])
      clear HE
      go_wp2
      go_ret
      rw [HE6.out]
      exact relPost_own HO.out z.bel
end Go.Proofs.Ytbilfpoghohddaa
namespace Go.Proofs.Ytbilfpoghohddaa
open Go.RowKit
set_option maxRecDepth 100000 in
set_option maxHeartbeats 8000000 in
theorem rreleased_any {wb : World} {br : Nat} {lv xv nv rv fv : Value} {l : List Tsk} {now : Int} (w : World) (h0 : rchk l = 0) (hl1 : 1 ≤ l.length) (hl8 : l.length ≤ 8) (tl : TsksAt wb wb.heap.size lv l) (bl : Bel wb w)
    (hr : RowAt w br 41 [lv, xv, .int .i64 now, nv, rv, fv]) (hn0 : 0 ≤ now) (hn : now ≤ 1000000) :
    Calls Try.prog 15 #[.pointer (some ⟨br, 0, none⟩)] w (RelPost (relL now 0 l) w) := by
  obtain ⟨Al, cl, rfl, _⟩ := tl.form
  have HT := Lib.hid (tl.keep bl.keeps bl.le)
  have HR := Lib.hid hr
  have H0 := Lib.hid h0
  obtain ⟨iI, hiI, hz0, hz1, hz2⟩ := info_parts Try.infoInt
  clear h0 tl hr bl
  have HE0 : Hid (relL now 0 l = [] ++ relL now 0 (l.drop 0)) := Lib.hid rfl
  go_enter Try.func15, Try.ntmps15
  go_wp2
  go_loopw [4, 3] (fun si sv wr => ∃ (i : Nat) (z : Ext w) (v : Value) (is : List Nat), i ≤ l.length ∧ si = .int .i64 i ∧ sv = v ∧ wr = z.w ∧ z.w.ownsRow w.heap.size 3 1 v is.length (natC is) ∧ relL now 0 l = is ++ relL now i (l.drop i)) (fun si _ _ => l.length - (intOf si).toNat)
  case atStart => exact ⟨0, ⟨w, Bel.refl⟩, _, [], by omega, rfl, rfl, rfl, World.ownsRow_nil _ _ _ _, HE0.out⟩
  case round =>
    clear HE0
    obtain ⟨i, z, v, is, hi, rfl, rfl, rfl, ho, he⟩ := hrel
    have HO := Lib.hid ho
    have HE := Lib.hid he
    clear ho he
    have d0 := (HR.out.bel z.bel).cell (i := 0) rfl
    have d2 := (HR.out.bel z.bel).cell (i := 2) rfl
    have dz := (HR.out.bel z.bel).lt
    by_cases hlt : i < l.length
    · have hdl : decide ((i : Int) < (l.length : Int)) = true := by simp; omega
      have hil : (i : Int) < (l.length : Int) := by omega
      obtain ⟨bt, ot, rfl, hbt, hA⟩ := HT.out.at_ (by omega)
      obtain ⟨sv, ⟨t0, t1, t2, t3, t4, t5, t6⟩, hS⟩ := hA i hlt
      have s1 := (z.bel.cells _ (ot + i * 7 + 1) hbt).trans t1
      have hbz := ext_lt z hbt
      have hpk := tok_at H0.out hlt
      have hp1 := hpk.p1
      have hp2 := hpk.p2
      have HSP := Lib.hid (rel_split (now := now) hlt)
      have HLN : Hid (is.length ≤ 8) := Lib.hid (by
        have := relL_len now l 0
        rw [HE.out, List.length_append] at this
        omega)
      clear hA hS hpk t0 t1 t2 t3 t4 t5 t6
      go_upto_region 5 with (fail)
      have HZ := Lib.hid z.bel
      generalize z.w = w4 at *
      generalize (tskAt l i).per = p at *
      have hm1 := Int.emod_nonneg now (b := p) (by omega)
      have hm2 := Int.emod_lt_of_pos now (b := p) (by omega)
      have htm := Int.tmod_eq_emod_of_nonneg (a := now) (b := p) hn0
      have hpz : (p == 0) = false := by simp; omega
      by_cases hmz : now % p = 0
      · have hq : (now % p == 0) = true := by simpa using hmz
        rw [if_pos hmz] at HSP
        clear hmz
        (refine wp_region_ext (wb := w4) (by (repeat (first | exact Ext.bel _ | exact Bel.refl | refine Bel.alloc ?_ _ | refine Bel.drew ?_ | refine Bel.drewN ?_ _))) (by kernel_rfl) (by kernel_rfl) ?_; (repeat (any_goals (first | go_big_quiet_step (fail) | quiet_step (fail) | (refine wpQuiet_step (fun K hK => ?_); go_simp; split <;> (refine hK _ ?_; clear hK K))))); all_goals (refine wpQuiet_nil ?_; intro _ hw'; obtain ⟨y, hw''⟩ := hw'; subst hw''))
        have HO5 := Lib.hid (ownsRow_bel HO.out y.bel)
        have HB5 := Lib.hid (HZ.out.trans y.bel)
        have hle := HB5.out.le
        have hln := HLN.out
        clear hm1 hm2 htm hpz hq
        go_wp2_with (at_builtin; go_must (refine wpList_append_own _ rfl _ _ 23 rfl w.heap.size 3 iI (.int .i64 0) 1 8 Try.underlying23 hiI hz0 hz1 hz2 rfl (by decide) _ _ _ rfl (HO5.out.alloc _) ⟨y.w.heap.size, 0, none⟩ 1 1 [.int .i64 (i : Int)] rfl rfl ?c1 ?c2 ?c3 ?c4 ?c5 ?_))
        case c1 => exact cells_new _ [.int .i64 (i : Int)] _
        case c2 => intro u hu; simp at hu; subst hu; rfl
        case c3 => unfold maxLen; omega
        case c4 => omega
        case c5 => simp; omega
        intro v' w5 hown1 hg1 _
        have hbel := bel_grown (HB5.out.alloc _) (HO5.out.alloc _) hg1
        obtain ⟨z5, rfl⟩ := ext_of hbel
        have HO6 : Hid (z5.w.ownsRow w.heap.size 3 1 v' (is ++ [i]).length (natC (is ++ [i]))) := Lib.hid (by
          rw [natC, List.map_append, List.length_append]; exact hown1)
        have HE6 : Hid (relL now 0 l = (is ++ [i]) ++ relL now (i + 1) (l.drop (i + 1))) := Lib.hid (by rw [HE.out, HSP.out, List.append_assoc])
        clear hown1 hg1 hbel
        go_wp2
        go_roundw
        case rel => exact ⟨i + 1, z5, v', is ++ [i], by omega, by go_num, rfl, rfl, HO6.out, HE6.out⟩
        case measure => simp [intOf]; omega
      · have hq : (now % p == 0) = false := by simpa using hmz
        rw [if_neg hmz] at HSP
        clear hmz
        (refine wp_region_ext (wb := w4) (by (repeat (first | exact Ext.bel _ | exact Bel.refl | refine Bel.alloc ?_ _ | refine Bel.drew ?_ | refine Bel.drewN ?_ _))) (by kernel_rfl) (by kernel_rfl) ?_; (repeat (any_goals (first | go_big_quiet_step (fail) | quiet_step (fail) | (refine wpQuiet_step (fun K hK => ?_); go_simp; split <;> (refine hK _ ?_; clear hK K))))); all_goals (refine wpQuiet_nil ?_; intro _ hw'; obtain ⟨y, hw''⟩ := hw'; subst hw''))
        have HO5 := Lib.hid (ownsRow_bel HO.out y.bel)
        obtain ⟨z5, hz5⟩ := ext_of (HZ.out.trans y.bel)
        have HE6 : Hid (relL now 0 l = is ++ relL now (i + 1) (l.drop (i + 1))) := Lib.hid (by rw [HE.out, HSP.out, List.nil_append])
        rw [hz5] at HO5 ⊢
        clear hz5
        go_wp2
        go_roundw
        case rel => exact ⟨i + 1, z5, _, is, by omega, by go_num, rfl, rfl, HO5.out, HE6.out⟩
        case measure => simp [intOf]; omega
    · obtain rfl : i = l.length := by omega
      have hdl : decide ((l.length : Int) < (l.length : Int)) = false := by simp
      have HE6 : Hid (relL now 0 l = is) := Lib.hid (by rw [HE.out, rel_none, List.append_nil])
      clear HE
      go_wp2
      go_ret
      rw [HE6.out]
      exact relPost_own HO.out z.bel
end Go.Proofs.Ytbilfpoghohddaa
