import Derived.Test.YthcdemmamggboaaQtail
import Derived.Deep.RegionHeld3
import Derived.Deep.AppendLies
import Derived.Maps.AppendAt
/- any seat: a drawn region with reads, allocations and appends whose last operation stores. -/
namespace Go.Proofs.Ythcdemmamggboaa
open Go Region Go.RowKit
section
variable {P : Program} {md : Region.Mode} {ops : Array Oper} {S : World → Prop} {n : Nat} {init : Array Bool} {Q : Exit → Act → World → Prop}
/-- an operation that yields a value or fails -/
def pureOp (o : Oper) : Bool :=
  match o.op with
  | .move _ | .assign _ | .pick .. | .build .. | .load .. | .binOp .. | .unOp .. | .slice .. | .fieldAddr .. | .field .. | .indexAddr .. | .index .. | .nilCheck _ => true
  | .call c => match c.callee with | .builtin .len | .builtin .cap => true | _ => false
  | _ => false
theorem run_val {s : Sem Value} {w w' : World} {n : Next} (h : (do pure (Next.value (← s)) : Sem Next).run P w = .ok n w') : ∃ u, n = .value u := by
  rw [Sem.run_bind] at h
  cases hs : s.run P w with
  | ok u w1 =>
    rw [hs, Result.andThen_ok, Sem.run_pure] at h
    injection h with h _
    exact ⟨u, h.symm⟩
  | halt x w1 => rw [hs] at h; simp [Result.andThen] at h
theorem pureOp_value {o : Oper} (hp : pureOp o = true) {ρ : Operand → Value} {w w' : World} {n : Next} (h : (execOp ρ o).run P w = .ok n w') : ∃ u, n = .value u := by
  unfold execOp at h
  unfold pureOp at hp
  split at hp <;> rename_i hop <;> simp only [hop] at h
  · rw [Sem.run_pure] at h; injection h with h _; exact ⟨_, h.symm⟩
  · rw [Sem.run_pure] at h; injection h with h _; exact ⟨_, h.symm⟩
  · rename_i c x y
    rw [Sem.run_bind] at h
    cases hs : (asBool (ρ c)).run P w with
    | ok u w1 =>
      rw [hs, Result.andThen_ok] at h
      cases u <;> simp only [Bool.false_eq_true, if_true, if_false, Sem.run_pure] at h <;> (injection h with h _; exact ⟨_, h.symm⟩)
    | halt x w1 => rw [hs] at h; simp [Result.andThen] at h
  · exact run_val h
  · exact run_val h
  · exact run_val h
  · exact run_val h
  · exact run_val h
  · exact run_val h
  · exact run_val h
  · exact run_val h
  · exact run_val h
  · rename_i x
    split at h
    · simp [runtimePanic] at h
    · simp [runtimePanic] at h
    · simp [runtimePanic] at h
    · split at h
      · simp [runtimePanic] at h
      · rename_i nm _ _ _ _ ty vv _
        rw [Sem.run_bind] at h
        cases hs : (program : Sem Program).run P w with
        | ok p w1 =>
          rw [hs, Result.andThen_ok, Sem.run_bind] at h
          cases hs2 : (nilAhead (p.types.size + Made.depth) ty vv nm).run P w1 with
          | ok q w2 =>
            rw [hs2, Result.andThen_ok] at h
            split at h
            · rw [Sem.run_bind] at h; simp [unsupported] at h
            · rw [Sem.run_pure] at h; injection h with h _; exact ⟨_, h.symm⟩
          | halt y w2 => rw [hs2] at h; simp [Result.andThen] at h
        | halt y w1 => rw [hs] at h; simp [Result.andThen] at h
      · rw [Sem.run_pure] at h; injection h with h _; exact ⟨_, h.symm⟩
    · rw [Sem.run_pure] at h; injection h with h _; exact ⟨_, h.symm⟩
  · rename_i c
    split at hp
    · rename_i hc
      simp only [resolve, hc, Sem.run_bind, Sem.run_pure, Result.andThen_ok, invoke, builtin] at h
      exact run_val (P := P) (by rw [Sem.run_bind]; exact h)
    · rename_i hc
      simp only [resolve, hc, Sem.run_bind, Sem.run_pure, Result.andThen_ok, invoke, builtin] at h
      exact run_val (P := P) (by rw [Sem.run_bind]; exact h)
    · cases hp
  · cases hp
theorem quietAt_yields {o : Oper} {a : Act} {w : World} {v : Value} (hp : pureOp o = true) (h : o.quietAt P a S w v) : (execOp a.eval o).run P w = .ok (.value v) w := by
  unfold Oper.quietAt at h
  cases hr : (execOp a.eval o).run P w with
  | ok n w' =>
    obtain ⟨u, rfl⟩ := pureOp_value hp hr
    rw [hr] at h
    obtain ⟨rfl, rfl⟩ := h
    rfl
  | halt x w' => rw [hr] at h; exact h.elim
theorem yieldsIf_of {o : Oper} {v : Value} {a : Act} (hp : pureOp o = true) (h : YieldsIn P ops S o v a) : YieldsIf P ops S o v a :=
  h.imp (fun ⟨hw, hv⟩ => ⟨hw, fun w hS => quietAt_yields hp (hv w hS)⟩) id
/-- whatever order is drawn from here on; S holds behind each operation but those from number n on -/
def wpAnyE (P : Program) (md : Region.Mode) (ops : Array Oper) (Q : Exit → Act → World → Prop) (S : World → Prop) (n : Nat) : Nat → Array Bool → Act → World → Prop
  | 0, done, a, w => ready md ops done = [] ∧ Q .normal a w
  | f + 1, done, a, w =>
    (ready md ops done = [] → Q .normal a w) ∧
    ∀ i ∈ ready md ops done, wpOp P ops Q i (fun a' w' => (i < n → S w') ∧ wpAnyE P md ops Q S n f (done.setIfInBounds i true) a' w') a w
theorem wpAny_of_anyE : ∀ (f : Nat) (done : Array Bool) (a : Act) (w : World), wpAnyE P md ops Q S n f done a w → wpAny P md ops Q f done a w
  | 0, _, _, _, h => h
  | f + 1, _, _, _, h => ⟨h.1, fun i hi => wpOp_mono (fun a' w' h' => wpAny_of_anyE f _ a' w' h'.2) (h.2 i hi)⟩
theorem anyE_first {i : Nat} {oi : Oper} {v : Value} (hi : ops[i]? = some oi) (hsel : ∀ (j : Nat) (o : Oper) cs b, ops[j]? = some o → o.op ≠ .select cs b)
    (hQ : ∀ c a d v w, Q (.panic c) (a.put d v) w → Q (.panic c) a w) (hs : sinkI md ops init n = true) (hc : chainB md ops n = true) (hn : n < ops.size) (hin : i < n) (f : Nat) :
    ∀ (done : Array Bool) (a : Act) (w : World), Grown md ops n init done → Apart md ops i oi done → i ∈ ready md ops done → YieldsIf P ops S oi v a → S w →
      wpAnyE P md ops Q S n f (done.setIfInBounds i true) (a.put oi.dst v) w → wpAnyE P md ops Q S n (f + 1) done a w := by
  induction f with
  | zero =>
    intro done a w _ _ hr hy hS H
    refine ⟨fun h => (by rw [h] at hr; cases hr), fun j hj => ?_⟩
    by_cases hji : j = i
    · subst hji; exact hy.wpOp hi hS ⟨fun _ => hS, H⟩
    · have := ready_mono hj hji
      rw [H.1] at this
      cases this
  | succ f ih =>
    intro done a w inv hap hr hy hS H
    have early := late_all hc inv.inv (tail_late hs hc hn inv _ i (Nat.le_refl _) hin (mem_ready.1 hr).1)
    refine ⟨fun h => (by rw [h] at hr; cases hr), fun j hj => ?_⟩
    by_cases hji : j = i
    · subst hji; exact hy.wpOp hi hS ⟨fun _ => hS, H⟩
    · have hjn : j < n := Nat.lt_of_not_le fun h => early j h hj
      have h1 := H.2 j (ready_mono hj hji)
      obtain ⟨hju, oj, hoj, hall⟩ := mem_ready.1 hj
      have hno : ∀ e ∈ oj.after, binds md e = true → e.on ≠ i := fun e he hb heq => by
        have h1 := hall e he hb
        rw [heq, getD_both (mem_ready.1 hr).1] at h1
        cases h1
      have h2 := wpOp_putIf hoj (hap j oj hoj hji hju hno) (fun cs b => hsel i oi cs b hi) (fun cs b => hsel j oj cs b hoj) (fun c a w h => hQ c a _ _ w h) hy h1
      refine wpOp_mono (fun a' w' h3 => ⟨fun _ => h3.2.1 hjn, ih (done.setIfInBounds j true) a' w' (inv.set hj hjn) (fun k ok hk hki hku => hap k ok hk hki ?_) (ready_mono hr (Ne.symm hji)) h3.1 (h3.2.1 hjn) ?_⟩) h2
      · rcases Decidable.em (j = k) with rfl | hjk
        · exact hju
        · rwa [getD_set_ne true hjk] at hku
      · rw [Array.setIfInBounds_comm _ _ hji]
        exact h3.2.2
def lexP (md : Region.Mode) (ops : Array Oper) (n : Nat) : List Nat → Array Bool → Bool
  | [], _ => true
  | k :: r, done => decide (k < n) && (ready md ops done).contains k && free md ops done k && (match ops[k]? with | some o => pureOp o | none => false) && lexP md ops n r (done.setIfInBounds k true)
theorem anyE_lex (hQ : ∀ c a d v w, Q (.panic c) (a.put d v) w → Q (.panic c) a w) (hsel : noSelect ops = true) (hs : sinkI md ops init n = true) (hc : chainB md ops n = true) (hn : n < ops.size) {g : Nat} {w : World} (hS : S w) :
    ∀ (r : List Nat) (done : Array Bool) (a : Act), Grown md ops n init done → lexP md ops n r done = true →
      wpQuiet P ops S (fun a' => wpAnyE P md ops Q S n g (r.foldl (fun d i => d.setIfInBounds i true) done) a' w) (opsOf ops r) a → wpAnyE P md ops Q S n (g + r.length) done a w
  | [], done, a, _, _, h => h
  | k :: r, done, a, inv, hB, h => by
    simp only [lexP, Bool.and_eq_true, decide_eq_true_eq] at hB
    obtain ⟨⟨⟨⟨hkn, hr⟩, hf⟩, hp⟩, hB⟩ := hB
    have hr' : k ∈ ready md ops done := by simpa using hr
    obtain ⟨_, o, h0, _⟩ := mem_ready.1 hr'
    rw [h0] at hp
    have e : opsOf ops (k :: r) = o :: opsOf ops r := by simp [opsOf, h0]
    rw [e] at h
    obtain ⟨v, hy, hK⟩ := yieldsIn_of_qOp (C := S) (K := wpQuiet P ops S (fun a' => wpAnyE P md ops Q S n g ((k :: r).foldl (fun d i => d.setIfInBounds i true) done) a' w) (opsOf ops r)) h0 (by unfold qOp; simp only [h0]; exact h)
    refine anyE_first h0 (noSelect_spec hsel) hQ hs hc hn hkn (g + r.length) done a w inv (free_spec h0 hf) hr' (yieldsIf_of hp hy) hS ?_
    exact anyE_lex hQ hsel hs hc hn hS r _ _ (inv.set hr' hkn) hB hK
/-- the operations r are taken first: they read, and what they read does not change till the last operation -/
theorem anyE_takes {a : Act} {w : World} {done : Array Bool} {m g : Nat} (r : List Nat) (hQ : ∀ c a d v w, Q (.panic c) (a.put d v) w → Q (.panic c) a w) (hS : S w)
    (hI : decide (n < ops.size) && noSelect ops && sinkI md ops done n && chainB md ops n && lexP md ops n r done && decide (done.size = ops.size)
      && ((List.range ops.size).all fun j => !(done.getD j false) || (match ops[j]? with | some o => o.after.all (fun e => !(binds md e) || done.getD e.on false) | none => true))
      && ((List.range ops.size).all fun t => decide (t < n) || !(done.getD t true)) = true)
    (hm : m = g + r.length)
    (h : wpQuiet P ops S (fun a' => wpAnyE P md ops Q S n g (r.foldl (fun d i => d.setIfInBounds i true) done) a' w) (opsOf ops r) a) : wpAnyE P md ops Q S n m done a w := by
  simp only [Bool.and_eq_true, decide_eq_true_eq] at hI
  obtain ⟨⟨⟨⟨⟨⟨⟨hn, hsel⟩, hs⟩, hc⟩, hlex⟩, hsz⟩, hcl⟩, htl⟩ := hI
  have inv : Grown md ops n done done := by
    refine ⟨⟨hsz, fun j oj hoj hl e he hb => ?_, fun t ht ht2 => ?_⟩, fun _ h => h⟩
    · have hj : j < ops.size := (Array.getElem?_eq_some_iff.1 hoj).1
      have := List.all_eq_true.1 hcl j (List.mem_range.2 hj)
      rw [hl, hoj] at this
      simp only [Bool.not_true, Bool.false_or] at this
      have := Array.all_eq_true'.1 this e he
      rw [hb] at this
      simpa using this
    · have := List.all_eq_true.1 htl t (List.mem_range.2 ht2)
      simp only [Bool.or_eq_true, decide_eq_true_eq] at this
      simpa using this.resolve_left (by omega)
  subst hm
  exact anyE_lex hQ hsel hs hc hn hS r done a inv hlex h
/-- one operation comes next, and no other can -/
theorem anyE_one {a : Act} {w : World} {done : Array Bool} {f : Nat} (i : Nat) (o : Oper) (hr : ready md ops done = [i]) (ho : ops[i]? = some o)
    (h : ∀ K : Act → World → Prop, (∀ a' w', (i < n → S w') → wpAnyE P md ops Q S n f (done.setIfInBounds i true) a' w' → K a' w') → if Region.wanted o (yielded ops a.tmps) = true then o.wp P a w K Q else K (a.put o.dst undef) w) :
    wpAnyE P md ops Q S n (f + 1) done a w := by
  refine ⟨fun h0 => (by rw [hr] at h0; cases h0), fun j hj => ?_⟩
  rw [hr] at hj
  obtain rfl : j = i := by simpa using hj
  unfold wpOp
  simp only [ho]
  have := h (fun a' w' => (j < n → S w') ∧ wpAnyE P md ops Q S n f (done.setIfInBounds j true) a' w') (fun a' w' h1 h2 => ⟨h1, h2⟩)
  split
  · next hw => rw [if_pos hw] at this; exact .inl this
  · next hw => rw [if_neg hw] at this; exact this
theorem anyE_seq : ∀ (l : List Oper) (k : Nat) (done : Array Bool) (a : Act) (w : World), n ≤ k → (∀ j, l[j]? = ops[k + j]?) → seqB md ops l.length k done = true → wpList P ops Q l a w → wpAnyE P md ops Q S n l.length done a w
  | [], _, _, _, _, _, _, hB, h => ⟨by simpa [seqB] using hB, h⟩
  | o :: l, k, done, a, w, hk, hl, hB, h => by
    have h0 : ops[k]? = some o := by simpa using (hl 0).symm
    simp only [List.length_cons, seqB, Bool.and_eq_true, decide_eq_true_eq] at hB
    refine ⟨fun h1 => (by rw [hB.1] at h1; cases h1), fun i hi => ?_⟩
    rw [hB.1] at hi
    have hik : i = k := by simpa using hi
    subst hik
    have hw : wpOp P ops Q i (wpList P ops Q l) a w := by unfold wpOp; simp only [h0]; exact h
    exact wpOp_mono (fun a' w' h' => ⟨fun hin => absurd hin (by omega), anyE_seq l (i + 1) _ a' w' (by omega) (fun j => by have := hl (j + 1); simpa [Nat.add_assoc, Nat.add_comm 1 j] using this) hB.2 h'⟩) hw
/-- the rest in its order -/
theorem anyE_tail {l : List Oper} {a : Act} {w : World} {done : Array Bool} {m : Nat} (k : Nat) (hk : n ≤ k) (hm : m = l.length - k) (hB : seqB md l.toArray (l.length - k) k done = true)
    (h : wpList P l.toArray Q (l.drop k) a w) : wpAnyE P md l.toArray Q S n m done a w := by
  subst hm
  have := anyE_seq (P := P) (md := md) (ops := l.toArray) (S := S) (Q := Q) (n := n) (l.drop k) k done a w hk (fun j => by simp [List.getElem?_drop]) (by rw [List.length_drop]; exact hB) h
  rwa [List.length_drop] at this
theorem anyE_done {a : Act} {w : World} {done : Array Bool} (hr : ready md ops done = []) (h : Q .normal a w) : ∀ f, wpAnyE P md ops Q S n f done a w
  | 0 => ⟨hr, h⟩
  | _ + 1 => ⟨fun _ => h, by rw [hr]; simp⟩
end
/-- a world that has grown out of wc: of the blocks of wc only 'row' may have changed -/
def Gro (wc : World) (row : Option Nat) : Type := { w : World // wc.grownBy w row }
section
variable {wc : World} {row : Option Nat}
def Gro.w (y : Gro wc row) : World := y.1
theorem Gro.gro (y : Gro wc row) : wc.grownBy y.w row := y.2
theorem gro_refl (w : World) : w.grownBy w row := ⟨rfl, rfl, rfl, Nat.le_refl _, fun _ _ _ => rfl⟩
instance groSome : Nonempty (Gro wc row) := ⟨⟨wc, gro_refl wc⟩⟩
theorem gro_drew {w w' : World} (h : w.grownBy w' row) : w.grownBy w'.drew row := ⟨h.os, h.tape, h.output, h.size, h.block⟩
theorem gro_alloc {w w' : World} (h : w.grownBy w' row) (o : Obj) : w.grownBy (w'.alloc o) row := h.trans (World.grownBy_alloc _ _ _)
theorem gro_set {g : Nat} {w w' : World} (h : w.grownBy w' (some g)) (j : Nat) (v : Value) : w.grownBy (w'.setCell ⟨g, j, none⟩ v) (some g) :=
  h.trans ⟨rfl, rfl, rfl, by simp [World.setCell], fun k _ hk => Below.heap_setCell w' ⟨g, j, none⟩ v k (fun e => hk (by rw [e]))⟩
@[go_sem] theorem gro_cells (y : Gro wc row) (b o : Nat) (h : b < wc.heap.size) (h2 : some b ≠ row) : y.w.cell? ⟨b, o, none⟩ = wc.cell? ⟨b, o, none⟩ := y.gro.cell_far ⟨b, o, none⟩ h h2
@[go_sem] theorem gro_frozen (y : Gro wc row) (b o : Nat) (h : b < wc.heap.size) (h2 : some b ≠ row) : y.w.frozen? ⟨b, o, none⟩ = wc.frozen? ⟨b, o, none⟩ := y.gro.frozen_far ⟨b, o, none⟩ h h2
@[go_sem] theorem gro_lt (y : Gro wc row) {b : Nat} (h : b < wc.heap.size) : b < y.w.heap.size := Nat.lt_of_lt_of_le h y.gro.size
theorem gro_of {w : World} (h : wc.grownBy w row) : ∃ y : Gro wc row, w = y.w := ⟨⟨w, h⟩, rfl⟩
theorem gro_new {w w' w'' : World} {g : Nat} (h : w.grownBy w' none) (h2 : w'.grownBy w'' (some g)) (hg : w.heap.size ≤ g) : w.grownBy w'' none :=
  ⟨h2.os.trans h.os, h2.tape.trans h.tape, h2.output.trans h.output, Nat.le_trans h.size h2.size, fun k hk _ => (h2.block k (Nat.lt_of_lt_of_le hk h.size) (fun e => by injection e with e; omega)).trans (h.block k hk (by simp))⟩
theorem gro_weak {w w' : World} (h : w.grownBy w' none) (row : Option Nat) : w.grownBy w' row := ⟨h.os, h.tape, h.output, h.size, fun k hk _ => h.block k hk (by simp)⟩
theorem gro_bel {w w' : World} (h : w.grownBy w' none) : Bel w w' := ⟨h.os, h.tape, h.output, h.size, fun k hk => h.block k hk (by simp)⟩
theorem bel_gro {wb w : World} (h : Bel wb wc) (hg : wc.grownBy w row) (hr : ∀ k, row = some k → wb.heap.size ≤ k) : Bel wb w := Below.grown h hg h.size hr
end
section
variable {P : Program} {Q : Exit → Act → World → Prop}
/-- the beginning -/
theorem wp_region_E {id : Nat} {a : Act} {w : World} {l : List Oper} (n : Nat) (row : Option Nat) (hm : P.follows .mixedOrders = true)
    (h : wpAnyE P .any l.toArray (NoPanic Q) (fun w' => ∃ y : Gro w row, w' = y.w) n l.toArray.size (Array.replicate l.toArray.size false) a w.drew) : (Code.region id l.toArray true).wp P Q a w :=
  wp_region_noPanic (wp_region_any hm (wpAny_of_anyE (n := n) (S := fun w' => ∃ y : Gro w row, w' = y.w) _ _ _ _ h))
end
end Go.Proofs.Ythcdemmamggboaa
