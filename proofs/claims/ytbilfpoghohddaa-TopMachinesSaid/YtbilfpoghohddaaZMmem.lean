/- foliottop.shift: an executive and the greatest responses. -/
import Derived.Test.YtbilfpoghohddaaZXkmem
import Derived.Test.YtbilfpoghohddaaZMwr
namespace Go.Proofs.Ytbilfpoghohddaa
open Go Go.RowKit
theorem sh_rep (n : Nat) : List.replicate n (Value.int .i64 0) = intsC (List.replicate n 0) := by simp [intsC]
theorem sh_own_len {w : World} {base : Nat} {e : TypeId} {size n : Nat} {v : Value} {ys : List Value} (h : w.ownsRow base e size v n ys) : n ≤ maxLen := by
  rcases h.2 with ⟨_, h0⟩ | ⟨g, cap, cur, _, _, _, h1, h2, _⟩
  · rw [h0]; exact Nat.zero_le _
  · exact Nat.le_trans h1 h2
theorem sh_made (n : Nat) : madeCells (Value.int .i64 0).cells (n * 1) = Array.replicate n (Value.int .i64 0) := by
  apply Array.ext
  · simp [madeCells]
  · intro i h1 h2; simp [madeCells, Value.cells, Nat.mod_one]
theorem Try.shInfo : (Try.prog.info? 2).map (fun i => (i.zero, i.size, i.bytes)) = some (some (.int .i64 0), 1, 8) := by kernel_rfl
structure ShAt (ws w : World) (bE bw : Nat) (le te : Value) (l : List Tsk) (xs : List Int) (sE : ExS) (wr : List Int) : Prop where
  e : ExAt ws w bE le te l xs sE
  o : RowAt w bw 2 (intsC wr)
  ob : ws.heap.size ≤ bw
section
variable {ws w w' : World} {bE bw : Nat} {le te : Value} {l : List Tsk} {xs : List Int} {sE : ExS} {wr : List Int}
theorem ShAt.bel (h : ShAt ws w bE bw le te l xs sE wr) (hb : Bel w w') : ShAt ws w' bE bw le te l xs sE wr := ⟨h.e.bel hb, h.o.bel hb, h.ob⟩
theorem ShAt.ne (h : ShAt ws w bE bw le te l xs sE wr) : bw ≠ bE := kp_row_ne h.o h.e.row (by decide)
theorem ShAt.put (h : ShAt ws w bE bw le te l xs sE wr) (i : Nat) (v : Int) : ShAt ws (w.setCell ⟨bw, i, none⟩ (.int .i64 v)) bE bw le te l xs sE (wr.set i v) := by
  have g : w.grownBy (w.setCell ⟨bw, i, none⟩ (.int .i64 v)) (some bw) := gro_set (gro_refl _) i _
  have hp : ∀ k, some bw = some k → ws.heap.size ≤ k := fun k e => by injection e with e; rw [← e]; exact h.ob
  exact ⟨h.e.grown g hp (fun e => by injection e with e; exact h.ne e) (let ⟨_, _, b⟩ := h.e.own; own_box_ne h.o b (by decide)) (own_box_ne h.o h.e.ox (by decide)), by have := h.o.set i (.int .i64 v); rwa [intsC_set] at this, h.ob⟩
theorem ShAt.grow (h : ShAt ws w bE bw le te l xs sE wr) {base n : Nat} {v : Value} {ys : List Value} (ho : w.ownsRow base 2 1 v n ys) (hb : bw < base) (g : w.grownBy w' v.ownBlock) : ShAt ws w' bE bw le te l xs sE wr := by
  have hob := h.ob
  have hp : ∀ k, v.ownBlock = some k → ws.heap.size ≤ k := fun k e => by have := (ho.lt k e).1; omega
  refine ⟨h.e.grown g hp (fun e => box_row_ne h.e.row ho (by decide) e.symm) (let ⟨_, _, b⟩ := h.e.own; own_types_ne b ho (by decide)) (own_types_ne h.e.ox ho (by decide)), h.o.gro g (fun e => by have := (ho.lt bw e.symm).1; omega), h.ob⟩
theorem ShAt.turn (h : ShAt ws w bE bw le te l xs sE wr) {sE' : ExS} (he : ExAt ws w' bE le te l xs sE') (g : w.grownBy w' (some bE)) : ShAt ws w' bE bw le te l xs sE' wr :=
  ⟨he, h.o.gro g (fun e => by injection e with e; exact h.ne e), h.ob⟩
theorem ShAt.bl (h : ShAt ws w bE bw le te l xs sE wr) : Bel ws w := h.e.bl
end
/-- what holds at the head of a tick; f: all jobs need their Cost -/
structure ShOut (ws w : World) (bE bw : Nat) (le te : Value) (l : List Tsk) (xs : List Int) (f : Prop) (t k : Nat) (sE : ExS) (wr : List Int) : Prop where
  m : ShAt ws w bE bw le te l xs sE wr
  ok : ExOk l xs sE
  n : sE.now = t
  p : PreT l xs False t sE.js
  pf : f → PreT l xs True t sE.js
  fw : f → FullW l xs t wr
  lw : LessW l xs t wr
  ln : wr.length = l.length
  kt : k ≤ 8 * t
theorem shOut_start {ws w : World} {bE bw : Nat} {le te : Value} {l : List Tsk} {xs : List Int} (f : Prop) (hc : chkT l xs = 0) (h : ShAt ws w bE bw le te l xs (ex0 l) (List.replicate l.length 0)) : ShOut ws w bE bw le te l xs f 0 0 (ex0 l) (List.replicate l.length 0) :=
  ⟨h, ex0_ok hc, rfl, ex0_pre _ (srv_of hc), fun _ => ex0_pre _ (srv_of hc), fun _ => fullW_0 (srv_of hc), lessW_0, by simp, Nat.zero_le _⟩
/-- what holds in the midst of the releases of a tick -/
structure ShIn (ws w : World) (bE bw : Nat) (le te : Value) (l : List Tsk) (xs : List Int) (f : Prop) (t : Nat) (sE : ExS) (wr : List Int) (nb rb : Nat) (vr : Value) (r : List Nat) (j k : Nat) (v1 : Value) (ns : List Int) : Prop where
  m : ShAt ws w bE bw le te l xs sE wr
  nb_ : bw < nb
  nw : nb ≤ w.heap.size
  rr : w.ownsRow rb 3 1 vr r.length (natC r)
  o1 : w.ownsRow nb 2 1 v1 ns.length (intsC ns)
  j_ : j ≤ r.length
  nl : ns.length = j
  nn : needOk l (r.take j) ns = true
  cc : f → ns = (r.take j).map fun i => (tskAt l i).cost
  kt : k ≤ 8 * t + j
section
variable {ws w W W' : World} {bE bw : Nat} {le te : Value} {l : List Tsk} {xs : List Int} {f : Prop} {t : Nat} {sE : ExS} {wr : List Int} {nb rb : Nat} {vr : Value} {r : List Nat} {j k : Nat} {v1 : Value} {ns : List Int}
theorem ShIn.made (h : ShIn ws w bE bw le te l xs f t sE wr nb rb vr r j k v1 ns) (hb : Bel w W) (hj : j < r.length) {i : Nat} (hi : r[j]? = some i) {n : Int} (hn0 : 0 ≤ n) (hn1 : n ≤ (tskAt l i).cost) (hc : f → n = (tskAt l i).cost) {k' : Nat} (hk : k' ≤ k + 1) {v1' : Value}
    (ho : W'.ownsRow nb 2 1 v1' (ns.length + 1) (intsC ns ++ [.int .i64 n])) (hg : W.grownBy W' v1.ownBlock) : ShIn ws W' bE bw le te l xs f t sE wr nb rb vr r (j + 1) k' v1' (ns ++ [n]) := by
  have hnl := h.nl
  have hkt := h.kt
  have ht : r.take (j + 1) = r.take j ++ [i] := by rw [List.take_add_one, hi]; rfl
  refine ⟨(h.m.bel hb).grow (ownsRow_bel h.o1 hb) h.nb_ hg, h.nb_, Nat.le_trans h.nw (Nat.le_trans hb.le hg.size), (ownsRow_bel h.rr hb).kept hg (own_types_ne (ownsRow_bel h.rr hb) (ownsRow_bel h.o1 hb) (by decide)), ?_, hj, by simp [hnl], ?_, fun hf => ?_, by omega⟩
  · rw [intsC_snoc] at ho
    rw [List.length_append]; exact ho
  · rw [ht, need_snoc _ _ _ _ _ (by rw [hnl, List.length_take]; omega), h.nn]
    simp [hn0, hn1]
  · rw [ht, List.map_append, ← h.cc hf, hc hf]; rfl
end
theorem eat_all {l : List Tsk} {t : Nat} {op op' : List Int} {ds : List Don} (h : Eat l t op ds op') : ∀ y ∈ ds, y.tk < l.length ∧ 0 ≤ y.resp ∧ y.resp ≤ (tskAt l y.tk).dl := by
  induction h with
  | nil op => intro y hy; cases hy
  | cons a _ ih =>
    intro y hy
    rcases List.mem_cons.mp hy with rfl | hy
    · exact ⟨a.tk, a.r0, a.r1⟩
    · exact ih y hy
/-- a tick of shift -/
theorem sh_tick {l : List Tsk} {xs : List Int} (S : Srv l xs) {t : Nat} {st : ExS} (hnow : st.now = t) (P : PreT l xs False t st.js) {ns : List Int} (hn : needOk l (relL t 0 l) ns = true) (hc : ns.length = (relL t 0 l).length) :
    (tickX l xs st ns).err = 0 ∧ (tickX l xs st ns).st.now = ((t + 1 : Nat) : Int) ∧ PreT l xs False (t + 1) (tickX l xs st ns).st.js ∧ ∀ y ∈ (tickX l xs st ns).done, y.tk < l.length ∧ 0 ≤ y.resp ∧ y.resp ≤ (tskAt l y.tk).dl := by
  obtain ⟨op1, _, h1, h2⟩ := keep_open S P (op := st.js.map opn) (by simp [P.ln]) (fun i hi => by
    have : i < st.js.length := by rw [P.ln]; exact hi
    simp [List.getD, jxAt, this])
  obtain ⟨a, b, c, _, op2, d, _⟩ := keep_tick S hnow P hn hc (fun h => h.elim) h1 h2
  exact ⟨a, b, c, eat_all d⟩
/-- what holds in the midst of the responses of a tick -/
structure ShDn (ws w : World) (bE bw : Nat) (le te : Value) (l : List Tsk) (xs : List Int) (sE : ExS) (db : Nat) (dv : Value) (ds : List Don) (we : List Int) (m : Nat) (wr : List Int) : Prop where
  k : ShAt ws w bE bw le te l xs sE wr
  db_ : bw < db
  d : w.ownsRow db 60 5 dv ds.length (ds.flatMap donC)
  m_ : m ≤ ds.length
  ea : worstL wr (ds.drop m) = we
  ok : ∀ y ∈ ds, y.tk < l.length ∧ 0 ≤ y.resp ∧ y.resp ≤ (tskAt l y.tk).dl
  wl : wr.length = l.length
section
variable {ws w : World} {bE bw : Nat} {le te : Value} {l : List Tsk} {xs : List Int} {sE : ExS} {db : Nat} {dv : Value} {ds : List Don} {we : List Int} {m : Nat} {wr : List Int}
theorem ShDn.next (h : ShDn ws w bE bw le te l xs sE db dv ds we m wr) (hm : m < ds.length) : ∃ d, ds[m]? = some d ∧ (d.tk < l.length ∧ 0 ≤ d.resp ∧ d.resp ≤ (tskAt l d.tk).dl) ∧ worstL (wr.set d.tk (max (wr.getD d.tk 0) d.resp)) (ds.drop (m + 1)) = we := by
  have he := h.ea
  rw [List.drop_eq_getElem_cons hm] at he
  exact ⟨_, List.getElem?_eq_getElem hm, h.ok _ (List.getElem_mem hm), he⟩
theorem ShDn.cell (h : ShDn ws w bE bw le te l xs sE db dv ds we m wr) {g n c : Nat} (hv : dv = .slice (some ⟨g, 0, none⟩) n c) {d : Don} (hd : ds[m]? = some d) (r : Nat) (hr : r < 5) : w.cell? ⟨g, m * 5 + r, none⟩ = (donC d)[r]? := by
  subst hv
  have hm : m < ds.length := (List.getElem?_eq_some_iff.1 hd).1
  have h5 := h.d
  obtain ⟨_, _, e, _⟩ := own_form h5 (by omega)
  injection e with e1 e2 e3
  rw [e2] at h5
  rw [h5.cellAt (m * 5 + r) (by omega), flat_at donC_len ds m r hm hr]
  rw [List.getElem?_eq_getElem hm] at hd
  injection hd with hd
  rw [hd]
theorem ShDn.step {W : World} (h : ShDn ws w bE bw le te l xs sE db dv ds we m wr) (hm : m < ds.length) {i : Nat} {x : Int} (he : worstL (wr.set i x) (ds.drop (m + 1)) = we) (hb : Bel w W) : ShDn ws (W.setCell ⟨bw, i, none⟩ (.int .i64 x)) bE bw le te l xs sE db dv ds we (m + 1) (wr.set i x) := by
  have g : W.grownBy (W.setCell ⟨bw, i, none⟩ (.int .i64 x)) (some bw) := gro_set (gro_refl _) i _
  have hd := ownsRow_bel h.d hb
  exact ⟨(h.k.bel hb).put i x, h.db_, hd.kept g (.inr (fun e => by have := (hd.lt bw e).1; have := h.db_; omega)), hm, he, h.ok, by rw [List.length_set]; exact h.wl⟩
theorem ShDn.fin (h : ShDn ws w bE bw le te l xs sE db dv ds we ds.length wr) : wr = we := by
  have ho := h.ea
  rw [List.drop_length] at ho
  exact ho
end
/-- what shift hands back -/
def ShPost (l : List Tsk) (xs : List Int) (f : Prop) (T : Nat) (w : World) (e : Ending) (w' : World) : Prop :=
  ∃ (bw : Nat) (wr : List Int), e = .returned (.tuple #[.slice (some ⟨bw, 0, none⟩) l.length l.length, .bool true]) ∧ RowAt w' bw 2 (intsC wr) ∧ w.heap.size ≤ bw ∧ wr.length = l.length ∧ (f → FullW l xs T wr) ∧ LessW l xs T wr ∧ Bel w w'
theorem sh_post {l : List Tsk} {xs : List Int} {f : Prop} {T k bE bw : Nat} {w w1 w' : World} {le te : Value} {sE : ExS} {wr : List Int} (h : ShOut w1 w' bE bw le te l xs f T k sE wr) (hb : Bel w w1) : ShPost l xs f T w (.returned (.tuple #[.slice (some ⟨bw, 0, none⟩) l.length l.length, .bool true])) w' :=
  ⟨bw, wr, rfl, h.m.o, Nat.le_trans hb.le h.m.ob, h.ln, h.fw, h.lw, hb.trans h.m.bl⟩
end Go.Proofs.Ytbilfpoghohddaa
