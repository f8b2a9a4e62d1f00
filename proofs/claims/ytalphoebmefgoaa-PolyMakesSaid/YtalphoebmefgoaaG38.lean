import Derived.Test.YtalphoebmefgoaaZVdnm
import Derived.Test.YtalphoebmefgoaaG36
import Derived.Test.YtalphoebmefgoaaG37
import Derived.Test.YtalphoebmefgoaaG48
import Derived.Test.YtalphoebmefgoaaG1
import Derived.Laws.MakeOwn
import Derived.Lib.SliceRun
import Derived.Test.YtalphoebmefgoaaZVof
import Derived.Test.YtalphoebmefgoaaG15
import Derived.Deep.CutRange
import Derived.RangeFuncBox
import Derived.RangeFuncFrom
import Derived.RangeFuncWrites
import Derived.RangeFuncCalls
import Derived.OrdersIn
import Derived.TacticsIn
import Derived.OwnWalkIn
/- poly: ratios: what the operations hand back is a pair of machine words; lists of ratios; the sum at a point. -/
namespace Go.Proofs.Ytalphoebmefgoaa
open Go.RowKit
theorem i64_lit' {n : Int} (h1 : -9223372036854775808 ≤ n) (h2 : n ≤ 9223372036854775807) : i64 n := ⟨h1, h2⟩
theorem rmake_wf (n d : Int) : (rmake n d).1.wf ∧ i64 (rmake n d).2 := by
  unfold rmake
  split
  · exact ⟨⟨i64_lit' (by decide) (by decide), i64_lit' (by decide) (by decide)⟩, i64_lit' (by decide) (by decide)⟩
  · rename_i hd
    split
    · exact ⟨⟨i64_lit' (by decide) (by decide), i64_lit' (by decide) (by decide)⟩, i64_lit' (by decide) (by decide)⟩
    · rename_i hb
      have hg := gcdU_pos (a := absU n) hd
      have h1 := div_le (a := absU n) (g := gcdU (absU n) (absU d)) (by unfold absU; omega) hg
      have h2 := div_le (a := absU d) (g := gcdU (absU n) (absU d)) (by unfold absU; omega) hg
      refine ⟨⟨?_, i64_lit' (by simp only; omega) (by simp only; omega)⟩, i64_lit' (n := 0) (by decide) (by decide)⟩
      show i64 (if (n < 0) ≠ (d < 0) then -(absU n / gcdU (absU n) (absU d)) else absU n / gcdU (absU n) (absU d))
      split <;> exact i64_lit' (by omega) (by omega)
theorem bad_wf : (⟨0, 0⟩ : Rt).wf := ⟨i64_lit' (by decide) (by decide), i64_lit' (by decide) (by decide)⟩
theorem radd_wf (a b : Rt) : (radd a b).1.wf := by unfold radd; split <;> first | exact (rmake_wf _ _).1 | exact bad_wf
theorem rsub_wf (a b : Rt) : (rsub a b).1.wf := by unfold rsub; split <;> first | exact (rmake_wf _ _).1 | exact bad_wf
theorem rmul_wf (a b : Rt) : (rmul a b).1.wf := by unfold rmul; split <;> first | exact (rmake_wf _ _).1 | exact bad_wf
theorem rquo_wf (a b : Rt) : (rquo a b).1.wf := by unfold rquo; split <;> first | exact (rmake_wf _ _).1 | exact bad_wf
theorem rmid_wf (a b : Rt) : (rmid a b).1.wf := by unfold rmid; split <;> first | exact (rmake_wf _ _).1 | exact bad_wf
theorem one_wf {c : Int} (h : c.natAbs ≤ 2147483647) : (⟨c, 1⟩ : Rt).wf := ⟨i64_lit' (by simp only; omega) (by simp only; omega), i64_lit' (n := 1) (by decide) (by decide)⟩
def Rt.cells (a : Rt) : List Value := [.int .i64 a.num, .int .i64 a.den]
def zeroRt : Rt := ⟨0, 0⟩
def rtAt (p : List Rt) (i : Nat) : Rt := p.getD i zeroRt
/-- a slice value that reads as these ratios -/
def RatsAt (w : World) (B : Nat) (v : Value) (p : List Rt) : Prop := RdAt w B v 2 Rt.cells p
theorem RatsAt.bel {w w' : World} {v : Value} {p : List Rt} (h : RatsAt w w.heap.size v p) (hb : Bel w w') : RatsAt w' w'.heap.size v p := h.keep hb.keeps hb.le
theorem rtAt_get {p : List Rt} {i : Nat} (h : i < p.length) : rtAt p i = p[i] := by
  unfold rtAt; rw [List.getD_eq_getElem?_getD, List.getElem?_eq_getElem h]; rfl
theorem rd_rat {w : World} {b off : Nat} {p : List Rt} (k : ∀ i (h : i < p.length) r, r < 2 → w.cell? ⟨b, off + i * 2 + r, none⟩ = (Rt.cells p[i])[r]?) {i : Nat} (h : i < p.length) :
    w.cell? ⟨b, off + i * 2, none⟩ = some (.int .i64 (rtAt p i).num) ∧ w.cell? ⟨b, off + i * 2 + 1, none⟩ = some (.int .i64 (rtAt p i).den) := by
  rw [rtAt_get h]
  exact ⟨k i h 0 (by decide), k i h 1 (by decide)⟩
theorem rtAt_mem {p : List Rt} {i : Nat} (h : i < p.length) : rtAt p i ∈ p := by rw [rtAt_get h]; exact List.getElem_mem h
/-- the sum of coefficients times coordinates -/
def totF : List (Int × Rt) → Rt → Rt × Int
  | [], t => (t, 0)
  | (c, r) :: rest, t => if (rmul ⟨c, 1⟩ r).2 ≠ 0 then (⟨0, 0⟩, (rmul ⟨c, 1⟩ r).2) else if (radd t (rmul ⟨c, 1⟩ r).1).2 ≠ 0 then (⟨0, 0⟩, (radd t (rmul ⟨c, 1⟩ r).1).2) else totF rest (radd t (rmul ⟨c, 1⟩ r).1).1
def totL (a : List Int) (p : List Rt) : Rt × Int := totF (a.zip p) ⟨0, 1⟩
theorem totF_wf : ∀ (l : List (Int × Rt)) (t : Rt), t.wf → (totF l t).1.wf
  | [], t, h => h
  | (c, r) :: rest, t, _ => by
    unfold totF
    split
    · exact bad_wf
    · split
      · exact bad_wf
      · exact totF_wf rest _ (radd_wf _ _)
theorem zip_drop {a : List Int} {p : List Rt} {k : Nat} (hk : k < p.length) (ha : p.length ≤ a.length) : (a.zip p).drop k = (a.getD k 0, rtAt p k) :: (a.zip p).drop (k + 1) := by
  have hz : k < (a.zip p).length := by rw [List.length_zip]; omega
  rw [List.drop_eq_getElem_cons hz, List.getElem_zip, rtAt_get hk, List.getD_eq_getElem?_getD, List.getElem?_eq_getElem (by omega)]; rfl
theorem zip_all {a : List Int} {p : List Rt} (ha : p.length ≤ a.length) : (a.zip p).drop p.length = [] := by
  rw [List.drop_eq_nil_of_le]; rw [List.length_zip]; omega
theorem tot_wf (a : List Int) (p : List Rt) : (totL a p).1.wf := totF_wf _ _ ⟨i64_lit' (by decide) (by decide), i64_lit' (by decide) (by decide)⟩
end Go.Proofs.Ytalphoebmefgoaa
/- slices.Clone. -/
namespace Go.Proofs.Ytalphoebmefgoaa
open Go.RowKit
theorem cell_block2 {w w' : World} {a : Addr} (h : w'.heap[a.block]? = w.heap[a.block]?) : w'.cell? a = w.cell? a := by
  unfold World.cell?
  rw [h]
/-- a slice value whose cells are these -/
def SrcOf (w : World) (v : Value) (n : Nat) (cs : List Value) : Prop :=
  ∃ A c, v = .slice A n c ∧ n ≤ c ∧ (A = none → n = 0) ∧ (0 < n → ∃ b off, A = some ⟨b, off, none⟩ ∧ b < w.heap.size ∧ ∀ j u, cs[j]? = some u → w.cell? ⟨b, off + j, none⟩ = some u)
def CloneP (w : World) (e : TypeId) (size n : Nat) (cs : List Value) (en : Ending) (w' : World) : Prop := ∃ u, en = .returned u ∧ w'.ownsRow w.heap.size e size u n cs ∧ Bel w w'
theorem clone_nil {w : World} {e : TypeId} {size n : Nat} {cs : List Value} (hn : n = 0) (hc : cs.length = n * size) : CloneP w e size n cs (.returned (.slice none 0 0)) w := by
  subst hn
  have : cs = [] := List.length_eq_zero_iff.mp (by omega)
  subst this
  exact ⟨_, rfl, World.ownsRow_nil _ _ _ _, Bel.refl⟩
theorem add_ofs2 (b off j : Nat) : (⟨b, off, none⟩ : Addr).add j = ⟨b, off + j, none⟩ := by
  unfold Addr.add; split
  · subst_vars; rfl
  · rfl
theorem Try.infoI64 : (Try.prog.info? 2).map (fun i => (i.zero, i.size, i.bytes)) = some (some (.int .i64 0), 1, 8) := by kernel_rfl
set_option maxRecDepth 100000 in
set_option maxHeartbeats 4000000 in
theorem cloneI64_any (v : Value) (n : Nat) (cs : List Value) (w : World) (h : SrcOf w v n cs) (hl : cs.length = n * 1) (h1 : ∀ u ∈ cs, u.oneCell' = true) (hn : n ≤ 1000000) :
    Calls Try.prog 73 #[v] w (CloneP w 2 1 n cs) := by
  obtain ⟨A, c, rfl, hc, hA, h⟩ := h
  have HH := Lib.hid h
  have HL := Lib.hid hl
  have H1 := Lib.hid h1
  obtain ⟨i0, hi0, hy0, hy1, hy2⟩ := info_parts Try.infoI64
  have hnil := fun (a : Option Addr) (W : World) => Lib.run_eql_slice_nil (P := Try.prog) W 23 2 a n c 0 0 Try.underlying23
  cases A with
  | none =>
    have HP := Lib.hid (clone_nil (w := w) (e := 2) (hA rfl) hl)
    have hnil := hnil none
    obtain rfl : n = 0 := hA rfl
    clear h hl h1 hA
    simp only [Option.isNone_none] at hnil
    go_enter Try.func73, Try.ntmps73
    go_wp2
    go_ret
    exact HP.out
  | some ad =>
    have hnil := hnil (some ad)
    clear h hl h1 hA
    simp only [Option.isNone_some] at hnil
    go_enter Try.func73, Try.ntmps73
    go_upto_region 3 with (fail)
    have HSRC : Hid (∀ j u, cs[j]? = some u → w.cell? (ad.add j) = some u ∧ (ad.add j).block < w.heap.size) := Lib.hid (fun j u hj => by
      have hn0 : 0 < n := by
        rcases Nat.eq_zero_or_pos n with e | e
        · exfalso
          have : j < cs.length := (List.getElem?_eq_some_iff.1 hj).1
          have := HL.out
          rw [e] at this
          omega
        · exact e
      obtain ⟨b, off, e, hb, hcell⟩ := HH.out hn0
      injection e with e
      subst e
      rw [add_ofs2]
      exact ⟨hcell j u hj, hb⟩)
    have m1 := World.ownsRow_made (base := w.heap.size) (e := 2) (size := 1) w #[] 0 (Nat.le_refl _) (by unfold maxLen; omega) (by simp)
    have HM := Lib.hid m1
    have HLT : Hid (w.heap.size ≤ (w.alloc (.cells #[] 2)).heap.size) := Lib.hid (by simp [go_sem])
    clear m1
    go_wp2_with (at_builtin; go_must (refine wpList_append_own _ rfl _ _ 23 rfl w.heap.size 2 i0 (.int .i64 0) 1 8 Try.underlying23 hi0 hy0 hy1 hy2 rfl (by decide) _ _ _ rfl HM.out ad n c cs rfl (by have := HL.out; omega) ?d1 ?d2 ?d3 ?d4 ?d5 ?_))
    case d1 => exact fun j u hj => (cell_block2 (Below.heap_alloc w _ _ (HSRC.out j u hj).2)).trans (HSRC.out j u hj).1
    case d2 => exact H1.out
    case d3 => unfold maxLen; omega
    case d4 => omega
    case d5 => exact HLT.out
    intro v' w5 hown1 hg1 _
    have HO : Hid (w5.ownsRow w.heap.size 2 1 v' n cs) := Lib.hid (by simpa using hown1)
    have HB := Lib.hid (bel_grown (Bel.refl.alloc _) HM.out hg1)
    clear hown1 hg1
    go_wp2
    go_ret
    exact ⟨_, rfl, HO.out, HB.out⟩
theorem Try.infoLn : (Try.prog.info? 72).map (fun i => (i.zero, i.size, i.bytes)) = some (some (.agg #[.int .i64 0, .int .i64 0, .int .i64 0, .int .i64 0, .int .i64 0, .int .i64 0, .int .i64 0, .bool false]), 8, 64) := by kernel_rfl
set_option maxRecDepth 100000 in
set_option maxHeartbeats 4000000 in
theorem cloneLn_any (v : Value) (n : Nat) (cs : List Value) (w : World) (h : SrcOf w v n cs) (hl : cs.length = n * 8) (h1 : ∀ u ∈ cs, u.oneCell' = true) (hn : n ≤ 1000000) :
    Calls Try.prog 52 #[v] w (CloneP w 72 8 n cs) := by
  obtain ⟨A, c, rfl, hc, hA, h⟩ := h
  have HH := Lib.hid h
  have HL := Lib.hid hl
  have H1 := Lib.hid h1
  obtain ⟨i0, hi0, hy0, hy1, hy2⟩ := info_parts Try.infoLn
  have hnil := fun (a : Option Addr) (W : World) => Lib.run_eql_slice_nil (P := Try.prog) W 61 72 a n c 0 0 Try.underlying61
  cases A with
  | none =>
    have HP := Lib.hid (clone_nil (w := w) (e := 72) (hA rfl) hl)
    have hnil := hnil none
    obtain rfl : n = 0 := hA rfl
    clear h hl h1 hA
    simp only [Option.isNone_none] at hnil
    go_enter Try.func52, Try.ntmps52
    go_wp2
    go_ret
    exact HP.out
  | some ad =>
    have hnil := hnil (some ad)
    clear h hl h1 hA
    simp only [Option.isNone_some] at hnil
    go_enter Try.func52, Try.ntmps52
    go_upto_region 3 with (fail)
    have HSRC : Hid (∀ j u, cs[j]? = some u → w.cell? (ad.add j) = some u ∧ (ad.add j).block < w.heap.size) := Lib.hid (fun j u hj => by
      have hn0 : 0 < n := by
        rcases Nat.eq_zero_or_pos n with e | e
        · exfalso
          have : j < cs.length := (List.getElem?_eq_some_iff.1 hj).1
          have := HL.out
          rw [e] at this
          omega
        · exact e
      obtain ⟨b, off, e, hb, hcell⟩ := HH.out hn0
      injection e with e
      subst e
      rw [add_ofs2]
      exact ⟨hcell j u hj, hb⟩)
    have m1 := World.ownsRow_made (base := w.heap.size) (e := 72) (size := 8) w #[] 0 (Nat.le_refl _) (by unfold maxLen; omega) (by simp)
    have HM := Lib.hid m1
    have HLT : Hid (w.heap.size ≤ (w.alloc (.cells #[] 72)).heap.size) := Lib.hid (by simp [go_sem])
    clear m1
    go_wp2_with (at_builtin; go_must (refine wpList_append_own _ rfl _ _ 61 rfl w.heap.size 72 i0 (.agg #[.int .i64 0, .int .i64 0, .int .i64 0, .int .i64 0, .int .i64 0, .int .i64 0, .int .i64 0, .bool false]) 8 64 Try.underlying61 hi0 hy0 hy1 hy2 rfl (by decide) _ _ _ rfl HM.out ad n c cs rfl (by have := HL.out; omega) ?d1 ?d2 ?d3 ?d4 ?d5 ?_))
    case d1 => exact fun j u hj => (cell_block2 (Below.heap_alloc w _ _ (HSRC.out j u hj).2)).trans (HSRC.out j u hj).1
    case d2 => exact H1.out
    case d3 => unfold maxLen; omega
    case d4 => omega
    case d5 => exact HLT.out
    intro v' w5 hown1 hg1 _
    have HO : Hid (w5.ownsRow w.heap.size 72 8 v' n cs) := Lib.hid (by simpa using hown1)
    have HB := Lib.hid (bel_grown (Bel.refl.alloc _) HM.out hg1)
    clear hown1 hg1
    go_wp2
    go_ret
    exact ⟨_, rfl, HO.out, HB.out⟩
end Go.Proofs.Ytalphoebmefgoaa
/- poly.told: the lines as the callers get them. -/
namespace Go.Proofs.Ytalphoebmefgoaa
open Go.RowKit
def tellA (n : Nat) (x : Ln) : AL := ⟨x.a.take n, x.b, x.s⟩
theorem own_set {w : World} {base size n b o : Nat} {e : TypeId} {v u : Value} {xs : List Value} (h : w.ownsRow base e size v n xs) (hb : b < base) : (w.setCell ⟨b, o, none⟩ u).ownsRow base e size v n xs := by
  refine ⟨h.1, ?_⟩
  rcases h.2 with h0 | ⟨g, cap, cur, h1, h2, h3, h4⟩
  · exact .inl h0
  · exact .inr ⟨g, cap, cur, h1, h2, (Below.heap_setCell w _ _ g (by show g ≠ b; omega)).trans h3, h4⟩
theorem own_base {w : World} {base base' size n : Nat} {e : TypeId} {v : Value} {xs : List Value} (h : w.ownsRow base e size v n xs) (hb : base' ≤ base) : w.ownsRow base' e size v n xs := by
  refine ⟨h.1, ?_⟩
  rcases h.2 with h0 | ⟨g, cap, cur, h1, h2, h3⟩
  · exact .inl h0
  · exact .inr ⟨g, cap, cur, h1, Nat.le_trans hb h2, h3⟩
theorem gro_of_bel2 {w w' : World} (h : Bel w w') : w.grownBy w' none := ⟨h.os, h.tape, h.output, h.size, fun k hk _ => h.block k hk⟩
/-- the row of lines while it is filled -/
structure TolR (w : World) (b : Nat) (xs : List Value) (l : List Ln) (n k : Nat) : Prop where
  row : RowAt w b 25 xs
  len : xs.length = l.length * 3
  at_ : ∀ j, j < k → ∃ rv, xs[j * 3]? = some rv ∧ xs[j * 3 + 1]? = some (.int .i64 (lnAt l j).b) ∧ xs[j * 3 + 2]? = some (.bool (lnAt l j).s) ∧ w.ownsRow (b + 1) 2 1 rv ((lnAt l j).a.take n).length (((lnAt l j).a.take n).map (Value.int .i64))
theorem TolR.bel {w w' : World} {b : Nat} {xs : List Value} {l : List Ln} {n k : Nat} (h : TolR w b xs l n k) (hb : Bel w w') : TolR w' b xs l n k :=
  ⟨h.row.bel hb, h.len, fun j hj => let ⟨rv, h1, h2, h3, h4⟩ := h.at_ j hj; ⟨rv, h1, h2, h3, ownsRow_bel h4 hb⟩⟩
theorem TolR.put {w : World} {b : Nat} {xs : List Value} {l : List Ln} {n k : Nat} (h : TolR w b xs l n k) (hk : k < l.length) {rv : Value}
    (ho : w.ownsRow (b + 1) 2 1 rv ((lnAt l k).a.take n).length (((lnAt l k).a.take n).map (Value.int .i64))) :
    TolR (((w.setCell ⟨b, k * 3, none⟩ rv).setCell ⟨b, k * 3 + 1, none⟩ (.int .i64 (lnAt l k).b)).setCell ⟨b, k * 3 + 2, none⟩ (.bool (lnAt l k).s)) b (((xs.set (k * 3) rv).set (k * 3 + 1) (.int .i64 (lnAt l k).b)).set (k * 3 + 2) (.bool (lnAt l k).s)) l n (k + 1) := by
  refine ⟨((h.row.set _ _).set _ _).set _ _, by simp [h.len], fun j hj => ?_⟩
  have hl := h.len
  by_cases hjk : j = k
  · subst hjk
    refine ⟨rv, ?_, ?_, ?_, own_set (own_set (own_set ho (by omega)) (by omega)) (by omega)⟩
    · rw [List.getElem?_set_ne (by omega), List.getElem?_set_ne (by omega), List.getElem?_set_self (by omega)]
    · rw [List.getElem?_set_ne (by omega), List.getElem?_set_self (by simp; omega)]
    · rw [List.getElem?_set_self (by simp; omega)]
  · obtain ⟨r2, h1, h2, h3, h4⟩ := h.at_ j (by omega)
    refine ⟨r2, ?_, ?_, ?_, own_set (own_set (own_set h4 (by omega)) (by omega)) (by omega)⟩
    · rw [List.getElem?_set_ne (by omega), List.getElem?_set_ne (by omega), List.getElem?_set_ne (by omega), h1]
    · rw [List.getElem?_set_ne (by omega), List.getElem?_set_ne (by omega), List.getElem?_set_ne (by omega), h2]
    · rw [List.getElem?_set_ne (by omega), List.getElem?_set_ne (by omega), List.getElem?_set_ne (by omega), h3]
theorem TolR.all {w : World} {b : Nat} {xs : List Value} {l : List Ln} {n : Nat} (h : TolR w b xs l n l.length) : LinesAt w w.heap.size (.slice (some ⟨b, 0, none⟩) l.length l.length) (l.map (tellA n)) := by
  refine ⟨_, l.length, by simp, by simp, fun _ => ⟨b, 0, rfl, h.row.lt, fun i hi => ?_⟩⟩
  have hi2 : i < l.length := by simpa using hi
  obtain ⟨rv, h1, h2, h3, h4⟩ := h.at_ i hi2
  have e : alAt (l.map (tellA n)) i = tellA n (lnAt l i) := by
    rw [alAt_get hi, List.getElem_map, lnAt_get hi2]
  show ∃ rv, AlCells w b (0 + i * 3) (alAt (l.map (tellA n)) i) rv ∧ IntsAt w w.heap.size rv (alAt (l.map (tellA n)) i).a
  rw [e, Nat.zero_add]
  exact ⟨rv, ⟨h.row.cell h1, h.row.cell h2, h.row.cell h3⟩, IntsAt.of_own h4⟩
/-- a line with the value of its coefficients, as cells -/
def arC (p : Value × AL) : List Value := [p.1, .int .i64 p.2.b, .bool p.2.s]
/-- a row of lines whose coefficients are the call's own too -/
structure AO (W : World) (base : Nat) (v : Value) (L : List (Value × AL)) : Prop where
  own : W.ownsRow base 25 3 v L.length (L.flatMap arC)
  at_ : ∀ p, p ∈ L → W.ownsRow base 2 1 p.1 p.2.a.length (p.2.a.map (Value.int .i64))
theorem AO.base {W : World} {base base' : Nat} {v : Value} {L : List (Value × AL)} (h : AO W base v L) (hb : base' ≤ base) : AO W base' v L := ⟨own_base h.own hb, fun p hp => own_base (h.at_ p hp) hb⟩
theorem AO.nil {W : World} {base : Nat} : AO W base (.slice none 0 0) [] := ⟨World.ownsRow_nil _ _ _ _, fun p h => absurd h (by simp)⟩
theorem TolR.ao {w : World} {b : Nat} {xs : List Value} {l : List Ln} {n : Nat} (h : TolR w b xs l n l.length) (hl : l.length ≤ 1000000) : ∃ L, AO w b (.slice (some ⟨b, 0, none⟩) l.length l.length) L ∧ L.map Prod.snd = l.map (tellA n) := by
  have hlen : ((List.range l.length).map (fun j => ((xs[j * 3]?).getD (.slice none 0 0), tellA n (lnAt l j)))).length = l.length := by simp
  have hc : ∀ p : Value × AL, (arC p).length = 3 := fun _ => rfl
  have hx : xs = ((List.range l.length).map (fun j => ((xs[j * 3]?).getD (.slice none 0 0), tellA n (lnAt l j)))).flatMap arC := by
    apply List.ext_getElem?
    intro q
    by_cases hq : q < l.length * 3
    · have h3 : q % 3 < 3 := Nat.mod_lt _ (by decide)
      obtain ⟨rv, h1, h2, h3', _⟩ := h.at_ (q / 3) (by omega)
      have e := flat_at hc ((List.range l.length).map (fun j => ((xs[j * 3]?).getD (.slice none 0 0), tellA n (lnAt l j)))) (q / 3) (q % 3) (by rw [hlen]; omega) h3
      rw [show q / 3 * 3 + q % 3 = q by omega] at e
      rw [e, List.getElem_map, List.getElem_range, h1]
      have hr : q % 3 = 0 ∨ q % 3 = 1 ∨ q % 3 = 2 := by omega
      rcases hr with hr | hr | hr
      · rw [hr, show q = q / 3 * 3 by omega, h1, show q / 3 * 3 / 3 = q / 3 by omega]; rfl
      · rw [hr]
        conv => lhs; rw [show q = q / 3 * 3 + 1 by omega]
        rw [h2]; rfl
      · rw [hr]
        conv => lhs; rw [show q = q / 3 * 3 + 2 by omega]
        rw [h3']; rfl
    · rw [List.getElem?_eq_none (by rw [h.len]; omega), List.getElem?_eq_none (by rw [flat_len hc, hlen]; omega)]
  refine ⟨(List.range l.length).map (fun j => ((xs[j * 3]?).getD (.slice none 0 0), tellA n (lnAt l j))), ⟨?_, fun p hp => ?_⟩, ?_⟩
  · rw [hlen, ← hx]
    have hr := h.row
    unfold RowAt at hr
    exact ⟨h.len, .inr ⟨b, l.length, xs.toArray, rfl, Nat.le_refl _, hr, Nat.le_refl _, by unfold maxLen; omega, by rw [List.size_toArray, h.len], by rw [List.toList_toArray, ← h.len, List.take_length]⟩⟩
  · obtain ⟨j, hj, rfl⟩ := List.mem_map.1 hp
    obtain ⟨rv, h1, _, _, h4⟩ := h.at_ j (List.mem_range.1 hj)
    dsimp only
    rw [h1]
    exact own_base h4 (by omega)
  · rw [List.map_map]
    apply List.ext_getElem
    · simp
    · intro j h1 h2
      have hj : j < l.length := by simpa using h2
      simp [lnAt_get hj]
theorem Try.infoALine : (Try.prog.info? 25).map (fun i => (i.zero, i.size, i.bytes)) = some (some (.agg #[.slice none 0 0, .int .i64 0, .bool false]), 3, 40) := by kernel_rfl
def zeroA : List Value := [.slice none 0 0, .int .i64 0, .bool false]
theorem make_alines (n : Nat) (hn : n ≤ 1000000) (W : World) : ∃ xs : List Value, xs.length = n * 3 ∧ (Instr.makeSlice 22 (.int .i64 (n : Int)) (.int .i64 (n : Int))).run Try.prog W =
      .ok (.slice (some ⟨W.heap.size, 0, none⟩) n n) (W.alloc (.cells xs.toArray 25)) := by
  obtain ⟨i0, hi, hz0, hz1, hz2⟩ := info_parts3 Try.infoALine
  have h := run_make (P := Try.prog) W 22 25 i0 _ Try.underlying22 hi hz0 .i64 .i64 (n : Int) (n : Int) (by omega) (by omega) (by rw [hz2]; omega) (by omega)
  rw [hz1, Int.toNat_natCast] at h
  exact ⟨(madeCells (Value.agg #[.slice none 0 0, .int .i64 0, .bool false]).cells (n * 3)).toList, by simp [madeCells], by simpa using h⟩
def ToldPost (n : Nat) (l : List Ln) (w : World) (e : Ending) (w' : World) : Prop := ∃ v', e = .returned v' ∧ LinesAt w' w'.heap.size v' (l.map (tellA n)) ∧ Bel w w' ∧ ∃ L, AO w' w.heap.size v' L ∧ L.map Prod.snd = l.map (tellA n)
set_option maxRecDepth 100000 in
set_option maxHeartbeats 8000000 in
theorem told_any (n : Nat) (v : Value) (l : List Ln) (w : World) (hn : n ≤ 6) (h : LnsAt w w.heap.size v l) (hl : l.length ≤ 100000) :
    Calls Try.prog 40 #[.int .i64 n, v] w (ToldPost n l w) := by
  have H := Lib.hid h
  obtain ⟨A, c, rfl, hc⟩ := h.form
  clear h
  obtain ⟨xs0, hx0, hmk⟩ := make_alines l.length (by omega) w
  go_enter Try.func40, Try.ntmps40
  go_upto_region 2 with (fail)
  clear hmk
  have ro : TolR (w.alloc (.cells xs0.toArray 25)) w.heap.size xs0 l n 0 := ⟨RowAt.new _ _ _, hx0, fun j hj => absurd hj (by omega)⟩
  generalize hW : World.alloc _ _ = w1 at *
  have HB := Lib.hid (show Bel w w1 by rw [← hW]; exact Bel.refl.alloc _)
  clear hW
  have HR := Lib.hid ro
  clear ro
  obtain ⟨b, hb⟩ : ∃ b, b = w.heap.size := ⟨_, rfl⟩
  rw [← hb] at HR ⊢
  have HN : Hid (w.heap.size ≤ b) := Lib.hid (by omega)
  clear hb hx0
  go_wp2
  go_loopw [13] (fun s13 wq => ∃ (k : Nat) (y : Ext w) (xs : List Value), k ≤ l.length ∧ s13 = .int .i64 k ∧ wq = y.w ∧ TolR y.w b xs l n k) (fun s13 _ => l.length - (intOf s13).toNat)
  case atStart => exact ⟨0, ⟨_, HB.out⟩, xs0, Nat.zero_le _, rfl, rfl, HR.out⟩
  case round =>
    obtain ⟨k, y0, xs, hk, rfl, rfl, hr⟩ := hrel
    have HR := Lib.hid hr
    by_cases hlt : k < l.length
    · have hd : decide ((k : Int) < (l.length : Int)) = true := by simp; omega
      have hL : (k : Int) < (l.length : Int) := by omega
      have hn6 : ¬ (6 < n) := by omega
      have hn6' : (n : Int) ≤ 6 := by omega
      have wk : IntKind.i64.wrap ((k : Int) + 1) = ((k + 1 : Nat) : Int) := IntWalk.i64_in _ (by omega)
      obtain ⟨g, off, rfl, hg, hcl⟩ := (H.out.keep y0.bel.keeps y0.bel.le).at_ (by omega)
      obtain ⟨x0, x1, x2, x3, x4, x5, x6, x7⟩ := rd_line hcl hlt
      clear hcl hr
      go_upto_region 5 with (fail)
      have hBW : Bel y0.w (World.alloc y0.w (.cells (lnAt l k).cells.toArray 72)) := Bel.refl.alloc _
      have rx : RowAt (World.alloc y0.w (.cells (lnAt l k).cells.toArray 72)) y0.w.heap.size 72 (lnAt l k).cells := RowAt.new _ _ _
      generalize hX : lnAt l k = X at *
      have HX := Lib.hid hX
      clear hX
      unfold Ln.cells at rx hBW
      have HBL := Lib.hid (show b < y0.w.heap.size from HR.out.row.lt)
      generalize hW : World.alloc y0.w _ = w2 at *
      clear hW
      obtain ⟨p, hp⟩ : ∃ p, p = y0.w.heap.size := ⟨_, rfl⟩
      rw [← hp] at rx ⊢
      have HPB : Hid (b < p) := Lib.hid (by have := HBL.out; omega)
      clear hp
      have c6 := rx.cell (i := 6) rfl
      have c7 := rx.cell (i := 7) rfl
      have lx := rx.lt
      have HRX := Lib.hid rx
      have HB2 := Lib.hid (y0.bel.trans hBW)
      have HR2 := Lib.hid (HR.out.bel hBW)
      clear rx hBW x0 x1 x2 x3 x4 x5 x6 x7 hg
      (refine wp_region_E 12 none (by kernel_rfl) ?_; refine anyE_takes [0, 1, 2, 3, 4, 6, 7, 8, 9] (fun _ _ _ _ _ h => h) ⟨⟨_, gro_drew (gro_refl _)⟩, rfl⟩ (by kernel_rfl) (by rfl) ?_; simp only [opsOf, List.filterMap_cons, List.filterMap_nil, List.getElem?_toArray, List.getElem?_cons_succ, List.getElem?_cons_zero, List.foldl_cons, List.foldl_nil]; (repeat (any_goals (first | go_big_quiet_step (fail) | quiet_step (fail)))); refine wpQuiet_nil ?_)
      clear c6 c7 lx
      have rx := HRX.out.drew
      have HBD := Lib.hid (HB2.out.drew)
      have HRD := Lib.hid (show TolR w2.drew b xs l n k from HR2.out.bel Bel.refl.drew)
      have HG0 : Hid (w2.grownBy w2.drew none) := Lib.hid (gro_drew (gro_refl _))
      have HSRC : Hid (SrcOf w2.drew (.slice (some ⟨p, 0, none⟩) n 6) n ((X.a.take n).map (Value.int .i64))) := Lib.hid ⟨_, _, rfl, hn, fun h => (by cases h), fun _ => ⟨p, 0, rfl, rx.lt, fun j u hj => by
        rw [rx.cell?, Nat.zero_add]
        have hj2 : j < ((X.a.take n).map (Value.int .i64)).length := (List.getElem?_eq_some_iff.1 hj).1
        rw [List.length_map, List.length_take] at hj2
        rw [List.getElem?_map, List.getElem?_take, if_pos (by omega)] at hj
        rw [← hj]
        have : j = 0 ∨ j = 1 ∨ j = 2 ∨ j = 3 ∨ j = 4 ∨ j = 5 := by have : X.a.length = 6 := rfl; omega
        rcases this with rfl | rfl | rfl | rfl | rfl | rfl <;> rfl⟩⟩
      have HTL : Hid ((X.a.take n).length = n) := Lib.hid (by rw [List.length_take]; have : X.a.length = 6 := rfl; omega)
      clear rx HR2 HB2 HRX
      generalize w2.drew = wf at *
      have HC := Lib.hid (cloneI64_any _ _ _ _ HSRC.out (by rw [List.length_map, HTL.out, Nat.mul_one]) (fun u hu => by obtain ⟨c, _, rfl⟩ := List.mem_map.1 hu; rfl) (by omega))
      (refine anyE_one 5 _ (by kernel_rfl) (by rfl) (fun K hK => ?_))
      rw [if_pos (by rfl)]
      go_simp
      refine HC.out.mono ?_
      rintro _ w3 ⟨u, rfl, ho, hB⟩
      refine hK _ _ (fun _ => ⟨⟨_, HG0.out.trans (gro_of_bel2 hB)⟩, rfl⟩) ?_
      clear hK K
      have hbp : b + 1 ≤ wf.heap.size := HRD.out.row.lt
      have ho3 := own_base ho hbp
      obtain ⟨A3, c3, rfl, hc3⟩ := own_slice ho
      have hr3 := HRD.out.bel hB
      have HR3 := Lib.hid hr3
      have HB3 := Lib.hid (HBD.out.trans hB)
      have HO3 : Hid (w3.ownsRow (b + 1) 2 1 (.slice A3 n c3) (X.a.take n).length ((X.a.take n).map (Value.int .i64))) := Lib.hid (by rw [HTL.out]; exact ho3)
      have hxl := hr3.len
      have d0 : w3.cell? ⟨b, k * 3, none⟩ = some (xs[k * 3]'(by omega)) := hr3.row.cell (List.getElem?_eq_getElem _)
      have d1 : w3.cell? ⟨b, k * 3 + 1, none⟩ = some (xs[k * 3 + 1]'(by omega)) := hr3.row.cell (List.getElem?_eq_getElem _)
      have d2 : w3.cell? ⟨b, k * 3 + 2, none⟩ = some (xs[k * 3 + 2]'(by omega)) := hr3.row.cell (List.getElem?_eq_getElem _)
      have fz := fun q => hr3.row.frozen q
      have lb := hr3.row.lt
      have HRN : Hid (TolR (((w3.setCell ⟨b, k * 3, none⟩ (.slice A3 n c3)).setCell ⟨b, k * 3 + 1, none⟩ (.int .i64 X.b)).setCell ⟨b, k * 3 + 2, none⟩ (.bool X.s)) b (((xs.set (k * 3) (.slice A3 n c3)).set (k * 3 + 1) (.int .i64 X.b)).set (k * 3 + 2) (.bool X.s)) l n (k + 1)) := Lib.hid (by
        have := hr3.put hlt (rv := .slice A3 n c3) (by rw [HX.out]; exact HO3.out)
        rw [HX.out] at this; exact this)
      have HBN := Lib.hid (((HB3.out.set (p := ⟨b, k * 3, none⟩) HN.out (.slice A3 n c3)).set (p := ⟨b, k * 3 + 1, none⟩) HN.out (.int .i64 X.b)).set (p := ⟨b, k * 3 + 2, none⟩) HN.out (.bool X.s))
      have HGB := Lib.hid (HG0.out.trans (gro_of_bel2 hB))
      clear ho ho3 hr3 hB HO3 HC HSRC HRD HBD hbp
      (refine anyE_takes [10, 11] (fun _ _ _ _ _ h => h) ⟨⟨_, HGB.out⟩, rfl⟩ (by kernel_rfl) (by rfl) ?_; simp only [opsOf, List.filterMap_cons, List.filterMap_nil, List.getElem?_toArray, List.getElem?_cons_succ, List.getElem?_cons_zero, List.foldl_cons, List.foldl_nil]; (repeat (any_goals (first | go_big_quiet_step (fail) | quiet_step (fail)))); refine wpQuiet_nil ?_)
      (refine anyE_tail 12 (by decide) (by rfl) (by kernel_rfl) ?_; simp only [List.drop_succ_cons, List.drop_zero])
      go_wp2
      refine NoPanic.normal ?_
      generalize World.setCell (World.setCell (World.setCell w3 _ _) _ _) _ _ = W9 at *
      clear d0 d1 d2 fz lb hxl
      go_wp2
      go_roundw
      case rel => exact ⟨k + 1, ⟨_, HBN.out⟩, _, hlt, by go_num, rfl, HRN.out⟩
      case measure => simp [intOf]; omega
    · obtain rfl : k = l.length := by omega
      have hd : decide ((l.length : Int) < (l.length : Int)) = false := by simp
      have HB1 := Lib.hid y0.bel
      go_wp2
      go_ret
      obtain ⟨L, hL, hm⟩ := HR.out.ao (by omega)
      exact ⟨_, rfl, HR.out.all, HB1.out, L, ⟨own_base hL.own HN.out, fun p hp => own_base (hL.at_ p hp) HN.out⟩, hm⟩
end Go.Proofs.Ytalphoebmefgoaa
/- poly: the sum of a line's coefficients times the coordinates of a point: the walk. -/
namespace Go.Proofs.Ytalphoebmefgoaa
open Go.RowKit
theorem gro_then {w w1 w2 : World} (h : w.grownBy w1 none) (hb : Bel w1 w2) : w.grownBy w2 none := h.trans (gro_of_bel2 hb)
set_option maxRecDepth 100000 in
set_option maxHeartbeats 8000000 in
theorem total_any (x : Ln) (v : Value) (p : List Rt) (w : World) (hx : x.inr) (hp : p.length ≤ 6) (h : RatsAt w w.heap.size v p) (hw : ∀ r, r ∈ p → r.wf) :
    Calls Try.prog 65 #[.agg #[.int .i64 x.a0, .int .i64 x.a1, .int .i64 x.a2, .int .i64 x.a3, .int .i64 x.a4, .int .i64 x.a5, .int .i64 x.b, .bool x.s], v] w fun e w' => e = .returned (rresV (totL x.a p)) ∧ Bel w w' := by
  have HX := Lib.hid hx
  have H := Lib.hid h
  have HW := Lib.hid hw
  obtain ⟨A, c, rfl, hc⟩ := h.form
  clear h hw hx
  go_enter Try.func65, Try.ntmps65
  go_upto_region 2 with (fail)
  generalize hW : World.alloc (World.alloc w _) _ = w1 at *
  have hb : Bel w w1 := by rw [← hW]; exact (Bel.refl.alloc _).alloc _
  have r2 : RowAt w1 w.heap.size 72 x.cells := by rw [← hW]; exact (RowAt.new w 72 x.cells).alloc _
  have r4 : RowAt w1 (w.heap.size + 1) 41 (Rt.cells ⟨0, 1⟩) := by
    rw [← hW, ← size_alV w (.cells #[.int .i64 x.a0, .int .i64 x.a1, .int .i64 x.a2, .int .i64 x.a3, .int .i64 x.a4, .int .i64 x.a5, .int .i64 x.b, .bool x.s] 72)]; exact RowAt.new _ _ _
  clear hW
  obtain ⟨p4, hp4⟩ : ∃ b, b = w.heap.size + 1 := ⟨_, rfl⟩
  rw [← hp4] at r4 ⊢
  obtain ⟨p2, hp2⟩ : ∃ b, b = w.heap.size := ⟨_, rfl⟩
  rw [← hp2] at r2 ⊢
  have HN : Hid (w.heap.size ≤ p2 ∧ w.heap.size ≤ p4 ∧ p2 ≠ p4) := Lib.hid (by omega)
  clear hp2 hp4
  have HR2 := Lib.hid r2
  have HR4 := Lib.hid r4
  have HB := Lib.hid hb
  have HPL : Hid (p.length ≤ x.a.length) := Lib.hid hp
  clear r2 r4 hb
  go_wp2
  go_loopw [13] (fun s13 wq => ∃ (k : Nat) (y : Ext w) (t : Rt), k ≤ p.length ∧ s13 = .int .i64 k ∧ wq = y.w ∧ RowAt y.w p2 72 x.cells ∧ RowAt y.w p4 41 t.cells ∧ t.wf ∧ totF ((x.a.zip p).drop k) t = totL x.a p) (fun s13 _ => p.length + 1 - (intOf s13).toNat)
  case atStart => exact ⟨0, ⟨_, HB.out⟩, ⟨0, 1⟩, Nat.zero_le _, rfl, rfl, HR2.out, HR4.out, ⟨i64_lit' (n := 0) (by decide) (by decide), i64_lit' (n := 1) (by decide) (by decide)⟩, rfl⟩
  case round =>
    clear HR2 HR4 HB
    obtain ⟨k, y, t, hk, rfl, rfl, hr2, hr4, htw, hto⟩ := hrel
    have HR2 := Lib.hid hr2
    have HR4 := Lib.hid hr4
    have HTW := Lib.hid htw
    have HTO := Lib.hid hto
    have HB := Lib.hid y.bel
    clear htw hto
    by_cases hlt : k < p.length
    · have hd : decide ((k : Int) < (p.length : Int)) = true := by simp; omega
      have hL : (k : Int) < (p.length : Int) := by omega
      have wk : IntKind.i64.wrap ((k : Int) + 1) = ((k + 1 : Nat) : Int) := IntWalk.i64_in _ (by omega)
      have hk6 : k < 6 := by omega
      have h6' : (k : Int) < 6 := by omega
      have h60 : ¬ (k : Int) < 0 := by omega
      obtain ⟨g, off, rfl, hg, hcl⟩ := (H.out.keep y.bel.keeps y.bel.le).at_ (by omega)
      obtain ⟨x0, x1⟩ := rd_rat hcl hlt
      clear hcl
      have HRW := Lib.hid (HW.out _ (rtAt_mem hlt))
      have HZ : Hid (totF ((x.a.getD k 0, rtAt p k) :: (x.a.zip p).drop (k + 1)) t = totL x.a p) := Lib.hid (by rw [← zip_drop hlt HPL.out]; exact HTO.out)
      have HCW : Hid ((⟨ci x k, 1⟩ : Rt).wf) := Lib.hid (one_wf (HX.out.ci k))
      have hgd : x.a.getD k 0 = ci x k := rfl
      rw [hgd] at HZ
      have HCX := Lib.hid (box_ci hr2 hk6)
      clear HTO hgd hr2 hr4
      generalize rtAt p k = R at *
      generalize ci x k = C at *
      have hunf : totF ((C, R) :: (x.a.zip p).drop (k + 1)) t = if (rmul ⟨C, 1⟩ R).2 ≠ 0 then (⟨0, 0⟩, (rmul ⟨C, 1⟩ R).2) else if (radd t (rmul ⟨C, 1⟩ R).1).2 ≠ 0 then (⟨0, 0⟩, (radd t (rmul ⟨C, 1⟩ R).1).2) else totF ((x.a.zip p).drop (k + 1)) (radd t (rmul ⟨C, 1⟩ R).1).1 := rfl
      rw [hunf] at HZ
      clear hunf
      have HMU := Lib.hid (fun W => prmul_any ⟨C, 1⟩ R W HCW.out HRW.out)
      have HYW := Lib.hid (rmul_wf ⟨C, 1⟩ R)
      generalize rmul ⟨C, 1⟩ R = M at *
      obtain ⟨⟨yn, yd⟩, e1⟩ := M
      unfold rresV Rt.V at HMU
      simp only at HMU
      go_upto_region 5 with (fail)
      generalize hW : World.alloc y.w _ = w2 at *
      have rx : RowAt w2 y.w.heap.size 41 R.cells := by rw [← hW]; exact RowAt.new _ _ _
      have hB2 : Bel y.w w2 := by rw [← hW]; exact Bel.refl.alloc _
      clear hW x0 x1 hg
      obtain ⟨p7, hp7⟩ : ∃ b, b = y.w.heap.size := ⟨_, rfl⟩
      rw [← hp7] at rx ⊢
      clear hp7
      have HB2 := Lib.hid (HB.out.trans hB2)
      have HS2 := Lib.hid (HR2.out.bel hB2)
      have HS4 := Lib.hid (HR4.out.bel hB2)
      have c2 := (hB2.cells _ _ HR2.out.lt).trans HCX.out
      have l2 := HS2.out.lt
      have c70 := rx.cell (i := 0) rfl
      have c71 := rx.cell (i := 1) rfl
      have l7 := rx.lt
      clear hB2 HR2 HR4 HB HCX rx
      go_cut [8, 9, 13] from 13 to 42 (fun s8 s9 s13 wx => ∃ (q : Nat) (z : Ext w2), s8 = .pointer (some ⟨q, 0, none⟩) ∧ s9 = .int .i64 e1 ∧ s13 = .int .i64 k ∧ wx = z.w ∧ RowAt z.w q 41 [.int .i64 yn, .int .i64 yd] ∧ w2.heap.size ≤ q)
      case first =>
        (refine wp_region_E 12 none (by kernel_rfl) ?_; refine anyE_takes [0, 1, 2, 3, 4, 5] (fun _ _ _ _ _ h => h) ⟨⟨_, gro_drew (gro_refl _)⟩, rfl⟩ (by kernel_rfl) (by rfl) ?_; simp only [opsOf, List.filterMap_cons, List.filterMap_nil, List.getElem?_toArray, List.getElem?_cons_succ, List.getElem?_cons_zero, List.foldl_cons, List.foldl_nil]; (repeat (any_goals (first | go_big_quiet_step (fail) | quiet_step (fail)))); refine wpQuiet_nil ?_)
        have G0 : Hid (w2.grownBy w2.drew none) := Lib.hid (gro_drew (gro_refl _))
        clear c2 l2 c70 c71 l7
        generalize w2.drew = wc at *
        refine anyE_two 6 10 _ _ (by kernel_rfl) (by rfl) (by rfl) ?_ ?_
        · intro K hK
          rw [if_pos (by rfl)]
          go_simp
          refine (HMU.out wc).mono ?_
          rintro _ w4 ⟨rfl, hB⟩
          have G1 : Hid (w2.grownBy w4 none) := Lib.hid (gro_then G0.out hB)
          refine hK _ _ (fun _ => ⟨⟨_, G1.out⟩, rfl⟩) ?_
          clear hK K hB
          (refine anyE_takes [7, 8, 9] (fun _ _ _ _ _ h => h) ⟨⟨_, G1.out⟩, rfl⟩ (by kernel_rfl) (by rfl) ?_; simp only [opsOf, List.filterMap_cons, List.filterMap_nil, List.getElem?_toArray, List.getElem?_cons_succ, List.getElem?_cons_zero, List.foldl_cons, List.foldl_nil]; (repeat (any_goals (first | go_big_quiet_step (fail) | quiet_step (fail)))); refine wpQuiet_nil ?_)
          (refine anyE_one 10 _ (by kernel_rfl) (by rfl) (fun K hK => ?_))
          go_simp
          refine hK _ _ (fun _ => ⟨⟨_, gro_alloc G1.out _⟩, rfl⟩) ?_
          clear hK K
          have HR := Lib.hid (RowAt.new w4 41 [.int .i64 0, .int .i64 0])
          have HXB := Lib.hid (gro_bel (gro_alloc G1.out (.cells #[.int .i64 0, .int .i64 0] 41)))
          have hq0 : w2.heap.size ≤ w4.heap.size := G1.out.size
          generalize World.alloc w4 _ = w5 at *
          generalize w4.heap.size = q at *
          have c0 := HR.out.cell (i := 0) rfl
          have c1 := HR.out.cell (i := 1) rfl
          have f0 := HR.out.frozen 0
          have f1 := HR.out.frozen 1
          have kz := HR.out.lt
          (refine anyE_one 11 _ (by kernel_rfl) (by rfl) (fun K hK => ?_))
          rw [if_pos (by rfl)]
          go_simp
          refine hK _ _ (fun _ => ⟨⟨_, gro_of_bel2 ((HXB.out.set (p := ⟨q, 0, none⟩) hq0 _).set (p := ⟨q, 1, none⟩) hq0 _)⟩, rfl⟩) ?_
          clear hK K c0 c1 f0 f1 kz
          (refine anyE_tail 12 (by decide) (by rfl) (by kernel_rfl) ?_; simp only [List.drop_succ_cons, List.drop_zero])
          go_wp2
          refine NoPanic.normal ?_
          go_wp2
          go_meet
          case rel => exact ⟨q, ⟨_, (HXB.out.set (p := ⟨q, 0, none⟩) hq0 _).set (p := ⟨q, 1, none⟩) hq0 _⟩, rfl, rfl, rfl, rfl, (HR.out.set 0 _).set 1 _, hq0⟩
        · intro K hK
          go_simp
          refine hK _ _ (fun _ => ⟨⟨_, gro_alloc G0.out _⟩, rfl⟩) ?_
          clear hK K
          have HR := Lib.hid (RowAt.new wc 41 [.int .i64 0, .int .i64 0])
          have HXB := Lib.hid (gro_bel (gro_alloc G0.out (.cells #[.int .i64 0, .int .i64 0] 41)))
          have G2 := Lib.hid (gro_alloc G0.out (.cells #[.int .i64 0, .int .i64 0] 41))
          have hq0 : w2.heap.size ≤ wc.heap.size := G0.out.size
          generalize World.alloc wc _ = w5 at *
          generalize wc.heap.size = q at *
          (refine anyE_one 6 _ (by kernel_rfl) (by rfl) (fun K hK => ?_))
          rw [if_pos (by rfl)]
          go_simp
          refine (HMU.out w5).mono ?_
          rintro _ w6 ⟨rfl, hB⟩
          have G3 : Hid (w2.grownBy w6 none) := Lib.hid (gro_then G2.out hB)
          have HR6 := Lib.hid (HR.out.bel hB)
          have HX6 := Lib.hid (HXB.out.trans hB)
          refine hK _ _ (fun _ => ⟨⟨_, G3.out⟩, rfl⟩) ?_
          clear hK K hB
          (refine anyE_takes [7, 8, 9] (fun _ _ _ _ _ h => h) ⟨⟨_, G3.out⟩, rfl⟩ (by kernel_rfl) (by rfl) ?_; simp only [opsOf, List.filterMap_cons, List.filterMap_nil, List.getElem?_toArray, List.getElem?_cons_succ, List.getElem?_cons_zero, List.foldl_cons, List.foldl_nil]; (repeat (any_goals (first | go_big_quiet_step (fail) | quiet_step (fail)))); refine wpQuiet_nil ?_)
          have c0 := HR6.out.cell (i := 0) rfl
          have c1 := HR6.out.cell (i := 1) rfl
          have f0 := HR6.out.frozen 0
          have f1 := HR6.out.frozen 1
          have kz := HR6.out.lt
          (refine anyE_one 11 _ (by kernel_rfl) (by rfl) (fun K hK => ?_))
          rw [if_pos (by rfl)]
          go_simp
          refine hK _ _ (fun _ => ⟨⟨_, gro_of_bel2 ((HX6.out.set (p := ⟨q, 0, none⟩) hq0 _).set (p := ⟨q, 1, none⟩) hq0 _)⟩, rfl⟩) ?_
          clear hK K c0 c1 f0 f1 kz
          (refine anyE_tail 12 (by decide) (by rfl) (by kernel_rfl) ?_; simp only [List.drop_succ_cons, List.drop_zero])
          go_wp2
          refine NoPanic.normal ?_
          go_wp2
          go_meet
          case rel => exact ⟨q, ⟨_, (HX6.out.set (p := ⟨q, 0, none⟩) hq0 _).set (p := ⟨q, 1, none⟩) hq0 _⟩, rfl, rfl, rfl, rfl, (HR6.out.set 0 _).set 1 _, hq0⟩
      case rest =>
        obtain ⟨q, z, rfl, rfl, rfl, rfl, hq, hqw⟩ := hcut
        have HS2b := Lib.hid (HS2.out.bel z.bel)
        have HS4b := Lib.hid (HS4.out.bel z.bel)
        have HB3 := Lib.hid (HB2.out.trans z.bel)
        have HQ := Lib.hid hq
        have h4q : p4 ≠ q := by have := HS4.out.lt; omega
        have h4q' : q ≠ p4 := fun e => h4q e.symm
        have d0 := HS4b.out.cell (i := 0) rfl
        have d1 := HS4b.out.cell (i := 1) rfl
        have g0 := HS4b.out.frozen 0
        have g1 := HS4b.out.frozen 1
        have k4 := HS4b.out.lt
        have c0 := hq.cell (i := 0) rfl
        have c1 := hq.cell (i := 1) rfl
        have kq := hq.lt
        clear c2 l2 c70 c71 l7 hqw hq
        by_cases he : e1 = 0
        · subst he
          have h0 : ((0 : Int) != 0) = false := rfl
          simp only [ne_eq, not_true, if_false] at HZ HYW
          have HAD := Lib.hid (pradd_any t ⟨yn, yd⟩ z.w HTW.out HYW.out)
          have HAW := Lib.hid (radd_wf t ⟨yn, yd⟩)
          generalize radd t ⟨yn, yd⟩ = M2 at *
          obtain ⟨⟨sn, sd⟩, e2⟩ := M2
          unfold rresV Rt.V at HAD
          simp only at HAD HZ HAW
          go_wp2_with fail
          refine HAD.out.mono ?_
          rintro e w6 ⟨rfl, hB⟩
          have HT4 := Lib.hid (HS4b.out.bel hB)
          have HT2 := Lib.hid (HS2b.out.bel hB)
          have HB6 := Lib.hid (HB3.out.trans hB)
          clear d0 d1 g0 g1 k4 c0 c1 kq HAD
          have d0 := HT4.out.cell (i := 0) rfl
          have d1 := HT4.out.cell (i := 1) rfl
          have g0 := HT4.out.frozen 0
          have g1 := HT4.out.frozen 1
          have k4 := HT4.out.lt
          clear hB
          have HN4 : Hid (RowAt ((w6.setCell ⟨p4, 0, none⟩ (.int .i64 sn)).setCell ⟨p4, 1, none⟩ (.int .i64 sd)) p4 41 (Rt.cells ⟨sn, sd⟩)) := Lib.hid ((HT4.out.set 0 _).set 1 _)
          have HN2 : Hid (RowAt ((w6.setCell ⟨p4, 0, none⟩ (.int .i64 sn)).setCell ⟨p4, 1, none⟩ (.int .i64 sd)) p2 72 x.cells) := Lib.hid ((HT2.out.far (a := ⟨p4, 0, none⟩) HN.out.2.2 _).far (a := ⟨p4, 1, none⟩) HN.out.2.2 _)
          have HBN := Lib.hid ((HB6.out.set (p := ⟨p4, 0, none⟩) HN.out.2.1 (.int .i64 sn)).set (p := ⟨p4, 1, none⟩) HN.out.2.1 (.int .i64 sd))
          by_cases he2 : e2 = 0
          · subst he2
            simp only [not_true, if_false] at HZ
            go_upto_region 11 with (fail)
            generalize World.setCell (World.setCell w6 _ _) _ _ = W9 at *
            clear d0 d1 g0 g1 k4
            go_wp2
            go_roundw
            case rel => exact ⟨k + 1, ⟨_, HBN.out⟩, ⟨sn, sd⟩, hlt, by go_num, rfl, HN2.out, HN4.out, HAW.out, HZ.out⟩
            case measure => simp [intOf]; omega
          · have h2 : (e2 != 0) = true := by simp [he2]
            have HM : Hid (totL x.a p = (⟨0, 0⟩, e2)) := Lib.hid (by rw [← HZ.out, if_pos he2])
            clear HZ he2
            go_upto_region 9 with (fail)
            generalize World.setCell (World.setCell w6 _ _) _ _ = W9 at *
            clear d0 d1 g0 g1 k4
            have d0 := HN4.out.cell (i := 0) rfl
            have d1 := HN4.out.cell (i := 1) rfl
            have g0 := HN4.out.frozen 0
            have g1 := HN4.out.frozen 1
            have k4 := HN4.out.lt
            have HF4 := Lib.hid ((HN4.out.set 0 (.int .i64 0)).set 1 (.int .i64 0))
            have HFB := Lib.hid ((HBN.out.set (p := ⟨p4, 0, none⟩) HN.out.2.1 (.int .i64 0)).set (p := ⟨p4, 1, none⟩) HN.out.2.1 (.int .i64 0))
            go_wp2
            generalize World.setCell (World.setCell W9 _ _) _ _ = W10 at *
            have q0 := HF4.out.cell (i := 0) rfl
            have q1 := HF4.out.cell (i := 1) rfl
            exact bodyPost_ret (v := .tuple #[.agg #[.int .i64 0, .int .i64 0], .int .i64 e2]) (by simp [results, Try.results65, go_sem, q0, q1]) rfl ⟨by rw [HM.out]; rfl, HFB.out⟩
        · have h0 : (e1 != 0) = true := by simp [he]
          have HM : Hid (totL x.a p = (⟨0, 0⟩, e1)) := Lib.hid (by rw [← HZ.out, if_pos he])
          have HF4 := Lib.hid ((HS4b.out.set 0 (.int .i64 0)).set 1 (.int .i64 0))
          have HFB := Lib.hid ((HB3.out.set (p := ⟨p4, 0, none⟩) HN.out.2.1 (.int .i64 0)).set (p := ⟨p4, 1, none⟩) HN.out.2.1 (.int .i64 0))
          clear HZ he
          go_wp2
          generalize World.setCell (World.setCell z.w _ _) _ _ = W10 at *
          have q0 := HF4.out.cell (i := 0) rfl
          have q1 := HF4.out.cell (i := 1) rfl
          exact bodyPost_ret (v := .tuple #[.agg #[.int .i64 0, .int .i64 0], .int .i64 e1]) (by simp [results, Try.results65, go_sem, q0, q1]) rfl ⟨by rw [HM.out]; rfl, HFB.out⟩
    · obtain rfl : k = p.length := by omega
      have hd : decide ((p.length : Int) < (p.length : Int)) = false := by simp
      have HM : Hid (totL x.a p = (t, 0)) := Lib.hid (by rw [← HTO.out, zip_all HPL.out]; rfl)
      have d0 := hr4.cell (i := 0) rfl
      have d1 := hr4.cell (i := 1) rfl
      have g0 := hr4.frozen 0
      have g1 := hr4.frozen 1
      have k4 := hr4.lt
      have HF4 := Lib.hid ((hr4.set 0 (.int .i64 t.num)).set 1 (.int .i64 t.den))
      have HFB := Lib.hid ((HB.out.set (p := ⟨p4, 0, none⟩) HN.out.2.1 (.int .i64 t.num)).set (p := ⟨p4, 1, none⟩) HN.out.2.1 (.int .i64 t.den))
      clear hr2 hr4
      go_wp2
      generalize World.setCell (World.setCell y.w _ _) _ _ = W10 at *
      have q0 := HF4.out.cell (i := 0) rfl
      have q1 := HF4.out.cell (i := 1) rfl
      exact bodyPost_ret (v := .tuple #[.agg #[.int .i64 t.num, .int .i64 t.den], .int .i64 0]) (by simp [results, Try.results65, go_sem, q0, q1]) rfl ⟨by rw [HM.out]; rfl, HFB.out⟩
end Go.Proofs.Ytalphoebmefgoaa
/- any seat: a range over a function whose loop variables lie in boxes (each round makes them anew). -/
namespace Go.Proofs.Ytalphoebmefgoaa
open Go Go.RowKit
section
variable {F : Fence} {n : Nat} {P : Program} {α : Type}
/-- the loop's record in state st, and the empty block for deferred calls -/
structure RecAt (B : Nat) (r : Loop) (W : World) : Prop where
  lrec : W.heap[B + 1]? = some (.loop r)
  dfr : W.heap[B]? = some (.deferred (some []))
theorem RecAt.lt {B : Nat} {r : Loop} {W : World} (h : RecAt B r W) : B + 1 < W.heap.size := Blk.lt h.lrec
theorem RecAt.keep {B : Nat} {r : Loop} {W W' : World} (h : RecAt B r W) (k : KeepsFrom B W W') : RecAt B r W' := ⟨k.same _ _ (by omega) h.lrec rfl, k.same _ _ (Nat.le_refl _) h.dfr rfl⟩
theorem RecAt.put {B : Nat} {r : Loop} {W : World} (h : RecAt B r W) (r' : Loop) : RecAt B r' (W.putObj (B + 1) (.loop r')) := ⟨World.putObj_heap_same h.lt, (World.putObj_heap_other (by omega)).trans h.dfr⟩
theorem RecAt.gro {B : Nat} {r : Loop} {W W' : World} {row : Option Nat} (h : RecAt B r W) (hg : W.grownBy W' row) (hr : ∀ q, row = some q → ∃ o : Obj, W.heap[q]? = some o ∧ o.isWalk = true) : RecAt B r W' :=
  ⟨(grownBy_keeps hg hr h.lrec rfl).trans h.lrec, (grownBy_keeps hg hr h.dfr rfl).trans h.dfr⟩
/-- The rule: A says what holds behind the assignment to the loop's variables. -/
theorem wpIn_rangeFunc_mk {g : Operand} {ps : Array Tmp} {assign body : Code} {Q : Exit → Act → World → Prop} {a : Act} {w : World}
    (hro : F.round = none) (h1 : 1 ≤ n) {gf : Nat} {lb : Array Value} (hg : a.eval g = .func (.func gf) #[] lb) (hFg : F.fn gf) (eg : ∀ args w, (callFunc gf args).run P w = .ok (.enter gf args) w)
    {encs : α → Array Value} {Kp : World → World → Prop} {S Sp : List α → Prop} {N : Nat} (hseq : SeqStopsK F (n - 1) P gf lb encs Kp S Sp N w)
    (hKt : ∀ {A B C : World}, Kp A B → Kp B C → Kp A C) (hKb : ∀ (W : World) (l : Nat) (o o' : Obj), w.heap.size ≤ l → W.heap[l]? = some o → o.isCells = false → o.isWalk = false → Kp W (W.putObj l o')) (hps : ∀ x, (encs x).size = ps.size)
    (I : List α → World → Prop) (Ix : Code → List α → World → Prop) (hI : OwnFrom w.heap.size I) (hIx : ∀ c, OwnFrom w.heap.size (Ix c)) (h0 : I [] w)
    (A : List α × α × Act → World → Prop) (hA : OwnFrom w.heap.size A)
    (hassign : ∀ (l : Nat) (pre : List α) (x : α) (W : World) (K : Act → World → Prop), I pre W → pre.length < N → (∀ a' W', A (pre, x, a') W' → KeepsFrom w.heap.size W W' → Kp W W' → K a' W') →
      assign.wpIn (F.inRound l) (n - 1 - 1) P (Exit.then K (fun _ _ _ => False)) { tmps := (ps.zip (encs x)).foldl (fun t (p, v) => t.setIfInBounds p v) a.tmps, defers := [] } W)
    (hbody : ∀ (l : Nat) (pre : List α) (x : α) (a' : Act) (W : World), A (pre, x, a') W → body.wpIn (F.inRound l) (n - 1 - 1) P (ownPostG w.heap.size Kp I Ix (pre ++ [x]) W) a' W)
    (hdone : ∀ (D : Nat) (xs : List α) (W : World), w.heap.size ≤ D → S xs → I xs W → W.heap[D]? = some (.deferred (some [])) → Q .normal { a with defers := { target := .collected D, args := #[] } :: a.defers } W)
    (hstop : ∀ (D : Nat) (c : Code) (pre : List α) (W : World), w.heap.size ≤ D → Sp pre → Ix c pre W → W.heap[D]? = some (.deferred (some [])) → c.wpIn F n P Q { a with defers := { target := .collected D, args := #[] } :: a.defers } W) :
    (Code.rangeFunc g ps assign body).wpIn F n P Q a w := by
  refine wpIn_rangeFunc fun fn hfn => ?_
  rw [hro]
  obtain ⟨B, hB⟩ : ∃ B, B = w.heap.size := ⟨_, rfl⟩
  rw [← hB] at hKb hI hIx hA hassign hbody hdone hstop
  obtain ⟨W1, hW1⟩ : ∃ W1, W1 = (w.alloc (.deferred (some []))).alloc (.loop { state := .ready, pending := none, fn, tmps := a.tmps, params := ps, assign, body, defers := B }) := ⟨_, rfl⟩
  obtain ⟨r0, hr0⟩ : ∃ r0 : Loop, r0 = { state := .ready, pending := none, fn, tmps := a.tmps, params := ps, assign, body, defers := B } := ⟨_, rfl⟩
  have hrec : RecAt B r0 W1 := by
    constructor
    · rw [hW1, hr0, hB]; have := World.alloc_heap_new (w.alloc (.deferred (some []))) (.loop { state := .ready, pending := none, fn, tmps := a.tmps, params := ps, assign, body, defers := w.heap.size }); rwa [World.size_alloc] at this
    · rw [hW1, hB]; exact (Below.heap_alloc _ _ _ (by simp)).trans (World.alloc_heap_new w _)
  have hz1 : W1.heap.size = B + 2 := by rw [hW1, World.size_alloc, World.size_alloc, hB]
  have hrdy : r0.state = .ready := by rw [hr0]
  have hstart : Below w.heap.size w W1 := by rw [hW1]; exact ((Below.refl _ w).alloc (Nat.le_refl _) _).alloc (by simp) _
  have hI1 : I [] W1 := by rw [hW1]; exact hI.alloc _ (hI.alloc _ h0)
  have hgo : ∀ {X Y : World} {row : Option Nat}, X.grownBy Y row → (∀ q, row = some q → W1.heap.size ≤ q ∧ ∃ o : Obj, X.heap[q]? = some o ∧ o.isWalk = true) → ∀ q, row = some q → B ≤ q ∧ ∃ o : Obj, X.heap[q]? = some o ∧ o.isCells = false := fun _ hr q e => by
    obtain ⟨h1, o, h2, h3⟩ := hr q e
    exact ⟨by omega, o, h2, Obj.not_cells_of_walk h3⟩
  refine ⟨B + 1, [{ target := .collected B, args := #[] }], W1, { target := .fn (.func gf) lb, args := #[.func (.yield (B + 1)) #[] #[]] }, W1, gf, #[.func (.yield (B + 1)) #[] #[]] ++ lb, W1, ?_, ?_, ?_, ?_, fun _ => h1, ?_⟩
  · have := run_enterLoop_outer (P := P) (w := w) fn a.tmps ps assign body
    rw [hW1, hB]; exact this
  · simp only [resolve, hg]
    simp [go_sem]
  · intro f' hf'; simp [Target.leads] at hf'; subst hf'; exact hFg
  · simp [invoke, go_sem, eg]
  · refine (hseq (B + 1) (fun pre W => I pre W ∧ RecAt B r0 W) (fun pre W => ∃ c, Ix c pre W ∧ RecAt B { r0 with state := .done, pending := some c } W) W1 hstart
      (fun s X Y row hs hgr hr => ⟨hI s X Y row hs.1 hgr (hgo hgr hr), hs.2.gro hgr (fun q e => (hr q e).2)⟩)
      (fun s X Y row hs hgr hr => by
        obtain ⟨c, hc, hrc⟩ := hs
        exact ⟨c, hIx c s X Y row hc hgr (hgo hgr hr), hrc.gro hgr (fun q e => (hr q e).2)⟩) ?_ ⟨hI1, hrec⟩).mono ?_
    · rintro pre x W ⟨hi, hrc⟩ hlen
      have hy := run_yield (P := P) (args := encs x) hrc.lrec (by rw [hr0]; exact hps x)
      rw [show r0.fn = fn by rw [hr0], show r0.params = ps by rw [hr0], show r0.tmps = a.tmps by rw [hr0], show r0.assign = assign by rw [hr0], show r0.body = body by rw [hr0]] at hy
      refine ⟨fn, _, assign, body, hy, roundIn_of_wpIn hfn (hassign _ pre x W _ hi hlen fun a2 W2 hA2 hk2 hp2 => ?_)⟩
      have hrc2 := hrc.keep hk2
      refine ⟨_, run_beginRound hrc2.lrec hrdy, ?_⟩
      have hrc3 := hrc2.put { r0 with state := .busy }
      have hA3 := hA.putObj (.loop { r0 with state := .busy }) hA2 (by omega) hrc2.lrec rfl
      have hp3 := hKt hp2 (hKb W2 (B + 1) _ (.loop { r0 with state := .busy }) (by omega) hrc2.lrec rfl rfl)
      refine wpIn_mono (hbody _ pre x a2 _ hA3) ?_
      generalize W2.putObj (B + 1) (.loop { r0 with state := .busy }) = W3 at *
      have hend : ∀ (j : Option Code) (W4 : World), KeepsFrom B W3 W4 → (Instr.endRound (B + 1) j).run P W4 = .ok (.bool j.isNone) (W4.putObj (B + 1) (.loop { r0 with state := if j.isNone then .ready else .done, pending := j })) ∧ RecAt B { r0 with state := .busy } W4 := fun j W4 hk4 => by
        have hrc4 := hrc3.keep hk4
        exact ⟨by have h := run_endRound (P := P) (w := W4) j hrc4.lrec; exact h, hrc4⟩
      have hsame : ({ r0 with state := .ready, pending := none } : Loop) = r0 := by rw [hr0]
      have hjump : ∀ (c : Code) (W4 : World), KeepsFrom B W3 W4 → Ix c (pre ++ [x]) W4 → ∃ v w', (Instr.endRound (B + 1) (some c)).run P W4 = .ok v w' ∧ ((Ending.returned v = .returned (.bool true) ∧ (I (pre ++ [x]) w' ∧ RecAt B r0 w') ∧ Kp W w') ∨ (Ending.returned v = .returned (.bool false) ∧ ∃ c, Ix c (pre ++ [x]) w' ∧ RecAt B { r0 with state := .done, pending := some c } w')) := fun c W4 hk4 hx4 => by
        obtain ⟨hr, hrc4⟩ := hend (some c) W4 hk4
        exact ⟨_, _, hr, .inr ⟨rfl, c, (hIx c).putObj _ hx4 (by omega) hrc4.lrec rfl, hrc4.put _⟩⟩
      rintro e a4 W4 hp
      cases e with
      | normal =>
        obtain ⟨hk4, hq4, hi4⟩ := hp
        obtain ⟨hr, hrc4⟩ := hend none W4 hk4
        refine ⟨_, _, hr, .inl ⟨rfl, ⟨hI.putObj _ hi4 (by omega) hrc4.lrec rfl, ?_⟩, hKt (hKt hp3 hq4) (hKb _ _ _ _ (by omega) hrc4.lrec rfl rfl)⟩⟩
        have := hrc4.put { r0 with state := .ready, pending := none }
        rw [hsame] at this
        simpa [hsame] using this
      | ret => exact hjump .ret W4 hp.1 hp.2
      | exit id => exact hjump (.exit id) W4 hp.1 hp.2
      | goto t => exact hjump (.goto t) W4 hp.1 hp.2
      | panic ch => exact hp.elim
      | outgrown => exact hp.elim
    · rintro e W2 ⟨⟨v, rfl⟩, (⟨xs, hS, hi, hrc⟩ | ⟨pre, hSp, c, hi, hrc⟩)⟩
      · refine ⟨none, _, ?_, hdone B xs _ (Nat.le_refl _) hS (hI.putObj _ hi (by omega) hrc.lrec rfl) (hrc.put { r0 with state := .exhausted }).dfr⟩
        have h := run_endLoop (P := P) hrc.lrec (by rw [hrdy]; simp)
        have e : r0.pending = none := by rw [hr0]
        exact h.trans (by rw [e])
      · exact ⟨some c, _, run_endLoop (P := P) hrc.lrec (by simp), hstop B c pre _ (Nat.le_refl _) hSp ((hIx c).putObj _ hi (by omega) hrc.lrec rfl) (hrc.put { r0 with state := .exhausted, pending := some c }).dfr⟩
end
end Go.Proofs.Ytalphoebmefgoaa
/- any seat: a drawn region within a round of a range over a function, by the words for a region outside it. -/
namespace Go.Proofs.Ytalphoebmefgoaa
open Go Region Go.RowKit
/-- the post of a region that ends as it should -/
def OnlyN (Q : Exit → Act → World → Prop) : Exit → Act → World → Prop
  | .normal, a, w => Q .normal a w
  | _, _, _ => False
theorem OnlyN.normal {Q : Exit → Act → World → Prop} {a : Act} {w : World} (h : Q .normal a w) : OnlyN Q .normal a w := h
def noDefer (l : List Oper) : Bool := l.all fun o => match o.op with | .defer _ => false | _ => true
section
variable {P : Program} {md : Region.Mode} {ops : Array Oper} {Q : Exit → Act → World → Prop} {n lr : Nat}
theorem opIn_of_op (hd : noDefer ops.toList = true) {i : Nat} {K : Act → World → Prop} {a : Act} {w : World} (h : wpOp P ops (OnlyN Q) i K a w) : wpOpIn (Fence.wide.inRound lr) n P ops Q i K a w := by
  unfold wpOp at h
  unfold wpOpIn
  cases ho : ops[i]? with
  | none => rw [ho] at h; exact h
  | some o =>
    rw [ho] at h
    simp only at h ⊢
    by_cases hw : Region.wanted o (yielded ops a.tmps) = true
    · rw [if_pos hw] at h ⊢
      rcases h with h | ⟨_, _, _, h⟩
      · have hdf : ∀ c, o.op ≠ .defer c := fun c e => by
          have hm : o ∈ ops.toList := by
            have := Array.mem_of_getElem? ho
            simpa using this
          have := List.all_eq_true.1 hd o hm
          rw [e] at this; cases this
        refine ⟨fun _ _ => trivial, ?_⟩
        unfold Oper.wp at h
        rw [show (Fence.wide.inRound lr).round = some lr from rfl, Oper.semAt_some lr _ _ hdf]
        generalize (execOp a.eval o).run P w = r at *
        unfold Oper.upon at h
        unfold Oper.uponIn
        split at h
        · exact h
        · exact h
        · exact h
        · refine ⟨fun q => absurd q (by simp [Fence.wide]), CallsIn.inRound lr (callsIn_wide.2 (h.mono fun e w' he => ?_))⟩
          cases e with
          | returned v => exact he
          | panicked c => exact he.elim
          | outgrown => obtain ⟨_, _, h2⟩ := he; exact h2.elim
        · refine ⟨fun q => absurd q (by simp [Fence.wide]), ?_⟩
          intro c cs _
          obtain ⟨v, w', hv, hs⟩ := h c cs
          exact ⟨v, w', hv, (StepsIn.of_steps hs).mono fun m _ => fenced_wide P m⟩
        · exact h.elim
        · exact h.elim
      · exact h.elim
    · rw [if_neg hw] at h ⊢
      exact ⟨fun _ _ => trivial, h⟩
theorem anyIn_of_any (hd : noDefer ops.toList = true) : ∀ (f : Nat) (done : Array Bool) (a : Act) (w : World), wpAny P md ops (OnlyN Q) f done a w → wpAnyIn (Fence.wide.inRound lr) n P md ops Q f done a w
  | 0, _, _, _, h => ⟨h.1, h.2⟩
  | f + 1, _, _, _, h => ⟨fun e => h.1 e, fun i hi => opIn_of_op hd (wpOp_mono (fun a' w' h' => anyIn_of_any hd f _ a' w' h') (h.2 i hi))⟩
theorem wpIn_region_E {id : Nat} {a : Act} {w : World} {l : List Oper} (k : Nat) (row : Option Nat) (hm : P.follows .mixedOrders = true) (hd : noDefer l = true)
    (h : wpAnyE P .any l.toArray (OnlyN Q) (fun w' => ∃ y : Gro w row, w' = y.w) k l.toArray.size (Array.replicate l.toArray.size false) a w.drew) : (Code.region id l.toArray true).wpIn (Fence.wide.inRound lr) n P Q a w :=
  wpIn_region_any hm (anyIn_of_any (by simpa using hd) _ _ _ _ (wpAny_of_anyE (n := k) (S := fun w' => ∃ y : Gro w row, w' = y.w) _ _ _ _ h))
theorem wpIn_region_A {id : Nat} {a : Act} {w : World} {l : List Oper} (hm : P.follows .mixedOrders = true) (hd : noDefer l = true)
    (h : wpAny P .any l.toArray (OnlyN Q) l.toArray.size (Array.replicate l.toArray.size false) a w.drew) : (Code.region id l.toArray true).wpIn (Fence.wide.inRound lr) n P Q a w :=
  wpIn_region_any hm (anyIn_of_any (by simpa using hd) _ _ _ _ h)
/-- an append whose run is known, as one operation -/
theorem oper_append_run {o : Oper} {a : Act} {w w' : World} {K : Act → World → Prop} (s x : Operand) (t : TypeId)
    (ho : o.op = .call { callee := .builtin .append, args := #[s, x], argTypes := #[t, t] }) (v v2 v' : Value) (hs : a.eval s = v) (hx : a.eval x = v2)
    (hr : (Builtin.append_ #[t, t] o.type #[v, v2]).run P w = .ok v' w') (h : K (a.put o.dst v') w') : o.wp P a w K Q := by
  unfold Oper.wp execOp
  simp only [ho, resolve, invoke, builtin, Sem.run_bind, Sem.run_pure, Result.andThen_ok, List.map_toArray, List.map_cons, List.map_nil, hs, hx, hr]
  exact h
/-- an append whose run is known, inside a fence -/
theorem wpListIn_append_run {F : Fence} {w w' : World} {rest : List Oper} {o : Oper} {a : Act} (hgd : o.guard = none) (s x : Operand) (t : TypeId)
    (ho : o.op = .call { callee := .builtin .append, args := #[s, x], argTypes := #[t, t] }) (v v2 v' : Value) (hs : a.eval s = v) (hx : a.eval x = v2)
    (hr : (Builtin.append_ #[t, t] o.type #[v, v2]).run P w = .ok v' w') (h : wpListIn F n P ops Q rest (a.put o.dst v') w') : wpListIn F n P ops Q (o :: rest) a w := by
  refine wpListIn_plain hgd fun K hK => ?_
  refine ⟨?_, ?_⟩
  · simp [Oper.about, ho, resolve, Target.leads, Sem.run_pure]
  · rw [Oper.semAt_plain F _ _ (by rw [ho]; intro c hc'; cases hc')]
    unfold execOp
    simp only [ho, resolve, invoke, builtin, Sem.run_bind, Sem.run_pure, Result.andThen_ok, List.map_toArray, List.map_cons, List.map_nil, hs, hx, hr]
    exact hK _ _ h
end
end Go.Proofs.Ytalphoebmefgoaa
/- any seat: a drawn region where three operations may come next. -/
namespace Go.Proofs.Ytalphoebmefgoaa
open Go Region Go.RowKit
section
variable {P : Program} {md : Region.Mode} {ops : Array Oper} {S : World → Prop} {n : Nat} {Q : Exit → Act → World → Prop}
theorem anyE_three {a : Act} {w : World} {done : Array Bool} {f : Nat} (i j k : Nat) (oi oj ok : Oper) (hr : ready md ops done = [i, j, k]) (hoi : ops[i]? = some oi) (hoj : ops[j]? = some oj) (hok : ops[k]? = some ok)
    (hi : StepE P md ops Q S n f done i oi a w) (hj : StepE P md ops Q S n f done j oj a w) (hk : StepE P md ops Q S n f done k ok a w) : wpAnyE P md ops Q S n (f + 1) done a w := by
  refine ⟨fun h0 => (by rw [hr] at h0; cases h0), fun q hq => ?_⟩
  rw [hr] at hq
  rcases List.mem_cons.mp hq with rfl | hq
  · exact stepE_op hoi hi
  rcases List.mem_cons.mp hq with rfl | hq
  · exact stepE_op hoj hj
  · obtain rfl : q = k := by simpa using hq
    exact stepE_op hok hk
end
end Go.Proofs.Ytalphoebmefgoaa
