import Derived.Test.YthcdemmamggboaaRows
import Derived.Test.YthcdemmamggboaaG1
namespace Go.Proofs.Ythcdemmamggboaa
open Go.RowKit
set_option maxHeartbeats 400000 in
theorem contains_any (a b : Sec) (w : World) :
    Calls Try.prog 48 #[secV a, secV b] w fun e w' => e = .returned (.bool (secIn a b)) ∧ Bel w w' := by
  unfold secV
  go_enter Try.func48, Try.ntmps48
  go_wp2
  all_goals (go_ret; exact ⟨by simp [secIn, *] <;> omega, (Bel.refl.alloc _).alloc _⟩)
set_option maxHeartbeats 400000 in
theorem rcontains_any (a b : Sec) (w : World) :
    Calls Try.prog 41 #[secV a, secV b] w fun e w' => e = .returned (.bool (secIn a b)) ∧ Bel w w' := by
  unfold secV
  go_enter Try.func41, Try.ntmps41
  go_wp2
  all_goals (go_ret; exact ⟨by simp [secIn, *] <;> omega, (Bel.refl.alloc _).alloc _⟩)
set_option maxHeartbeats 400000 in
theorem overlaps_any (a b : Sec) (w : World) :
    Calls Try.prog 50 #[secV a, secV b] w fun e w' => e = .returned (.bool (secLap a b)) ∧ Bel w w' := by
  unfold secV
  go_enter Try.func50, Try.ntmps50
  go_wp2
  all_goals (go_ret; exact ⟨by simp [secLap, *] <;> omega, (Bel.refl.alloc _).alloc _⟩)
set_option maxHeartbeats 400000 in
theorem roverlap_any (a b : Sec) (w : World) :
    Calls Try.prog 40 #[secV a, secV b] w fun e w' => e = .returned (.bool (secLap a b)) ∧ Bel w w' := by
  unfold secV
  go_enter Try.func40, Try.ntmps40
  go_wp2
  all_goals (go_ret; exact ⟨by simp [secLap, *] <;> omega, (Bel.refl.alloc _).alloc _⟩)
set_option maxHeartbeats 400000 in
theorem ends_any (a : Sec) (w : World) :
    Calls Try.prog 47 #[secV a] w fun e w' => e = .returned (.int .i64 (wrap64 (a.frm + a.len))) ∧ Bel w w' := by
  unfold secV
  go_enter Try.func47, Try.ntmps47
  go_wp2
  all_goals (go_ret; exact ⟨rfl, (Bel.refl.alloc _)⟩)
set_option maxHeartbeats 400000 in
theorem sections1_any (a b : Sec) (w : World) :
    Calls Try.prog 49 #[secV a, secV b] w fun e w' => e = .returned (.bool (secIn b a)) ∧ Bel w w' := by
  have HC := fun W => contains_any b a W
  unfold secV at *
  go_enter Try.func49, Try.ntmps49
  go_wp2_with fail
  refine (HC _).mono ?_
  rintro e w' ⟨rfl, hb⟩
  have HB := Lib.hid hb
  clear hb HC
  go_wp2
  go_ret
  exact ⟨rfl, ((Bel.refl.alloc _).alloc _).trans HB.out⟩
end Go.Proofs.Ythcdemmamggboaa
namespace Go.Proofs.Ythcdemmamggboaa
open Go.RowKit
def secBad (cost : Int) (s : Sec) : Bool := decide (s.res < 0) || decide (8 ≤ s.res) || decide (s.frm < 0) || decide (s.len < 1) || decide (cost < s.frm) || decide (wrap64 (cost - s.frm) < s.len)
def okAll (cost : Int) : List Sec → Bool
  | [] => true
  | s :: ss => if secBad cost s then false else okAll cost ss
def clash (s o : Sec) : Bool := secLap s o && ((!secIn s o && !secIn o s) || s.res == o.res)
def clashAny (s : Sec) : List Sec → Bool
  | [] => false
  | o :: os => if clash s o then true else clashAny s os
def noClash : List Sec → List Sec → Bool
  | _, [] => true
  | pre, s :: ss => if clashAny s pre then false else noClash (pre ++ [s]) ss
def tskV (t : Tsk) (sv : Value) : Value := .agg #[.string t.name, .int .i64 t.per, .int .i64 t.off, .int .i64 t.dl, .int .i64 t.cost, .int .i64 t.prio, sv]
theorem secs_take {l : List Sec} {i k : Nat} (h : k < i) (hi : i ≤ l.length) : (l.take i).drop k = secAt l k :: (l.take i).drop (k + 1) := by
  rw [List.drop_eq_getElem_cons (by simp; omega)]; simp [secAt, List.getD, show k < l.length by omega]
theorem secs_snoc {l : List Sec} {i : Nat} (h : i < l.length) : l.take (i + 1) = l.take i ++ [secAt l i] := by
  rw [List.take_succ_eq_append_getElem h]; simp [secAt, List.getD, h]

def secBadP (cost : Int) (s : Sec) : Bool := decide (s.res < 0) || decide (8 ≤ s.res) || decide (s.frm < 0) || decide (cost ≤ s.frm) || decide (s.len < 1) || decide (cost < s.len) || decide (cost < wrap64 (s.frm + s.len))
def secsOkP (cost : Int) : List Sec → List Sec → Bool
  | _, [] => true
  | pre, s :: ss => if secBadP cost s then false else if clashAny s pre then false else secsOkP cost (pre ++ [s]) ss

def ceilS (r p : Int) : List Sec → Int → Int
  | [], m => m
  | s :: ss, m => ceilS r p ss (if s.res == r then (if m < p then p else m) else m)
def ceilT (r : Int) : List Tsk → Int → Int
  | [], m => m
  | t :: ts, m => ceilT r ts (ceilS r t.prio t.secs m)

/-- is a task by itself wrong? (its sections apart) -/
def tskBad (t : Tsk) : Bool := decide (t.name.size = 0) || decide (16 < t.name.size) || decide (t.prio < 1) || decide (t.per < 1) || decide (1000 < t.per) || decide (t.off < 0) || decide (t.per ≤ t.off) || decide (t.dl < 1) || decide (t.per < t.dl) || decide (t.cost < 1) || decide (t.dl < t.cost)
theorem tskBad_true {t : Tsk} : tskBad t = true ↔ (t.name.size = 0 ∨ 16 < t.name.size ∨ t.prio < 1 ∨ t.per < 1 ∨ 1000 < t.per ∨ t.off < 0 ∨ t.per ≤ t.off ∨ t.dl < 1 ∨ t.per < t.dl ∨ t.cost < 1 ∨ t.dl < t.cost) := by
  simp only [tskBad, Bool.or_eq_true, decide_eq_true_eq, or_assoc]
theorem tskBad_false {t : Tsk} : tskBad t = false ↔ (t.name.size ≠ 0 ∧ t.name.size ≤ 16 ∧ 1 ≤ t.prio ∧ 1 ≤ t.per ∧ t.per ≤ 1000 ∧ 0 ≤ t.off ∧ t.off < t.per ∧ 1 ≤ t.dl ∧ t.dl ≤ t.per ∧ 1 ≤ t.cost ∧ t.cost ≤ t.dl) := by
  simp only [tskBad, Bool.or_eq_false_iff, decide_eq_false_iff_not, and_assoc, Int.not_lt, Nat.not_lt, Int.not_le, ne_eq]
theorem bytes_empty {b : ByteArray} : b.toList.isEmpty = decide (b.size = 0) := by
  rw [ByteArray.toList_eq]
  cases h : b.data.toList with
  | nil => 
    have : b.data.size = 0 := by rw [← Array.length_toList, h]; rfl
    simp [ByteArray.size, this]
  | cons x y => 
    have : b.data.size = y.length + 1 := by rw [← Array.length_toList, h]; rfl
    simp [ByteArray.size, this]
def rsecsOk (t : Tsk) : Bool := okAll t.cost t.secs && noClash [] t.secs
def twin (t o : Tsk) : Bool := (o.name.toList == t.name.toList) || (o.prio == t.prio)
def twinAny (t : Tsk) : List Tsk → Bool
  | [] => false
  | o :: os => if twin t o then true else twinAny t os
def manySecs : List Tsk → Bool
  | [] => false
  | t :: ts => if 4 < t.secs.length then true else manySecs ts
def rchkT : List Tsk → List Tsk → Int
  | _, [] => 0
  | pre, t :: ts => if tskBad t || !rsecsOk t then 2 else if twinAny t pre then 2 else rchkT (pre ++ [t]) ts
def rchk (l : List Tsk) : Int := if 8 < l.length then 3 else if manySecs l then 3 else if l.length = 0 then 2 else rchkT [] l
theorem tsks_take {l : List Tsk} {i k : Nat} (h : k < i) (hi : i ≤ l.length) : (l.take i).drop k = tskAt l k :: (l.take i).drop (k + 1) := by
  rw [List.drop_eq_getElem_cons (by simp; omega)]; simp [tskAt, List.getD, show k < l.length by omega]
theorem tsks_snoc {l : List Tsk} {i : Nat} (h : i < l.length) : l.take (i + 1) = l.take i ++ [tskAt l i] := by
  rw [List.take_succ_eq_append_getElem h]; simp [tskAt, List.getD, h]
end Go.Proofs.Ythcdemmamggboaa
namespace Go.Proofs.Ythcdemmamggboaa
open Go.RowKit
def beyondS : List Tsk → Bool
  | [] => false
  | t :: ts => if decide (50 < t.secs.length) || decide (1000 < t.name.size) then true else beyondS ts
def beyond (l : List Tsk) : Bool := if 50 < l.length then true else beyondS l
theorem gcd_step (x q : Int) (hx : 0 ≤ x) (hq : 0 < q) : Int.gcd q (x % q) = Int.gcd x q := by
  obtain ⟨a, rfl⟩ := Int.eq_ofNat_of_zero_le hx
  obtain ⟨b, rfl⟩ := Int.eq_ofNat_of_zero_le (show 0 ≤ q by omega)
  have e : ((a : Int) % (b : Int)) = ((a % b : Nat) : Int) := by simp
  rw [e]
  show Nat.gcd b (a % b) = Nat.gcd a b
  rw [Nat.gcd_comm b (a % b), ← Nat.gcd_rec b a, Nat.gcd_comm]

set_option maxHeartbeats 1000000 in
theorem beyond_any (v : Value) (l : List Tsk) (w : World) (h : TsksAt w w.heap.size v l) (hs : ∀ i, i < l.length → (tskAt l i).secs.length ≤ 9223372036854775807 ∧ (tskAt l i).name.size ≤ 9223372036854775807) (hl : l.length ≤ 9223372036854775807) :
    Calls Try.prog 8 #[v] w fun e w' => e = .returned (.bool (beyond l)) ∧ w' = w := by
  obtain ⟨A, c, rfl, hc⟩ := h.form
  go_enter Try.func8, Try.ntmps8
  go_wp2
  · go_ret
    exact ⟨ret_bool (by simp [beyond]; omega), rfl⟩
  · go_loop [3] (fun i => ∃ (k : Nat), k ≤ l.length ∧ i = .int .i64 k ∧ beyondS (l.drop k) = beyond l) (fun i => l.length - (intOf i).toNat)
    case atStart => exact ⟨0, by omega, rfl, by simp [beyond]; omega⟩
    case round =>
      obtain ⟨k, hk, rfl, hd⟩ := hrel
      by_cases hlt : k < l.length
      · obtain ⟨b, off, rfl, hb, hA⟩ := h.at_ (by omega)
        obtain ⟨sv, hT, hS⟩ := hA k hlt
        obtain ⟨A2, c2, rfl, hc2⟩ := hS.form
        obtain ⟨hs1, hs2⟩ := hs k hlt
        obtain ⟨t0, t1, t2, t3, t4, t5, t6⟩ := hT
        rw [tsks_drop hlt] at hd
        unfold beyondS at hd
        have HD := Lib.hid hd
        clear hd hA t1 t2 t3 t4 t5
        go_wp2
        all_goals first
          | (go_round
             case rel => exact ⟨k+1, by omega, by go_num, by rw [← HD.out]; symm; rw [if_neg]; simp; omega⟩
             case measure => simp [intOf]; omega)
          | (go_ret
             exact ⟨ret_bool (by rw [← HD.out]; symm; rw [if_pos]; simp; omega), rfl⟩)
      · have : k = l.length := by omega
        subst this
        have HD := Lib.hid hd
        clear hd
        go_wp2
        go_ret
        exact ⟨ret_bool (by rw [← HD.out]; simp [beyondS]), rfl⟩

end Go.Proofs.Ythcdemmamggboaa
namespace Go.Proofs.Ythcdemmamggboaa
open Go.RowKit
def psecsOk (t : Tsk) : Bool := secsOkP t.cost [] t.secs
def nameIn (t : Tsk) (pre : List Tsk) : Bool := pre.any fun o => decide (o.name.data.toList = t.name.data.toList)
def prioIn (t : Tsk) (pre : List Tsk) : Bool := pre.any fun o => decide (o.prio = t.prio)
def pchkT : List Tsk → List Tsk → Int
  | _, [] => 0
  | pre, t :: ts => if tskBad t || nameIn t pre || prioIn t pre || !psecsOk t then 2 else pchkT (pre ++ [t]) ts
def pchk (l : List Tsk) : Int := if (decide (8 < l.length) || manySecs l) then 3 else if l.length = 0 then 2 else pchkT [] l
end Go.Proofs.Ythcdemmamggboaa
namespace Go.Proofs.Ythcdemmamggboaa
open Go.RowKit
/-! the plain law: the two ways of checking agree -/
theorem okAll_all (c : Int) : ∀ ss, okAll c ss = ss.all (fun s => !secBad c s)
  | [] => rfl
  | s :: ss => by simp only [okAll, List.all_cons]; rw [okAll_all c ss]; cases secBad c s <;> rfl
theorem secBad_eq (c : Int) (s : Sec) (hc : 1 ≤ c) (hc2 : c ≤ 1000) (hf : -9223372036854775808 ≤ s.frm) (hf2 : s.frm ≤ 9223372036854775807) (hl : -9223372036854775808 ≤ s.len) (hl2 : s.len ≤ 9223372036854775807) : secBad c s = secBadP c s := by
  unfold secBad secBadP
  by_cases h1 : s.res < 0 <;> by_cases h2 : 8 ≤ s.res <;> by_cases h3 : s.frm < 0 <;> simp [h1, h2, h3]
  by_cases h4 : s.len < 1 <;> simp [h4]
  by_cases h5 : c < s.frm
  · simp [h5, show c ≤ s.frm by omega]
  · by_cases h6 : c < s.len
    · have : c - s.frm < s.len := by omega
      rw [wrap_small (c - s.frm) (by omega) (by omega)]; simp [h6, this]
    · rw [wrap_small (c - s.frm) (by omega) (by omega), wrap_small (s.frm + s.len) (by omega) (by omega)]
      simp [h5, h6]
      by_cases h7 : c ≤ s.frm
      · simp [h7]; omega
      · simp [h7]
        omega
theorem secsOkP_eq (c : Int) (hb : ∀ s, secBad c s = secBadP c s → True) : ∀ (ss pre : List Sec), (∀ s ∈ ss, secBad c s = secBadP c s) → secsOkP c pre ss = (okAll c ss && noClash pre ss)
  | [], pre, _ => rfl
  | s :: ss, pre, h => by
    have h0 := h s (by simp)
    have ih := secsOkP_eq c hb ss (pre ++ [s]) (fun x hx => h x (by simp [hx]))
    simp only [secsOkP, okAll, noClash]
    rw [ih, ← h0]
    cases secBad c s <;> cases clashAny s pre <;> simp
structure Sec.wf (s : Sec) : Prop where
  r : i64 s.res
  f : i64 s.frm
  l : i64 s.len
structure Tsk.wf (t : Tsk) : Prop where
  per : i64 t.per
  off : i64 t.off
  dl : i64 t.dl
  cost : i64 t.cost
  prio : i64 t.prio
  secs : ∀ s ∈ t.secs, s.wf
theorem twinAny_eq (t : Tsk) : ∀ pre, twinAny t pre = (nameIn t pre || prioIn t pre)
  | [] => rfl
  | o :: os => by
    have ih := twinAny_eq t os
    simp only [twinAny, nameIn, prioIn, List.any_cons] at *
    rw [ih]
    have e : twin t o = (decide (o.name.data.toList = t.name.data.toList) || decide (o.prio = t.prio)) := by
      unfold twin; rw [ByteArray.toList_eq, ByteArray.toList_eq]
      rw [Bool.eq_iff_iff]; simp
    rw [e]
    cases decide (o.name.data.toList = t.name.data.toList) <;> cases decide (o.prio = t.prio) <;> simp
theorem nameIn_snoc {l : List Tsk} {k : Nat} (h : k < l.length) (t : Tsk) : nameIn t (l.take (k + 1)) = (nameIn t (l.take k) || decide ((tskAt l k).name.data.toList = t.name.data.toList)) := by
  rw [tsks_snoc h]; simp [nameIn]
theorem prioIn_snoc {l : List Tsk} {k : Nat} (h : k < l.length) (t : Tsk) : prioIn t (l.take (k + 1)) = (prioIn t (l.take k) || decide ((tskAt l k).prio = t.prio)) := by
  rw [tsks_snoc h]; simp [prioIn]
theorem psecsOk_eq {t : Tsk} (h : t.wf) (hb : tskBad t = false) : psecsOk t = rsecsOk t := by
  obtain ⟨_, _, _, h3, h4, _, _, h7, h8, h9, h10⟩ := tskBad_false.1 hb
  exact secsOkP_eq t.cost (fun _ _ => trivial) t.secs [] (fun s hs => by
    obtain ⟨h1, h2, h3'⟩ := h.secs s hs
    unfold i64 at *
    exact secBad_eq _ _ (by omega) (by omega) (by omega) (by omega) (by omega) (by omega))
theorem chkT_eq : ∀ (l pre : List Tsk), (∀ t ∈ l, t.wf) → pchkT pre l = rchkT pre l
  | [], _, _ => rfl
  | t :: ts, pre, h => by
    simp only [pchkT, rchkT]
    rw [chkT_eq ts (pre ++ [t]) (fun x hx => h x (by simp [hx])), twinAny_eq]
    cases hb : tskBad t
    · rw [psecsOk_eq (h t (by simp)) hb]
      cases rsecsOk t <;> cases nameIn t pre <;> cases prioIn t pre <;> simp
    · simp
theorem chk_eq (l : List Tsk) (h : ∀ t ∈ l, t.wf) : pchk l = rchk l := by
  unfold pchk rchk
  rw [chkT_eq l [] h]
  by_cases h8 : 8 < l.length <;> cases manySecs l <;> simp [h8]
end Go.Proofs.Ythcdemmamggboaa
namespace Go.Proofs.Ythcdemmamggboaa
open Go.RowKit

set_option maxHeartbeats 400000 in
theorem ceiling_any (v : Value) (l : List Tsk) (r : Int) (w : World) (h : TsksAt w w.heap.size v l) (hl : l.length ≤ 1000000) (hs : ∀ i, i < l.length → (tskAt l i).secs.length ≤ 1000000) :
    Calls Try.prog 42 #[v, .int .i64 r] w fun e w' => e = .returned (.int .i64 (ceilT r l 0)) ∧ w' = w := by
  obtain ⟨A, c, rfl, hc, hA⟩ := h
  go_enter Try.func42, Try.ntmps42
  go_wp2
  go_loop [5, 6] (fun m i => ∃ (k : Nat) (x : Int), k ≤ l.length ∧ i = .int .i64 k ∧ m = .int .i64 x ∧ ceilT r (l.drop k) x = ceilT r l 0) (fun _ i => l.length - (intOf i).toNat)
  case atStart => exact ⟨0, 0, by omega, rfl, rfl, rfl⟩
  case round =>
    obtain ⟨k, x, hk, rfl, rfl, hd⟩ := hrel
    by_cases hlt : k < l.length
    · obtain ⟨b, off, rfl, hb, hA⟩ := hA (by omega)
      obtain ⟨sv, hT, A2, c2, rfl, hc2, hS⟩ := hA k hlt
      have hs := hs k hlt
      obtain ⟨t0, t1, t2, t3, t4, t5, t6⟩ := hT
      have HD := Lib.hid hd
      clear hd hA
      clear t0 t1 t2 t3 t4
      have HT : Hid (ceilT r (l.drop (k + 1)) (ceilS r (tskAt l k).prio (tskAt l k).secs x) = ceilT r l 0) := by rw [← HD.out, tsks_drop hlt]; rfl
      clear HD
      go_wp2
      go_loop [5, 7] (fun m i => ∃ (j : Nat) (y : Int), j ≤ (tskAt l k).secs.length ∧ i = .int .i64 j ∧ m = .int .i64 y ∧ ceilS r (tskAt l k).prio ((tskAt l k).secs.drop j) y = ceilS r (tskAt l k).prio (tskAt l k).secs x) (fun _ i => (tskAt l k).secs.length - (intOf i).toNat)
      case atStart => exact ⟨0, x, by omega, rfl, rfl, rfl⟩
      case round =>
        obtain ⟨j, y, hj, rfl, rfl, hdj⟩ := hrel
        by_cases hltj : j < (tskAt l k).secs.length
        · obtain ⟨b2, off2, rfl, hb2, hS⟩ := hS (by omega)
          obtain ⟨s0, s1, s2⟩ := hS j hltj
          have HJ : Hid (ceilS r (tskAt l k).prio ((tskAt l k).secs.drop (j+1)) (if (secAt (tskAt l k).secs j).res == r then (if y < (tskAt l k).prio then (tskAt l k).prio else y) else y) = ceilS r (tskAt l k).prio (tskAt l k).secs x) := by rw [← hdj, secs_drop hltj]; rfl
          clear hdj hS
          go_wp2
          all_goals
            have hc : _ = _ := ‹((secAt (tskAt l k).secs j).res == r) = _›
            go_round
            case rel => exact ⟨j+1, _, by omega, by go_num, rfl, by rw [← HJ.out, hc]; rfl⟩
            case measure => simp [intOf]; omega
        · have : j = (tskAt l k).secs.length := by omega
          subst this
          have HJ := Lib.hid hdj
          clear hdj
          go_wp2
          go_round
          case rel => exact ⟨k+1, _, by omega, by go_num, rfl, by rw [← HT.out, ← HJ.out]; simp [ceilS]⟩
          case measure => simp [intOf]; omega
    · have : k = l.length := by omega
      subst this
      have HD := Lib.hid hd
      clear hd
      go_wp2
      go_ret
      refine ⟨?_, rfl⟩
      rw [← HD.out]; simp [ceilT]
end Go.Proofs.Ythcdemmamggboaa
namespace Go.Proofs.Ythcdemmamggboaa
open Go.RowKit
def offsB (l : List Tsk) : Bool := l.any fun x => !decide (x.off = 0)
end Go.Proofs.Ythcdemmamggboaa
