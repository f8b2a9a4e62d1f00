import Derived.RangeFuncNested
import Derived.RangeFuncBound
import Derived.RangeFuncCalls
import Derived.RangeFuncLeaves
import Derived.RangeFuncFrom
import Derived.Shelf.Abstract
import Derived.Shelf.RegionOpen
import Derived.WalkKit
import Derived.OwnWalkIn
import Derived.TacticsInMore
import Derived.LoopNIn
import Derived.LoopIn
import Derived.Test.YtbilfpoghohddaaG2
import Derived.Test.YtbilfpoghohddaaG3
import Derived.Test.YtbilfpoghohddaaG4
import Derived.Test.YtbilfpoghohddaaZWserve
import Derived.Test.YtbilfpoghohddaaG13
import Derived.Test.YtbilfpoghohddaaG1
import Derived.Test.YtbilfpoghohddaaZWjob
/- slices.Chunk over ints: the iterator's contract. -/
namespace Go.Proofs.Ytbilfpoghohddaa
open Go.RowKit Go.Shelf
attribute [local go_sem] Oper.semAt_some
def chunkV (b off p c : Nat) : Array Value := #[.slice (some ⟨b, off + c * p, none⟩) p p]
set_option maxRecDepth 100000 in
set_option maxHeartbeats 2000000 in
theorem chunk1_in (n : Nat) (hn : 1 ≤ n) (l Bs Bn n₀ b off len cap p N : Nat) (hp : 1 ≤ p) (hlen : N * p = len) (hl : len ≤ 1000000) (hcap : len ≤ cap) (hs0 : Bs < n₀) (hn0 : Bn < n₀) (J Jx : List Nat → World → Prop) (hJd : ∀ s W, J s W → J s W.drew)
    (hY : ∀ pre x W, J pre W → pre.length < N → x < N → YieldAt Fence.wide (n - 1) Try.prog l (chunkV b off p x) W fun e W' =>
      (e = .returned (.bool true) ∧ J (pre ++ [x]) W' ∧ Below n₀ W W') ∨ (e = .returned (.bool false) ∧ Jx (pre ++ [x]) W'))
    (W : World) (hBs : W.cell? ⟨Bs, 0, none⟩ = some (.slice (some ⟨b, off, none⟩) len cap)) (hBn : W.cell? ⟨Bn, 0, none⟩ = some (.int .i64 p)) (h0 : J [] W) :
    CallsIn Fence.wide n Try.prog 73 #[.func (.yield l) #[] #[], .pointer (some ⟨Bs, 0, none⟩), .pointer (some ⟨Bn, 0, none⟩)] W fun e W' => (∃ v, e = .returned v) ∧
      ((∃ ys, ys = List.range N ∧ J ys W') ∨ (∃ pre, (∃ k, k ≤ N ∧ pre = List.range k) ∧ Jx pre W')) := by
  refine callsIn_of_wp Try.func73 rfl trivial ?_ rfl
  simp only [Try.ntmps73, List.size_toArray, List.length_cons, List.length_nil, Nat.reduceAdd, Nat.reduceSub, Array.replicate_succ, Array.replicate_zero, List.push_toArray, List.append_toArray, List.nil_append, List.cons_append]
  gi_wp2
  gi_loopw [4] (fun i wr => ∃ k : Nat, k ≤ N ∧ i = .int .i64 ((k * p : Nat) : Int) ∧ J (List.range k) wr ∧ Below n₀ W wr) (fun i _ => len + 1 - (intOf i).toNat)
  case atStart => exact ⟨0, Nat.zero_le _, by simp, h0, Below.refl _ _⟩
  case round =>
    obtain ⟨k, hk, rfl, hJs, hnx⟩ := hrel
    have c1 := (hnx.cell (p := ⟨Bs, 0, none⟩) hs0).trans hBs
    have c2 := (hnx.cell (p := ⟨Bn, 0, none⟩) hn0).trans hBn
    by_cases hlt : k < N
    · have hmul : (k + 1) * p ≤ N * p := Nat.mul_le_mul_right _ (by omega)
      have hmul2 : (k + 1) * p = k * p + p := by rw [Nat.add_mul, Nat.one_mul]
      obtain ⟨fn, tmps, assign, body, hy, hR⟩ := hY _ k wr.drew (hJd _ _ hJs) (by simpa using hlt) hlt
      unfold chunkV at hy
      have hkp : k * p + p ≤ len := by omega
      have HNX : (k + 1) * p = k * p + p := hmul2
      generalize hko : k * p = o at *
      have q1 : decide ((o : Int) < (len : Int)) = true := by simp; omega
      have q2 : decide (((len - o : Nat) : Int) < (p : Int)) = false := by simp; omega
      have q3 : decide ((len : Int) - (o : Int) < (p : Int)) = false := by simp; omega
      have q4 : ¬ cap = o := by omega
      have q5 : (o : Int) ≤ (len : Int) := by omega
      have q6 : o ≤ len := by omega
      have q7 : o ≤ cap := by omega
      have q8 : o + p ≤ cap := by omega
      have q9 : (o : Int) + (p : Int) ≤ (cap : Int) := by omega
      have w1 : IntKind.i64.wrap ((o : Int) + (p : Int)) = (o : Int) + (p : Int) := IntWalk.i64_in _ (by omega)
      have hmo : Try.prog.follows .mixedOrders = true := by kernel_rfl
      gi_wp2
      gi_big_region_o
      all_goals gi_wp2
      refine hR.mono ?_
      have w2 : IntKind.i64.wrap ((o : Int) + (p : Int)) = (o : Int) + (p : Int) := w1
      rintro e W3 (⟨rfl, hJ3, hk3⟩ | ⟨rfl, hJx3⟩)
      · have hb3 : Below n₀ W W3 := hnx.trans ((Below.refl n₀ wr).drew.trans hk3)
        have c3 := (hb3.cell (p := ⟨Bn, 0, none⟩) hn0).trans hBn
        have HK : Hid ((k + 1) * p = o + p) := Lib.hid HNX
        have HOO : Hid (o = k * p) := Lib.hid hko.symm
        clear HNX hmul2 hmul hko
        gi_wp2
        go_roundw
        case rel => exact ⟨k + 1, by omega, by rw [HK.out]; push_cast; rfl, by rw [List.range_succ]; exact hJ3, hb3⟩
        case measure => simp [intOf]; omega
      · gi_wp2
        refine bodyPost_ret (results_none rfl _ _ _) rfl ?_
        exact ⟨⟨_, rfl⟩, .inr ⟨_, ⟨k + 1, by omega, (List.range_succ).symm⟩, hJx3⟩⟩
    · obtain rfl : k = N := by omega
      have hdl : decide (((k * p : Nat) : Int) < (len : Int)) = false := by simp; omega
      generalize k * p = o at *
      subst hlen
      gi_wp2
      go_end0
      exact ⟨⟨_, rfl⟩, .inl ⟨_, rfl, hJs⟩⟩
theorem chunk_stops (n : Nat) (hn : 1 ≤ n) (Bs Bn n₀ b off len cap p N : Nat) (hp : 1 ≤ p) (hlen : N * p = len) (hl : len ≤ 1000000) (hcap : len ≤ cap) (hs0 : Bs < n₀) (hn0 : Bn < n₀) (w : World) (hw : n₀ ≤ w.heap.size)
    (hBs : w.cell? ⟨Bs, 0, none⟩ = some (.slice (some ⟨b, off, none⟩) len cap)) (hBn : w.cell? ⟨Bn, 0, none⟩ = some (.int .i64 p)) :
    SeqStopsK Fence.wide n Try.prog 73 #[.pointer (some ⟨Bs, 0, none⟩), .pointer (some ⟨Bn, 0, none⟩)] (fun x => chunkV b off p (x % N)) (Below n₀) (fun ys => ys = List.range N) (fun pre => ∃ k, k ≤ N ∧ pre = List.range k) N w :=
  fun l J Jx W hW hJ _ hY h0 =>
    chunk1_in n hn l Bs Bn n₀ b off len cap p N hp hlen hl hcap hs0 hn0 J Jx (fun s W1 hs => hJ s W1 W1.drew none hs ⟨rfl, rfl, rfl, Nat.le_refl _, fun _ _ _ => rfl⟩ (fun r e => by cases e)) (fun pre x W hp hl hx => by have := hY pre x W hp hl; simp only [Nat.mod_eq_of_lt hx] at this; exact this) W
      ((hW.cell (p := ⟨Bs, 0, none⟩) (Nat.lt_of_lt_of_le hs0 hw)).trans hBs) ((hW.cell (p := ⟨Bn, 0, none⟩) (Nat.lt_of_lt_of_le hn0 hw)).trans hBn) h0
set_option maxRecDepth 100000 in
set_option maxHeartbeats 1000000 in
theorem chunk_any (A : Option Addr) (len cap p : Nat) (hp : 1 ≤ p) (w : World) :
    Calls Try.prog 48 #[.slice A len cap, .int .i64 p] w fun e w' => e = .returned (.func (.func 73) #[] #[.pointer (some ⟨w.heap.size, 0, none⟩), .pointer (some ⟨w.heap.size + 1, 0, none⟩)]) ∧
      w' = (w.alloc (.cells #[.slice A len cap] 23)).alloc (.cells #[.int .i64 p] 3) := by
  have q1 : decide ((p : Int) < 1) = false := by simp; omega
  go_enter Try.func48, Try.ntmps48
  go_wp2
  go_ret
  exact ⟨rfl, rfl⟩
end Go.Proofs.Ytbilfpoghohddaa
namespace Go.Proofs.Ytbilfpoghohddaa
open Go.RowKit
def idxK (f : Int → Bool) : List Int → Nat → Int
  | [], _ => -1
  | s :: ss, k => if f s then k else idxK f ss (k + 1)
theorem idxK_any (f : Int → Bool) : ∀ (ss : List Int) (k : Nat), decide (0 ≤ idxK f ss k) = ss.any f
  | [], k => rfl
  | s :: ss, k => by
    have h2 := idxK_any f ss (k + 1)
    rw [List.any_cons]
    by_cases h : f s = true
    · have e : idxK f (s :: ss) k = k := by simp [idxK, h]
      rw [e, h]; simp
    · have e : idxK f (s :: ss) k = idxK f ss (k + 1) := by simp [idxK, h]
      have h3 : f s = false := by simpa using h
      rw [e, h3, h2, Bool.false_or]
theorem ints_drop2 {xs : List Int} {k : Nat} (h : k < xs.length) : xs.drop k = xs.getD k 0 :: xs.drop (k + 1) := by
  rw [List.drop_eq_getElem_cons h]; simp [List.getD, h]
set_option maxRecDepth 100000 in
set_option maxHeartbeats 4000000 in
theorem chk1_one (d : Int) (l : List Tsk) (A : Option Addr) (c b : Nat) (w : World) (hb : b < w.heap.size) (hc : w.cell? ⟨b, 0, none⟩ = some (.slice A l.length c)) :
    Calls Try.prog 47 #[.int .i64 d, .pointer (some ⟨b, 0, none⟩)] w fun e w' => e = .returned (.bool (badK l d)) ∧ Bel w w' := by
  have HR : Hid (badK l d = (decide (d < -1) || decide ((l.length : Int) ≤ d))) := Lib.hid rfl
  go_enter Try.func47, Try.ntmps47
  by_cases h1 : d < -1
  · have q1 : decide (d < -1) = true := by simpa using h1
    go_wp2
    go_ret
    exact ⟨ret_bool (by rw [HR.out, q1]; rfl), Bel.refl⟩
  · have q1 : decide (d < -1) = false := by simpa using h1
    go_wp2
    go_ret
    exact ⟨ret_bool (by rw [HR.out, q1, Bool.false_or]), Bel.refl⟩
set_option maxRecDepth 100000 in
set_option maxHeartbeats 4000000 in
theorem chk1_idx (xv : Value) (xs : List Int) (l : List Tsk) (A : Option Addr) (c b : Nat) (w : World) (h : IntsAt w w.heap.size xv xs) (hl : xs.length ≤ 1000000) (hb : b < w.heap.size) (hc : w.cell? ⟨b, 0, none⟩ = some (.slice A l.length c)) :
    Calls Try.prog 72 #[xv, .func (.func 47) #[] #[.pointer (some ⟨b, 0, none⟩)]] w fun e w' => e = .returned (.int .i64 (idxK (badK l) xs 0)) ∧ Bel w w' := by
  obtain ⟨Ax, cx, rfl, _⟩ := h.form
  have HX := Lib.hid h
  have HONE := Lib.hid (fun (d : Int) (y : Ext w) => chk1_one d l A c b y.w (ext_lt y hb) (by rw [ext_cells y _ _ hb]; exact hc))
  clear h hc
  go_enter Try.func72, Try.ntmps72
  go_wp2
  go_loopg [8] xs.length (fun gk s8 wr => ∃ (j : Nat) (z : Ext w), j + gk = xs.length ∧ s8 = .int .i64 j ∧ wr = z.w ∧ idxK (badK l) (xs.drop j) j = idxK (badK l) xs 0)
  case atStart => exact ⟨0, ⟨w, Bel.refl⟩, by omega, rfl, rfl, rfl⟩
  case round =>
    obtain ⟨j, x, hj, rfl, rfl, hd⟩ := hrel
    by_cases hlt : j < xs.length
    · have hdl : decide ((j : Int) < (xs.length : Int)) = true := by simp; omega
      have hil : (j : Int) < (xs.length : Int) := by omega
      rw [ints_drop2 hlt] at hd
      obtain ⟨bs, os, rfl, hbs, hS⟩ := HX.out.at_ (by omega)
      have c0 := hS j hlt
      have HH := Lib.hid (fun (y : Ext w) => HONE.out (xs.getD j 0) y)
      clear hS
      generalize xs.getD j 0 = d at *
      cases hh : badK l d
      · have HD : Hid (idxK (badK l) (xs.drop (j + 1)) (j + 1) = idxK (badK l) xs 0) := Lib.hid (by rw [← hd]; simp only [idxK, hh]; rfl)
        rw [hh] at HH
        clear hd hh
        go_wp2_with (first | (go_at_call 47; (with_reducible refine (HH.out _).mono ?_); rintro e w2 ⟨rfl, hb2⟩; obtain ⟨x, rfl⟩ : ∃ x : Ext w, w2 = x.w := ext_of (hb2.after (by (repeat (first | exact Ext.bel _ | exact Bel.refl | refine Bel.alloc ?_ _ | refine Bel.drew ?_ | refine Bel.drewN ?_ _)))); clear hb2))
        go_roundg (gk - 1)
        case measure => omega
        case rel => exact ⟨j + 1, x, by omega, by go_num, rfl, HD.out⟩
      · have HD : Hid (idxK (badK l) xs 0 = (j : Int)) := Lib.hid (by rw [← hd]; simp only [idxK, hh]; rfl)
        rw [hh] at HH
        clear hd hh
        go_wp2_with (first | (go_at_call 47; (with_reducible refine (HH.out _).mono ?_); rintro e w2 ⟨rfl, hb2⟩; obtain ⟨x, rfl⟩ : ∃ x : Ext w, w2 = x.w := ext_of (hb2.after (by (repeat (first | exact Ext.bel _ | exact Bel.refl | refine Bel.alloc ?_ _ | refine Bel.drew ?_ | refine Bel.drewN ?_ _)))); clear hb2))
        go_ret
        exact ⟨ret_int HD.out.symm, x.bel⟩
    · obtain rfl : j = xs.length := by omega
      have hdl : decide ((xs.length : Int) < (xs.length : Int)) = false := by simp
      have HD : Hid (idxK (badK l) xs 0 = -1) := Lib.hid (by rw [← hd]; simp [idxK])
      clear hd
      go_wp2
      go_ret
      exact ⟨ret_int HD.out.symm, x.bel⟩
set_option maxRecDepth 100000 in
set_option maxHeartbeats 1000000 in
theorem chk1_has (xv : Value) (xs : List Int) (l : List Tsk) (A : Option Addr) (c b : Nat) (w : World) (h : IntsAt w w.heap.size xv xs) (hl : xs.length ≤ 1000000) (hb : b < w.heap.size) (hc : w.cell? ⟨b, 0, none⟩ = some (.slice A l.length c)) :
    Calls Try.prog 46 #[xv, .func (.func 47) #[] #[.pointer (some ⟨b, 0, none⟩)]] w fun e w' => e = .returned (.bool (xs.any (badK l))) ∧ Bel w w' := by
  have HK := Lib.hid (chk1_idx xv xs l A c b w h hl hb hc)
  have HR := Lib.hid (idxK_any (badK l) xs 0)
  obtain ⟨Ax, cx, rfl, _⟩ := h.form
  generalize idxK (badK l) xs 0 = n at *
  clear h hc
  go_enter Try.func46, Try.ntmps46
  go_wp2_with (first | (go_at_call 72; (with_reducible refine (HK.out).mono ?_); rintro e w2 ⟨rfl, hb2⟩; obtain ⟨x, rfl⟩ : ∃ x : Ext w, w2 = x.w := ext_of (hb2.after (by (repeat (first | exact Ext.bel _ | exact Bel.refl | refine Bel.alloc ?_ _ | refine Bel.drew ?_ | refine Bel.drewN ?_ _)))); clear hb2))
  go_ret
  exact ⟨ret_bool (by rw [← HR.out]), x.bel⟩
end Go.Proofs.Ytbilfpoghohddaa
/- tables.Check: the body of its inner range. -/
namespace Go.Proofs.Ytbilfpoghohddaa
open Go.RowKit Go.Shelf
attribute [local go_sem] Oper.semAt_some
def firstLoop : Code → Option Code
  | .loop c => some c
  | .seq a b => match firstLoop a with
    | some c => some c
    | none => firstLoop b
  | .block _ c => firstLoop c
  | .scope c => firstLoop c
  | .cond _ a b => match firstLoop a with
    | some c => some c
    | none => firstLoop b
  | _ => none
def firstRange : Code → Option Code
  | .rangeFunc _ _ _ c => some c
  | .loop c => firstRange c
  | .seq a b => match firstRange a with
    | some c => some c
    | none => firstRange b
  | .block _ c => firstRange c
  | .scope c => firstRange c
  | .cond _ a b => match firstRange a with
    | some c => some c
    | none => firstRange b
  | _ => none
noncomputable def chkBody : Code := ((Try.f26.body.bind firstRange).getD .skip)
set_option maxRecDepth 100000 in
set_option maxHeartbeats 2000000 in
theorem chk_body (lr : Nat) (v pv : Value) (l : List Tsk) (i : Nat) (part : List Int) (W : World) (h : TsksAt W W.heap.size v l) (hp : IntsAt W W.heap.size pv part) (h0 : rchk l = 0) (hi : i < l.length) (hpl : part.length ≤ 1000000)
    (hk : ∀ k ∈ part, -1 ≤ k ∧ k < l.length) (hsz : Sized l) (p2 p4 pa : Nat) (z : Value) (c2 : W.cell? ⟨p2, 0, none⟩ = some v) (c7 : W.cell? ⟨pa, 0, none⟩ = some (.int .i64 (i : Int))) (c4 : W.cell? ⟨p4, 0, none⟩ = some z) (f4 : W.frozen? ⟨p4, 0, none⟩ = false)
    (x2 : p2 < W.heap.size) (x4 : p4 < W.heap.size) (xa : pa < W.heap.size) (u0 u1 u3 u5 u6 u8 u10 u11 u12 u13 u14 u15 u16 u17 u18 u19 u20 u21 u22 u23 u24 u25 u26 u27 u28 u29 u30 u31 u32 u33 u34 u35 u36 u37 u38 u39 u40 u41 u42 u43 u44 u45 u46 u47 : Value)
    (Q : Exit → Act → World → Prop) (hQ1 : ∀ a' w', serveB l i part = true → Bel W w' → Q .normal a' w') (hQ2 : ∀ a' w', serveB l i part = false → Bel W w' → Q .ret a' (w'.setCell ⟨p4, 0, none⟩ (.int .i64 370))) :
    chkBody.wpIn (Fence.wide.inRound lr) 7 Try.prog Q { tmps := #[u0, u1, .pointer (some ⟨p2, 0, none⟩), u3, .pointer (some ⟨p4, 0, none⟩), u5, u6, .pointer (some ⟨pa, 0, none⟩), u8, pv, u10, u11, u12, u13, u14, u15, u16, u17, u18, u19, u20, u21, u22, u23, u24, u25, u26, u27, u28, u29, u30, u31, u32, u33, u34, u35, u36, u37, u38, u39, u40, u41, u42, u43, u44, u45, u46, u47], defers := [] } W := by
  have HS := Lib.hid (serves_any v pv l i part W h hp h0 hi hpl hk hsz)
  have HQ1 := Lib.hid hQ1
  have HQ2 := Lib.hid hQ2
  clear h hp h0 hi hpl hk hsz hQ1 hQ2
  conv => arg 4; whnf
  gi_wp2_with fail
  refine ⟨trivial, ?_⟩
  refine (CallsIn.inRound lr (callsIn_wide.2 HS.out)).mono ?_
  rintro e w2 ⟨rfl, hb⟩
  have HB := Lib.hid hb
  have d4 := (hb.cells p4 0 x4).trans c4
  have g4 := (Below.frozen (p := ⟨p4, 0, none⟩) hb x4).trans f4
  have y4 := Nat.lt_of_lt_of_le x4 hb.le
  clear hb c2 c7 c4 f4 x2 x4 xa HS
  cases hs : serveB l i part
  all_goals
    have HE := Lib.hid hs
    clear hs
    gi_wp2
  · exact HQ2.out _ _ HE.out HB.out
  · exact HQ1.out _ _ HE.out HB.out
end Go.Proofs.Ytbilfpoghohddaa
/- tables.Check: a round of its loop over the tasks. -/
namespace Go.Proofs.Ytbilfpoghohddaa
open Go.RowKit Go.Shelf
attribute [local go_sem] Oper.semAt_some
theorem servesI_true {l : List Tsk} {xs : List Int} {i : Nat} : ∀ (f c0 : Nat), (∀ c, c0 ≤ c → c < c0 + f → serveB l i (partN xs (tskAt l i).per.toNat c) = true) → servesI l xs i f c0 = true
  | 0, _, _ => rfl
  | f + 1, c0, h => by
    unfold servesI
    rw [h c0 (Nat.le_refl _) (by omega), servesI_true f (c0 + 1) (fun c a b => h c (by omega) (by omega))]
    rfl
theorem servesI_false {l : List Tsk} {xs : List Int} {i : Nat} : ∀ (f c0 c : Nat), c0 ≤ c → c < c0 + f → serveB l i (partN xs (tskAt l i).per.toNat c) = false → servesI l xs i f c0 = false
  | 0, c0, c, h1, h2, _ => by omega
  | f + 1, c0, c, h1, h2, h => by
    unfold servesI
    rcases Nat.lt_or_eq_of_le h1 with h3 | rfl
    · rw [servesI_false f (c0 + 1) c (by omega) (by omega) h]; split <;> rfl
    · rw [h]; rfl
theorem below_bel {n : Nat} {w W : World} (h : Bel w W) (hn : n ≤ w.heap.size) : Below n w W := Below.mono h hn
theorem part_ints {W : World} {B b off cap p N c : Nat} {xs : List Int} (hp : IntsAt W B (.slice (some ⟨b, off, none⟩) xs.length cap) xs) (hN : N * p = xs.length) (hp1 : 1 ≤ p) (hc : c < N) :
    IntsAt W B (.slice (some ⟨b, off + c * p, none⟩) p p) (partN xs p c) ∧ (partN xs p c).length = p := by
  have hle : c * p + p ≤ N * p := by rw [← Nat.succ_mul]; exact Nat.mul_le_mul_right _ hc
  have hlen : (partN xs p c).length = p := by unfold partN; rw [List.length_take, List.length_drop]; omega
  refine ⟨⟨some ⟨b, off + c * p, none⟩, p, by rw [hlen], by omega, fun _ => ?_⟩, hlen⟩
  obtain ⟨b', o', e, hb, hc'⟩ := hp.at_ (by omega)
  injection e with e
  injection e with e1 e2
  subst e1; subst e2
  refine ⟨b, off + c * p, rfl, hb, fun i hi => ?_⟩
  rw [hlen] at hi
  rw [Nat.add_assoc, hc' (c * p + i) (by omega)]
  have : (partN xs p c).getD i 0 = xs.getD (c * p + i) 0 := by
    unfold partN
    simp only [List.getD_eq_getElem?_getD, List.getElem?_take, List.getElem?_drop, if_pos hi]
  rw [this]
theorem part_mem {xs : List Int} {p c : Nat} {k : Int} (h : k ∈ partN xs p c) : k ∈ xs := List.mem_of_mem_drop (List.mem_of_mem_take h)
noncomputable def chkRound : Code := ((Try.f26.body.bind firstLoop).getD .skip)
def ChkMu (n : Nat) (a : Act) (_ : World) : Nat := n - (intOf (a.tmps.getD 31 undef)).toNat
set_option maxRecDepth 1000000 in
def ChkI (w5 : World) (l : List Tsk) (xs : List Int) (A : Option Addr) (cA p2 p3 p4 : Nat) (c0 c1 c5 c6 c10 c11 c12 c13 c14 c15 c16 c17 c18 c19 c20 c21 c22 c23 c24 c25 c26 c27 c28 : Value) (a : Act) (W : World) : Prop :=
  ∃ (i : Nat) (ds : List Nat) (u7 u8 u9 u32 u33 u34 u35 u36 u37 u38 u39 u40 u41 u42 u43 u44 u45 u46 u47 : Value), a = { tmps := #[c0, c1, .pointer (some ⟨p2, 0, none⟩), .pointer (some ⟨p3, 0, none⟩), .pointer (some ⟨p4, 0, none⟩), c5, c6, u7, u8, u9, c10, c11, c12, c13, c14, c15, c16, c17, c18, c19, c20, c21, c22, c23, c24, c25, c26, c27, c28, .slice A l.length cA, .int .i64 l.length, .int .i64 i, u32, u33, u34, u35, u36, u37, u38, u39, u40, u41, u42, u43, u44, u45, u46, u47], defers := ds.map fun D => { target := .collected D, args := #[] } } ∧
    i ≤ l.length ∧ ds.Nodup ∧ (∀ D ∈ ds, w5.heap.size ≤ D ∧ W.heap[D]? = some (.deferred (some []))) ∧ Bel w5 W ∧ servesL l xs i (l.drop i) = servesL l xs 0 l
theorem cell_pos {w : World} {A : Option Addr} {n c : Nat} {l : List Tsk} (h : TsksAt w w.heap.size (.slice A n c) l) (h0 : 0 < l.length) : ∃ b off, A = some ⟨b, off, none⟩ := by
  obtain ⟨b, off, e, _⟩ := h.at_ h0
  exact ⟨b, off, e⟩
set_option maxRecDepth 100000 in
set_option maxHeartbeats 8000000 in
theorem chk_round (w w5 : World) (l : List Tsk) (xs : List Int) (A Ap : Option Addr) (cA cp p2 p3 p4 : Nat) (c0 c1 c5 c6 c10 c11 c12 c13 c14 c15 c16 c17 c18 c19 c20 c21 c22 c23 c24 c25 c26 c27 c28 : Value) (Q : Exit → Act → World → Prop)
    (HT : TsksAt w5 w5.heap.size (.slice A l.length cA) l) (HP : IntsAt w5 w5.heap.size (.slice Ap xs.length cp) xs) (h0 : rchk l = 0) (he : (hyp l).2 = 0) (hxl : (xs.length : Int) = (hyp l).1) (hbk : ∀ k ∈ xs, -1 ≤ k ∧ k < l.length) (hpl : xs.length ≤ 1000000) (hsz : Sized l)
    (hb05 : Bel w w5) (hp4 : w.heap.size ≤ p4) (T2 : RowAt w5 p2 22 [.slice A l.length cA]) (T3 : RowAt w5 p3 25 [.slice Ap xs.length cp]) (T4 : RowAt w5 p4 30 [.int .i64 0])
    (hret : ∀ (tmps : Array Value) (ds : List Nat) (W : World), tmps[4]? = some (.pointer (some ⟨p4, 0, none⟩)) → servesL l xs 0 l = false → ds.Nodup → (∀ D ∈ ds, w.heap.size ≤ D ∧ W.heap[D]? = some (.deferred (some []))) → Bel w W → RowAt W p4 30 [.int .i64 370] → Q .ret { tmps := tmps, defers := ds.map fun D => { target := .collected D, args := #[] } } W)
    (i : Nat) (ds : List Nat) (u7 u8 u9 u32 u33 u34 u35 u36 u37 u38 u39 u40 u41 u42 u43 u44 u45 u46 u47 : Value) (W : World) (hli : i < l.length) (hnd : ds.Nodup) (hds : ∀ D ∈ ds, w5.heap.size ≤ D ∧ W.heap[D]? = some (.deferred (some []))) (hbW : Bel w5 W) (hs : servesL l xs i (l.drop i) = servesL l xs 0 l) :
    chkRound.wpIn Fence.wide 9 Try.prog (Exit.then (fun a' W' => ChkI w5 l xs A cA p2 p3 p4 c0 c1 c5 c6 c10 c11 c12 c13 c14 c15 c16 c17 c18 c19 c20 c21 c22 c23 c24 c25 c26 c27 c28 a' W' ∧ ChkMu l.length a' W' < l.length - i) Q)
      { tmps := #[c0, c1, .pointer (some ⟨p2, 0, none⟩), .pointer (some ⟨p3, 0, none⟩), .pointer (some ⟨p4, 0, none⟩), c5, c6, u7, u8, u9, c10, c11, c12, c13, c14, c15, c16, c17, c18, c19, c20, c21, c22, c23, c24, c25, c26, c27, c28, .slice A l.length cA, .int .i64 l.length, .int .i64 i, u32, u33, u34, u35, u36, u37, u38, u39, u40, u41, u42, u43, u44, u45, u46, u47], defers := ds.map fun D => { target := .collected D, args := #[] } } W := by
  have hpk := tok_at h0 hli
  obtain ⟨pn, hpn⟩ : ∃ pn : Nat, (tskAt l i).per = pn := ⟨(tskAt l i).per.toNat, by have := hpk.p1; omega⟩
  obtain ⟨hfl, hpn1⟩ := fill_law h0 he hxl hli hpn
  have hhd := hyp_dvd h0 he
  have hp2' := hpk.p2
  have hil : (i : Int) < (l.length : Int) := by omega
  have hxs0 : 0 < xs.length := by have := hhd.2.1; omega
  have HTW := HT.keep hbW.keeps hbW.le
  have HPW := HP.keep hbW.keeps hbW.le
  obtain ⟨bt, ot, rfl, hbt, hAT⟩ := HTW.at_ (by omega)
  obtain ⟨sv, ⟨t0, t1, t2, t3, t4, t5, t6⟩, hsv⟩ := hAT i hli
  obtain ⟨As, cs, rfl, _⟩ := hsv.form
  have hcpl : xs.length ≤ cp := by
    obtain ⟨_, _, ef, h⟩ := HPW.form
    injection ef with _ _ ef
    omega
  obtain ⟨bp, op, rfl, hbp, _⟩ := HPW.at_ hxs0
  have c2 := (T2.bel hbW).cell (i := 0) rfl
  have c3 := (T3.bel hbW).cell (i := 0) rfl
  have x2 := (T2.bel hbW).lt
  have x3 := (T3.bel hbW).lt
  rw [hpn] at t1 hp2'
  have HS := Lib.hid hs
  have HHT := Lib.hid HTW
  have HHP := Lib.hid HPW
  have HPN := Lib.hid hpn
  have HHB := Lib.hid hbW
  have HDS := Lib.hid hds
  have HRT := Lib.hid hret
  have HFL := Lib.hid hfl
  have HBK := Lib.hid hbk
  have H0 := Lib.hid h0
  have HTT := Lib.hid (And.intro T2 (And.intro T3 T4))
  have hNn : 1 ≤ xs.length / pn := by
    rcases Nat.eq_zero_or_pos (xs.length / pn) with e | e
    · rw [e] at hfl; omega
    · exact e
  have hd1 : decide ((i : Int) < (l.length : Int)) = true := by simp; omega
  clear hAT hsv hpk hs HT HP HTW HPW hpn hds hret hfl hbk hhd h0 he T2 T3 T4 hxl hbW
  conv => arg 4; whnf
  gi_wp2_with fail
  generalize hWa : World.alloc W _ = Wa at *
  generalize hWb : World.alloc Wa _ = Wb at *
  have ra : RowAt Wa W.heap.size 3 [.int .i64 (i : Int)] := by rw [← hWa]; exact RowAt.new _ _ _
  have ba : Bel W Wa := by rw [← hWa]; exact Bel.refl.alloc _
  have za : Wa.heap.size = W.heap.size + 1 := by rw [← hWa]; simp [go_sem]
  have bb : Bel Wa Wb := by rw [← hWb]; exact Bel.refl.alloc _
  have ra' := ra.bel bb
  refine ⟨trivial, ?_⟩
  refine (callsIn_wide.2 (chunk_any (some ⟨bp, op, none⟩) xs.length cp pn hpn1 Wb)).mono ?_
  rintro e w' ⟨rfl, rfl⟩
  generalize hWc : World.alloc Wb _ = Wc at *
  generalize hWd : World.alloc Wc _ = Wd at *
  have zc : Wc.heap.size = Wb.heap.size + 1 := by rw [← hWc]; simp [go_sem]
  have rc : RowAt Wc Wb.heap.size 23 [.slice (some ⟨bp, op, none⟩) xs.length cp] := by rw [← hWc]; exact RowAt.new _ _ _
  have rd : RowAt Wd (Wb.heap.size + 1) 3 [.int .i64 (pn : Int)] := by rw [← zc, ← hWd]; exact RowAt.new _ _ _
  have bc : Bel Wb Wc := by rw [← hWc]; exact Bel.refl.alloc _
  have bd : Bel Wc Wd := by rw [← hWd]; exact Bel.refl.alloc _
  have RA := Lib.hid ((ra'.bel bc).bel bd)
  have RC := Lib.hid (rc.bel bd)
  have RD := Lib.hid rd
  have HBD := Lib.hid (((ba.trans bb).trans bc).trans bd)
  have HBO := Lib.hid (HHB.out.trans HBD.out)
  have hsb : W.heap.size < Wb.heap.size := ra'.lt
  have hsd1 : Wb.heap.size < Wd.heap.size := (rc.bel bd).lt
  have hsd2 : Wb.heap.size + 1 < Wd.heap.size := rd.lt
  clear hWa hWb hWc hWd ra ba bb ra' rc rd bc bd zc za
  generalize Wb.heap.size = pb at *
  obtain ⟨pa, hpa⟩ : ∃ pa, pa = W.heap.size := ⟨_, rfl⟩
  rw [← hpa]
  rw [← hpa] at RA
  have HPA := Lib.hid hpa
  clear hpa
  clear t0 t1 t2 t3 t4 t5 t6 c2 c3 x2 x3 hd1 hsb
  gi_wp2
  refine wpIn_rangeFunc_ownF rfl (by omega) (gf := 73) (lb := #[.pointer (some ⟨pb, 0, none⟩), .pointer (some ⟨pb + 1, 0, none⟩)]) rfl trivial (enters_of Try.func73 (by kernel_rfl) rfl)
    (chunk_stops 8 (by omega) pb (pb + 1) Wd.heap.size bp op xs.length cp pn (xs.length / pn) hpn1 HFL.out hpl hcpl hsd1 hsd2 Wd (Nat.le_refl _) (RC.out.cell (i := 0) rfl) (RD.out.cell (i := 0) rfl)) belowK_t (belowK_b (Nat.le_refl _)) (Below.refl _ _) (fun _ => rfl)
    (fun pre W' => (∀ c ∈ pre, serveB l i (partN xs pn (c % (xs.length / pn))) = true) ∧ Bel Wd W')
    (fun c pre W' => c = .ret ∧ (∃ c ∈ pre, serveB l i (partN xs pn (c % (xs.length / pn))) = false) ∧ (RowAt W' p4 30 [.int .i64 370] ∧ Bel w W' ∧ ∀ D ∈ ds, W'.heap[D]? = some (.deferred (some []))))
    ?hI ?hIx ⟨fun c hc => absurd hc (by simp), Below.refl _ _⟩
    (fun c => { tmps := #[c0, c1, .pointer (some ⟨p2, 0, none⟩), .pointer (some ⟨p3, 0, none⟩), .pointer (some ⟨p4, 0, none⟩), c5, c6, .pointer (some ⟨pa, 0, none⟩), .pointer (some ⟨pa + 1, 0, none⟩), .slice (some ⟨bp, op + (c % (xs.length / pn)) * pn, none⟩) pn pn, c10, c11, c12, c13, c14, c15, c16, c17, c18, c19, c20, c21, c22, c23, c24, c25, c26, c27, c28, .slice (some ⟨bt, ot, none⟩) l.length cA, .int .i64 l.length, .int .i64 i, .bool true, .int .i64 i, .pointer (some ⟨bt, ot + i * 7, none⟩), .agg #[.string (tskAt l i).name, .int .i64 pn, .int .i64 (tskAt l i).off, .int .i64 (tskAt l i).dl, .int .i64 (tskAt l i).cost, .int .i64 (tskAt l i).prio, .slice As (tskAt l i).secs.length cs], .pointer (some ⟨p3, 0, none⟩), .slice (some ⟨bp, op, none⟩) xs.length cp, .pointer (some ⟨pa + 1, 1, none⟩), .int .i64 pn, .func (.func 73) #[] #[.pointer (some ⟨pb, 0, none⟩), .pointer (some ⟨pb + 1, 0, none⟩)], .slice (some ⟨bp, op + (c % (xs.length / pn)) * pn, none⟩) pn pn, u42, u43, u44, u45, u46, u47], defers := [] }) ?assign ?body ?done ?stop
  case hI => exact OwnFrom.and (fun s W W' row hs _ _ => hs) (ownFrom_below (Nat.le_refl _) (Nat.le_refl _))
  case hIx =>
    intro c s A B row hs hg hr
    refine ⟨hs.1, hs.2.1, hs.2.2.1.block (hg.block _ hs.2.2.1.lt (fun e => ?_)), ?_, ?_⟩
    · obtain ⟨_, o, ho, hc⟩ := hr _ e.symm
      have := hs.2.2.1
      unfold RowAt at this
      rw [this] at ho
      injection ho with ho
      subst ho
      cases hc
    · exact Below.grown hs.2.2.2.1 hg hs.2.2.2.1.size (fun k e => Nat.le_trans (hb05.trans HBO.out).le (hr k e).1)
    · intro D hD
      have h1 := hs.2.2.2.2 D hD
      have h2 := Blk.lt (HDS.out D hD).2
      refine (hg.block D (Blk.lt h1) (fun e => ?_)).trans h1
      have := (hr D e.symm).1
      have := HBD.out.le
      omega
  case assign =>
    intro lb c W' K hK
    have HKK := Lib.hid hK
    clear hK
    unfold chunkV
    gi_wp2
    exact HKK.out
  case body =>
    rintro lb pre c W' ⟨hall, hbw⟩ hlen
    have hcN : c % (xs.length / pn) < xs.length / pn := Nat.mod_lt _ hNn
    obtain ⟨hPP, hPL⟩ := part_ints (HHP.out.keep (HBD.out.trans hbw).keeps (HBD.out.trans hbw).le) HFL.out hpn1 hcN
    have hPI : IntsAt W' W'.heap.size (.slice (some ⟨bp, op + (c % (xs.length / pn)) * pn, none⟩) pn pn) (partN xs pn (c % (xs.length / pn))) :=
      hPP.keep (fun _ _ _ => rfl) (Nat.le_refl _)
    have hB5 := HBO.out.trans hbw
    refine chk_body lb (.slice (some ⟨bt, ot, none⟩) l.length cA) (.slice (some ⟨bp, op + (c % (xs.length / pn)) * pn, none⟩) pn pn) l i (partN xs pn (c % (xs.length / pn))) W' (HHT.out.keep (HBD.out.trans hbw).keeps (HBD.out.trans hbw).le) hPI H0.out hli (by rw [hPL]; omega)
      (fun k hk => HBK.out k (part_mem hk)) hsz p2 p4 pa (.int .i64 0) ((HTT.out.1.bel hB5).cell (i := 0) rfl) ((RA.out.bel hbw).cell (i := 0) rfl) ((HTT.out.2.2.bel hB5).cell (i := 0) rfl) ((HTT.out.2.2.bel hB5).frozen 0)
      (HTT.out.1.bel hB5).lt (HTT.out.2.2.bel hB5).lt (RA.out.bel hbw).lt _ _ _ _ _ _ _ _ _ _ _ _ _ _ _ _ _ _ _ _ _ _ _ _ _ _ _ _ _ _ _ _ _ _ _ _ _ _ _ _ _ _ _ _ (ownPostK _ _ _ (pre ++ [c]) W') ?_ ?_
    · intro a' w2 hsv hb2
      refine ⟨⟨hb2.le, fun k o hk _ => (Below.block hb2 k (Blk.lt hk)).trans hk⟩, below_bel hb2 hbw.le, fun d hd => ?_, hbw.trans hb2⟩
      rcases List.mem_append.mp hd with hd | hd
      · exact hall d hd
      · rw [List.mem_singleton.mp hd]; exact hsv
    · intro a' w2 hsv hb2
      have hB2 := hbw.trans hb2
      have hx2 := (HTT.out.2.2.bel (HBO.out.trans hB2))
      refine ⟨⟨?_, fun k o hk ho => ?_⟩, rfl, ⟨c, by simp, hsv⟩, hx2.set 0 (.int .i64 370), (((hb05.trans HBO.out).trans hB2).set (p := ⟨p4, 0, none⟩) hp4 _), fun D hD => ?_⟩
      · exact Nat.le_trans hb2.le (by simp [World.setCell])
      · refine (Below.heap_setCell w2 ⟨p4, 0, none⟩ _ k (fun e => ?_)).trans ((Below.block hb2 k (Blk.lt hk)).trans hk)
        subst e
        have := (HTT.out.2.2.bel (HBO.out.trans hbw))
        unfold RowAt at this
        rw [this] at hk
        injection hk with hk
        subst hk
        cases ho
      · refine (Below.heap_setCell w2 ⟨p4, 0, none⟩ _ D (fun e => ?_)).trans ((Below.block (HBD.out.trans hB2) D (Blk.lt (HDS.out D hD).2)).trans (HDS.out D hD).2)
        have h1 := HTT.out.2.2.lt
        have h2 := (HDS.out D hD).1
        have e' : D = p4 := e
        rw [e'] at h2
        exact absurd h1 (Nat.not_lt.mpr h2)
  case done =>
    rintro D ys W' hD rfl ⟨hall, hbw⟩ hK
    have HNX : Hid (servesL l xs (i + 1) (l.drop (i + 1)) = servesL l xs 0 l) := Lib.hid (by
      rw [← HS.out, tsks_drop hli]
      simp only [servesL]
      rw [HPN.out, Int.toNat_natCast, servesI_true (xs.length / pn) 0 (fun c h1 h2 => by
        have h3 : c < xs.length / pn := by rw [Nat.zero_add] at h2; exact h2
        have := hall c (List.mem_range.mpr h3)
        rw [Nat.mod_eq_of_lt h3] at this
        rw [HPN.out, Int.toNat_natCast]; exact this)]
      rfl)
    have HKK := Lib.hid hK
    have hli' : (i : Int) + 1 ≤ 1000000 := by have := hsz.len; omega
    clear hK hall
    gi_wp2
    have ew : wrap64 ((i : Int) + 1) = ((i + 1 : Nat) : Int) := by rw [wrap_small _ (by omega) (by omega)]; omega
    try rw [ew]
    clear ew
    refine ⟨⟨i + 1, D :: ds, _, _, _, _, _, _, _, _, _, _, _, _, _, _, _, _, _, _, _, rfl, by omega, ?_, ?_, HBO.out.trans hbw, HNX.out⟩, ?_⟩
    · rw [List.nodup_cons]
      refine ⟨fun hm => ?_, hnd⟩
      have := Blk.lt (HDS.out D hm).2
      have := HBD.out.le
      omega
    · intro E hE
      rcases List.mem_cons.mp hE with rfl | hE
      · exact ⟨Nat.le_trans HBO.out.le hD, HKK.out⟩
      · have h1 := (HDS.out E hE).2
        exact ⟨(HDS.out E hE).1, ((HBD.out.trans hbw).block E (Blk.lt h1)).trans h1⟩
    · simp [ChkMu, intOf]; omega
  case stop =>
    rintro D c pre W' hD ⟨kk, hkk, rfl⟩ ⟨rfl, ⟨cw, hcm, hcf⟩, hr, hb, hds2⟩ hK
    have hcl : cw < xs.length / pn := Nat.lt_of_lt_of_le (List.mem_range.mp hcm) hkk
    have HF : Hid (servesL l xs 0 l = false) := Lib.hid (by
      rw [← HS.out, tsks_drop hli]
      simp only [servesL]
      rw [HPN.out, Int.toNat_natCast, servesI_false (xs.length / pn) 0 cw (Nat.zero_le _) (by rw [Nat.zero_add]; exact hcl) (by
        rw [Nat.mod_eq_of_lt hcl] at hcf
        rw [HPN.out, Int.toNat_natCast]; exact hcf)]
      rfl)
    have HKK := Lib.hid hK
    have HDD := Lib.hid hds2
    have HRR := Lib.hid hr
    clear hK hds2 hr hcm hcf
    gi_wp2
    refine HRT.out _ (D :: ds) W' ?_ HF.out ?_ ?_ hb HRR.out
    · rfl
    · rw [List.nodup_cons]
      refine ⟨fun hm => ?_, hnd⟩
      have := Blk.lt (HDS.out D hm).2
      have := HBD.out.le
      omega
    · intro E hE
      rcases List.mem_cons.mp hE with rfl | hE
      · exact ⟨Nat.le_trans (hb05.trans HBO.out).le hD, HKK.out⟩
      · exact ⟨Nat.le_trans hb05.le (HDS.out E hE).1, HDD.out E hE⟩
end Go.Proofs.Ytbilfpoghohddaa
/- tables.Check, whole. -/
namespace Go.Proofs.Ytbilfpoghohddaa
open Go.RowKit Go.Shelf
attribute [local go_sem] Oper.semAt_some
/-- a function leaves with marks of ranges over functions -/
theorem leave_marks {F : Fence} {n : Nat} {P : Program} {fn : Func} {tmps : Array Value} {R : Ending → World → Prop} (K : World → Prop) (base : Nat) (hK : ∀ W D, base ≤ D → K W → W.heap[D]? = some (.deferred (some [])) → K (W.putObj D (.deferred none)))
    (hend : ∀ W, K W → ∃ v, (results fn tmps).run P W = .ok v W ∧ R (.returned v) W) : ∀ (ds : List Nat) (W : World), ds.Nodup → (∀ D ∈ ds, base ≤ D ∧ W.heap[D]? = some (.deferred (some []))) → K W →
      LeavesInM F n P fn tmps R (ds.map fun D => { target := .collected D, args := #[] }) .returning W
  | [], W, _, _, hW => hend W hW
  | D :: ds, W, hn, hD, hW => by
    rw [List.nodup_cons] at hn
    obtain ⟨h0, h1⟩ := hD D (by simp)
    refine ⟨by simp, .inl ⟨D, _, rfl, run_takeDeferred h1, ?_⟩⟩
    refine leave_marks K base hK hend ds _ hn.2 (fun E hE => ?_) (hK W D h0 hW h1)
    have hne : E ≠ D := fun e => hn.1 (e ▸ hE)
    obtain ⟨hb, this⟩ := hD E (by simp [hE])
    have hg := (grownBy_putObj' W D (.deferred none)).block E (Blk.lt this) (fun e => by injection e with e; exact hne e)
    rw [hg]; exact ⟨hb, this⟩
theorem rowAt_put {W : World} {D p : Nat} {e : TypeId} {cs : List Value} (h : RowAt W p e cs) (hD : W.heap[D]? = some (.deferred (some []))) : RowAt (W.putObj D (.deferred none)) p e cs := by
  have hne : p ≠ D := by
    intro e; subst e
    unfold RowAt at h
    rw [h] at hD; cases hD
  exact h.block ((grownBy_putObj' W D (.deferred none)).block p h.lt (fun e => by injection e with e; exact hne e))
theorem bel_put {w W : World} {D : Nat} (h : Bel w W) (hD : w.heap.size ≤ D) (o : Obj) : Bel w (W.putObj D o) :=
  Below.grown h (grownBy_putObj' W D o) h.size (fun k e => by injection e with e; omega)
set_option maxRecDepth 100000 in
/-- the result's cell holds the answer -/
theorem leave_cell {tmps : Array Value} {w W : World} {p : Nat} {er x : Int} (hx : x = er) (hr : RowAt W p 30 [.int .i64 er]) (hb : Bel w W) (ds : List Nat) (hn : ds.Nodup) (hD : ∀ D ∈ ds, w.heap.size ≤ D ∧ W.heap[D]? = some (.deferred (some [])))
    (ht : tmps[4]? = some (.pointer (some ⟨p, 0, none⟩))) :
    LeavesInM Fence.wide 9 Try.prog Try.f26 tmps (fun e w' => e = .returned (.int .i64 x) ∧ Bel w w') (ds.map fun D => { target := .collected D, args := #[] }) .returning W := by
  subst hx
  refine leave_marks (fun W => RowAt W p 30 [.int .i64 x] ∧ Bel w W) w.heap.size (fun W D h0 hW hD => ⟨rowAt_put hW.1 hD, bel_put hW.2 h0 _⟩) (fun W hW => ?_) ds W hn hD ⟨hr, hb⟩
  have c := hW.1.cell (i := 0) rfl
  exact ⟨.int .i64 x, by simp [results, Try.f26, go_sem, c, ht], rfl, hW.2⟩
set_option maxRecDepth 100000 in
set_option maxHeartbeats 8000000 in
theorem checkT_any (v xv : Value) (l : List Tsk) (xs : List Int) (w : World) (h : TsksAt w w.heap.size v l) (hp : IntsAt w w.heap.size xv xs) (hpl : xs.length ≤ 1000000) (hsz : Sized l) :
    Calls Try.prog 26 #[v, .agg #[xv]] w fun e w' => e = .returned (.int .i64 (chkT l xs)) ∧ Bel w w' := by
  have HH := Lib.hid (fun (W : World) (hW : Bel w W) => hyperO_any v l W (h.keep hW.keeps hW.le) hsz)
  have HT := Lib.hid h
  have HP := Lib.hid hp
  obtain ⟨A, cA, rfl, _⟩ := h.form
  obtain ⟨Ap, cp, rfl, _⟩ := hp.form
  clear h hp
  refine (callsIn_wide (n := 9)).1 ?_
  refine callsIn_of_wp_marks Try.func26 rfl trivial ?_ rfl
  simp only [Try.ntmps26, List.size_toArray, List.length_cons, List.length_nil, Nat.reduceAdd, Nat.reduceSub, Array.replicate_succ, Array.replicate_zero, List.push_toArray, List.append_toArray, List.nil_append, List.cons_append]
  gi_wp2_with fail
  generalize hW1 : World.alloc w _ = W1 at *
  generalize hW2 : World.alloc W1 _ = W2 at *
  generalize hW3 : World.alloc W2 _ = W3 at *
  have z1 : W1.heap.size = w.heap.size + 1 := by rw [← hW1]; simp [go_sem]
  have z2 : W2.heap.size = w.heap.size + 1 + 1 := by rw [← hW2]; simp [go_sem, z1]
  have r2 : RowAt W1 w.heap.size 22 [.slice A l.length cA] := by rw [← hW1]; exact RowAt.new _ _ _
  have r3 : RowAt W2 (w.heap.size + 1) 25 [.slice Ap xs.length cp] := by rw [← z1, ← hW2]; exact RowAt.new _ _ _
  have r4 : RowAt W3 (w.heap.size + 1 + 1) 30 [.int .i64 0] := by rw [← z2, ← hW3]; exact RowAt.new _ _ _
  have b1 : Bel w W1 := by rw [← hW1]; exact Bel.refl.alloc _
  have b2 : Bel W1 W2 := by rw [← hW2]; exact Bel.refl.alloc _
  have b3 : Bel W2 W3 := by rw [← hW3]; exact Bel.refl.alloc _
  have R2 := Lib.hid ((r2.bel b2).bel b3)
  have R3 := Lib.hid (r3.bel b3)
  have R4 := Lib.hid r4
  have HB3 := Lib.hid ((b1.trans b2).trans b3)
  clear hW1 hW2 hW3 z1 z2 r2 r3 r4 b1 b2 b3
  generalize hp2 : w.heap.size = p2
  have HP2 := Lib.hid hp2
  rw [hp2] at R2 R3 R4
  clear hp2
  refine ⟨trivial, ?_⟩
  refine (callsIn_wide.2 (HH.out _ HB3.out)).mono ?_
  rintro e w4 ⟨rfl, hb⟩
  have HB4 := Lib.hid (HB3.out.trans hb)
  have S2 := Lib.hid (R2.out.bel hb)
  have S3 := Lib.hid (R3.out.bel hb)
  have S4 := Lib.hid (R4.out.bel hb)
  clear hb HB3 R2 R3 R4 HH
  have c4 := S4.out.cell (i := 0) rfl
  have f4 := S4.out.frozen 0
  have c3 := S3.out.cell (i := 0) rfl
  have c2 := S2.out.cell (i := 0) rfl
  have x2 := S2.out.lt
  have x3 := S3.out.lt
  have x4 := S4.out.lt
  by_cases he : (hypO l).2 = 0
  case neg =>
    have HM : Hid (chkT l xs = (hypO l).2) := Lib.hid (by unfold chkT; rw [if_neg he])
    have q1 : ((hypO l).2 == 0) = false := by simpa using he
    have HR := Lib.hid (S4.out.set 0 (.int .i64 (hypO l).2))
    have HBR := Lib.hid (HB4.out.set (p := ⟨p2 + 1 + 1, 0, none⟩) (by rw [← HP2.out]; show w.heap.size ≤ w.heap.size + 1 + 1; omega) (.int .i64 (hypO l).2))
    generalize (hypO l).2 = er at *
    generalize (hypO l).1 = H at *
    clear he
    gi_wp2
    generalize World.setCell w4 _ _ = W5 at *
    refine leave_cell HM.out HR.out HBR.out [] .nil (fun D hD => by cases hD) ?_
    rfl
  have hh2 : (hyp l).2 = 0 ∧ offsB l = false ∧ hypO l = hyp l := by
    unfold hypO at he ⊢
    split at he
    · cases he
    · next hn =>
      refine ⟨he, ?_, by rw [if_neg hn]⟩
      cases ho : offsB l
      · rfl
      · exact absurd ⟨he, ho⟩ hn
  obtain ⟨he2, _, heq⟩ := hh2
  have h0 := rchk_pos_e he2
  have HM : Hid (chkT l xs = if (xs.length : Int) ≠ (hypO l).1 then 2 else if xs.any (badK l) then 2 else if servesL l xs 0 l then 0 else 370) := Lib.hid (by unfold chkT; rw [if_pos he])
  rw [he]
  generalize hH : (hypO l).1 = H at *
  have HEQ : Hid ((hyp l).1 = H) := Lib.hid (by rw [← heq]; exact hH)
  have HE2 := Lib.hid he2
  clear he he2 heq hH
  by_cases hlen : (xs.length : Int) = H
  case neg =>
    have q1 : ((xs.length : Int) == H) = false := by simpa using hlen
    have q1'' : decide ((xs.length : Int) = H) = false := by simpa using hlen
    have q1' : ((xs.length : Int) != H) = true := by simpa using hlen
    have HM2 : Hid (chkT l xs = 2) := Lib.hid (by rw [HM.out, if_pos hlen])
    have HR := Lib.hid (S4.out.set 0 (.int .i64 2))
    have HBR := Lib.hid (HB4.out.set (p := ⟨p2 + 1 + 1, 0, none⟩) (by rw [← HP2.out]; show w.heap.size ≤ w.heap.size + 1 + 1; omega) (.int .i64 2))
    clear hlen
    gi_wp2
    refine ⟨trivial, ?_⟩
    gi_wp2
    generalize World.setCell w4 _ _ = W5 at *
    refine leave_cell HM2.out HR.out HBR.out [] .nil (fun D hD => by cases hD) ?_
    rfl
  have HM2 : Hid (chkT l xs = if xs.any (badK l) then 2 else if servesL l xs 0 l then 0 else 370) := Lib.hid (by rw [HM.out, if_neg (fun q => q hlen)])
  subst hlen
  clear HM
  have HHAS := Lib.hid (chk1_has _ xs l A cA p2 w4 (HP.out.keep HB4.out.keeps HB4.out.le) hpl x2 c2)
  gi_wp2_with fail
  refine ⟨trivial, ?_⟩
  refine (callsIn_wide.2 HHAS.out).mono ?_
  rintro e w5 ⟨rfl, hb⟩
  have HB5 := Lib.hid (HB4.out.trans hb)
  have T2 := Lib.hid (S2.out.bel hb)
  have T3 := Lib.hid (S3.out.bel hb)
  have T4 := Lib.hid (S4.out.bel hb)
  clear hb HB4 S2 S3 S4 c4 f4 c3 c2 x2 x3 x4 HHAS
  have c4 := T4.out.cell (i := 0) rfl
  have f4 := T4.out.frozen 0
  have c3 := T3.out.cell (i := 0) rfl
  have c2 := T2.out.cell (i := 0) rfl
  have x2 := T2.out.lt
  have x3 := T3.out.lt
  have x4 := T4.out.lt
  cases hbf : xs.any (badK l)
  case true =>
    have HM3 : Hid (chkT l xs = 2) := Lib.hid (by rw [HM2.out, hbf]; rfl)
    have HR := Lib.hid (T4.out.set 0 (.int .i64 2))
    have HBR := Lib.hid (HB5.out.set (p := ⟨p2 + 1 + 1, 0, none⟩) (by rw [← HP2.out]; show w.heap.size ≤ w.heap.size + 1 + 1; omega) (.int .i64 2))
    clear hbf
    gi_wp2
    generalize World.setCell w5 _ _ = W5 at *
    refine leave_cell HM3.out HR.out HBR.out [] .nil (fun D hD => by cases hD) ?_
    rfl
  have HM3 : Hid (chkT l xs = if servesL l xs 0 l then 0 else 370) := Lib.hid (by rw [HM2.out, hbf]; rfl)
  have HBF := Lib.hid hbf
  clear HM2 hbf
  gi_wp2
  have HSL : Hid (servesL l xs 0 (l.drop 0) = servesL l xs 0 l) := Lib.hid rfl
  refine wpIn_loop (ChkI w5 l xs A cA p2 (p2 + 1) (p2 + 1 + 1) (.slice A l.length cA) (.agg #[.slice Ap xs.length cp]) (.int .i64 xs.length) (.int .i64 0) (.tuple #[.int .i64 xs.length, .int .i64 0]) (.slice A l.length cA) (.tuple #[.int .i64 xs.length, .int .i64 0]) (.int .i64 xs.length) (.int .i64 0) (.int .i64 0) (.bool false) undef (.pointer (some ⟨p2 + 1, 0, none⟩)) (.slice Ap xs.length cp) (.int .i64 xs.length) (.int .i64 xs.length) (.bool false) (.bool false) (.pointer (some ⟨p2 + 1, 0, none⟩)) (.slice Ap xs.length cp) (.func (.func 47) #[] #[.pointer (some ⟨p2, 0, none⟩)]) (.bool false) (.bool false)) (ChkMu l.length) ?_ ?_
  · exact ⟨0, [], undef, undef, undef, undef, undef, undef, undef, undef, undef, undef, undef, undef, undef, undef, undef, undef, undef, undef, undef, rfl, by omega, .nil, (fun D hD => by cases hD), Bel.refl, HSL.out⟩
  rintro a W ⟨i, ds, u7, u8, u9, u32, u33, u34, u35, u36, u37, u38, u39, u40, u41, u42, u43, u44, u45, u46, u47, rfl, hi, hnd, hds, hbW, hs⟩
  by_cases hli : i < l.length
  · have HPB := badK_false HBF.out
    refine chk_round w w5 l xs A Ap cA cp p2 (p2 + 1) (p2 + 1 + 1) _ _ _ _ _ _ _ _ _ _ _ _ _ _ _ _ _ _ _ _ _ _ _ _ (HT.out.keep HB5.out.keeps HB5.out.le) (HP.out.keep HB5.out.keeps HB5.out.le) h0 HE2.out HEQ.out.symm HPB hpl hsz HB5.out (by rw [← HP2.out]; omega) T2.out T3.out T4.out ?_ i ds _ _ _ _ _ _ _ _ _ _ _ _ _ _ _ _ _ _ _ W hli hnd hds hbW hs
    intro tmps ds W' ht hsf hnd hds hb hr
    have HF : chkT l xs = 370 := by rw [HM3.out, hsf]; rfl
    exact leave_cell HF hr hb ds hnd hds ht
  · obtain rfl : i = l.length := by omega
    have HF : Hid (chkT l xs = 0) := Lib.hid (by rw [HM3.out, ← hs, List.drop_length]; rfl)
    have HR := Lib.hid ((T4.out.bel hbW).set 0 (.int .i64 0))
    have HBR := Lib.hid ((HB5.out.trans hbW).set (p := ⟨p2 + 1 + 1, 0, none⟩) (by rw [← HP2.out]; show w.heap.size ≤ w.heap.size + 1 + 1; omega) (.int .i64 0))
    have HD5 := Lib.hid hds
    clear hs hds
    obtain ⟨x, rfl⟩ := ext_of hbW
    gi_wp2
    generalize hW5 : World.setCell x.w _ _ = W5 at *
    refine leave_cell HF.out HR.out HBR.out ds hnd (fun D hD => ⟨Nat.le_trans HB5.out.le (HD5.out D hD).1, ?_⟩) ?_
    · rw [← hW5]
      exact (Below.heap_setCell x.w ⟨p2 + 1 + 1, 0, none⟩ _ D (fun e => by have h1 := (HD5.out D hD).1; have e' : D = p2 + 1 + 1 := e; have := T4.out.lt; omega)).trans (HD5.out D hD).2
    · rfl
end Go.Proofs.Ytbilfpoghohddaa
