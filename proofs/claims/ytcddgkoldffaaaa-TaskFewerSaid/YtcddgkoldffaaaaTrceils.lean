import Derived.Test.YtcddgkoldffaaaaThyp
import Derived.Test.YtcddgkoldffaaaaTceil
import Derived.Test.YtcddgkoldffaaaaOwn
namespace Go.Proofs.Ytcddgkoldffaaaa
open Go.RowKit
theorem Try.infoInt : (Try.prog.info? 3).map (fun i => (i.zero, i.size, i.bytes)) = some (some (.int .i64 0), 1, 8) := by kernel_rfl
/-- the ceilings of all resources -/
def ceils (l : List Tsk) : List Int := (List.range 8).map fun (r : Nat) => ceilT (r : Int) l 0
def ceilsTo (l : List Tsk) (k : Nat) : List Int := (List.range k).map fun (r : Nat) => ceilT (r : Int) l 0
theorem ceilsTo_succ (l : List Tsk) (k : Nat) : ceilsTo l (k + 1) = ceilsTo l k ++ [ceilT k l 0] := by simp [ceilsTo, List.range_succ]
theorem ceilsTo_len (l : List Tsk) (k : Nat) : (ceilsTo l k).length = k := by simp [ceilsTo]
/-- what Ceilings hands back -/
def CeilsPost (l : List Tsk) (w : World) (e : Ending) (w' : World) : Prop :=
  ∃ v, e = .returned (.tuple #[v, .int .i64 (rchk l)]) ∧ IntsAt w' w'.heap.size v (if rchk l = 0 then ceils l else []) ∧ Bel w w' ∧ ∀ k, v.ownBlock = some k → w.heap.size ≤ k
set_option maxRecDepth 100000 in
set_option maxHeartbeats 4000000 in
theorem rceilings_any (v : Value) (l : List Tsk) (w : World) (h : TsksAt w w.heap.size v l) (hl : l.length ≤ 1000000) (hs : ∀ i, i < l.length → (tskAt l i).secs.length ≤ 1000000 ∧ (tskAt l i).name.size ≤ 1000000) :
    Calls Try.prog 9 #[v] w (CeilsPost l w) := by
  have HC := rcheck_any v l w h hl hs
  have HC := Lib.hid HC
  by_cases h0 : rchk l = 0
  · obtain ⟨hl8, hok⟩ := rchk_ok h0
    have H0 := Lib.hid h0
    obtain ⟨A, c, rfl, hlc⟩ := h.form
    rw [h0] at HC
    clear h0 hok
    obtain ⟨i0, hi, hz0, hz1, hz2⟩ := info_parts Try.infoInt
    have HS := Lib.hid hs
    clear hs
    go_enter Try.func9, Try.ntmps9
    go_wp2_with (go_at_call 12; (with_reducible refine (HC.out).mono ?_); rintro e w2 ⟨rfl, hb2⟩; obtain ⟨x, rfl⟩ : ∃ x : Ext w, w2 = x.w := ext_of (hb2.after (by (repeat (first | exact Ext.bel _ | exact Bel.refl | refine Bel.alloc ?_ _ | refine Bel.drew ?_ | refine Bel.drewN ?_ _)))); clear hb2)
    go_loopw [5, 6] (fun u i wr => ∃ (k : Nat) (x : Ext w), k ≤ 8 ∧ i = .int .i64 k ∧ wr = x.w ∧ x.w.ownsRow w.heap.size 3 1 u k ((ceilsTo l k).map (Value.int .i64))) (fun _ i _ => 8 - (intOf i).toNat)
    case atStart => exact ⟨0, x, by omega, rfl, rfl, World.ownsRow_nil _ _ _ _⟩
    case round =>
      clear x
      obtain ⟨k, x, hk, rfl, rfl, hown⟩ := hrel
      by_cases hlt : k < 8
      · have hTs := h.keep x.bel.keeps x.bel.le
        have hle := x.bel.le
        go_wp2_with (first
          | (go_at_call 21; go_must (refine (ceiling_any _ l _ _ hTs (by omega) (fun i hi => (HS.out i hi).1)).mono ?_; rintro e w2 ⟨rfl, rfl⟩))
          | (at_builtin; go_must (refine wpList_append_own _ rfl _ _ 26 rfl w.heap.size 3 i0 (.int .i64 0) 1 8 Try.underlying26 hi hz0 hz1 hz2 rfl (by decide) _ _ _ rfl (hown.alloc _) ⟨x.w.heap.size, 0, none⟩ 1 1 [.int .i64 (ceilT k l 0)] rfl rfl ?c1 ?c2 ?c3 ?c4 ?c5 ?_)))
        case c1 => exact cells_new _ [.int .i64 (ceilT k l 0)] _
        case c2 => intro u hu; simp at hu; subst hu; rfl
        case c3 => unfold maxLen; omega
        case c4 => omega
        case c5 => simp; omega
        intro v' w1 hown1 hg1 _
        have hbel := bel_grown (x.bel.alloc _) (hown.alloc _) hg1
        obtain ⟨y, rfl⟩ := ext_of hbel
        have HO : Hid (y.w.ownsRow w.heap.size 3 1 v' (k + 1) ((ceilsTo l (k + 1)).map (Value.int .i64))) := Lib.hid (by rw [ceilsTo_succ, List.map_append]; exact hown1)
        clear hown1 hg1 hbel
        go_wp2
        go_roundw
        case rel => exact ⟨k + 1, y, by omega, by go_num, rfl, HO.out⟩
        case measure => simp [intOf]; omega
      · have : k = 8 := by omega
        subst this
        go_wp2
        go_ret2
        exact ⟨_, by rw [H0.out]; rfl, by rw [H0.out]; exact IntsAt.of_own (l := ceils l) hown, x.bel, fun k hk => (hown.lt k hk).1⟩
  · have H0 := Lib.hid h0
    have hne : (rchk l != 0) = true := by simpa using h0
    go_enter Try.func9, Try.ntmps9
    go_wp2_with (go_at_call 12; (with_reducible refine (HC.out).mono ?_); rintro e w2 ⟨rfl, hb2⟩; obtain ⟨x, rfl⟩ : ∃ x : Ext w, w2 = x.w := ext_of (hb2.after (by (repeat (first | exact Ext.bel _ | exact Bel.refl | refine Bel.alloc ?_ _ | refine Bel.drew ?_ | refine Bel.drewN ?_ _)))); clear hb2)
    go_ret2
    exact ⟨_, rfl, by rw [if_neg H0.out]; exact ⟨none, 0, rfl, by simp, fun h => by simp at h⟩, x.bel, fun k hk => by simp [Value.ownBlock] at hk⟩
end Go.Proofs.Ytcddgkoldffaaaa
