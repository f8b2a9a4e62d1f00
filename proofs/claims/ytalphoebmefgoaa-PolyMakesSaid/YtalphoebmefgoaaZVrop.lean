/- poly, the reference: Opposite. -/
import Derived.Test.YtalphoebmefgoaaZVrdn
import Derived.Test.YtalphoebmefgoaaZVao2
namespace Go.Proofs.Ytalphoebmefgoaa
open Go.RowKit
def oppA (x : AL) : AL := ⟨x.a.map (fun c => -c), -x.b, !x.s⟩
theorem oppA_pad {x : AL} (h : x.a.length ≤ 6) : padL (oppA x) = oppL (padL x) := by
  obtain ⟨a, b, s⟩ := x
  dsimp only at h
  match a, h with
  | [], _ => rfl
  | [_], _ => rfl
  | [_, _], _ => rfl
  | [_, _, _], _ => rfl
  | [_, _, _, _], _ => rfl
  | [_, _, _, _, _], _ => rfl
  | [_, _, _, _, _, _], _ => rfl
theorem oppA_inr {x : AL} (h : x.inr) : (oppA x).inr := fun c hc => by
  rcases List.mem_append.1 hc with q | q
  · obtain ⟨d, hd, rfl⟩ := List.mem_map.1 q
    have := h d (List.mem_append_left _ hd)
    omega
  · have hb := h x.b (by simp)
    obtain rfl : c = -x.b := by simpa [oppA] using q
    omega
theorem oppA_len (x : AL) : (oppA x).a.length = x.a.length := by simp [oppA]
theorem rop_res {W : World} {tmps : Array Value} {p : Nat} {rv : Value} {b : Int} {s : Bool} (h : RowAt W p 25 [rv, .int .i64 b, .bool s]) (t : tmps[2]? = some (.pointer (some ⟨p, 0, none⟩))) :
    (results Try.f55 tmps).run Try.prog W = .ok (.agg #[rv, .int .i64 b, .bool s]) W := by
  have q0 := h.cell (i := 0) rfl
  have q1 := h.cell (i := 1) rfl
  have q2 := h.cell (i := 2) rfl
  simp [results, Try.f55, go_sem, q0, q1, q2, t]
theorem ints_one {W : World} {q : Nat} {c : Int} (h : RowAt W q 2 [.int .i64 c]) : IntsAt W W.heap.size (.slice (some ⟨q, 0, none⟩) 1 1) [c] :=
  ⟨_, 1, rfl, Nat.le_refl _, fun _ => ⟨q, 0, rfl, h.lt, fun i hi => by
    obtain rfl : i = 0 := by simpa using hi
    exact h.cell rfl⟩⟩
set_option maxRecDepth 100000 in
set_option maxHeartbeats 8000000 in
theorem ropp_any (x : AL) (xv : Value) (w : World) (h : IntsAt w w.heap.size xv x.a) (hl : x.a.length ≤ 1000000) (hx : x.inr) :
    Calls Try.prog 55 #[.agg #[xv, .int .i64 x.b, .bool x.s]] w (AlPost (oppA x) w) := by
  have H := Lib.hid h
  have HX := Lib.hid hx
  obtain ⟨A, c, rfl, hc⟩ := h.form
  clear h hx
  have HRE : Hid (oppA x = ⟨x.a.map (fun c => -c), -x.b, !x.s⟩) := Lib.hid rfl
  obtain ⟨xa, xb, xs⟩ := x
  dsimp only at *
  have wb : IntKind.i64.wrap (-xb) = -xb := IntWalk.i64_in _ (by have := HX.out xb (by simp); omega)
  go_enter Try.func55, Try.ntmps55
  go_upto_region 1 with (fail)
  generalize hW : World.alloc (World.alloc w _) _ = w1 at *
  have hb : Bel w w1 := by rw [← hW]; exact (Bel.refl.alloc _).alloc _
  have r1 : RowAt w1 w.heap.size 25 [.slice A xa.length c, .int .i64 xb, .bool xs] := by rw [← hW]; exact (RowAt.new _ _ _).alloc _
  have r2 : RowAt w1 (w.heap.size + 1) 25 [.slice none 0 0, .int .i64 0, .bool false] := by
    rw [← hW, ← size_alV w (.cells #[.slice A xa.length c, .int .i64 xb, .bool xs] 25)]; exact RowAt.new _ _ _
  clear hW
  obtain ⟨p2, hp2⟩ : ∃ p, p = w.heap.size + 1 := ⟨_, rfl⟩
  rw [← hp2] at r2 ⊢
  obtain ⟨p1, hp1⟩ : ∃ p, p = w.heap.size := ⟨_, rfl⟩
  rw [← hp1] at r1 ⊢
  have HN : Hid (w.heap.size ≤ p2) := Lib.hid (by omega)
  clear hp1 hp2
  have HB := Lib.hid hb
  have HR1 := Lib.hid r1
  have HR2 := Lib.hid r2
  have HI := Lib.hid (H.out.keep hb.keeps hb.le)
  clear hb r1 r2 H
  go_wp2
  go_loopw [3, 4] (fun s3 s4 wq => ∃ (k : Nat) (y : Ext w1) (p : List Int), k ≤ xa.length ∧ s4 = .int .i64 k ∧ wq = y.w ∧ p = (xa.take k).map (fun c => -c) ∧ p.length = k ∧ y.w.ownsRow w1.heap.size 2 1 s3 p.length (intsV p)) (fun _ s4 _ => xa.length + 1 - (intOf s4).toNat)
  case atStart => exact ⟨0, ⟨_, Bel.refl⟩, [], Nat.zero_le _, rfl, rfl, by simp, rfl, World.ownsRow_nil _ _ _ _⟩
  case round =>
    obtain ⟨k, y, p, hk, rfl, rfl, hp, hpk, ho⟩ := hrel
    have HP := Lib.hid hp
    have HPK := Lib.hid hpk
    have HO := Lib.hid ho
    have hr := HR1.out.bel y.bel
    have x0 := hr.cell (i := 0) rfl
    have x1 := hr.cell (i := 1) rfl
    have x2 := hr.cell (i := 2) rfl
    have l1 := hr.lt
    obtain ⟨A3, c3, rfl, _⟩ := own_slice ho
    clear hp ho hr hpk
    by_cases hlt : k < xa.length
    · have hd : decide ((k : Int) < (xa.length : Int)) = true := by simp; omega
      have hL : (k : Int) < (xa.length : Int) := by omega
      have wk : IntKind.i64.wrap ((k : Int) + 1) = ((k + 1 : Nat) : Int) := IntWalk.i64_in _ (by omega)
      obtain ⟨g, off, rfl, hg0, hcl⟩ := HI.out.at_ (by omega)
      have y0 := (y.bel.cells _ _ hg0).trans (hcl k hlt)
      have hg := Nat.lt_of_lt_of_le hg0 y.bel.le
      have HXK : Hid ((xa.getD k 0).natAbs ≤ 2147483647) := Lib.hid (HX.out _ (List.mem_append_left _ (by
        rw [List.getD_eq_getElem?_getD, List.getElem?_eq_getElem hlt]; exact List.getElem_mem hlt)))
      have HTK : Hid (p ++ [-(xa.getD k 0)] = (xa.take (k + 1)).map (fun c => -c)) := Lib.hid (by
        rw [HP.out, List.take_succ_eq_append_getElem hlt, List.map_append, List.getD_eq_getElem?_getD, List.getElem?_eq_getElem hlt]; rfl)
      clear hcl hg0
      generalize xa.getD k 0 = ck at *
      have wc : IntKind.i64.wrap (-ck) = -ck := IntWalk.i64_in _ (by have := HXK.out; omega)
      obtain ⟨A4, c4, W4, hap, ho4, hb4, _⟩ := ints_append (w0 := w1) (p := p) (a := [-ck]) (y.bel.alloc (.cells #[.int .i64 (-ck)] 2)) (ownsRow_bel HO.out (Bel.refl.alloc _)) (ints_one (RowAt.new y.w 2 [.int .i64 (-ck)])) (by have := HPK.out; omega) (by simp)
      have HO4 := Lib.hid ho4
      have HB4 := Lib.hid hb4
      rw [List.length_singleton] at hap HO4
      clear ho4 hb4
      go_wp2_with (at_builtin; go_must (refine wpList_append_run rfl _ _ 23 rfl _ _ _ rfl rfl (hap _) ?_))
      go_roundw
      case rel => exact ⟨k + 1, ⟨_, HB4.out⟩, p ++ [-ck], hlt, by go_num, rfl, HTK.out, by rw [List.length_append, HPK.out]; rfl, HO4.out⟩
      case measure => simp [intOf]; omega
    · obtain rfl : k = xa.length := by omega
      have hd : decide ((xa.length : Int) < (xa.length : Int)) = false := by simp
      have HPA : Hid (p = xa.map (fun c => -c)) := Lib.hid (by rw [HP.out, List.take_length])
      have hr2 := HR2.out.bel y.bel
      have d0 := hr2.cell (i := 0) rfl
      have d1 := hr2.cell (i := 1) rfl
      have d2 := hr2.cell (i := 2) rfl
      have fz := fun q => hr2.frozen q
      have l2 := hr2.lt
      have HRN := Lib.hid (((hr2.set 0 (.slice A3 p.length c3)).set 1 (.int .i64 (-xb))).set 2 (.bool (!xs)))
      have HON := Lib.hid (own_farB (own_farB (own_farB (own_base HO.out HB.out.le) hr2 line_ne_i64 (o := 0) (u := .slice A3 p.length c3)) (hr2.set 0 _) line_ne_i64 (o := 1) (u := .int .i64 (-xb))) ((hr2.set 0 _).set 1 _) line_ne_i64 (o := 2) (u := .bool (!xs)))
      have HBN := Lib.hid ((((HB.out.trans y.bel).set (p := ⟨p2, 0, none⟩) HN.out (.slice A3 p.length c3)).set (p := ⟨p2, 1, none⟩) HN.out (.int .i64 (-xb))).set (p := ⟨p2, 2, none⟩) HN.out (.bool (!xs)))
      clear hr2
      go_wp2
      generalize World.setCell (World.setCell (World.setCell y.w _ _) _ _) _ _ = W9 at *
      exact bodyPost_ret (v := .agg #[.slice A3 p.length c3, .int .i64 (-xb), .bool (!xs)]) (rop_res HRN.out rfl) rfl (al_post (by rw [HRE.out, ← HPA.out]) HON.out HBN.out)
end Go.Proofs.Ytalphoebmefgoaa
