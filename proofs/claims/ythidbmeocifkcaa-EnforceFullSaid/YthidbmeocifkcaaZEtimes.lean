/- enforce: (*machine).times. -/
import Derived.Test.YthidbmeocifkcaaZEtry
import Derived.Test.YthidbmeocifkcaaG1
namespace Go.Proofs.Ythidbmeocifkcaa
open Go.RowKit
def endL (last : Int) (w : List PS) : Int := if 0 < w.length then (psAt w (w.length - 1)).at_ else last
def TimesPost (W : World) (p : PP) (w : List PS) (x : Pt) (last : Int) (e : Ending) (W' : World) : Prop :=
  ∃ g ts, e = .returned (.tuple #[.slice (some ⟨g, 0, none⟩) w.length w.length, .bool (srP p (endL last w) w x last).isSome]) ∧ W.heap.size ≤ g ∧ RowAt W' g 2 (ts.map (Value.int .i64)) ∧ ts.length = w.length ∧ Bel W W' ∧ ∀ l, srP p (endL last w) w x last = some l → ts = l
theorem made_rep (n : Nat) : madeCells (Value.int .i64 0).cells (n * 1) = Array.replicate n (Value.int .i64 0) := by
  apply Array.ext
  · simp [madeCells]
  · intro i h1 h2
    simp [madeCells, Value.cells, Nat.mod_one]
theorem Try.infoI64 : (Try.prog.info? 2).map (fun i => (i.zero, i.size, i.bytes)) = some (some (.int .i64 0), 1, 8) := by kernel_rfl
theorem sz_al (V : World) (o : Obj) : (V.alloc o).heap.size = V.heap.size + 1 := by simp [go_sem]
theorem rowAt_new' {V : World} {e : TypeId} {xs : List Value} {b : Nat} (h : b = V.heap.size) : RowAt (V.alloc (.cells xs.toArray e)) b e xs := by subst h; exact RowAt.new V e xs
/-- the memory that times makes ahead of its search -/
structure TW (W U : World) (s0 bm n : Nat) (A : Option Addr) (c : Nat) (E : Int) (x : List Value) : Prop where
  bel : Bel W U
  xv : RowAt U (s0 + 1) 59 x
  mv : RowAt U s0 57 [.pointer (some ⟨bm, 0, none⟩)]
  wv : RowAt U (s0 + 1 + 1) 26 [.slice A n c]
  row : RowAt U (s0 + 1 + 1 + 1) 2 (List.replicate n (.int .i64 0))
  ov : RowAt U (s0 + 1 + 1 + 1 + 1) 70 [.slice (some ⟨s0 + 1 + 1 + 1, 0, none⟩) n n]
  mp : BSet U Try.prog 105 4 (s0 + 1 + 1 + 1 + 1 + 1) 0 (fun _ => false)
  lost : RowAt U (s0 + 1 + 1 + 1 + 1 + 1 + 1) 102 [.map (some (s0 + 1 + 1 + 1 + 1 + 1))]
  ev : RowAt U (s0 + 1 + 1 + 1 + 1 + 1 + 1 + 1) 2 [.int .i64 E]
theorem tw_made (W : World) (bm n : Nat) (A : Option Addr) (c : Nat) (E : Int) (x : List Value) :
    TW W ((((((((W.alloc (.cells #[.pointer (some ⟨bm, 0, none⟩)] 57)).alloc (.cells x.toArray 59)).alloc (.cells #[.slice A n c] 26)).alloc (.cells (Array.replicate n (.int .i64 0)) 2)).alloc
      (.cells #[.slice (some ⟨W.heap.size + 1 + 1 + 1, 0, none⟩) n n] 70)).alloc (.map #[] 0)).alloc (.cells #[.map (some (W.heap.size + 1 + 1 + 1 + 1 + 1))] 102)).alloc (.cells #[.int .i64 E] 2)) W.heap.size bm n A c E x where
  xv := (((((((rowAt_new' (xs := x) (by simp only [sz_al])).alloc _).alloc _).alloc _).alloc _).alloc _).alloc _)
  bel := ((((((((Bel.refl.alloc _).alloc _).alloc _).alloc _).alloc _).alloc _).alloc _).alloc _)
  mv := (((((((RowAt.new W _ [.pointer (some ⟨bm, 0, none⟩)]).alloc _).alloc _).alloc _).alloc _).alloc _).alloc _).alloc _
  wv := ((((((rowAt_new' (xs := [.slice A n c]) (by simp only [sz_al])).alloc _).alloc _).alloc _).alloc _).alloc _)
  row := by
    have h := rowAt_new' (V := ((W.alloc (.cells #[.pointer (some ⟨bm, 0, none⟩)] 57)).alloc (.cells x.toArray 59)).alloc (.cells #[.slice A n c] 26)) (e := 2) (xs := List.replicate n (.int .i64 0)) (b := W.heap.size + 1 + 1 + 1) (by simp only [sz_al])
    rw [List.toArray_replicate] at h
    exact (((h.alloc _).alloc _).alloc _).alloc _
  ov := (((rowAt_new' (xs := [.slice (some ⟨W.heap.size + 1 + 1 + 1, 0, none⟩) n n]) (by simp only [sz_al])).alloc _).alloc _).alloc _
  mp := by
    have h := BSet.made ((((((W.alloc (.cells #[.pointer (some ⟨bm, 0, none⟩)] 57)).alloc (.cells x.toArray 59)).alloc (.cells #[.slice A n c] 26)).alloc (.cells (Array.replicate n (.int .i64 0)) 2)).alloc
      (.cells #[.slice (some ⟨W.heap.size + 1 + 1 + 1, 0, none⟩) n n] 70))) Try.prog 105 4
    simp only [sz_al] at h
    exact (h.alloc _).alloc _
  lost := (rowAt_new' (xs := [.map (some (W.heap.size + 1 + 1 + 1 + 1 + 1))]) (by simp only [sz_al])).alloc _
  ev := rowAt_new' (xs := [.int .i64 E]) (by simp only [sz_al])
theorem TW.bel' {W U U' : World} {s0 bm n c : Nat} {A : Option Addr} {E : Int} {x : List Value} (h : TW W U s0 bm n A c E x) (hb : Bel U U') : TW W U' s0 bm n A c E x :=
  ⟨h.bel.trans hb, h.xv.bel hb, h.mv.bel hb, h.wv.bel hb, h.row.bel hb, h.ov.bel hb, h.mp.bel hb, h.lost.bel hb, h.ev.bel hb⟩
theorem TW.setE {W U : World} {s0 bm n c : Nat} {A : Option Addr} {E : Int} {x : List Value} (h : TW W U s0 bm n A c E x) (hs : W.heap.size ≤ s0) (E' : Int) : TW W (U.setCell ⟨s0 + 1 + 1 + 1 + 1 + 1 + 1 + 1, 0, none⟩ (.int .i64 E')) s0 bm n A c E' x :=
  ⟨h.bel.set (p := ⟨s0 + 1 + 1 + 1 + 1 + 1 + 1 + 1, 0, none⟩) (by dsimp only; omega) _, h.xv.far (by dsimp only; omega) _, h.mv.far (by dsimp only; omega) _, h.wv.far (by dsimp only; omega) _, h.row.far (by dsimp only; omega) _, h.ov.far (by dsimp only; omega) _, h.mp.block (Below.heap_setCell U ⟨s0 + 1 + 1 + 1 + 1 + 1 + 1 + 1, 0, none⟩ _ (s0 + 1 + 1 + 1 + 1 + 1) (by dsimp only; omega)), h.lost.far (by dsimp only; omega) _, h.ev.set 0 _⟩
set_option maxRecDepth 100000 in
set_option maxHeartbeats 16000000 in
theorem times_any {W : World} {p : PP} {bm : Nat} {A : Option Addr} {c : Nat} {w : List PS} (loc c0 c1 c2 last : Int) (hv : PValid p p.clks.toNat) (hs : PSized p) (hm : MachAt W bm p) (hw : StampsAt W W.heap.size (.slice A w.length c) w)
    (hok : ∀ s ∈ w, 0 ≤ s.at_ ∧ s.at_ ≤ 1000000 ∧ i64 s.ev) (hwl : w.length ≤ 1000) (h0 : 0 ≤ last) (h1 : last ≤ 1000000 + 100000) (hl : LocOk p ⟨loc, [c0, c1, c2]⟩) (hc : Cl3 (mostM p) [c0, c1, c2])
    (hN : putsM (stepP p) (mostM p) (endL last w) w ⟨loc, [c0, c1, c2]⟩ last + 1 < 9223372036854775807) :
    Calls Try.prog 29 #[.pointer (some ⟨bm, 0, none⟩), .agg #[.int .i64 loc, .int .i64 c0, .int .i64 c1, .int .i64 c2], .int .i64 last, .slice A w.length c] W (TimesPost W p w ⟨loc, [c0, c1, c2]⟩ last) := by
  obtain ⟨iI, hiI, hz0, hz1, hz2⟩ := info_parts Try.infoI64
  have hmk := fun W' => make_ints (P := Try.prog) (t := 70) (e := 2) Try.underlying70 hiI hz0 hz1 hz2 w.length (by omega) W'
  simp only [made_rep] at hmk
  have hmm := @run_makeMap Try.prog
  have hmf : ∀ (fn : Fn) (first cap : Array Value) (w : World), (Instr.makeFunc fn first cap).run Try.prog w = .ok (.func fn first cap) w := fun _ _ _ _ => rfl
  go_enter Try.func29, Try.ntmps29
  go_upto_region 4 with (fail)
  have HTW := Lib.hid (tw_made W bm w.length A c last [.int .i64 loc, .int .i64 c0, .int .i64 c1, .int .i64 c2])
  generalize hU : World.alloc (World.alloc (World.alloc _ _) _) _ = U at *
  clear hU hmk hmm
  have hs0 : W.heap.size ≤ W.heap.size := Nat.le_refl _
  obtain ⟨s0, hse⟩ : ∃ s, s = W.heap.size := ⟨_, rfl⟩
  have HS0 : Hid (W.heap.size ≤ s0) := Lib.hid (by omega)
  rw [← hse] at HTW ⊢
  clear hs0 hse
  have w0 := HTW.out.wv.cell (i := 0) rfl
  have wz := HTW.out.wv.lt
  go_upto_if 21 with (fail)
  go_cut [] from 19 (fun wx => TW W wx s0 bm w.length A c (endL last w) [.int .i64 loc, .int .i64 c0, .int .i64 c1, .int .i64 c2])
  case first =>
    by_cases hw0 : 0 < w.length
    · have hwd : decide (0 < w.length) = true := decide_eq_true hw0
      obtain ⟨b, off, rfl, hb, hA⟩ := hw.at_ hw0
      obtain ⟨a0, _⟩ := hA (w.length - 1) (by omega)
      replace a0 := (HTW.out.bel.cells _ _ hb).trans a0
      have az := Nat.lt_of_lt_of_le hb HTW.out.bel.le
      have e0 := HTW.out.ev.cell (i := 0) rfl
      have ef := HTW.out.ev.frozen 0
      have ez := HTW.out.ev.lt
      have hwi : IntKind.i64.wrap ((w.length : Int) - 1) = ((w.length - 1 : Nat) : Int) := by
        rw [show (w.length : Int) - 1 = ((w.length - 1 : Nat) : Int) by omega]
        exact IntWalk.i64_in _ (by omega)
      have hlt : ((w.length - 1 : Nat) : Int) < (w.length : Int) := by omega
      have HEL : Hid (endL last w = (psAt w (w.length - 1)).at_) := Lib.hid (if_pos hw0)
      have HT2 := Lib.hid (HTW.out.setE HS0.out (psAt w (w.length - 1)).at_)
      generalize hq : w.length - 1 = q at *
      have hql : q < w.length := by omega
      clear hA
      go_wp2
      go_meet
      case rel => rw [HEL.out]; exact HT2.out
    · have hwd : decide (0 < w.length) = false := decide_eq_false hw0
      have HEL : Hid (endL last w = last) := Lib.hid (if_neg hw0)
      go_wp2
      go_meet
      case rel => rw [HEL.out]; exact HTW.out
  case rest =>
    have HT3 := Lib.hid hcut
    clear HTW hcut w0 wz
    go_upto_region 7 with (fail)
    have rb := RowAt.new wc 103 [Value.nilFunc]
    have HT4 := Lib.hid (HT3.out.bel' ((Bel.refl.alloc (.cells #[Value.nilFunc] 103)).set (p := ⟨wc.heap.size, 0, none⟩) (Nat.le_refl _) (Value.func (.func 45) #[] #[.pointer (some ⟨s0 + 1 + 1 + 1 + 1 + 1 + 1, 0, none⟩), .pointer (some ⟨s0 + 1 + 1, 0, none⟩), .pointer (some ⟨s0, 0, none⟩), .pointer (some ⟨s0 + 1 + 1 + 1 + 1 + 1 + 1 + 1, 0, none⟩), .pointer (some ⟨s0 + 1 + 1 + 1 + 1, 0, none⟩), .pointer (some ⟨wc.heap.size, 0, none⟩)])))
    have HR4 := Lib.hid (rb.set 0 (Value.func (.func 45) #[] #[.pointer (some ⟨s0 + 1 + 1 + 1 + 1 + 1 + 1, 0, none⟩), .pointer (some ⟨s0 + 1 + 1, 0, none⟩), .pointer (some ⟨s0, 0, none⟩), .pointer (some ⟨s0 + 1 + 1 + 1 + 1 + 1 + 1 + 1, 0, none⟩), .pointer (some ⟨s0 + 1 + 1 + 1 + 1, 0, none⟩), .pointer (some ⟨wc.heap.size, 0, none⟩)]))
    have hbt : s0 + 1 + 1 + 1 + 1 + 1 + 1 + 1 < wc.heap.size := HT3.out.ev.lt
    generalize hU : World.alloc wc _ = wd at *
    generalize wc.heap.size = bt at *
    clear hU HT3 wc
    have b0 := rb.cell (i := 0) rfl
    have bf := rb.frozen 0
    have bz := rb.lt
    clear rb
    have hsf := fun (fn : Fn) (fs cs : Array Value) (W' : World) m => run_store Try.prog W' ⟨bt, 0, none⟩ (.func fn fs cs) m rfl
    go_upto_region 8 with (fail)
    clear hsf b0 bf bz
    generalize World.setCell wd _ _ = we at *
    have TM : TmAt W we bm (s0 + 1 + 1 + 1 + 1 + 1 + 1) (s0 + 1 + 1) s0 (s0 + 1 + 1 + 1 + 1 + 1 + 1 + 1) (s0 + 1 + 1 + 1 + 1) bt (s0 + 1 + 1 + 1 + 1 + 1) (s0 + 1 + 1 + 1) A c (endL last w) w (srP p (endL last w)) (List.replicate w.length 0) (fun _ => false) 0 := by
      have hs0 := HS0.out
      exact ⟨HT4.out.bel, HT4.out.lost, HT4.out.wv, HT4.out.mv, HT4.out.ev, HT4.out.ov, HR4.out, row_congr HT4.out.row (by simp), by simp, HT4.out.mp, fun _ _ _ _ _ h => by simp at h, by omega, by omega, by omega⟩
    have HTM := Lib.hid TM
    clear TM
    have x0 := HT4.out.xv.cell (i := 0) rfl
    have x1 := HT4.out.xv.cell (i := 1) rfl
    have x2 := HT4.out.xv.cell (i := 2) rfl
    have x3 := HT4.out.xv.cell (i := 3) rfl
    have xz := HT4.out.xv.lt
    have o0 := HT4.out.ov.cell (i := 0) rfl
    have oz := HT4.out.ov.lt
    have t0 := HTM.out.tv.cell (i := 0) rfl
    have tz := HTM.out.tv.lt
    have n0 : s0 + 1 ∉ [s0 + 1 + 1 + 1, s0 + 1 + 1 + 1 + 1 + 1] := by simp
    have n1 : s0 + 1 + 1 + 1 + 1 ∉ [s0 + 1 + 1 + 1, s0 + 1 + 1 + 1 + 1 + 1] := by simp
    have n2 : bt ∉ [s0 + 1 + 1 + 1, s0 + 1 + 1 + 1 + 1 + 1] := by simp; omega
    (refine wp_region_ES 6 ([s0 + 1 + 1 + 1, s0 + 1 + 1 + 1 + 1 + 1]) (by kernel_rfl) ?_; refine anyE_takes [0, 1, 2, 3, 4] (fun _ _ _ _ _ h => h) ⟨⟨_, grs_drew _ _⟩, rfl⟩ (by kernel_rfl) (by rfl) ?_; simp only [opsOf, List.filterMap_cons, List.filterMap_nil, List.getElem?_toArray, List.getElem?_cons_succ, List.getElem?_cons_zero, List.foldl_cons, List.foldl_nil]; (repeat (any_goals (first | go_big_quiet_step (fail) | quiet_step (fail)))); refine wpQuiet_nil ?_)
    have G0 : Hid (Bel we we.drew) := Lib.hid (gro_bel (gro_drew (gro_refl _)))
    generalize we.drew = wf at *
    (refine anyE_one 5 _ (by kernel_rfl) (by rfl) (fun K hK => ?_))
    rw [if_pos (by rfl)]
    go_simp
    have HTE : TryEnv W p bm A c (endL last w) w := ⟨hv, hs, hm, hw, hok, hwl, by
      unfold endL
      split
      · have := hok _ (ps_mem (l := w) (k := w.length - 1) (by omega)); omega
      · omega⟩
    refine (try_any HTE w 0 loc c0 c1 c2 last wf _ _ 0 rfl (by omega) (HTM.out.bel' G0.out) hl hc h0 (by omega) (by omega)).mono ?_
    rintro _ w3 ⟨outs', m', N', rfl, T3, G3, _, _, hre⟩
    refine hK _ _ (fun _ => ⟨⟨_, grs_trans (grs_bel G0.out) G3⟩, rfl⟩) ?_
    clear hK K
    have HPO : Hid (TimesPost W p w ⟨loc, [c0, c1, c2]⟩ last (.returned (.tuple #[.slice (some ⟨s0 + 1 + 1 + 1, 0, none⟩) w.length w.length, .bool (srP p (endL last w) w ⟨loc, [c0, c1, c2]⟩ last).isSome])) w3) := Lib.hid ⟨_, outs', rfl, by have := HS0.out; omega, T3.row, T3.ol, T3.bel, fun l hl => by simpa using hre l hl⟩
    clear T3 G3 hre
    (refine anyE_tail 6 (by decide) (by rfl) (by kernel_rfl) ?_; simp only [List.drop_succ_cons, List.drop_zero])
    go_wp2
    refine NoPanic.normal ?_
    go_wp2
    first | go_ret2 | go_ret
    exact HPO.out
end Go.Proofs.Ythidbmeocifkcaa
