import Derived.Test.YtcnjojhbcijdmaaPhany
namespace Go.Proofs.Ytcnjojhbcijdmaa
open Go.RowKit
def exP : PP := ⟨2, 1, 0, [true, false], [⟨0, 1, 0, [], [1]⟩, ⟨1, 0, 1, [⟨1, false, false, 5⟩], []⟩]⟩
set_option maxRecDepth 100000 in
set_option maxHeartbeats 4000000 in
theorem example_any (w : World) : Calls Try.prog 18 #[] w fun e w' => ∃ gv ev, e = .returned (propV exP gv ev) ∧ Bel w w' ∧ PropAt w' w'.heap.size gv ev exP := by
  go_enter Try.func18, Try.ntmps18
  go_wp2
  refine bodyPost_ret (v := propV exP (.slice (some ⟨w.heap.size + 1, 0, none⟩) 2 2) (.slice (some ⟨w.heap.size + 1 + 1 + 1 + 1, 0, none⟩) 2 2)) (by simp [results, Try.results18, go_sem, propV, exP]) rfl ⟨_, _, rfl, ((((Bel.refl.alloc _).alloc _).alloc _).alloc _).alloc _, ?_⟩
  refine ⟨⟨_, 2, rfl, Nat.le_refl _, fun _ => ⟨_, 0, rfl, by simp [go_sem], fun i hi => ?_⟩⟩, ⟨_, 2, rfl, Nat.le_refl _, fun _ => ⟨_, 0, rfl, by simp [go_sem], fun i hi => ?_⟩⟩⟩
  · match i, hi with
    | 0, _ => simp [go_sem, exP]
    | 1, _ => simp [go_sem, exP]
  · match i, hi with
    | 0, _ =>
      refine ⟨.slice none 0 0, .slice (some ⟨w.heap.size + 1 + 1, 0, none⟩) 1 1, ⟨by simp [go_sem, exP, peAt], by simp [go_sem, exP, peAt], by simp [go_sem, exP, peAt], by simp [go_sem, exP, peAt], by simp [go_sem, exP, peAt]⟩, ?_, ?_⟩
      · exact ⟨none, 0, rfl, Nat.le_refl _, fun h => absurd h (by simp [exP, peAt])⟩
      · refine ⟨_, 1, rfl, Nat.le_refl _, fun _ => ⟨_, 0, rfl, by simp [go_sem], fun i hi => ?_⟩⟩
        match i, hi with
        | 0, _ => simp [go_sem, exP, peAt]
    | 1, _ =>
      refine ⟨.slice (some ⟨w.heap.size + 1 + 1 + 1, 0, none⟩) 1 1, .slice none 0 0, ⟨by simp [go_sem, exP, peAt], by simp [go_sem, exP, peAt], by simp [go_sem, exP, peAt], by simp [go_sem, exP, peAt], by simp [go_sem, exP, peAt]⟩, ?_, ?_⟩
      · refine ⟨_, 1, rfl, Nat.le_refl _, fun _ => ⟨_, 0, rfl, by simp [go_sem], fun i hi => ?_⟩⟩
        match i, hi with
        | 0, _ => exact ⟨by simp [go_sem, exP, peAt, pcAt], by simp [go_sem, exP, peAt, pcAt], by simp [go_sem, exP, peAt, pcAt], by simp [go_sem, exP, peAt, pcAt]⟩
      · exact ⟨none, 0, rfl, Nat.le_refl _, fun h => absurd h (by simp [exP, peAt])⟩
theorem example_out (w : World) : Calls Try.prog 18 #[] w fun e w' => ∃ A1 k1 A2 k2, e = .returned (.agg #[.int .i64 2, .int .i64 1, .int .i64 0, .slice A1 2 k1, .slice A2 2 k2]) ∧ Bel w w' ∧ PropAt w' w'.heap.size (.slice A1 2 k1) (.slice A2 2 k2) exP :=
  (example_any w).mono fun e w' ⟨gv, ev, h1, h2, h3⟩ => by
    obtain ⟨A1, k1, rfl, _⟩ := h3.g.form
    obtain ⟨A2, k2, rfl, _⟩ := h3.e.form
    exact ⟨A1, k1, A2, k2, h1, h2, h3⟩
instance i64_dec (a : Int) : Decidable (i64 a) := by unfold i64; exact inferInstance
theorem exP_sized : PSized exP where
  g := by decide
  e := by decide
  x := by decide
  wf := { e := by decide, c := by decide, i := by decide, l := fun x hx => by
            simp only [exP, List.mem_cons, List.not_mem_nil, or_false] at hx
            rcases hx with rfl | rfl
            · exact ⟨by decide, by decide, by decide, fun c hc => by simp at hc, fun c hc => by simp at hc; subst hc; decide⟩
            · exact ⟨by decide, by decide, by decide, fun c hc => by simp at hc; subst hc; exact ⟨by decide, by decide⟩, fun c hc => by simp at hc⟩ }
theorem exJ1 : judgeM exP [⟨3, 0⟩, ⟨8, 1⟩] = (true, -1, 0) := by decide +kernel
theorem exJ2 : judgeM exP [⟨3, 0⟩, ⟨9, 1⟩] = (false, 1, 0) := by decide +kernel
theorem hope_pit {p : PP} {x : Pt} (h : x.loc < 0) : hopeB p x = false := by
  have hr : ∀ y, Reach p x y → y = x := fun y hy => by
    induction hy with
    | here => rfl
    | next a ev hr hl ha he ih => rw [ih] at hl; omega
  refine hopeB_f fun ⟨y, h1, h2⟩ => ?_
  rw [hr y h1] at h2
  exact absurd (good_loc h2) (by omega)
theorem exH1 : hopeM exP [⟨3, 0⟩] = (true, 0) := by
  rw [hopeM_ok (by decide +kernel)]
  have hr : (runP exP [⟨3, 0⟩]).1 = ⟨1, [0, 0, 0]⟩ := by decide +kernel
  rw [hr, hopeB_t]
  refine ⟨step exP.clks.toNat exP.edges ⟨1, [0, 0, 0]⟩ (0 : Nat) (1 : Nat), .next 0 1 .here (by decide) (by decide) (by decide), by decide +kernel⟩
theorem exH2 : hopeM exP [⟨3, 0⟩, ⟨9, 1⟩] = (false, 0) := by
  rw [hopeM_ok (by decide +kernel), hope_pit (by decide +kernel)]
theorem exC : rpchk exP = 0 := by decide +kernel
def noP : PP := ⟨0, 0, 0, [], []⟩
theorem noC : rpchk noP = 2 := by decide +kernel
theorem noP_sized : PSized noP := ⟨by decide, by decide, fun x hx => by simp [noP] at hx, ⟨by decide, by decide, by decide, fun x hx => by simp [noP] at hx⟩⟩
theorem noP_at (w : World) (B : Nat) : PropAt w B (.slice none 0 0) (.slice none 0 0) noP := ⟨⟨none, 0, rfl, Nat.le_refl _, fun h => absurd h (by simp [noP])⟩, ⟨none, 0, rfl, Nat.le_refl _, fun h => absurd h (by simp [noP])⟩⟩
theorem st1 (w : World) (a b : Int) : StampsAt (w.alloc (.cells #[.int .i64 a, .int .i64 b] 39)) (w.alloc (.cells #[.int .i64 a, .int .i64 b] 39)).heap.size (.slice (some ⟨w.heap.size, 0, none⟩) 1 1) [⟨a, b⟩] :=
  ⟨_, 1, rfl, Nat.le_refl _, fun _ => ⟨_, 0, rfl, by simp [go_sem], fun i hi => by
    match i, hi with
    | 0, _ => exact ⟨by simp [go_sem, psAt], by simp [go_sem, psAt]⟩⟩⟩
theorem st2 (w : World) (a b c d : Int) : StampsAt (w.alloc (.cells #[.int .i64 a, .int .i64 b, .int .i64 c, .int .i64 d] 39)) (w.alloc (.cells #[.int .i64 a, .int .i64 b, .int .i64 c, .int .i64 d] 39)).heap.size (.slice (some ⟨w.heap.size, 0, none⟩) 2 2) [⟨a, b⟩, ⟨c, d⟩] :=
  ⟨_, 2, rfl, Nat.le_refl _, fun _ => ⟨_, 0, rfl, by simp [go_sem], fun i hi => by
    match i, hi with
    | 0, _ => exact ⟨by simp [go_sem, psAt], by simp [go_sem, psAt]⟩
    | 1, _ => exact ⟨by simp [go_sem, psAt], by simp [go_sem, psAt]⟩⟩⟩
theorem exj1 (w : World) (gv ev : Value) (h : PropAt w w.heap.size gv ev exP) : Calls Try.prog 9 #[.agg #[.int .i64 2, .int .i64 1, .int .i64 0, gv, ev], .slice (some ⟨w.heap.size, 0, none⟩) 2 2] (w.alloc (.cells #[.int .i64 3, .int .i64 0, .int .i64 8, .int .i64 1] 39)) fun e w' => e = .returned (.tuple #[.bool true, .int .i64 (-1), .int .i64 0]) ∧ Bel w w' := by
  have := pjudge_any exP gv ev _ _ _ (h.bel (Bel.refl.alloc _)) exP_sized (st2 w 3 0 8 1) (by simp)
  rw [exJ1] at this
  exact this.mono fun _ _ h => ⟨h.1, (Bel.refl.alloc _).trans h.2⟩
theorem exj2 (w : World) (gv ev : Value) (h : PropAt w w.heap.size gv ev exP) : Calls Try.prog 9 #[.agg #[.int .i64 2, .int .i64 1, .int .i64 0, gv, ev], .slice (some ⟨w.heap.size, 0, none⟩) 2 2] (w.alloc (.cells #[.int .i64 3, .int .i64 0, .int .i64 9, .int .i64 1] 39)) fun e w' => e = .returned (.tuple #[.bool false, .int .i64 1, .int .i64 0]) ∧ Bel w w' := by
  have := pjudge_any exP gv ev _ _ _ (h.bel (Bel.refl.alloc _)) exP_sized (st2 w 3 0 9 1) (by simp)
  rw [exJ2] at this
  exact this.mono fun _ _ h => ⟨h.1, (Bel.refl.alloc _).trans h.2⟩
theorem exh1 (w : World) (gv ev : Value) (h : PropAt w w.heap.size gv ev exP) : Calls Try.prog 16 #[.agg #[.int .i64 2, .int .i64 1, .int .i64 0, gv, ev], .slice (some ⟨w.heap.size, 0, none⟩) 1 1] (w.alloc (.cells #[.int .i64 3, .int .i64 0] 39)) fun e w' => e = .returned (.tuple #[.bool true, .int .i64 0]) ∧ Bel w w' := by
  have := phope_any exP gv ev _ _ _ (h.bel (Bel.refl.alloc _)) exP_sized (st1 w 3 0) (by simp)
  rw [exH1] at this
  exact this.mono fun _ _ h => ⟨h.1, (Bel.refl.alloc _).trans h.2⟩
theorem exh2 (w : World) (gv ev : Value) (h : PropAt w w.heap.size gv ev exP) : Calls Try.prog 16 #[.agg #[.int .i64 2, .int .i64 1, .int .i64 0, gv, ev], .slice (some ⟨w.heap.size, 0, none⟩) 2 2] (w.alloc (.cells #[.int .i64 3, .int .i64 0, .int .i64 9, .int .i64 1] 39)) fun e w' => e = .returned (.tuple #[.bool false, .int .i64 0]) ∧ Bel w w' := by
  have := phope_any exP gv ev _ _ _ (h.bel (Bel.refl.alloc _)) exP_sized (st2 w 3 0 9 1) (by simp)
  rw [exH2] at this
  exact this.mono fun _ _ h => ⟨h.1, (Bel.refl.alloc _).trans h.2⟩
theorem exc1 (w : World) (gv ev : Value) (h : PropAt w w.heap.size gv ev exP) : Calls Try.prog 11 #[.agg #[.int .i64 2, .int .i64 1, .int .i64 0, gv, ev]] w fun e w' => e = .returned (.int .i64 0) ∧ Bel w w' := by
  have := pcheck35_any exP gv ev w h exP_sized
  rw [exC] at this
  exact this
theorem exc2 (w : World) : Calls Try.prog 11 #[.agg #[.int .i64 0, .int .i64 0, .int .i64 0, .slice none 0 0, .slice none 0 0]] w fun e w' => e = .returned (.int .i64 2) ∧ Bel w w' := by
  have := pcheck35_any noP _ _ w (noP_at _ _) noP_sized
  rw [noC] at this
  exact this
set_option maxRecDepth 100000 in
set_option maxHeartbeats 8000000 in
theorem shown_any (w : World) : Calls Try.prog 7 #[] w fun e w' => e = .returned (.bool true) ∧ Bel w w' := by
  go_enter Try.func7, Try.ntmps7
  go_upto_region 2 with (go_at_call 18; (with_reducible refine (example_out w).mono ?_); rintro en w2 ⟨A1, k1, A2, k2, rfl, hb, hp⟩; have HB2 := Lib.hid hb; have HP2 := Lib.hid hp; clear hb hp)
  have BX := (RowAt.new w2 25 [.int .i64 2, .int .i64 1, .int .i64 0, .slice A1 2 k1, .slice A2 2 k2])
  have HB3' := HB2.out.alloc (.cells #[.int .i64 2, .int .i64 1, .int .i64 0, .slice A1 2 k1, .slice A2 2 k2] 25)
  have HP3' := HP2.out.bel (Bel.refl.alloc (.cells #[.int .i64 2, .int .i64 1, .int .i64 0, .slice A1 2 k1, .slice A2 2 k2] 25))
  generalize hWb : World.alloc w2 _ = w3 at *
  have HB3 : Hid (Bel w w3) := Lib.hid HB3'
  have HP3 := Lib.hid HP3'
  have BX3 := Lib.hid BX
  generalize w2.heap.size = bx at *
  clear HB3' HP3' HB2 HP2
  clear hWb
  have HC3 := HB3
  have bx0 := BX3.out.cell (i := 0) rfl
  have bx1 := BX3.out.cell (i := 1) rfl
  have bx2 := BX3.out.cell (i := 2) rfl
  have bx3 := BX3.out.cell (i := 3) rfl
  have bx4 := BX3.out.cell (i := 4) rfl
  have bxz := BX3.out.lt
  go_upto_region 3 with (go_at_call 9; (with_reducible refine (exj1 _ _ _ HP3.out).mono ?_); rintro en w4 ⟨rfl, hb⟩; have HB4 := Lib.hid hb; have hk4 := hb.cells; have hz4 := hb.le; clear hb)
  have HP4 := Lib.hid (HP3.out.bel HB4.out)
  have BX4 := Lib.hid (BX3.out.bel HB4.out)
  have HC4 := Lib.hid (HC3.out.trans HB4.out)
  clear BX3 HP3 HC3 HB4 hk4 hz4 bx0 bx1 bx2 bx3 bx4 bxz
  have bx0 := BX4.out.cell (i := 0) rfl
  have bx1 := BX4.out.cell (i := 1) rfl
  have bx2 := BX4.out.cell (i := 2) rfl
  have bx3 := BX4.out.cell (i := 3) rfl
  have bx4 := BX4.out.cell (i := 4) rfl
  have bxz := BX4.out.lt
  go_upto_region 4 with (go_at_call 9; (with_reducible refine (exj2 _ _ _ HP4.out).mono ?_); rintro en w5 ⟨rfl, hb⟩; have HB5 := Lib.hid hb; have hk5 := hb.cells; have hz5 := hb.le; clear hb)
  have HP5 := Lib.hid (HP4.out.bel HB5.out)
  have BX5 := Lib.hid (BX4.out.bel HB5.out)
  have HC5 := Lib.hid (HC4.out.trans HB5.out)
  clear BX4 HP4 HC4 HB5 hk5 hz5 bx0 bx1 bx2 bx3 bx4 bxz
  have bx0 := BX5.out.cell (i := 0) rfl
  have bx1 := BX5.out.cell (i := 1) rfl
  have bx2 := BX5.out.cell (i := 2) rfl
  have bx3 := BX5.out.cell (i := 3) rfl
  have bx4 := BX5.out.cell (i := 4) rfl
  have bxz := BX5.out.lt
  go_upto_region 5 with (go_at_call 16; (with_reducible refine (exh1 _ _ _ HP5.out).mono ?_); rintro en w6 ⟨rfl, hb⟩; have HB6 := Lib.hid hb; have hk6 := hb.cells; have hz6 := hb.le; clear hb)
  have HP6 := Lib.hid (HP5.out.bel HB6.out)
  have BX6 := Lib.hid (BX5.out.bel HB6.out)
  have HC6 := Lib.hid (HC5.out.trans HB6.out)
  clear BX5 HP5 HC5 HB6 hk6 hz6 bx0 bx1 bx2 bx3 bx4 bxz
  have bx0 := BX6.out.cell (i := 0) rfl
  have bx1 := BX6.out.cell (i := 1) rfl
  have bx2 := BX6.out.cell (i := 2) rfl
  have bx3 := BX6.out.cell (i := 3) rfl
  have bx4 := BX6.out.cell (i := 4) rfl
  have bxz := BX6.out.lt
  go_upto_region 6 with (go_at_call 16; (with_reducible refine (exh2 _ _ _ HP6.out).mono ?_); rintro en w7 ⟨rfl, hb⟩; have HB7 := Lib.hid hb; have hk7 := hb.cells; have hz7 := hb.le; clear hb)
  have HP7 := Lib.hid (HP6.out.bel HB7.out)
  have BX7 := Lib.hid (BX6.out.bel HB7.out)
  have HC7 := Lib.hid (HC6.out.trans HB7.out)
  clear BX6 HP6 HC6 HB7 hk7 hz7 bx0 bx1 bx2 bx3 bx4 bxz
  have bx0 := BX7.out.cell (i := 0) rfl
  have bx1 := BX7.out.cell (i := 1) rfl
  have bx2 := BX7.out.cell (i := 2) rfl
  have bx3 := BX7.out.cell (i := 3) rfl
  have bx4 := BX7.out.cell (i := 4) rfl
  have bxz := BX7.out.lt
  have HK1 := Lib.hid (exc1 _ _ _ HP7.out)
  clear HP7 BX7
  go_wp2_with (first | (go_at_call 11; (with_reducible refine (HK1.out).mono ?_); rintro en w8 ⟨rfl, hb⟩; have HB8 := Lib.hid (HC7.out.trans hb); clear hb) | (go_at_call 11; (with_reducible refine (exc2 _).mono ?_); rintro en w9 ⟨rfl, hb⟩; have HB9 := Lib.hid (HB8.out.trans hb); clear hb))
  go_ret
  exact ⟨rfl, HB9.out⟩
end Go.Proofs.Ytcnjojhbcijdmaa
