/- ExecutiveNone: the walk. -/
import Derived.Test.YtbilfpoghohddaaZXsh
import Derived.Test.YtbilfpoghohddaaG6
import Derived.Test.YtbilfpoghohddaaG13
namespace Go.Proofs.Ytbilfpoghohddaa
open Go.RowKit
def TickNone (w : World) (e : Ending) (w' : World) : Prop := e = .returned (.tuple #[.int .i64 0, .slice none 0 0, .int .i64 1]) ∧ Bel w w'
set_option maxRecDepth 100000 in
set_option maxHeartbeats 4000000 in
theorem tick_nothing (ev nv : Value) (w : World) (h : ∀ W, Bel w W → Calls Try.prog 36 #[ev] W fun e w' => e = .returned (.bool true) ∧ W = w') (hev : ev = .pointer none ∨ ∃ b, ev = .pointer (some ⟨b, 0, none⟩)) :
    Calls Try.prog 17 #[ev, nv] w (TickNone w) := by
  have HN := Lib.hid h
  clear h
  have hmf : ∀ (fn : Fn) (first cap : Array Value) (w : World), (Instr.makeFunc fn first cap).run Try.prog w = .ok (.func fn first cap) w := fun _ _ _ _ => rfl
  have key : ∀ a : Option Addr, ev = .pointer a → Calls Try.prog 17 #[.pointer a, nv] w (TickNone w) := by
    rintro a rfl
    go_enter_defers Try.func17, Try.ntmps17
    go_upto_region 1 with (fail)
    generalize hWa : World.alloc w _ = Wa at *
    generalize hWb : World.alloc Wa _ = Wb at *
    have za : Wa.heap.size = w.heap.size + 1 := by rw [← hWa]; simp [go_sem]
    have ba : Bel w Wa := by rw [← hWa]; exact Bel.refl.alloc _
    have bb : Bel Wa Wb := by rw [← hWb]; exact Bel.refl.alloc _
    have rx : RowAt Wa w.heap.size 29 [.pointer a] := by rw [← hWa]; exact RowAt.new _ _ _
    have rd : RowAt Wb (w.heap.size + 1) 42 [.slice none 0 0] := by rw [← za, ← hWb]; exact RowAt.new _ _ _
    have c0 := (rx.bel bb).cell (i := 0) rfl
    have cz := (rx.bel bb).lt
    have d0 := rd.cell (i := 0) rfl
    have df := rd.frozen 0
    have dz := rd.lt
    have HB := Lib.hid (ba.trans bb)
    have HRD := Lib.hid rd
    clear hWa hWb za ba bb rx rd
    obtain ⟨n, hn⟩ : ∃ n, n = w.heap.size := ⟨_, rfl⟩
    rw [← hn] at c0 cz d0 df dz HRD ⊢
    have HNN := Lib.hid hn
    clear hn
    go_wp2_with fail
    refine (HN.out _ HB.out).mono ?_
    rintro e w2 ⟨rfl, rfl⟩
    have HR := Lib.hid (HRD.out.set 0 (.slice none 0 0))
    have HB2 := Lib.hid (HB.out.set (p := ⟨n + 1, 0, none⟩) (by rw [HNN.out]; show w.heap.size ≤ w.heap.size + 1; omega) (.slice none 0 0))
    go_wp2
    generalize hW : World.setCell Wb _ _ = w5 at *
    have r0 := HR.out.cell (i := 0) rfl
    exact ⟨.tuple #[.int .i64 0, .slice none 0 0, .int .i64 1], by simp [results, Try.results17, go_sem, r0], rfl, HB2.out⟩
  rcases hev with rfl | ⟨b, rfl⟩
  · exact key none rfl
  · exact key _ rfl
set_option maxRecDepth 100000 in
set_option maxHeartbeats 16000000 in
theorem nones_any (v xv nv : Value) (l : List Tsk) (xs ns : List Int) (w : World) (h : TsksAt w w.heap.size v l) (hl : l.length ≤ 9223372036854775807)
    (hs : ∀ i, i < l.length → (tskAt l i).secs.length ≤ 9223372036854775807 ∧ (tskAt l i).name.size ≤ 9223372036854775807) (hwf : ∀ i, i < l.length → (tskAt l i).wf) (hx : IntsAt w w.heap.size xv xs) (hn : IntsAt w w.heap.size nv ns) :
    Calls Try.prog 4 #[v, .agg #[xv], nv] w fun e w' => e = .returned (.bool true) ∧ Bel w w' := by
  have HS := Lib.hid hs
  have HW := Lib.hid hwf
  have HT := Lib.hid h
  have HX := Lib.hid hx
  obtain ⟨A, c, rfl, _⟩ := h.form
  obtain ⟨Ax, cx, rfl, _⟩ := hx.form
  obtain ⟨An, cn, rfl, _⟩ := hn.form
  clear h hs hwf hx hn
  go_enter Try.func4, Try.ntmps4
  go_wp2_with fail
  generalize hW : World.alloc w _ = w1 at *
  have hB : Bel w w1 := by rw [← hW]; exact Bel.refl.alloc _
  have r5 : RowAt w1 w.heap.size 25 [.slice Ax xs.length cx] := by rw [← hW]; exact RowAt.new _ _ _
  clear hW
  have HT1 := Lib.hid (HT.out.keep hB.keeps hB.le)
  have HX1 := Lib.hid (HX.out.keep hB.keeps hB.le)
  have HB1 := Lib.hid hB
  have HR1 := Lib.hid r5
  clear hB r5 HT HX
  obtain ⟨n5, hn5⟩ : ∃ n, n = w.heap.size := ⟨_, rfl⟩
  rw [← hn5] at HR1 ⊢
  clear hn5
  refine (shown38_any _).mono ?_
  rintro e w2 ⟨rfl, hB⟩
  have HT2 := Lib.hid (HT1.out.keep hB.keeps hB.le)
  have HX2 := Lib.hid (HX1.out.keep hB.keeps hB.le)
  have HB2 := Lib.hid (HB1.out.trans hB)
  have HR2 := Lib.hid (HR1.out.bel hB)
  clear hB HT1 HX1 HB1 HR1
  go_wp2_with fail
  refine (beyond_any _ l w2 HT2.out HS.out hl).mono ?_
  rintro e w2' ⟨rfl, hw⟩
  obtain rfl : w2' = w2 := hw
  cases hbe : beyond l
  case true =>
    go_wp2
    go_ret
    exact ⟨rfl, HB2.out⟩
  have HZ := Lib.hid (sized_of hbe HW.out)
  clear hbe
  have x0 := HR2.out.cell (i := 0) rfl
  have x1 := HR2.out.lt
  by_cases hlen : 30000 < xs.length
  · have q1 : decide (30000 < xs.length) = true := by simpa using hlen
    have q2 : decide ((30000 : Int) < (xs.length : Int)) = true := by simp; omega
    go_wp2
    go_ret
    exact ⟨rfl, HB2.out⟩
  have q1 : decide (30000 < xs.length) = false := by simpa using hlen
  have q2 : decide ((30000 : Int) < (xs.length : Int)) = false := by simp; omega
  have HLX : Hid (xs.length ≤ 1000000) := Lib.hid (by omega)
  clear hlen
  by_cases hln : 100 < ns.length
  · have q3 : decide (100 < ns.length) = true := by simpa using hln
    have q4 : decide ((100 : Int) < (ns.length : Int)) = true := by simp; omega
    go_wp2
    go_ret
    exact ⟨rfl, HB2.out⟩
  have q3 : decide (100 < ns.length) = false := by simpa using hln
  have q4 : decide ((100 : Int) < (ns.length : Int)) = false := by simp; omega
  clear hln
  go_upto_region 7 with (fail)
  clear q1 q2 q3 q4 x0 x1
  generalize hW : World.alloc w2' _ = w3 at *
  have hB : Bel w2' w3 := by rw [← hW]; exact Bel.refl.alloc _
  have rz : RowAt w3 w2'.heap.size 51 (.slice none 0 0 :: .slice none 0 0 :: List.replicate 25 (.int .i64 0)) := by rw [← hW]; exact RowAt.new _ _ _
  have HT3 := Lib.hid (HT2.out.keep hB.keeps hB.le)
  have HX3 := Lib.hid (HX2.out.keep hB.keeps hB.le)
  have HB3 := Lib.hid (HB2.out.trans hB)
  have HR3 := Lib.hid (HR2.out.bel hB)
  have HRZ := Lib.hid rz
  clear hW hB rz HT2 HX2 HB2 HR2
  generalize w2'.heap.size = bz at *
  have HNO : Hid (∀ (ev : Value), (ev = .pointer none ∨ ev = .pointer (some ⟨bz, 0, none⟩)) → ∀ W, Bel w3 W → Calls Try.prog 36 #[ev] W fun e w' => e = .returned (.bool true) ∧ W = w') := Lib.hid (fun ev he W hW => by
    rcases he with rfl | rfl
    · exact none_nil W
    · exact none_at W ((HRZ.out.bel hW).cell (i := 1) rfl))
  have HTI : Hid (∀ (ev : Value), (ev = .pointer none ∨ ev = .pointer (some ⟨bz, 0, none⟩)) → ∀ W, Bel w3 W → Calls Try.prog 17 #[ev, .slice An ns.length cn] W (TickNone W)) := Lib.hid (fun ev he W hW => by
    refine tick_nothing ev _ W (fun V hV => HNO.out ev he V (hW.trans hV)) ?_
    rcases he with he | he
    · exact .inl he
    · exact .inr ⟨bz, he⟩)
  have HRE : Hid (∀ (ev : Value), (ev = .pointer none ∨ ev = .pointer (some ⟨bz, 0, none⟩)) → ∀ W, Bel w3 W → Calls Try.prog 14 #[ev] W (RelPost [] W)) := Lib.hid (fun ev he W hW => by
    rcases he with rfl | rfl
    · exact released_nil W
    · exact released_none W ((HRZ.out.bel hW).cell (i := 1) rfl))
  have HNW : Hid (∀ (ev : Value), (ev = .pointer none ∨ ev = .pointer (some ⟨bz, 0, none⟩)) → ∀ W, Bel w3 W → Calls Try.prog 16 #[ev] W fun e w' => e = .returned (.int .i64 0) ∧ W = w') := Lib.hid (fun ev he W hW => by
    rcases he with rfl | rfl
    · exact now_nil W
    · have := now_at W ((HRZ.out.bel hW).cell (i := 1) rfl) ((HRZ.out.bel hW).cell (i := 2) rfl)
      simpa using this)
  clear HNO
  go_loopw [34] (fun si wr => ∃ (k : Nat) (z : Ext w3), k ≤ 2 ∧ si = .int .i64 k ∧ wr = z.w) (fun si _ => 2 - (intOf si).toNat)
  case atStart => exact ⟨0, ⟨w3, Bel.refl⟩, by omega, rfl, rfl⟩
  case round =>
    obtain ⟨k, z, hk, rfl, rfl⟩ := hrel
    have hk3 : k = 0 ∨ k = 1 ∨ k = 2 := by omega
    clear hk
    have i0 : ∀ w, (Instr.index 52 (.agg #[.pointer none, .pointer (some ⟨bz, 0, none⟩)]) (.int .i64 0)).run Try.prog w = .ok (.pointer none) w := fun _ => by kernel_rfl
    have i1 : ∀ w, (Instr.index 52 (.agg #[.pointer none, .pointer (some ⟨bz, 0, none⟩)]) (.int .i64 1)).run Try.prog w = .ok (.pointer (some ⟨bz, 0, none⟩)) w := fun _ => by kernel_rfl
    rcases hk3 with rfl | rfl | rfl
    · go_wp2_with fail
      refine (HTI.out _ (.inl rfl) _ z.bel).mono ?_
      rintro e w4 ⟨rfl, hB⟩
      obtain ⟨z4, rfl⟩ := ext_of (z.bel.trans hB)
      clear hB
      go_wp2_with fail
      refine (HRE.out _ (.inl rfl) _ z4.bel).mono ?_
      rintro e w5 ⟨rv, rfl, ho, hB⟩
      obtain ⟨Ar, cr, rfl, _⟩ := own_slice ho
      obtain ⟨z5, rfl⟩ := ext_of (z4.bel.trans hB)
      clear hB ho
      go_wp2_with fail
      refine (HNW.out _ (.inl rfl) _ z5.bel).mono ?_
      rintro e w6 ⟨rfl, rfl⟩
      go_wp2
      go_roundw
      case rel => exact ⟨1, z5, by omega, rfl, rfl⟩
      case measure => simp [intOf]
    · go_wp2_with fail
      refine (HTI.out _ (.inr rfl) _ z.bel).mono ?_
      rintro e w4 ⟨rfl, hB⟩
      obtain ⟨z4, rfl⟩ := ext_of (z.bel.trans hB)
      clear hB
      go_wp2_with fail
      refine (HRE.out _ (.inr rfl) _ z4.bel).mono ?_
      rintro e w5 ⟨rv, rfl, ho, hB⟩
      obtain ⟨Ar, cr, rfl, _⟩ := own_slice ho
      obtain ⟨z5, rfl⟩ := ext_of (z4.bel.trans hB)
      clear hB ho
      go_wp2_with fail
      refine (HNW.out _ (.inr rfl) _ z5.bel).mono ?_
      rintro e w6 ⟨rfl, rfl⟩
      go_wp2
      go_roundw
      case rel => exact ⟨2, z5, by omega, rfl, rfl⟩
      case measure => simp [intOf]
    · have x0 := (HR3.out.bel z.bel).cell (i := 0) rfl
      have x1 := (HR3.out.bel z.bel).lt
      clear HTI HRE HNW HRZ
      go_wp2_with fail
      refine (new_any _ _ l xs w3 z.w HT3.out HX3.out z.bel HLX.out HZ.out).mono ?_
      rintro e w4 hN
      have HN := Lib.hid hN
      clear hN x0 x1
      rcases HN.out with ⟨hc, rfl, hB⟩ | ⟨hc, be, lv, tv, rfl, _, _, hB⟩
      · have q1 : (chkT l xs == 0) = false := by simpa using hc
        have q2 : (chkT l xs != 0) = true := by simpa using hc
        have HB4 := Lib.hid (z.bel.trans hB)
        have x0 := (HR3.out.bel HB4.out).cell (i := 0) rfl
        have x1 := (HR3.out.bel HB4.out).lt
        have HC := Lib.hid (rcheckT_any _ _ l xs w4 (HT3.out.keep HB4.out.keeps HB4.out.le) (HX3.out.keep HB4.out.keeps HB4.out.le) HLX.out HZ.out)
        clear hB HN hc
        generalize chkT l xs = ck at *
        go_wp2_with fail
        refine HC.out.mono ?_
        rintro e w5 ⟨rfl, hB⟩
        have HB5 := Lib.hid (HB4.out.trans hB)
        clear hB
        go_wp2
        go_ret
        exact ⟨rfl, HB3.out.trans HB5.out⟩
      · have HB4 := Lib.hid (z.bel.trans hB)
        have x0 := (HR3.out.bel HB4.out).cell (i := 0) rfl
        have x1 := (HR3.out.bel HB4.out).lt
        have HC := Lib.hid (rcheckT_any _ _ l xs w4 (HT3.out.keep HB4.out.keeps HB4.out.le) (HX3.out.keep HB4.out.keeps HB4.out.le) HLX.out HZ.out)
        rw [hc] at HC
        clear hB HN hc
        go_wp2_with fail
        refine HC.out.mono ?_
        rintro e w5 ⟨rfl, hB⟩
        have HB5 := Lib.hid (HB4.out.trans hB)
        clear hB
        go_wp2
        go_ret
        exact ⟨rfl, HB3.out.trans HB5.out⟩
end Go.Proofs.Ytbilfpoghohddaa
