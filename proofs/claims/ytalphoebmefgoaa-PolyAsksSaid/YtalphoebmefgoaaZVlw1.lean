/- poly: PolyLeaves: the walk. -/
import Derived.Test.YtalphoebmefgoaaG46
import Derived.Test.YtalphoebmefgoaaG45
import Derived.Test.YtalphoebmefgoaaG47
namespace Go.Proofs.Ytalphoebmefgoaa
open Go.RowKit
/-- the lines that were lent, once their coefficients are written over: blocks below N -/
structure OwnW (U : World) (base N : Nat) (v : Value) (L : List (Value × AL)) : Prop where
  row : U.ownsRow base 25 3 v L.length (L.flatMap arC)
  at_ : ∀ p, p ∈ L → ∃ a : List Int, a.length = p.2.a.length ∧ U.ownsRow base 2 1 p.1 a.length (intsV a) ∧ ∀ g, p.1.ownBlock = some g → g < N
theorem ow_put {U : World} {base N : Nat} {v : Value} {L : List (Value × AL)} (h : OwnW U base N v L) {p : Value × AL} (hp : p ∈ L) {g n c j : Nat} (hv : p.1 = .slice (some ⟨g, 0, none⟩) n c) (x : Int) : OwnW (U.setCell ⟨g, j, none⟩ (.int .i64 x)) base N v L := by
  obtain ⟨a, ha, ho, _⟩ := h.at_ p hp
  obtain ⟨A9, c9, e9, _⟩ := own_slice ho
  rw [hv] at e9 ho
  injection e9 with e1 e2 e3
  subst e1 e2 e3
  have hg := (ho.stored j (.int .i64 x)).2
  refine ⟨h.row.kept hg ?_, fun q hq => ?_⟩
  · have := own_ne h.row ho line_ne_i64
    simpa [Value.ownBlock] using this
  · obtain ⟨b, hb, hq2, hlt⟩ := h.at_ q hq
    by_cases e : q.1.ownBlock = some g
    · rcases hq2.2 with ⟨hn, _⟩ | ⟨g2, c2, cu, hv2, _⟩
      · rw [hn] at e; simp [Value.ownBlock] at e
      · rw [hv2] at e
        have e2 : g2 = g := by simpa [Value.ownBlock] using e
        subst e2
        rw [hv2] at hq2
        have hs := (hq2.stored j (.int .i64 x)).1
        refine ⟨b.set j x, by simpa using hb, ?_, hlt⟩
        rw [hv2, List.length_set, show intsV (b.set j x) = (intsV b).set j (.int .i64 x) by simp [intsV, List.map_set]]
        exact hs
    · exact ⟨b, hb, hq2.kept hg (.inr e), hlt⟩
theorem row_get {W : World} {base i : Nat} {v : Value} {L : List (Value × AL)} (ho : W.ownsRow base 25 3 v L.length (L.flatMap arC)) (hi : i < L.length) :
    ∃ g c, v = .slice (some ⟨g, 0, none⟩) L.length c ∧ g < W.heap.size ∧ W.cell? ⟨g, i * 3, none⟩ = some L[i].1 := by
  obtain ⟨g, c, rfl, hc, hb, hlt⟩ := own_form ho (by omega)
  refine ⟨g, c, rfl, hlt, ?_⟩
  rw [ho.cellAt _ (by omega), show i * 3 = i * 3 + 0 from rfl, flat_at arC_len _ _ _ hi (by decide)]; rfl
theorem AO.keepN {w U : World} {N : Nat} {v : Value} {L : List (Value × AL)} (h : AO w N v L) (hk : ∀ q, N ≤ q → q < w.heap.size → U.heap[q]? = w.heap[q]?) : AO U N v L := by
  have hr : ∀ {e : TypeId} {s n : Nat} {v : Value} {xs : List Value}, w.ownsRow N e s v n xs → U.ownsRow N e s v n xs := fun ho => by
    refine ⟨ho.1, ?_⟩
    rcases ho.2 with h0 | ⟨g, cap, cur, h1, h2, h3, h4⟩
    · exact .inl h0
    · exact .inr ⟨g, cap, cur, h1, h2, (hk g h2 (Blk1.lt h3)).trans h3, h4⟩
  exact ⟨hr h.own, fun p hp => hr (h.at_ p hp)⟩
theorem AO.ow {w U : World} {base : Nat} {v : Value} {L : List (Value × AL)} (h : AO w base v L) (hb : Bel w U) : OwnW U base w.heap.size v L :=
  ⟨ownsRow_bel h.own hb, fun p hp => ⟨p.2.a, rfl, ownsRow_bel (h.at_ p hp) hb, fun g hg => ((h.at_ p hp).lt g hg).2⟩⟩
theorem lens_of {l : List AL} (h : ∀ x, x ∈ l → x.a.length ≤ 1000000) : AlLens l := fun _ hi => h _ (alAt_mem hi)
theorem sameA_self (l : List AL) : sameA l l = true := (sameA_iff l l).2 rfl
theorem sameR_self (l : List Rt) : sameR l l = true := (sameR_iff l l).2 rfl
theorem beyond_f {most : Int} {c : C7} (h : beyond7 most c = false) : farM most c.l = false ∧ farM most c.m = false ∧ c.x.a.length ≤ 20 ∧ c.p.length ≤ 20 ∧ c.a.length ≤ 20 := by
  unfold beyond7 at h
  simp only [Bool.or_eq_false_iff, decide_eq_false_iff_not] at h
  obtain ⟨h1, h2, h3, h4, h5⟩ := h
  exact ⟨h1, h2, by omega, by omega, by omega⟩
theorem leave_lens {n i : Nat} {l : List AL} (_h : (rwithoutM n l i).2 = 0) : True := trivial
theorem rwith_lens (n i : Int) (l : List AL) (_hl : l.length ≤ 2000) : (rwithoutM n l i).1.length ≤ 1000000 ∧ ∀ x, x ∈ (rwithoutM n l i).1 → x.a.length ≤ 1000000 := by
  unfold rwithoutM
  split
  · simp
  · rename_i hc
    split
    · simp
    · rename_i hi
      have hc2 : checkM n l = 0 := by simpa using hc
      have hn := (check_fits hc2).1
      obtain ⟨h1, h2, h3⟩ := leave_pad (n := n.toNat) (i := i.toNat) (by omega) (by omega) (check_lenA hc2)
      refine ⟨?_, fun x hx => by have := h3 x hx; omega⟩
      have := leave_len (padAll l) i.toNat
      rw [← h1, pad_len] at this
      omega
set_option maxRecDepth 100000 in
set_option maxHeartbeats 8000000 in
theorem leaves_any (c : C7) (lv mv xv pv av : Value) (w : World) (h : C7At w lv mv xv pv av c) :
    Calls Try.prog 3 #[.agg #[.int .i64 c.n, lv, mv, xv, .int .i64 c.x.b, .bool c.x.s, .int .i64 c.i, pv, av]] w fun e w' => e = .returned (.bool true) ∧ Bel w w' := by
  have H := Lib.hid h
  obtain ⟨A1, k1, rfl, _⟩ := h.l.form
  obtain ⟨A2, k2, rfl, _⟩ := h.m.form
  obtain ⟨A3, k3, rfl, _⟩ := h.x.form
  obtain ⟨A4, k4, rfl, _⟩ := h.p.form
  obtain ⟨A5, k5, rfl, _⟩ := h.a.form
  clear h
  go_enter Try.func3, Try.ntmps3
  go_upto_region 1 with (fail)
  generalize hW : World.alloc w _ = w1 at *
  have hb : Bel w w1 := by rw [← hW]; exact Bel.refl.alloc _
  have r1 : RowAt w1 w.heap.size 28 [.int .i64 c.n, .slice A1 c.l.length k1, .slice A2 c.m.length k2, .slice A3 c.x.a.length k3, .int .i64 c.x.b, .bool c.x.s, .int .i64 c.i, .slice A4 c.p.length k4, .slice A5 c.a.length k5] := by rw [← hW]; exact RowAt.new _ _ _
  clear hW
  have HB := Lib.hid hb
  have HR := Lib.hid r1
  have HC := Lib.hid (H.out.bel hb)
  clear hb H
  generalize w.heap.size = b1 at *
  have HBY := Lib.hid (beyond7_any _ _ _ _ _ c 60 w1 HC.out)
  have x0 := r1.cell (i := 0) rfl
  have x1 := r1.cell (i := 1) rfl
  have x2 := r1.cell (i := 2) rfl
  have x3 := r1.cell (i := 3) rfl
  have x4 := r1.cell (i := 4) rfl
  have x5 := r1.cell (i := 5) rfl
  have x6 := r1.cell (i := 6) rfl
  have x7 := r1.cell (i := 7) rfl
  have x8 := r1.cell (i := 8) rfl
  have lz := r1.lt
  clear r1
  go_wp2_with fail
  refine HBY.out.mono ?_
  rintro e w2 ⟨rfl, hB⟩
  have HB2 := Lib.hid (HB.out.trans hB)
  have HC2 := Lib.hid (HC.out.bel hB)
  have HR2 := Lib.hid (HR.out.bel hB)
  clear hB HBY HB HC HR x0 x1 x2 x3 x4 x5 x6 x7 x8 lz
  cases hby : beyond7 60 c
  · obtain ⟨hf1, _⟩ := beyond_f hby
    obtain ⟨hl1, hl2, _⟩ := far_f hf1
    have hls : ∀ x, x ∈ c.l → x.a.length ≤ 1000000 := fun x hx => by have := hl2 x hx; omega
    have HAL := Lib.hid (lens_of hls)
    have HLE := Lib.hid (lent_any _ c.l w2 HC2.out.l (by omega) hls)
    have HLL : Hid (c.l.length ≤ 2000) := Lib.hid hl1
    clear hby hf1 hl1 hl2 hls
    have x1 := HR2.out.cell (i := 1) rfl
    have lz := HR2.out.lt
    go_wp2_with fail
    refine HLE.out.mono ?_
    rintro e w3 ⟨v3, L, rfl, hao, hm, hB⟩
    have HAO := Lib.hid hao
    have HM := Lib.hid hm
    have HB3 := Lib.hid (HB2.out.trans hB)
    have HC3 := Lib.hid (HC2.out.bel hB)
    have HR3 := Lib.hid (HR2.out.bel hB)
    have HLN := Lib.hid (hao.ar.lines hB.le)
    have HB23 := Lib.hid hB
    obtain ⟨A6, k6, rfl, _⟩ := hao.ar.form
    have HLN2 : Hid (LinesAt w3 w3.heap.size (.slice A6 L.length k6) c.l) := Lib.hid (by rw [← hm]; exact hao.ar.lines hB.le)
    clear hao hm hB HLE HLN x1 lz
    have HCK := Lib.hid (check_any c.n _ c.l w3 HLN2.out HAL.out (by have := HLL.out; omega))
    have x0 := HR3.out.cell (i := 0) rfl
    have lz := HR3.out.lt
    go_wp2_with fail
    refine HCK.out.mono ?_
    rintro e w4 ⟨rfl, hB⟩
    have HB4 := Lib.hid (HB3.out.trans hB)
    have HC4 := Lib.hid (HC3.out.bel hB)
    have HR4 := Lib.hid (HR3.out.bel hB)
    have HAO4 := Lib.hid (HAO.out.bel hB)
    have HLN4 := Lib.hid (HLN2.out.bel hB)
    have HB24 := Lib.hid (HB23.out.trans hB)
    clear hB HCK x0 lz HB3 HC3 HR3 HAO HLN2 HB23
    have HWI := Lib.hid (without_any c.n c.i _ c.l w4 HLN4.out HAL.out (by have := HLL.out; omega))
    have x0 := HR4.out.cell (i := 0) rfl
    have x6 := HR4.out.cell (i := 6) rfl
    have lz := HR4.out.lt
    go_wp2_with fail
    refine HWI.out.mono ?_
    rintro e w5 ⟨v5, rfl, hls5, hB, L5, hao5, hm5⟩
    have HB5 := Lib.hid (HB4.out.trans hB)
    have HC5 := Lib.hid (HC4.out.bel hB)
    have HR5 := Lib.hid (HR4.out.bel hB)
    have HLN5 := Lib.hid (HLN4.out.bel hB)
    have HB25 := Lib.hid (HB24.out.trans hB)
    have HA5 := Lib.hid hao5
    have HM5 := Lib.hid hm5
    have HOW5 := Lib.hid (HAO4.out.ow hB)
    have HN5 : Hid (w4.heap.size ≤ w5.heap.size) := Lib.hid hB.le
    obtain ⟨A7, k7, rfl, _⟩ := hls5.form
    clear hB HWI x0 x6 lz HB4 HC4 HR4 HAO4 HLN4 hls5 hao5 hm5 HB24
    have HSM := Lib.hid (same7_any _ _ c.l c.l w5 HLN5.out HC5.out.l (by have := HLL.out; omega) (by have := HLL.out; omega) HAL.out HAL.out)
    rw [sameA_self] at HSM
    have x1 := HR5.out.cell (i := 1) rfl
    have lz := HR5.out.lt
    go_wp2_with fail
    refine HSM.out.mono ?_
    rintro e w6 ⟨rfl, hB⟩
    have HB26 := Lib.hid (HB25.out.trans hB)
    have HA6 := Lib.hid (HA5.out.bel hB)
    have HOW6 : Hid (OwnW w6 w2.heap.size w4.heap.size (.slice A6 L.length k6) L) := Lib.hid ⟨ownsRow_bel HOW5.out.row hB, fun p hp => let ⟨a, h1, h2, h3⟩ := HOW5.out.at_ p hp; ⟨a, h1, ownsRow_bel h2 hB, h3⟩⟩
    have HN6 : Hid (w4.heap.size ≤ w6.heap.size) := Lib.hid (Nat.le_trans HN5.out hB.le)
    have HLS6 := Lib.hid (HA6.out.ar.lines HN6.out)
    clear hB HSM x1 lz HB5 HC5 HR5 HLN5 HB25 HA5 HOW5 HN5
    generalize w4.heap.size = N at *
    have HL60 : Hid (L.length = c.l.length) := Lib.hid (by rw [← HM.out, List.length_map])
    have hL60 : L.length ≤ 2000 := by rw [HL60.out]; exact HLL.out
    have HLP : Hid (∀ p, p ∈ L → p.2.a.length ≤ 1000000) := Lib.hid (fun p hp => by
      have : p.2 ∈ c.l := by rw [← HM.out]; exact List.mem_map_of_mem hp
      obtain ⟨j, hj, e⟩ := List.mem_iff_getElem.1 this
      have := HAL.out j hj
      rw [alAt_get hj, e] at this; exact this)
    go_upto_block 0 with (fail)
    go_cut [7, 8] from 35 to 57 (fun s7 s8 wx => ∃ (U : World), U = wx ∧ Bel w2 U ∧ (∀ q, N ≤ q → q < w6.heap.size → U.heap[q]? = w6.heap[q]?) ∧ w6.heap.size ≤ U.heap.size)
    case first =>
      go_wp2
      go_loopw [7] (fun s7 wq => ∃ (k : Nat) (U : World), k ≤ L.length ∧ s7 = .int .i64 k ∧ U = wq ∧ OwnW U w2.heap.size N (.slice A6 L.length k6) L ∧ Bel w2 U ∧ (∀ q, N ≤ q → q < w6.heap.size → U.heap[q]? = w6.heap[q]?) ∧ w6.heap.size ≤ U.heap.size) (fun s7 _ => L.length - (intOf s7).toNat)
      case atStart => exact ⟨0, _, Nat.zero_le _, rfl, rfl, HOW6.out, HB26.out, fun _ _ _ => rfl, Nat.le_refl _⟩
      case round =>
        obtain ⟨k, U, hk, rfl, rfl, how, hbu, hkn, hsz⟩ := hrel
        have HOW := Lib.hid how
        have HBU := Lib.hid hbu
        have HKN := Lib.hid hkn
        have HSZ := Lib.hid hsz
        clear how hbu hkn hsz
        by_cases hlt : k < L.length
        · have hd : decide ((k : Int) < (L.length : Int)) = true := by simp; omega
          have hkl : (k : Int) < (L.length : Int) := by omega
          have hw : IntKind.i64.wrap ((k : Int) + 1) = (k : Int) + 1 := IntWalk.i64_in _ (by omega)
          have HPM := Lib.hid (List.getElem_mem hlt)
          generalize hpk : L[k] = pk at HPM
          have HPK := Lib.hid hpk
          clear hpk
          obtain ⟨rvk, pa⟩ := pk
          have HPL := Lib.hid (HLP.out _ HPM.out)
          dsimp only at HPL
          go_wp2
          go_loopw [8] (fun s8 wq => ∃ (j : Nat) (U : World), j ≤ pa.a.length ∧ s8 = .int .i64 j ∧ U = wq ∧ OwnW U w2.heap.size N (.slice A6 L.length k6) L ∧ Bel w2 U ∧ (∀ q, N ≤ q → q < w6.heap.size → U.heap[q]? = w6.heap[q]?) ∧ w6.heap.size ≤ U.heap.size) (fun s8 _ => pa.a.length - (intOf s8).toNat)
          case atStart => exact ⟨0, _, Nat.zero_le _, rfl, rfl, HOW.out, HBU.out, HKN.out, HSZ.out⟩
          case round =>
            clear HOW HBU HKN HSZ
            obtain ⟨j, U, hj, rfl, rfl, how, hbu, hkn, hsz⟩ := hrel
            have HOW := Lib.hid how
            have HBU := Lib.hid hbu
            have HKN := Lib.hid hkn
            have HSZ := Lib.hid hsz
            clear how hbu hkn hsz
            obtain ⟨g, cg, eg, hgl, c0⟩ := row_get HOW.out.row hlt
            injection eg with eg1 eg2 eg3
            clear eg2
            subst eg1 eg3
            rw [HPK.out] at c0
            obtain ⟨a, hal, hao, hgn⟩ := HOW.out.at_ _ HPM.out
            dsimp only at c0 hal hao hgn
            obtain ⟨Ar, cr, hrv, _⟩ := own_slice hao
            have hrv2 : rvk = .slice Ar pa.a.length cr := by rw [hrv, hal]
            by_cases hjt : j < pa.a.length
            · have hjd : decide ((j : Int) < (pa.a.length : Int)) = true := by simp; omega
              have hjl : (j : Int) < (pa.a.length : Int) := by omega
              have hwj : IntKind.i64.wrap ((j : Int) + 1) = (j : Int) + 1 := IntWalk.i64_in _ (by have := HPL.out; omega)
              obtain ⟨g0, c00, e0, hb0, hl0, hcl, hfz, _⟩ := ints_at hao (show j < a.length by omega)
              have hrv3 : rvk = .slice (some ⟨g0, 0, none⟩) pa.a.length c00 := by rw [e0, hal]
              have HO2 := Lib.hid (ow_put HOW.out HPM.out hrv3 (j := j) 99)
              have HB2' := Lib.hid (HBU.out.set (p := ⟨g0, j, none⟩) hb0 (.int .i64 99))
              have hg0N : g0 < N := hgn g0 (by rw [hrv3]; rfl)
              have HK2 : Hid (∀ q, N ≤ q → q < w6.heap.size → (U.setCell ⟨g0, j, none⟩ (.int .i64 99)).heap[q]? = w6.heap[q]?) := Lib.hid (fun q h1 h2 => (Below.heap_setCell U ⟨g0, j, none⟩ _ q (show q ≠ g0 by omega)).trans (HKN.out q h1 h2))
              have HS2 : Hid (w6.heap.size ≤ (U.setCell ⟨g0, j, none⟩ (.int .i64 99)).heap.size) := Lib.hid (by have := HSZ.out; simp [World.setCell]; omega)
              rw [hrv3] at c0
              generalize a.getD j 0 = av0 at hcl
              clear hal hao hgn hrv hrv2 hrv3 e0 hg0N
              go_wp2
              go_roundw
              case rel => exact ⟨j + 1, _, by omega, by go_num, rfl, HO2.out, HB2'.out, HK2.out, HS2.out⟩
              case measure => simp [intOf]; omega
            · obtain rfl : j = pa.a.length := by omega
              have hjd : decide ((pa.a.length : Int) < (pa.a.length : Int)) = false := by simp
              rw [hrv2] at c0
              clear hal hao hgn hrv hrv2
              go_wp2
              go_roundw
              case rel => exact ⟨k + 1, _, by omega, by go_num, rfl, HOW.out, HBU.out, HKN.out, HSZ.out⟩
              case measure => simp [intOf]; omega
        · obtain rfl : k = L.length := by omega
          have hd : decide ((L.length : Int) < (L.length : Int)) = false := by simp
          go_wp2
          go_meet
          case rel => exact ⟨_, rfl, HBU.out, HKN.out, HSZ.out⟩
    case rest =>
      obtain ⟨U, rfl, hbu, hkn, hsz⟩ := hcut
      have HA7 := Lib.hid (HA6.out.keepN hkn)
      have HCU := Lib.hid (HC2.out.bel hbu)
      have HRU := Lib.hid (HR2.out.bel hbu)
      have HBU := Lib.hid (HB2.out.trans hbu)
      have HNU : Hid (N ≤ U.heap.size) := Lib.hid (Nat.le_trans HN6.out hsz)
      have HLU : Hid (LinesAt U U.heap.size (.slice A7 (withoutM c.n c.l c.i).1.length k7) (withoutM c.n c.l c.i).1) := Lib.hid (by have := HA7.out.ar.lines HNU.out; rw [HM5.out] at this; exact this)
      obtain ⟨hml, hma⟩ := rwith_lens c.n c.i c.l HLL.out
      have HML := Lib.hid hml
      have HMA := Lib.hid (lens_of hma)
      rw [without_eq] at HLU ⊢
      have HRW := Lib.hid (rwithout_any c.n c.i _ c.l U HCU.out.l HAL.out (by have := HLL.out; omega))
      clear hbu hkn hsz HA7 HNU HA6 HLS6 HN6 HOW6 HB26 HC2 HR2 HB2 hL60 HL60 HM5 HM hml hma HLP
      generalize rwithoutM c.n c.l c.i = M at *
      obtain ⟨ml, me⟩ := M
      dsimp only at *
      have x0 := HRU.out.cell (i := 0) rfl
      have x1 := HRU.out.cell (i := 1) rfl
      have x6 := HRU.out.cell (i := 6) rfl
      have lz := HRU.out.lt
      go_wp2_with fail
      refine HRW.out.mono ?_
      rintro e w8 ⟨v8, rfl, hls, hB⟩
      have HL8 := Lib.hid hls
      have HLV := Lib.hid (HLU.out.bel hB)
      have HC8 := Lib.hid (HCU.out.bel hB)
      have HR8 := Lib.hid (HRU.out.bel hB)
      have HB8 := Lib.hid (HBU.out.trans hB)
      obtain ⟨A8, k8, rfl, _⟩ := hls.form
      clear hls hB HRW HLU HCU HRU HBU x0 x1 x6 lz
      have HCK := Lib.hid (rcheck_any c.n _ c.l w8 HC8.out.l HAL.out (by have := HLL.out; omega))
      have y0 := HR8.out.cell (i := 0) rfl
      have y1 := HR8.out.cell (i := 1) rfl
      have lz := HR8.out.lt
      go_wp2_with fail
      refine HCK.out.mono ?_
      rintro e w9 ⟨rfl, hB⟩
      have HL9 := Lib.hid (HL8.out.bel hB)
      have HV9 := Lib.hid (HLV.out.bel hB)
      have HB9 := Lib.hid (HB8.out.trans hB)
      clear hB HCK y0 y1 lz HL8 HLV HC8 HR8 HB8
      have t1 : (checkM c.n c.l == checkM c.n c.l) = true := by simp
      have t2 : (me == me) = true := by simp
      have HSA := Lib.hid (same7_any _ _ ml ml w9 HV9.out HL9.out HML.out HML.out HMA.out HMA.out)
      rw [sameA_self] at HSA
      generalize checkM c.n c.l = ck at *
      go_wp2_with fail
      refine HSA.out.mono ?_
      rintro e w10 ⟨rfl, hB⟩
      have HB10 := Lib.hid (HB9.out.trans hB)
      have HS := Lib.hid (shown7_any w10)
      clear hB HSA HL9 HV9 HB9
      go_wp2_with fail
      refine HS.out.mono ?_
      rintro e w11 ⟨rfl, hB⟩
      have HB11 := Lib.hid (HB10.out.trans hB)
      clear hB HS HB10
      go_wp2
      go_ret
      exact ⟨rfl, HB11.out⟩
  · have HS := Lib.hid (shown7_any w2)
    clear hby
    go_wp2_with fail
    refine HS.out.mono ?_
    rintro e w3 ⟨rfl, hB⟩
    have HB3 := Lib.hid (HB2.out.trans hB)
    clear hB HS
    go_wp2
    go_ret
    exact ⟨rfl, HB3.out⟩
end Go.Proofs.Ytalphoebmefgoaa
