/- poly: PolyProjects: the walk. -/
import Derived.Test.YtalphoebmefgoaaG46
import Derived.Test.YtalphoebmefgoaaZVprj
import Derived.Test.YtalphoebmefgoaaZVrapp
import Derived.Test.YtalphoebmefgoaaZVao2
import Derived.Test.YtalphoebmefgoaaZVrhas
import Derived.Test.YtalphoebmefgoaaG47
import Derived.Test.YtalphoebmefgoaaZVlw3
namespace Go.Proofs.Ytalphoebmefgoaa
open Go.RowKit
theorem rwith_lens2 (n i : Int) (l : List AL) (_hl : l.length ≤ 2000) : (rwithoutM n l i).1.length ≤ 1000000 ∧ ∀ x, x ∈ (rwithoutM n l i).1 → x.a.length ≤ 1000000 := by
  unfold rwithoutM
  split
  · simp
  · rename_i hc
    split
    · simp
    · rename_i hi
      have hc2 : checkM n l = 0 := by simpa using hc
      have hn := (check_fits hc2).1
      obtain ⟨h1, h2, h3⟩ := leave_pad (n := n.toNat) (i := i.toNat) (by omega) (by omega) (check_lenA hc2)
      refine ⟨?_, fun x hx => by have := h3 x hx; omega⟩
      have := leave_len (padAll l) i.toNat
      rw [← h1, pad_len] at this
      omega
theorem without_bad {n i : Int} {l : List AL} (h : (withoutM n l i).2 ≠ 0) : (withoutM n l i).1 = [] := by
  unfold withoutM at h ⊢
  split
  · rfl
  · rename_i h1
    rw [if_neg h1] at h
    split
    · rfl
    · rename_i h2
      rw [if_neg h2] at h
      split
      · rfl
      · rename_i h3
        rw [if_neg h3] at h
        exact absurd rfl h
set_option maxRecDepth 100000 in
set_option maxHeartbeats 8000000 in
theorem projects_any (c : C7) (lv mv xv pv av : Value) (w : World) (h : C7At w lv mv xv pv av c) (hwf : c.wf) :
    Calls Try.prog 4 #[.agg #[.int .i64 c.n, lv, mv, xv, .int .i64 c.x.b, .bool c.x.s, .int .i64 c.i, pv, av]] w fun e w' => e = .returned (.bool true) ∧ Bel w w' := by
  have H := Lib.hid h
  have HWF := Lib.hid hwf
  obtain ⟨A1, k1, rfl, _⟩ := h.l.form
  obtain ⟨A2, k2, rfl, _⟩ := h.m.form
  obtain ⟨A3, k3, rfl, _⟩ := h.x.form
  obtain ⟨A4, k4, rfl, _⟩ := h.p.form
  obtain ⟨A5, k5, rfl, _⟩ := h.a.form
  clear h hwf
  go_enter Try.func4, Try.ntmps4
  go_upto_region 1 with (fail)
  generalize hW : World.alloc w _ = w1 at *
  have hb : Bel w w1 := by rw [← hW]; exact Bel.refl.alloc _
  have r1 : RowAt w1 w.heap.size 28 [.int .i64 c.n, .slice A1 c.l.length k1, .slice A2 c.m.length k2, .slice A3 c.x.a.length k3, .int .i64 c.x.b, .bool c.x.s, .int .i64 c.i, .slice A4 c.p.length k4, .slice A5 c.a.length k5] := by rw [← hW]; exact RowAt.new _ _ _
  clear hW
  have HB := Lib.hid hb
  have HR := Lib.hid r1
  have HC := Lib.hid (H.out.bel hb)
  clear hb H
  generalize w.heap.size = bq at *
  have HBY := Lib.hid (beyond7_any _ _ _ _ _ c 8 w1 HC.out)
  have x0 := r1.cell (i := 0) rfl
  have x1 := r1.cell (i := 1) rfl
  have x2 := r1.cell (i := 2) rfl
  have x3 := r1.cell (i := 3) rfl
  have x4 := r1.cell (i := 4) rfl
  have x5 := r1.cell (i := 5) rfl
  have x6 := r1.cell (i := 6) rfl
  have x7 := r1.cell (i := 7) rfl
  have x8 := r1.cell (i := 8) rfl
  have lz := r1.lt
  clear r1
  go_wp2_with fail
  refine HBY.out.mono ?_
  rintro e w2 ⟨rfl, hB⟩
  have HB2 := Lib.hid (HB.out.trans hB)
  have HC2 := Lib.hid (HC.out.bel hB)
  have HR2 := Lib.hid (HR.out.bel hB)
  clear hB HBY HB HC HR x0 x1 x2 x3 x4 x5 x6 x7 x8 lz
  have x0 := HR2.out.cell (i := 0) rfl
  have x6 := HR2.out.cell (i := 6) rfl
  have x7 := HR2.out.cell (i := 7) rfl
  have lz := HR2.out.lt
  cases hby : beyond7 8 c
  · obtain ⟨hf1, _, _, hpb, _⟩ := beyond_f3 hby
    obtain ⟨hl1, hl2, _⟩ := far_f hf1
    have HLS : Hid (∀ x, x ∈ c.l → x.a.length ≤ 1000000) := Lib.hid (fun x hx => by have := hl2 x hx; omega)
    have HAL := Lib.hid (lens_of3 HLS.out)
    have HPB := Lib.hid hpb
    have HLL : Hid (c.l.length ≤ 2000) := Lib.hid hl1
    clear hby hf1 hl1 hl2 hpb
    by_cases t1 : c.n < 1
    · skip
      have t1a : decide (c.n < 1) = true := by simp; omega
      have HS := Lib.hid (shown7_any w2)
      go_wp2_with fail
      refine HS.out.mono ?_
      rintro e wf ⟨rfl, hB⟩
      have HBF := Lib.hid (HB2.out.trans hB)
      clear hB HS
      go_wp2
      go_ret
      exact ⟨rfl, HBF.out⟩
    · skip
      have t1a : decide (c.n < 1) = false := by simp; omega
      by_cases t2 : 5 < c.n
      · skip
        have t2a : decide (c.n > 5) = true := by simp; omega
        have t2b : decide (5 < c.n) = true := by simp; omega
        have HS := Lib.hid (shown7_any w2)
        go_wp2_with fail
        refine HS.out.mono ?_
        rintro e wf ⟨rfl, hB⟩
        have HBF := Lib.hid (HB2.out.trans hB)
        clear hB HS
        go_wp2
        go_ret
        exact ⟨rfl, HBF.out⟩
      · skip
        have t2a : decide (c.n > 5) = false := by simp; omega
        have t2b : decide (5 < c.n) = false := by simp; omega
        by_cases t3 : ¬ ((c.p.length : Int) = c.n)
        · skip
          have t3a : ((c.p.length : Int) != c.n) = true := by simp [t3]
          have HS := Lib.hid (shown7_any w2)
          go_wp2_with fail
          refine HS.out.mono ?_
          rintro e wf ⟨rfl, hB⟩
          have HBF := Lib.hid (HB2.out.trans hB)
          clear hB HS
          go_wp2
          go_ret
          exact ⟨rfl, HBF.out⟩
        · skip
          have t3a : ((c.p.length : Int) != c.n) = false := by simp [Classical.not_not.1 t3]
          by_cases t4 : c.i < 0
          · skip
            have t4a : decide (c.i < 0) = true := by simp; omega
            have HS := Lib.hid (shown7_any w2)
            go_wp2_with fail
            refine HS.out.mono ?_
            rintro e wf ⟨rfl, hB⟩
            have HBF := Lib.hid (HB2.out.trans hB)
            clear hB HS
            go_wp2
            go_ret
            exact ⟨rfl, HBF.out⟩
          · skip
            have t4a : decide (c.i < 0) = false := by simp; omega
            by_cases t5 : c.n ≤ c.i
            · skip
              have t5a : decide (c.i ≥ c.n) = true := by simp; omega
              have t5b : decide (c.n ≤ c.i) = true := by simp; omega
              have HS := Lib.hid (shown7_any w2)
              go_wp2_with fail
              refine HS.out.mono ?_
              rintro e wf ⟨rfl, hB⟩
              have HBF := Lib.hid (HB2.out.trans hB)
              clear hB HS
              go_wp2
              go_ret
              exact ⟨rfl, HBF.out⟩
            · skip
              have t5a : decide (c.i ≥ c.n) = false := by simp; omega
              have t5b : decide (c.n ≤ c.i) = false := by simp; omega
              have t3' : (c.p.length : Int) = c.n := Classical.not_not.1 t3
              have HWI := Lib.hid (without_any c.n c.i _ c.l w2 HC2.out.l HAL.out (by have := HLL.out; omega))
              have HBAD : Hid ((withoutM c.n c.l c.i).2 ≠ 0 → (withoutM c.n c.l c.i).1 = []) := Lib.hid without_bad
              have HWL : Hid ((withoutM c.n c.l c.i).1.length ≤ 1000000 ∧ AlLens (withoutM c.n c.l c.i).1) := Lib.hid (by rw [without_eq]; exact ⟨(rwith_lens2 c.n c.i c.l HLL.out).1, lens_of3 (rwith_lens2 c.n c.i c.l HLL.out).2⟩)
              have x1 := HR2.out.cell (i := 1) rfl
              generalize hM : withoutM c.n c.l c.i = M at HWI HBAD HWL
              have HM := Lib.hid hM
              clear hM
              obtain ⟨ml, me⟩ := M
              dsimp only at HBAD HWL
              go_wp2_with fail
              refine HWI.out.mono ?_
              rintro e w5 ⟨v5, rfl, hls5, hB, _⟩
              dsimp only at hls5
              obtain ⟨A7, k7, rfl, _⟩ := hls5.form
              have HB5 := Lib.hid (HB2.out.trans hB)
              have HC5 := Lib.hid (HC2.out.bel hB)
              have HR5 := Lib.hid (HR2.out.bel hB)
              have HML := Lib.hid hls5
              clear hB HWI HB2 HC2 HR2 x0 x1 x6 x7 lz hls5
              by_cases hme : me = 0
              · subst hme
                clear HBAD
                have h0 : ((0 : Int) != 0) = false := rfl
                obtain ⟨I, hI⟩ : ∃ I : Nat, c.i = (I : Int) := ⟨c.i.toNat, by omega⟩
                have HIP : Hid (I < c.p.length) := Lib.hid (by omega)
                have x6 := HR5.out.cell (i := 6) rfl
                rw [hI] at x6
                have x7 := HR5.out.cell (i := 7) rfl
                have lz := HR5.out.lt
                obtain ⟨ab, ao, rfl, _, _⟩ := HC5.out.p.at_ (by omega)
                have b0 : (0 : Int) ≤ I := by omega
                have b1 : (I : Int) ≤ k4 := by omega
                have b2 : ¬ (I : Int) < 0 := by omega
                obtain ⟨A8, k8, W1, hap, ho, hb, _⟩ := rats_append (w0 := w5) (Bel.refl.alloc (.cells #[] 41)) (p := []) (World.ownsRow_made w5 #[] 0 (Nat.le_refl _) (by unfold maxLen; omega) (by simp)) (rats_take (i := I) (HC5.out.p.bel (Bel.refl.alloc (.cells #[] 41))) (by omega) (by omega)) (by simp) (by simp; omega)
                rw [show ([] : List Rt).length + (c.p.take I).length = I by simp; omega] at hap ho
                rw [List.nil_append] at ho
                go_upto_region 7 with (at_builtin; go_must (refine wpList_append_run rfl _ _ 26 rfl _ _ _ rfl rfl (hap _) ?_))
                clear hap x6 x7 lz
                have hr1 := HR5.out.bel hb
                have x6 := hr1.cell (i := 6) rfl
                rw [hI] at x6
                have x7 := hr1.cell (i := 7) rfl
                have lz := hr1.lt
                have wi : IntKind.i64.wrap ((I : Int) + 1) = (I : Int) + 1 := IntWalk.i64_in _ (by omega)
                have b3 : (0 : Int) ≤ (I : Int) + 1 := by omega
                have b4 : (I : Int) + 1 ≤ (c.p.length : Int) := by omega
                obtain ⟨A9, k9, W2, hap, ho2, hb2, _⟩ := rats_append (w0 := w5) hb (p := c.p.take I) ho (rats_drop2 (i := I + 1) (HC5.out.p.bel hb) (by omega)) (by simp; omega) (by simp; omega)
                rw [← List.length_append] at hap ho2
                have HPR := Lib.hid (show RatsAt W2 W2.heap.size (.slice A9 (c.p.take I ++ c.p.drop (I + 1)).length k9) (c.p.take I ++ c.p.drop (I + 1)) from RdAt.of_own rcells_len rfl ho2)
                have HPW : Hid (∀ r, r ∈ c.p.take I ++ c.p.drop (I + 1) → r.wf) := Lib.hid (fun r hr => by
                  rcases List.mem_append.1 hr with q | q
                  · exact HWF.out.p r (List.mem_of_mem_take q)
                  · exact HWF.out.p r (List.mem_of_mem_drop q))
                have HPQ : Hid (∃ PR, PR = c.p.take I ++ c.p.drop (I + 1)) := Lib.hid ⟨_, rfl⟩
                have HPL2 : Hid ((c.p.take I ++ c.p.drop (I + 1)).length ≤ 1000000) := Lib.hid (by simp; omega)
                clear ho ho2
                generalize hPR : c.p.take I ++ c.p.drop (I + 1) = PR at *
                go_upto_region 8 with (at_builtin; go_must (refine wpList_append_run rfl _ _ 26 rfl _ _ _ rfl rfl (hap _) ?_))
                generalize (if k4 = I + 1 then some (⟨ab, ao, none⟩ : Addr) else some ⟨ab, ao + (I + 1) * 2, none⟩) = SA at *
                have HB6 := Lib.hid (HB5.out.trans hb2)
                have HC6 := Lib.hid (HC5.out.bel hb2)
                have HR6 := Lib.hid (HR5.out.bel hb2)
                have HML6 := Lib.hid (HML.out.bel hb2)
                clear hap x6 x7 lz hr1 hb hb2 HB5 HC5 HR5 HML
                have HME := Lib.hid (meets_any c.n _ _ c.l c.p W2 HC6.out.l HAL.out (by have := HLL.out; omega) HC6.out.p (by have := HPB.out; omega) HWF.out.p)
                generalize hH : hasM c.n c.l c.p = M at HME
                have HH1 := Lib.hid hH
                clear hH
                obtain ⟨b1, e1⟩ := M
                dsimp only at HME
                have x0 := HR6.out.cell (i := 0) rfl
                have x1 := HR6.out.cell (i := 1) rfl
                have x7 := HR6.out.cell (i := 7) rfl
                have lz := HR6.out.lt
                go_wp2_with fail
                refine HME.out.mono ?_
                rintro e w6 ⟨rfl, hB⟩
                have HB7 := Lib.hid (HB6.out.trans hB)
                have HC7 := Lib.hid (HC6.out.bel hB)
                have HR7 := Lib.hid (HR6.out.bel hB)
                have HML7 := Lib.hid (HML6.out.bel hB)
                have HPR7 := Lib.hid (HPR.out.bel hB)
                clear hB HME HB6 HC6 HR6 HML6 HPR x0 x1 x7 lz
                have wn : IntKind.i64.wrap (c.n - 1) = c.n - 1 := IntWalk.i64_in _ (by omega)
                have HME := Lib.hid (meets_any (c.n - 1) _ _ ml PR w6 HML7.out HWL.out.2 HWL.out.1 HPR7.out HPL2.out HPW.out)
                generalize hH : hasM (c.n - 1) ml PR = M at HME
                have HH2 := Lib.hid hH
                clear hH
                obtain ⟨b2, e2⟩ := M
                dsimp only at HME
                have x0 := HR7.out.cell (i := 0) rfl
                have lz := HR7.out.lt
                go_wp2_with fail
                refine HME.out.mono ?_
                rintro e w7 ⟨rfl, hB⟩
                have HB8 := Lib.hid (HB7.out.trans hB)
                have HC8 := Lib.hid (HC7.out.bel hB)
                have HR8 := Lib.hid (HR7.out.bel hB)
                clear hB HME HB7 HC7 HR7 HML7 HPR7 x0 lz
                by_cases hee : e1 = 0
                · subst hee
                  have he1 : ((0 : Int) == 0) = true := rfl
                  by_cases hee2 : e2 = 0
                  · subst hee2
                    cases b2
                    · skip
                      cases b1
                      · skip
                        have HS := Lib.hid (shown7_any w7)
                        go_wp2_with fail
                        refine HS.out.mono ?_
                        rintro e wf ⟨rfl, hB⟩
                        have HBF := Lib.hid (HB8.out.trans hB)
                        clear hB HS
                        go_wp2
                        go_ret
                        exact ⟨rfl, HBF.out⟩
                      · skip
                        exfalso
                        have hii : c.i.toNat = I := by omega
                        have := prj_sound HM.out HH1.out (rest := false) (by rw [hii, hPR]; exact HH2.out)
                        cases this
                    · skip
                      go_upto_region 12 with (fail)
                      go_cut [112] from 108 to 112 (fun s112 wx => s112 = .bool false ∧ w7 = wx)
                      case first => cases b1 <;> (go_wp2; go_meet; case rel => exact ⟨rfl, rfl⟩)
                      case rest =>
                        obtain ⟨rfl, rfl⟩ := hcut
                        have HLE := Lib.hid (lent_any _ c.l w7 HC8.out.l (by have := HLL.out; omega) HLS.out)
                        have x1 := HR8.out.cell (i := 1) rfl
                        have lz := HR8.out.lt
                        go_wp2_with fail
                        refine HLE.out.mono ?_
                        rintro e w9 ⟨v9, L9, rfl, hao, hm9, hB⟩
                        have HAO := Lib.hid hao
                        have HM9 := Lib.hid hm9
                        have HB79 := Lib.hid hB
                        clear hao hm9 hB HLE x1 lz
                        go_wp2
                        go_loopw [10, 11] (fun s10 s11 wq => ∃ (k : Nat) (y : Ext w7) (L : List (Value × AL)) (pins : List AL), k ≤ c.p.length ∧ s11 = .int .i64 k ∧ wq = y.w ∧ AO y.w w7.heap.size s10 L ∧ L.map Prod.snd = c.l ++ pins ∧ (∀ x, x ∈ pins → PinOk c.n.toNat I c.p x) ∧ pins.length ≤ 2 * k) (fun _ s11 _ => c.p.length - (intOf s11).toNat)
                        case atStart => exact ⟨0, ⟨_, HB79.out⟩, L9, [], Nat.zero_le _, rfl, rfl, HAO.out, by rw [HM9.out]; simp, by simp, by simp⟩
                        case round =>
                          clear HAO HM9 HB79
                          obtain ⟨k, y, L, pins, hk, rfl, rfl, hao, hm, hpin, hpl⟩ := hrel
                          have HAO := Lib.hid hao
                          have HM9 := Lib.hid hm
                          have HPIN := Lib.hid hpin
                          have HPLN := Lib.hid hpl
                          have hr := HR8.out.bel y.bel
                          have x0 := hr.cell (i := 0) rfl
                          have x6 := hr.cell (i := 6) rfl
                          rw [hI] at x6
                          have x7 := hr.cell (i := 7) rfl
                          have lz := hr.lt
                          obtain ⟨A10, k10, rfl, _⟩ := hao.ar.form
                          clear hao hm hpin hpl hr
                          by_cases hlt : k < c.p.length
                          · have hd : decide ((k : Int) < c.n) = true := by simp; omega
                            have hkn : (k : Int) < c.n := by omega
                            have wk : IntKind.i64.wrap ((k : Int) + 1) = ((k + 1 : Nat) : Int) := IntWalk.i64_in _ (by omega)
                            by_cases hki : k = I
                            · have hq : ((k : Int) == (I : Int)) = true := by simp [hki]
                              go_wp2
                              go_roundw
                              case rel => exact ⟨k + 1, y, L, pins, hlt, by go_num, rfl, HAO.out, HM9.out, HPIN.out, by have := HPLN.out; omega⟩
                              case measure => simp [intOf]; omega
                            · have hq : ((k : Int) == (I : Int)) = false := by simp; omega
                              have HBY := Lib.hid (HB8.out.trans y.bel)
                              have hcy := HC8.out.p.bel y.bel
                              obtain ⟨g, off, eg, hg, hcl⟩ := hcy.at_ (by omega)
                              injection eg with eg
                              injection eg with eg1 eg2
                              subst eg1 eg2
                              obtain ⟨y0, y1⟩ := rd_rat hcl hlt
                              have hkp : (k : Int) < (c.p.length : Int) := by omega
                              clear hcl hcy
                              generalize hR : rtAt c.p k = R at y0 y1
                              obtain ⟨rn, rd⟩ := R
                              dsimp only at y0 y1
                              by_cases q1 : rd = 1
                              · have q1a : (rd != 1) = false := by simp [q1]
                                by_cases q2 : 1000 < rn
                                · have q2a : decide (rn > 1000) = true := by simp [q2]
                                  have q2b : decide (1000 < rn) = true := by simp [q2]
                                  have HS := Lib.hid (shown7_any y.w)
                                  go_wp2_with fail
                                  refine HS.out.mono ?_
                                  rintro e wf ⟨rfl, hB⟩
                                  have HBF := Lib.hid (HBY.out.trans hB)
                                  clear hB HS
                                  go_wp2
                                  go_ret
                                  exact ⟨rfl, HBF.out⟩
                                · have q2a : decide (rn > 1000) = false := by simp; omega
                                  have q2b : decide (1000 < rn) = false := by simp; omega
                                  by_cases q3 : rn < -1000
                                  · have q3a : decide (rn < -1000) = true := by simp [q3]
                                    have HS := Lib.hid (shown7_any y.w)
                                    go_wp2_with fail
                                    refine HS.out.mono ?_
                                    rintro e wf ⟨rfl, hB⟩
                                    have HBF := Lib.hid (HBY.out.trans hB)
                                    clear hB HS
                                    go_wp2
                                    go_ret
                                    exact ⟨rfl, HBF.out⟩
                                  · have q3a : decide (rn < -1000) = false := by simp; omega
                                    have hmk : ∀ W', (Instr.makeSlice 23 (.int .i64 c.n) (.int .i64 c.n)).run Try.prog W' = .ok (.slice (some ⟨W'.heap.size, 0, none⟩) c.p.length c.p.length) (W'.alloc (.cells (intsV (List.replicate c.p.length 0)).toArray 2)) := fun W' => by
                                      rw [← t3']; exact made64 c.p.length (by omega) W'
                                    go_upto_region 23 with (fail)
                                    have HY7 := Lib.hid y.bel
                                    generalize y.w = w2 at *
                                    go_cut [12, 13] from 119 to 160 (fun s12 s13 wx => ∃ (z : Ext w2) (ga gb : Nat), wx = z.w ∧ s12 = .slice (some ⟨ga, 0, none⟩) c.p.length c.p.length ∧ s13 = .slice (some ⟨gb, 0, none⟩) c.p.length c.p.length ∧ ga ≠ gb ∧ w2.heap.size ≤ ga ∧ w2.heap.size ≤ gb ∧ RowAt z.w ga 2 (intsV (List.replicate c.p.length 0)) ∧ RowAt z.w gb 2 (intsV (List.replicate c.p.length 0)))
                                    case first =>
                                      (refine wp_region_E 7 none (by kernel_rfl) ?_; refine anyE_takes [0, 1, 3, 4] (fun _ _ _ _ _ h => h) ⟨⟨_, gro_drew (gro_refl _)⟩, rfl⟩ (by kernel_rfl) (by rfl) ?_; simp only [opsOf, List.filterMap_cons, List.filterMap_nil, List.getElem?_toArray, List.getElem?_cons_succ, List.getElem?_cons_zero, List.foldl_cons, List.foldl_nil]; (repeat (any_goals (first | go_big_quiet_step (fail) | quiet_step (fail)))); refine wpQuiet_nil ?_)
                                      have G0 : Hid (w2.grownBy w2.drew none) := Lib.hid (gro_drew (gro_refl _))
                                      clear x0 x6 x7 lz y0 y1 hg
                                      generalize w2.drew = W0 at *
                                      refine anyE_two 2 5 _ _ (by kernel_rfl) (by rfl) (by rfl) ?_ ?_
                                      · intro K hK
                                        rw [if_pos (by rfl)]
                                        go_simp
                                        refine hK _ _ (fun _ => ⟨⟨_, gro_alloc G0.out _⟩, rfl⟩) ?_
                                        clear hK K
                                        have G1 := Lib.hid (gro_alloc G0.out (.cells (intsV (List.replicate c.p.length 0)).toArray 2))
                                        have R1 := Lib.hid (RowAt.new W0 2 (intsV (List.replicate c.p.length 0)))
                                        have hq1 : w2.heap.size ≤ W0.heap.size := G0.out.size
                                        have hs1 : (World.alloc W0 (.cells (intsV (List.replicate c.p.length 0)).toArray 2)).heap.size = W0.heap.size + 1 := size_alV W0 _
                                        generalize World.alloc W0 _ = W1 at *
                                        generalize W0.heap.size = b1 at *
                                        (refine anyE_takes [6] (fun _ _ _ _ _ h => h) ⟨⟨_, G1.out⟩, rfl⟩ (by kernel_rfl) (by rfl) ?_; simp only [opsOf, List.filterMap_cons, List.filterMap_nil, List.getElem?_toArray, List.getElem?_cons_succ, List.getElem?_cons_zero, List.foldl_cons, List.foldl_nil]; (repeat (any_goals (first | go_big_quiet_step (fail) | quiet_step (fail)))); refine wpQuiet_nil ?_)
                                        (refine anyE_one 5 _ (by kernel_rfl) (by rfl) (fun K hK => ?_))
                                        rw [if_pos (by rfl)]
                                        go_simp
                                        refine hK _ _ (fun _ => ⟨⟨_, gro_alloc G1.out _⟩, rfl⟩) ?_
                                        clear hK K
                                        have G3 := Lib.hid (gro_alloc G1.out (.cells (intsV (List.replicate c.p.length 0)).toArray 2))
                                        have G2 := Lib.hid (gro_bel (gro_alloc G1.out (.cells (intsV (List.replicate c.p.length 0)).toArray 2)))
                                        have R2 := Lib.hid (RowAt.new W1 2 (intsV (List.replicate c.p.length 0)))
                                        have R3 := Lib.hid (R1.out.bel (Bel.refl.alloc (.cells (intsV (List.replicate c.p.length 0)).toArray 2)))
                                        generalize World.alloc W1 _ = W2 at *
                                        generalize W1.heap.size = b2 at *
                                        subst hs1
                                        (refine anyE_tail 7 (by decide) (by rfl) (by kernel_rfl) ?_; simp only [List.drop_succ_cons, List.drop_zero])
                                        go_wp2
                                        refine NoPanic.normal ?_
                                        go_wp2
                                        go_meet
                                        case rel => exact ⟨⟨_, G2.out⟩, b1, b1 + 1, rfl, rfl, rfl, by omega, by omega, by omega, R3.out, R2.out⟩
                                      · intro K hK
                                        rw [if_pos (by rfl)]
                                        go_simp
                                        refine hK _ _ (fun _ => ⟨⟨_, gro_alloc G0.out _⟩, rfl⟩) ?_
                                        clear hK K
                                        have G1 := Lib.hid (gro_alloc G0.out (.cells (intsV (List.replicate c.p.length 0)).toArray 2))
                                        have R1 := Lib.hid (RowAt.new W0 2 (intsV (List.replicate c.p.length 0)))
                                        have hq1 : w2.heap.size ≤ W0.heap.size := G0.out.size
                                        have hs1 : (World.alloc W0 (.cells (intsV (List.replicate c.p.length 0)).toArray 2)).heap.size = W0.heap.size + 1 := size_alV W0 _
                                        generalize World.alloc W0 _ = W1 at *
                                        generalize W0.heap.size = b1 at *
                                        (refine anyE_one 2 _ (by kernel_rfl) (by rfl) (fun K hK => ?_))
                                        rw [if_pos (by rfl)]
                                        go_simp
                                        refine hK _ _ (fun _ => ⟨⟨_, gro_alloc G1.out _⟩, rfl⟩) ?_
                                        clear hK K
                                        have G3 := Lib.hid (gro_alloc G1.out (.cells (intsV (List.replicate c.p.length 0)).toArray 2))
                                        have G2 := Lib.hid (gro_bel (gro_alloc G1.out (.cells (intsV (List.replicate c.p.length 0)).toArray 2)))
                                        have R2 := Lib.hid (RowAt.new W1 2 (intsV (List.replicate c.p.length 0)))
                                        have R3 := Lib.hid (R1.out.bel (Bel.refl.alloc (.cells (intsV (List.replicate c.p.length 0)).toArray 2)))
                                        generalize World.alloc W1 _ = W2 at *
                                        generalize W1.heap.size = b2 at *
                                        (refine anyE_takes [6] (fun _ _ _ _ _ h => h) ⟨⟨_, G3.out⟩, rfl⟩ (by kernel_rfl) (by rfl) ?_; simp only [opsOf, List.filterMap_cons, List.filterMap_nil, List.getElem?_toArray, List.getElem?_cons_succ, List.getElem?_cons_zero, List.foldl_cons, List.foldl_nil]; (repeat (any_goals (first | go_big_quiet_step (fail) | quiet_step (fail)))); refine wpQuiet_nil ?_)
                                        subst hs1
                                        (refine anyE_tail 7 (by decide) (by rfl) (by kernel_rfl) ?_; simp only [List.drop_succ_cons, List.drop_zero])
                                        go_wp2
                                        refine NoPanic.normal ?_
                                        go_wp2
                                        go_meet
                                        case rel => exact ⟨⟨_, G2.out⟩, b1 + 1, b1, rfl, rfl, rfl, by omega, by omega, by omega, R2.out, R3.out⟩
                                    case rest =>
                                      obtain ⟨z, ga, gb, rfl, rfl, rfl, hgab, hga, hgb, hra, hrb⟩ := hcut
                                      have xa := hra.cell (i := k) (v := .int .i64 0) (by rw [intsV, List.getElem?_map, List.getElem?_replicate, if_pos hlt]; rfl)
                                      have xb := hrb.cell (i := k) (v := .int .i64 0) (by rw [intsV, List.getElem?_map, List.getElem?_replicate, if_pos hlt]; rfl)
                                      have fa := fun q => hra.frozen q
                                      have fb := fun q => hrb.frozen q
                                      have la := hra.lt
                                      have lb := hrb.lt
                                      have H4a := Lib.hid ((hra.set k (.int .i64 1)).far (a := ⟨gb, k, none⟩) hgab (.int .i64 (-1)))
                                      have H4b := Lib.hid ((hrb.far (a := ⟨ga, k, none⟩) (fun e => hgab e.symm) (.int .i64 1)).set k (.int .i64 (-1)))
                                      have HB4 := Lib.hid ((z.bel.set (p := ⟨ga, k, none⟩) hga (.int .i64 1)).set (p := ⟨gb, k, none⟩) hgb (.int .i64 (-1)))
                                      have HGA := Lib.hid (show w7.heap.size ≤ ga from Nat.le_trans HY7.out.le hga)
                                      have HGB := Lib.hid (show w7.heap.size ≤ gb from Nat.le_trans HY7.out.le hgb)
                                      clear hra hrb hga hgb hmk
                                      go_upto_region 25 with (fail)
                                      clear x0 x6 x7 lz y0 y1 xa xb fa fb la lb hg
                                      generalize World.setCell (World.setCell z.w _ _) _ _ = W4 at *
                                      have hy4 := HY7.out.trans HB4.out
                                      have hr := HR8.out.bel hy4
                                      have x6 := hr.cell (i := 6) rfl
                                      rw [hI] at x6
                                      have x7 := hr.cell (i := 7) rfl
                                      have lz := hr.lt
                                      obtain ⟨g, off, eg, hg7, hcl⟩ := HC8.out.p.at_ (by omega)
                                      injection eg with eg
                                      injection eg with eg1 eg2
                                      subst eg1 eg2
                                      obtain ⟨y0, y1⟩ := rd_rat hcl hlt
                                      replace y0 := (hy4.cells _ _ hg7).trans y0
                                      replace y1 := (hy4.cells _ _ hg7).trans y1
                                      have hg := Nat.lt_of_lt_of_le hg7 hy4.le
                                      rw [hR] at y0 y1
                                      dsimp only at y0 y1
                                      have HAO4 := Lib.hid (HAO.out.bel HB4.out)
                                      have hrow1 : some bq ≠ (Value.slice A10 L.length k10).ownBlock := fun e => by have := (HAO4.out.ar.lt bq e.symm).1; have := HR8.out.lt; omega
                                      have hrow2 : some ab ≠ (Value.slice A10 L.length k10).ownBlock := fun e => by have := (HAO4.out.ar.lt ab e.symm).1; omega
                                      clear hcl hr hg7
                                      have HB74 := Lib.hid hy4
                                      clear hy4 HB4 HAO
                                      (refine wp_region_E 20 (Value.slice A10 L.length k10).ownBlock (by kernel_rfl) ?_; refine anyE_takes [0, 1, 2, 3, 4, 5, 6, 7, 8, 9, 10, 11, 12, 13, 14, 15, 16, 17] (fun _ _ _ _ _ h => h) ⟨⟨_, gro_drew (gro_refl _)⟩, rfl⟩ (by kernel_rfl) (by rfl) ?_; simp only [opsOf, List.filterMap_cons, List.filterMap_nil, List.getElem?_toArray, List.getElem?_cons_succ, List.getElem?_cons_zero, List.foldl_cons, List.foldl_nil]; (repeat (any_goals (first | go_big_quiet_step (fail) | quiet_step (fail)))); refine wpQuiet_nil ?_)
                                      have G0 : Hid (W4.grownBy W4.drew (Value.slice A10 L.length k10).ownBlock) := Lib.hid (gro_drew (gro_refl _))
                                      have B5 := Lib.hid (HB74.out.drew)
                                      have HA5 := Lib.hid (HAO4.out.bel (Bel.refl (w := W4)).drew)
                                      have H5a := Lib.hid H4a.out.drew
                                      have H5b := Lib.hid H4b.out.drew
                                      clear x6 x7 lz y0 y1 hg hrow1 hrow2 HAO4 H4a H4b HB74
                                      generalize W4.drew = W5 at *
                                      obtain ⟨P1, hP1⟩ : ∃ P1 : Value × AL, P1 = (.slice (some ⟨ga, 0, none⟩) c.p.length c.p.length, ⟨(List.replicate c.p.length 0).set k 1, rn, false⟩) := ⟨_, rfl⟩
                                      obtain ⟨P2, hP2⟩ : ∃ P2 : Value × AL, P2 = (.slice (some ⟨gb, 0, none⟩) c.p.length c.p.length, ⟨(List.replicate c.p.length 0).set k (-1), -rn, false⟩) := ⟨_, rfl⟩
                                      have hpn : c.p.length ≤ 1000000 := by omega
                                      have O1 : Hid (W5.ownsRow w7.heap.size 2 1 P1.1 P1.2.a.length (intsV P1.2.a)) := Lib.hid (by rw [hP1]; exact own_ints_row (by have := H5a.out; rwa [← intsV_set] at this) HGA.out (by simp) hpn)
                                      have O2 : Hid (W5.ownsRow w7.heap.size 2 1 P2.1 P2.2.a.length (intsV P2.2.a)) := Lib.hid (by rw [hP2]; exact own_ints_row (by have := H5b.out; rwa [← intsV_set] at this) HGB.out (by simp) hpn)
                                      have wng : IntKind.i64.wrap (-rn) = -rn := IntWalk.i64_in _ (by omega)
                                      have hLn : L.length ≤ 1000000 := by have h1 := congrArg List.length HM9.out; have h2 := HPLN.out; have h3 := HLL.out; simp at h1; omega
                                      obtain ⟨A6, k6, W6, hap, ho, hb6, hg6⟩ := ao_append2 (w0 := w7) (p := P1) (p2 := P2) (B5.out.alloc (.cells (arC P1 ++ arC P2).toArray 25)) (HA5.out.bel (Bel.refl.alloc _)) hLn (RowAt.new W5 25 (arC P1 ++ arC P2)) (ownsRow_bel O1.out (Bel.refl.alloc _)) (ownsRow_bel O2.out (Bel.refl.alloc _))
                                      have G5 := Lib.hid (gro_alloc G0.out (.cells (arC P1 ++ arC P2).toArray 25))
                                      have G6 := Lib.hid (G5.out.trans hg6)
                                      have HA6 := Lib.hid ho
                                      have B6 := Lib.hid hb6
                                      have HPN : Hid ((L ++ [P1, P2]).map Prod.snd = c.l ++ (pins ++ [P1.2, P2.2])) := Lib.hid (by rw [List.map_append, HM9.out, List.append_assoc]; rfl)
                                      have HPO : Hid (∀ x, x ∈ pins ++ [P1.2, P2.2] → PinOk c.n.toNat I c.p x) := Lib.hid (fun x hx => by
                                        rcases List.mem_append.1 hx with hx | hx
                                        · exact HPIN.out x hx
                                        · refine ⟨k, by omega, hki, by rw [hR]; exact q1, by rw [hR]; show rn.natAbs ≤ 1000; omega, ?_⟩
                                          rw [hR, hP1, hP2] at *
                                          simp only [List.mem_cons, List.not_mem_nil, or_false] at hx
                                          rw [show c.n.toNat = c.p.length by omega]
                                          exact hx)
                                      clear ho hb6 hg6 O1 O2 HA5 B5 H5a H5b HGA HGB
                                      rw [hP1, hP2] at hap G5
                                      unfold arC at hap G5
                                      (refine anyE_one 18 _ (by kernel_rfl) (by rfl) (fun K hK => ?_))
                                      rw [if_pos (by rfl)]
                                      go_simp
                                      refine hK _ _ (fun _ => ⟨⟨_, G5.out⟩, rfl⟩) ?_
                                      clear hK K
                                      (refine anyE_one 19 _ (by kernel_rfl) (by rfl) (fun K hK => ?_))
                                      rw [if_pos (by rfl)]
                                      refine oper_append_run _ _ 22 rfl _ _ _ rfl rfl (hap _) (hK _ _ (fun _ => ⟨⟨_, G6.out⟩, rfl⟩) ?_)
                                      simp only [Act.put, List.setIfInBounds_toArray]
                                      clear hK K hap
                                      (refine anyE_tail 20 (by decide) (by rfl) (by kernel_rfl) ?_; simp only [List.drop_succ_cons, List.drop_zero])
                                      go_wp2
                                      refine NoPanic.normal ?_
                                      go_wp2
                                      go_roundw
                                      case rel => exact ⟨k + 1, ⟨W6, B6.out⟩, L ++ [P1, P2], pins ++ [P1.2, P2.2], hlt, by go_num, rfl, HA6.out, HPN.out, HPO.out, by have := HPLN.out; simp; omega⟩
                                      case measure => simp [intOf]; omega
                              · have q1a : (rd != 1) = true := by simp [q1]
                                have HS := Lib.hid (shown7_any y.w)
                                go_wp2_with fail
                                refine HS.out.mono ?_
                                rintro e wf ⟨rfl, hB⟩
                                have HBF := Lib.hid (HBY.out.trans hB)
                                clear hB HS
                                go_wp2
                                go_ret
                                exact ⟨rfl, HBF.out⟩
                          · obtain rfl : k = c.p.length := by omega
                            have hd : decide ((c.p.length : Int) < c.n) = false := by simp; omega
                            have hL1 : L.length = c.l.length + pins.length := by have := congrArg List.length HM9.out; simpa using this
                            have hls : LinesAt y.w y.w.heap.size (.slice A10 L.length k10) (c.l ++ pins) := by have := HAO.out.ar.lines y.bel.le; rw [HM9.out] at this; exact this
                            have hal : AlLens (c.l ++ pins) := lens_of3 (fun x hx => by
                              rcases List.mem_append.1 hx with q | q
                              · exact HLS.out x q
                              · obtain ⟨j, _, _, _, _, q2⟩ := HPIN.out x q
                                rcases q2 with rfl | rfl <;> (simp; omega))
                            have HEM := Lib.hid (Empty_any c.n _ (c.l ++ pins) y.w hls hal (by have h1 := HPLN.out; have h2 := HLL.out; simp; omega))
                            have HRES : Hid ((EmptyM c.n (c.l ++ pins)).2 = 0 → (EmptyM c.n (c.l ++ pins)).1 = false) := Lib.hid (prj_empty t3' HM.out (by rw [show c.i.toNat = I by omega, hPR]; exact HH2.out) (by rw [show c.i.toNat = I by omega]; exact HPIN.out))
                            have HBY := Lib.hid (HB8.out.trans y.bel)
                            clear hls hal hL1 HAO HM9 HPIN HPLN
                            generalize EmptyM c.n (c.l ++ pins) = M at *
                            obtain ⟨bm, em⟩ := M
                            unfold BoPost at HEM
                            dsimp only at HEM HRES
                            go_wp2_with fail
                            refine HEM.out.mono ?_
                            rintro e w11 ⟨rfl, hB⟩
                            have HB11 := Lib.hid (HBY.out.trans hB)
                            clear hB HEM x0 x6 x7 lz
                            by_cases hem : em = 0
                            · subst hem
                              obtain rfl := HRES.out rfl
                              have hz : ((0 : Int) != 0) = false := rfl
                              have HS := Lib.hid (shown7_any w11)
                              go_wp2_with fail
                              refine HS.out.mono ?_
                              rintro e wf ⟨rfl, hB⟩
                              have HBF := Lib.hid (HB11.out.trans hB)
                              clear hB HS
                              go_wp2
                              go_ret
                              exact ⟨rfl, HBF.out⟩
                            · have hz : (em != 0) = true := by simp [hem]
                              have HS := Lib.hid (shown7_any w11)
                              go_wp2_with fail
                              refine HS.out.mono ?_
                              rintro e wf ⟨rfl, hB⟩
                              have HBF := Lib.hid (HB11.out.trans hB)
                              clear hB HS
                              go_wp2
                              go_ret
                              exact ⟨rfl, HBF.out⟩
                  · have he2 : (e2 == 0) = false := by simp [hee2]
                    have HS := Lib.hid (shown7_any w7)
                    go_wp2_with fail
                    refine HS.out.mono ?_
                    rintro e wf ⟨rfl, hB⟩
                    have HBF := Lib.hid (HB8.out.trans hB)
                    clear hB HS
                    go_wp2
                    go_ret
                    exact ⟨rfl, HBF.out⟩
                · have he1 : (e1 == 0) = false := by simp [hee]
                  have HS := Lib.hid (shown7_any w7)
                  go_wp2_with fail
                  refine HS.out.mono ?_
                  rintro e wf ⟨rfl, hB⟩
                  have HBF := Lib.hid (HB8.out.trans hB)
                  clear hB HS
                  go_wp2
                  go_ret
                  exact ⟨rfl, HBF.out⟩
              · have h0 : (me != 0) = true := by simp [hme]
                obtain rfl := HBAD.out hme
                have h1 : ((([] : List AL).length : Int) == 0) = true := rfl
                clear HBAD HWL HM HML
                have HS := Lib.hid (shown7_any w5)
                go_wp2_with fail
                refine HS.out.mono ?_
                rintro e wf ⟨rfl, hB⟩
                have HBF := Lib.hid (HB5.out.trans hB)
                clear hB HS
                go_wp2
                go_ret
                exact ⟨rfl, HBF.out⟩
  · skip
    clear hby
    have HS := Lib.hid (shown7_any w2)
    go_wp2_with fail
    refine HS.out.mono ?_
    rintro e wf ⟨rfl, hB⟩
    have HBF := Lib.hid (HB2.out.trans hB)
    clear hB HS
    go_wp2
    go_ret
    exact ⟨rfl, HBF.out⟩
end Go.Proofs.Ytalphoebmefgoaa
