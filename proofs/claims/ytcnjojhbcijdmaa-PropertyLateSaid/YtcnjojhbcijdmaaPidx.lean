import Derived.Test.YtcnjojhbcijdmaaPnext
import Derived.Test.YtcnjojhbcijdmaaPjudr
namespace Go.Proofs.Ytcnjojhbcijdmaa
open Go.RowKit
set_option maxRecDepth 100000 in
set_option maxHeartbeats 4000000 in
theorem pidx_any (p : PP) (gv ev sv : Value) (l : List PS) (br : Nat) (w W : World) (h : PropAt w w.heap.size gv ev p) (hs : PSized p) (hl : StampsAt w w.heap.size sv l) (hok : rpword p l = 0) (hW : Bel w W) (hbr : w.heap.size ≤ br) (hr : RowAt W br 54 (runnerL p gv ev (start p) 0)) :
    Calls Try.prog 33 #[sv, .func (.func 34) #[.pointer (some ⟨br, 0, none⟩)] #[]] W fun e w' => e = .returned (.int .i64 (runP p l).2) ∧ Bel w w' ∧ ∃ a, RowAt w' br 54 (runnerL p gv ev (runP p l).1 a) := by
  obtain ⟨hck, hll, hwd⟩ := rpword_ok hok
  have hv := pvalid_of hck
  have HW := Lib.hid (word_at l 0 (by omega) hwd)
  have HRP : Hid (runP p l = runM p.clks.toNat p.edges (start p) 0 l 0) := Lib.hid rfl
  have HN := Lib.hid fun (x : Pt) (at0 : Int) (s : PS) (z : Ext w) hr hx ha ha2 => pnext_any p p.clks.toNat gv ev br x at0 s w z.w hv hs h z.bel hbr hr hx ha ha2
  generalize runP p l = res at *
  obtain ⟨A, c, rfl, hc, hA⟩ := hl
  have HA := Lib.hid hA
  have HST := Lib.hid (start_ok hv)
  obtain ⟨x0, rfl⟩ := ext_of hW
  have HR0 := Lib.hid hr
  clear h hs hA hok hck hwd hv hW hr
  go_enter Try.func33, Try.ntmps33
  go_wp2
  go_loopw [8] (fun si wr => ∃ (j : Nat) (x : Pt) (z : Ext w), j ≤ l.length ∧ si = .int .i64 j ∧ wr = z.w ∧ RowAt z.w br 54 (runnerL p gv ev x (lastAt l j)) ∧ ClOk x.cl ∧ runM p.clks.toNat p.edges x (lastAt l j) (l.drop j) j = res) (fun si _ => l.length - (intOf si).toNat)
  case atStart => exact ⟨0, start p, x0, by omega, rfl, rfl, HR0.out, HST.out.2, by rw [HRP.out]; rfl⟩
  case round =>
    clear HR0 x0
    obtain ⟨j, x, z, hj, rfl, rfl, XR, hco, hd⟩ := hrel
    by_cases hlt : j < l.length
    · rw [ps_drop hlt] at hd
      obtain ⟨b2, off, rfl, hb2, hA⟩ := HA.out (by omega)
      obtain ⟨c0, c1⟩ := hA j hlt
      clear hA
      have hw3 := HW.out j hlt
      rw [← lastAt_eq] at hw3
      have hla : 0 ≤ lastAt l j := by
        rw [lastAt_eq]; split
        · exact Int.le_refl 0
        · exact (HW.out (j - 1) (by omega)).2.2
      have hnext : lastAt l (j + 1) = (psAt l j).at_ := rfl
      have hyc := step_ok (n := p.clks.toNat) (es := p.edges) (ev := (psAt l j).ev) (x := x) (a := (psAt l j).at_ - lastAt l j) hco (by omega)
      have HH := HN.out x (lastAt l j) (psAt l j) z XR hco (by omega) (by omega)
      have hd0 : (if (step p.clks.toNat p.edges x ((psAt l j).at_ - lastAt l j) (psAt l j).ev).loc < 0 then (step p.clks.toNat p.edges x ((psAt l j).at_ - lastAt l j) (psAt l j).ev, (j : Int)) else runM p.clks.toNat p.edges (step p.clks.toNat p.edges x ((psAt l j).at_ - lastAt l j) (psAt l j).ev) (psAt l j).at_ (l.drop (j + 1)) (j + 1)) = res := hd
      clear hd
      generalize (psAt l j).at_ = aj at *
      generalize (psAt l j).ev = ej at *
      generalize lastAt l j = ai at *
      by_cases hp : (step p.clks.toNat p.edges x (aj - ai) ej).loc < 0
      · have HD : Hid ((j : Int) = res.2 ∧ step p.clks.toNat p.edges x (aj - ai) ej = res.1) := Lib.hid (by rw [← hd0, if_pos hp]; exact ⟨rfl, rfl⟩)
        have hpd : decide ((step p.clks.toNat p.edges x (aj - ai) ej).loc < 0) = true := by simpa using hp
        rw [hpd] at HH
        generalize step p.clks.toNat p.edges x (aj - ai) ej = y at *
        replace HH := Lib.hid HH
        clear hpd hp hd0 hyc hnext XR hw3 hla hco
        go_wp2_with (first | (go_at_call 34; (with_reducible refine (HH.out).mono ?_); rintro en w2 ⟨rfl, hb1, hr1⟩; have HR1 := Lib.hid hr1; have HB1 := Lib.hid hb1; clear hb1 hr1))
        go_ret
        exact ⟨ret_int HD.out.1, HB1.out, _, HD.out.2 ▸ HR1.out⟩
      · have HD : Hid (runM p.clks.toNat p.edges (step p.clks.toNat p.edges x (aj - ai) ej) aj (l.drop (j + 1)) (j + 1) = res) := Lib.hid (by rw [← hd0, if_neg hp])
        have hpd : decide ((step p.clks.toNat p.edges x (aj - ai) ej).loc < 0) = false := by simpa using hp
        rw [hpd] at HH
        generalize step p.clks.toNat p.edges x (aj - ai) ej = y at *
        replace HH := Lib.hid HH
        clear hpd hp hd0 XR hw3 hla hco
        go_wp2_with (first | (go_at_call 34; (with_reducible refine (HH.out).mono ?_); rintro en w2 ⟨rfl, hb1, hr1⟩; have HR1 := Lib.hid hr1; have HB1 := Lib.hid hb1; clear hb1 hr1))
        go_roundw
        case rel => exact ⟨j + 1, y, ⟨_, HB1.out⟩, by omega, by go_num, rfl, by rw [hnext]; exact HR1.out, hyc, by rw [hnext]; exact HD.out⟩
        case measure => simp [intOf]; omega
    · obtain rfl : j = l.length := by omega
      have HD : Hid (-1 = res.2 ∧ x = res.1) := Lib.hid (by rw [← hd]; simp [runM])
      clear hd
      have XRH := Lib.hid XR
      clear XR
      go_wp2
      go_ret
      exact ⟨ret_int HD.out.1, z.bel, _, HD.out.2 ▸ XRH.out⟩
end Go.Proofs.Ytcnjojhbcijdmaa
