/- poly, the reference: Implies, Includes. -/
import Derived.Test.YtalphoebmefgoaaZVrbh
namespace Go.Proofs.Ytalphoebmefgoaa
open Go.RowKit
theorem pad_snoc (l : List AL) (x : AL) : padAll (l ++ [x]) = padAll l ++ [padL x] := by unfold padAll; simp
set_option maxRecDepth 100000 in
set_option maxHeartbeats 8000000 in
theorem rimplies_any (n : Int) (v xv : Value) (l : List AL) (x : AL) (w : World) (h : LinesAt w w.heap.size v l) (hl : AlLens l) (hn : l.length ≤ 1000000) (hx : IntsAt w w.heap.size xv x.a) (hxl : x.a.length ≤ 1000000) :
    Calls Try.prog 29 #[.int .i64 n, v, .agg #[xv, .int .i64 x.b, .bool x.s]] w (BoPost (impliesM n l x) w) := by
  have H := Lib.hid h
  have HXI := Lib.hid hx
  have HCK := Lib.hid (fun W (hW : Bel w W) => rcheck_any n v l W (h.bel hW) hl hn)
  have HFI := Lib.hid (fun W (hW : Bel w W) => rvalid_any n x xv W (hx.bel hW) hxl)
  obtain ⟨A, c, rfl, hc⟩ := h.form
  obtain ⟨Ax, cx, rfl, hcx⟩ := hx.form
  clear h hl hx
  go_enter Try.func29, Try.ntmps29
  go_upto_region 1 with (fail)
  generalize hW : World.alloc w _ = w1 at *
  have rx : RowAt w1 w.heap.size 25 [.slice Ax x.a.length cx, .int .i64 x.b, .bool x.s] := by rw [← hW]; exact RowAt.new _ _ _
  have hb1 : Bel w w1 := by rw [← hW]; exact Bel.refl.alloc _
  clear hW
  obtain ⟨px, hpx⟩ : ∃ p, p = w.heap.size := ⟨_, rfl⟩
  rw [← hpx] at rx ⊢
  clear hpx
  have HB1 := Lib.hid hb1
  have HR1 := Lib.hid rx
  clear rx hb1
  go_wp2_with fail
  refine (HCK.out _ HB1.out).mono ?_
  rintro e w2 ⟨rfl, hB⟩
  have HB2 := Lib.hid (HB1.out.trans hB)
  have HR2 := Lib.hid (HR1.out.bel hB)
  clear hB HCK HB1 HR1
  by_cases hck : checkM n l = 0
  · have HC := Lib.hid hck
    rw [hck]
    have h0 : ((0 : Int) != 0) = false := rfl
    obtain ⟨hn5, hl1, _⟩ := check_fits hck
    have HM : Hid (impliesM n l x = if x.fits n = false then (false, 2) else emptyL n.toNat (padAll l ++ [oppL (padL x)])) := Lib.hid (by unfold impliesM; rw [if_neg (by simp [hck])])
    clear hck
    have x0 := HR2.out.cell (i := 0) rfl
    have x1 := HR2.out.cell (i := 1) rfl
    have x2 := HR2.out.cell (i := 2) rfl
    have lx := HR2.out.lt
    go_wp2_with fail
    refine (HFI.out _ HB2.out).mono ?_
    rintro e w3 ⟨rfl, hB⟩
    have HB3 := Lib.hid (HB2.out.trans hB)
    have HR3 := Lib.hid (HR2.out.bel hB)
    clear hB HFI HB2 HR2 x0 x1 x2 lx
    cases hft : x.fits n
    · have HF : Hid (BoPost (impliesM n l x) w (.returned (.tuple #[.bool false, .int .i64 2])) w3) := Lib.hid ⟨by rw [HM.out, if_pos hft], HB3.out⟩
      clear hft HM
      go_wp2
      go_ret2
      exact HF.out
    · have hlen := fits_len hft
      have HXR := Lib.hid (fits_inrA hft)
      obtain ⟨m, rfl⟩ : ∃ m : Nat, n = (m : Int) := ⟨n.toNat, by omega⟩
      have hm5 : m ≤ 5 := by omega
      have hxm : x.a.length = m := by omega
      have HLN := Lib.hid (check_lenA HC.out)
      have HIN := Lib.hid (check_inrA HC.out)
      rw [Int.toNat_natCast] at HLN
      have HM2 : Hid (impliesM m l x = emptyL m (padAll (l ++ [oppA x]))) := Lib.hid (by rw [HM.out, if_neg (by simp [hft]), Int.toNat_natCast, pad_snoc, oppA_pad (by omega)])
      have HLS : Hid (∀ z, z ∈ l ++ [oppA x] → z.a.length = m) := Lib.hid (fun z hz => by
        rcases List.mem_append.1 hz with q | q
        · exact HLN.out z q
        · rw [show z = oppA x by simpa using q, oppA_len]; exact hxm)
      have HIS : Hid (∀ z, z ∈ l ++ [oppA x] → z.inr) := Lib.hid (fun z hz => by
        rcases List.mem_append.1 hz with q | q
        · exact HIN.out z q
        · rw [show z = oppA x by simpa using q]; exact oppA_inr HXR.out)
      have HLL : Hid ((l ++ [oppA x]).length ≤ 2000) := Lib.hid (by simp; omega)
      have x0 := HR3.out.cell (i := 0) rfl
      have x1 := HR3.out.cell (i := 1) rfl
      have x2 := HR3.out.cell (i := 2) rfl
      have lx := HR3.out.lt
      have HOP := Lib.hid (ropp_any x _ w3 (HXI.out.bel HB3.out) hxl HXR.out)
      have hob : (oppA x).b = -x.b := rfl
      have hos : (oppA x).s = !x.s := rfl
      unfold AlPost at HOP
      clear hft HM hlen hn5 hxm hob hos
      generalize oppA x = Z at *
      go_wp2_with fail
      refine HOP.out.mono ?_
      rintro e w4 ⟨rv, rfl, hro, hB⟩
      have HB4 := Lib.hid (HB3.out.trans hB)
      have HIZ := Lib.hid (IntsAt.of_own hro)
      obtain ⟨Az, cz, rfl, _⟩ := own_slice hro
      clear hro hB HOP HR3 x0 x1 x2 lx HB3
      have HBH := Lib.hid (rbehind_any _ _ l Z w4 (H.out.bel HB4.out) (by omega) HIZ.out)
      unfold LinPost at HBH
      go_wp2_with fail
      refine HBH.out.mono ?_
      rintro e w5 ⟨v5, rfl, hln, hB⟩
      have HB5 := Lib.hid (HB4.out.trans hB)
      have HLZ := Lib.hid hln
      clear hln hB HBH HB4 HIZ
      generalize l ++ [Z] = LZ at *
      obtain ⟨A5, c5, rfl, _⟩ := HLZ.out.form
      have HEM := Lib.hid (rempty_any _ LZ m w5 hm5 HLZ.out HLL.out HLS.out HIS.out)
      rw [← HM2.out] at HEM
      clear HM2
      generalize impliesM m l x = M at *
      obtain ⟨eb, er⟩ := M
      go_wp2_with fail
      refine HEM.out.mono ?_
      rintro e w6 ⟨rfl, hB⟩
      have HB6 := Lib.hid (HB5.out.trans hB)
      clear hB
      go_wp2
      go_ret2
      exact ⟨rfl, HB6.out⟩
  · have h0 : (checkM n l != 0) = true := by simp [hck]
    have HF : Hid (BoPost (impliesM n l x) w (.returned (.tuple #[.bool false, .int .i64 (checkM n l)])) w2) := Lib.hid (by
      have e : impliesM n l x = (false, checkM n l) := by unfold impliesM; rw [if_pos hck]
      exact ⟨by rw [e], HB2.out⟩)
    clear hck
    generalize checkM n l = er at *
    go_wp2
    go_ret2
    exact HF.out
/-- Includes, as the reference asks it: line by line -/
def inclR (n : Int) (b : List AL) : List AL → Bool × Int
  | [] => (true, 0)
  | x :: t => if (impliesM n b x).2 ≠ 0 ∨ (impliesM n b x).1 = false then (false, (impliesM n b x).2) else inclR n b t
theorem implies_ok {n : Int} {b : List AL} {x : AL} (hb : checkM n b = 0) (hx : x.fits n = true) : impliesM n b x = emptyL n.toNat (padAll b ++ [oppL (padL x)]) := by
  unfold impliesM
  rw [if_neg (by simp [hb]), if_neg (by simp [hx])]
theorem incl_eq {n : Int} {b : List AL} (hb : checkM n b = 0) : ∀ (a : List AL), (∀ x, x ∈ a → x.fits n = true) → inclR n b a = inclF n.toNat (padAll b) (padAll a)
  | [], _ => rfl
  | x :: t, h => by
    have hx := h x (List.mem_cons_self ..)
    show inclR n b (x :: t) = inclF n.toNat (padAll b) (padL x :: padAll t)
    unfold inclR inclF
    rw [implies_ok hb hx, incl_eq hb t (fun y hy => h y (List.mem_cons_of_mem _ hy))]
set_option maxRecDepth 100000 in
set_option maxHeartbeats 8000000 in
theorem rincludes_any (n : Int) (va vb : Value) (a b : List AL) (w : World) (ha : LinesAt w w.heap.size va a) (hb : LinesAt w w.heap.size vb b) (hla : AlLens a) (hlb : AlLens b) (hna : a.length ≤ 1000000) (hnb : b.length ≤ 1000000) :
    Calls Try.prog 31 #[.int .i64 n, va, vb] w (BoPost (includesM n a b) w) := by
  have HA := Lib.hid ha
  have HBB := Lib.hid hb
  have HLA := Lib.hid hla
  have HLB := Lib.hid hlb
  have HCA := Lib.hid (rcheck_any n va a w ha hla hna)
  have HCB := Lib.hid (fun W (hW : Bel w W) => rcheck_any n vb b W (hb.bel hW) hlb hnb)
  obtain ⟨Aa, ca, rfl, _⟩ := ha.form
  obtain ⟨Ab, cb, rfl, _⟩ := hb.form
  clear ha hb hla hlb
  go_enter Try.func31, Try.ntmps31
  go_wp2_with fail
  refine HCA.out.mono ?_
  rintro e w1 ⟨rfl, hB⟩
  have HB1 := Lib.hid hB
  clear hB HCA
  by_cases hca : checkM n a = 0
  · have h0 : ((0 : Int) == 0) = true := rfl
    rw [hca]
    go_wp2_with fail
    refine (HCB.out _ HB1.out).mono ?_
    rintro e w2 ⟨rfl, hB⟩
    have HB2 := Lib.hid (HB1.out.trans hB)
    clear hB HCB HB1
    by_cases hcb : checkM n b = 0
    · have h1 : ((0 : Int) != 0) = false := rfl
      rw [hcb]
      have HM : Hid (includesM n a b = inclR n b a) := Lib.hid (by
        have hc2 : check2 n a b = 0 := by unfold check2; rw [if_neg (by simp [hca]), hcb]
        unfold includesM
        rw [if_neg (by simp [hc2]), incl_eq hcb a (check_fits hca).2.2])
      clear hca hcb
      go_wp2
      go_loopw [9] (fun s9 wq => ∃ (k : Nat) (y : Ext w), k ≤ a.length ∧ s9 = .int .i64 k ∧ wq = y.w ∧ inclR n b (a.drop k) = includesM n a b) (fun s9 _ => a.length + 1 - (intOf s9).toNat)
      case atStart => exact ⟨0, ⟨_, HB2.out⟩, Nat.zero_le _, rfl, rfl, HM.out.symm⟩
      case round =>
        clear HB2
        obtain ⟨k, y, hk, rfl, rfl, hf⟩ := hrel
        by_cases hlt : k < a.length
        · have hd : decide ((k : Int) < (a.length : Int)) = true := by simp; omega
          have hL : (k : Int) < (a.length : Int) := by omega
          have wk : IntKind.i64.wrap ((k : Int) + 1) = ((k + 1 : Nat) : Int) := IntWalk.i64_in _ (by omega)
          obtain ⟨g, off, rfl, hg0, hcl⟩ := HA.out.at_ (by omega)
          obtain ⟨rv, ⟨d0, d1, d2⟩, hrv⟩ := hcl k hlt
          have x0 := (y.bel.cells _ _ hg0).trans d0
          have x1 := (y.bel.cells _ _ hg0).trans d1
          have x2 := (y.bel.cells _ _ hg0).trans d2
          have hg := Nat.lt_of_lt_of_le hg0 y.bel.le
          have hxl := HLA.out k hlt
          have HXI := Lib.hid (hrv.keep y.bel.keeps y.bel.le)
          obtain ⟨Ax, cx, rfl, _⟩ := hrv.form
          rw [al_drop hlt] at hf
          clear hcl d0 d1 d2 hrv hg0
          generalize alAt a k = X at *
          have HF : Hid ((if (impliesM n b X).2 ≠ 0 ∨ (impliesM n b X).1 = false then (false, (impliesM n b X).2) else inclR n b (a.drop (k + 1))) = includesM n a b) := Lib.hid hf
          clear hf
          have HIM := Lib.hid (rimplies_any n _ _ b X y.w (HBB.out.bel y.bel) HLB.out hnb HXI.out hxl)
          generalize impliesM n b X = M at *
          obtain ⟨eb, er⟩ := M
          simp only at HF
          go_wp2_with fail
          refine HIM.out.mono ?_
          rintro e w4 ⟨rfl, hB⟩
          have HB4 := Lib.hid (y.bel.trans hB)
          clear hB HIM x0 x1 x2 hg HXI
          by_cases he : er = 0
          · subst he
            have t0 : ((0 : Int) != 0) = false := rfl
            cases eb
            · have HP : Hid (BoPost (includesM n a b) w (.returned (.tuple #[.bool false, .int .i64 0])) w4) := Lib.hid ⟨by have := HF.out; rw [if_pos (.inr rfl)] at this; rw [← this], HB4.out⟩
              clear HF
              go_wp2
              go_ret2
              exact HP.out
            · have HF2 : Hid (inclR n b (a.drop (k + 1)) = includesM n a b) := Lib.hid (by have := HF.out; rwa [if_neg (by simp)] at this)
              clear HF
              go_wp2
              go_roundw
              case rel => exact ⟨k + 1, ⟨_, HB4.out⟩, hlt, by go_num, rfl, HF2.out⟩
              case measure => simp [intOf]; omega
          · have t0 : (er != 0) = true := by simp [he]
            have HP : Hid (BoPost (includesM n a b) w (.returned (.tuple #[.bool false, .int .i64 er])) w4) := Lib.hid ⟨by have := HF.out; rw [if_pos (.inl he)] at this; rw [← this], HB4.out⟩
            clear HF he
            go_wp2
            go_ret2
            exact HP.out
        · obtain rfl : k = a.length := by omega
          have hd : decide ((a.length : Int) < (a.length : Int)) = false := by simp
          have HP : Hid (BoPost (includesM n a b) w (.returned (.tuple #[.bool true, .int .i64 0])) y.w) := Lib.hid ⟨by rw [← hf, List.drop_length]; rfl, y.bel⟩
          clear hf
          go_wp2
          go_ret2
          exact HP.out
    · have h1 : (checkM n b != 0) = true := by simp [hcb]
      have HF : Hid (BoPost (includesM n a b) w (.returned (.tuple #[.bool false, .int .i64 (checkM n b)])) w2) := Lib.hid (by
        have hc2 : check2 n a b = checkM n b := by unfold check2; rw [if_neg (by simp [hca])]
        have e : includesM n a b = (false, checkM n b) := by unfold includesM; rw [if_pos (by rw [hc2]; exact hcb), hc2]
        exact ⟨by rw [e], HB2.out⟩)
      clear hca hcb
      generalize checkM n b = er at *
      go_wp2
      go_ret2
      exact HF.out
  · have h0 : (checkM n a == 0) = false := by simp [hca]
    have h1 : (checkM n a != 0) = true := by simp [hca]
    have HF : Hid (BoPost (includesM n a b) w (.returned (.tuple #[.bool false, .int .i64 (checkM n a)])) w1) := Lib.hid (by
      have hc2 : check2 n a b = checkM n a := by unfold check2; rw [if_pos hca]
      have e : includesM n a b = (false, checkM n a) := by unfold includesM; rw [if_pos (by rw [hc2]; exact hca), hc2]
      exact ⟨by rw [e], HB1.out⟩)
    clear hca
    generalize checkM n a = er at *
    go_wp2
    go_ret2
    exact HF.out
end Go.Proofs.Ytalphoebmefgoaa
