import Derived.Test.YtbilfpoghohddaaZWjob
import Derived.Test.YtbilfpoghohddaaG4
import Derived.Test.YtbilfpoghohddaaG5
import Derived.Test.YtbilfpoghohddaaG3
import Derived.Test.YtbilfpoghohddaaZTckp
import Derived.Test.YtbilfpoghohddaaG6
namespace Go.Proofs.Ytbilfpoghohddaa
open Go.RowKit
theorem hypT_dvd : ∀ (ts : List Tsk) (h : Int), 1 ≤ h → h ≤ 20000 → (∀ t ∈ ts, TOk t) → (hypT ts h).2 = 0 → h ∣ (hypT ts h).1 ∧ (∀ t ∈ ts, t.per ∣ (hypT ts h).1) ∧ 1 ≤ (hypT ts h).1 ∧ (hypT ts h).1 ≤ 20000
  | [], h, h1, h2, _, _ => ⟨Int.dvd_refl h, by simp, h1, h2⟩
  | t :: ts, h, h1, h2, ht, e => by
    have hp := ht t (by simp)
    have hp1 := hp.p1
    obtain ⟨b1, _, _, _⟩ := lcm_bd h t.per h1 h2 hp.p1 hp.p2
    unfold hypT at e ⊢
    split at e
    · cases e
    · next hle =>
      rw [if_neg hle]
      obtain ⟨a1, a2, a3, a4⟩ := hypT_dvd ts _ b1 (by omega) (fun x hx => ht x (by simp [hx])) e
      have hg1 : (Int.gcd h t.per : Int) ∣ h := Int.gcd_dvd_left ..
      have hg2 : (Int.gcd h t.per : Int) ∣ t.per := Int.gcd_dvd_right ..
      have hgp := gcd_pos_i h t.per hp1
      have d1 : h ∣ h / (Int.gcd h t.per : Int) * t.per := by
        obtain ⟨q, hq⟩ := hg1
        obtain ⟨r, hr⟩ := hg2
        generalize (Int.gcd h t.per : Int) = g at *
        have : h / g = q := by rw [hq]; exact Int.mul_ediv_cancel_left _ (by omega)
        rw [this]
        refine ⟨r, ?_⟩
        rw [hq, hr, Int.mul_comm g q, Int.mul_assoc]
      have d2 : t.per ∣ h / (Int.gcd h t.per : Int) * t.per := Int.dvd_mul_left ..
      refine ⟨Int.dvd_trans d1 a1, fun x hx => ?_, a3, a4⟩
      rcases List.mem_cons.mp hx with rfl | hx
      · exact Int.dvd_trans d2 a1
      · exact a2 x hx
theorem hyp_dvd {l : List Tsk} (h0 : rchk l = 0) (h : (hyp l).2 = 0) : (∀ i, i < l.length → (tskAt l i).per ∣ (hyp l).1) ∧ 1 ≤ (hyp l).1 ∧ (hyp l).1 ≤ 20000 := by
  have e : hyp l = hypT l 1 := by unfold hyp; rw [if_pos h0]
  rw [e] at h ⊢
  obtain ⟨_, a, b, c⟩ := hypT_dvd l 1 (by omega) (by omega) (toks_of h0) h
  exact ⟨fun i hi => a _ (by simp [tskAt, List.getD, hi]), b, c⟩
/-- the periods of a task fill the table -/
theorem fill_law {l : List Tsk} {xs : List Int} (h0 : rchk l = 0) (h : (hyp l).2 = 0) (hx : (xs.length : Int) = (hyp l).1) {i : Nat} (hi : i < l.length) {pn : Nat} (hpn : (tskAt l i).per = pn) : xs.length / pn * pn = xs.length ∧ 1 ≤ pn := by
  obtain ⟨a, b, c⟩ := hyp_dvd h0 h
  have hp1 := (tok_at h0 hi).p1
  have h1 := a i hi
  rw [hpn, ← hx] at h1
  have h2 : pn ∣ xs.length := Int.ofNat_dvd.mp h1
  exact ⟨Nat.div_mul_cancel h2, by omega⟩
theorem rchk_pos_e {l : List Tsk} (h : (hyp l).2 = 0) : rchk l = 0 := by
  unfold hyp at h
  split at h
  · assumption
  · exact h
theorem chkT_err {l : List Tsk} {xs : List Int} (h : (hyp l).2 ≠ 0) : chkT l xs = (hyp l).2 := by
  have e : hypO l = hyp l := by unfold hypO; rw [if_neg (fun q => h q.1)]
  unfold chkT; rw [e, if_neg h]
theorem chkT_off {l : List Tsk} {xs : List Int} (h : (hyp l).2 = 0) (ho : offsB l = true) : chkT l xs = 2 := by
  have e : hypO l = ((hyp l).1, 2) := by unfold hypO; rw [if_pos ⟨h, ho⟩]
  unfold chkT; rw [e]; rfl
theorem chkT_on {l : List Tsk} {xs : List Int} (h : (hyp l).2 = 0) (ho : offsB l = false) : chkT l xs = if (xs.length : Int) ≠ (hyp l).1 then 2 else if xs.any (badK l) then 2 else if servesL l xs 0 l then 0 else 370 := by
  have e : hypO l = hyp l := by unfold hypO; rw [if_neg (fun q => by rw [ho] at q; cases q.2)]
  unfold chkT; rw [e, if_pos h]
theorem badK_false {l : List Tsk} {xs : List Int} (h : xs.any (badK l) = false) : ∀ k ∈ xs, -1 ≤ k ∧ k < l.length := by
  intro k hk
  have := List.any_eq_false.mp h k hk
  simp [badK] at this
  omega
set_option maxRecDepth 100000 in
set_option maxHeartbeats 8000000 in
theorem rcheckT_any (v xv : Value) (l : List Tsk) (xs : List Int) (w : World) (h : TsksAt w w.heap.size v l) (hp : IntsAt w w.heap.size xv xs) (hpl : xs.length ≤ 1000000) (hsz : Sized l) :
    Calls Try.prog 20 #[v, .agg #[xv]] w fun e w' => e = .returned (.int .i64 (chkT l xs)) ∧ Bel w w' := by
  have HH := Lib.hid (fun (W : World) (hW : Bel w W) => rhyper_any v l W (h.keep hW.keeps hW.le) hsz.len hsz.parts)
  have HOF := Lib.hid (fun (W : World) (hW : Bel w W) => roffs_any v l W (h.keep hW.keeps hW.le) hsz.len)
  have HT := Lib.hid h
  have HP := Lib.hid hp
  obtain ⟨A, cA, rfl, _⟩ := h.form
  obtain ⟨Ap, cp, rfl, _⟩ := hp.form
  clear h hp
  go_enter Try.func20, Try.ntmps20
  go_upto_region 1 with (fail)
  generalize hW1 : World.alloc w _ = W1 at *
  have r3 : RowAt W1 w.heap.size 25 [.slice Ap xs.length cp] := by rw [← hW1]; exact RowAt.new _ _ _
  have b1 : Bel w W1 := by rw [← hW1]; exact Bel.refl.alloc _
  clear hW1
  have HB1 := Lib.hid b1
  generalize hp3 : w.heap.size = p3 at r3 ⊢
  have HR := Lib.hid r3
  clear hp3 r3 b1
  go_wp2_with fail
  refine (HH.out _ HB1.out).mono ?_
  rintro e w2 ⟨rfl, hb⟩
  have HB2 := Lib.hid (HB1.out.trans hb)
  have HR2 := Lib.hid (HR.out.bel hb)
  clear hb HB1 HR HH
  by_cases he : (hyp l).2 = 0
  case neg =>
    have HM := Lib.hid (chkT_err (xs := xs) he)
    have q1 : ((hyp l).2 == 0) = false := by simpa using he
    generalize (hyp l).2 = er at *
    clear he
    go_wp2
    go_ret
    exact ⟨ret_int HM.out.symm, HB2.out⟩
  have h0 := rchk_pos_e he
  have HFL := Lib.hid (fun (hx : (xs.length : Int) = (hyp l).1) i (hi : i < l.length) pn (hpn : (tskAt l i).per = (pn : Nat)) => fill_law h0 he hx hi hpn)
  have HE := Lib.hid he
  obtain ⟨_, hh1, hh2⟩ := hyp_dvd h0 he
  have HM0 := Lib.hid (fun ho => chkT_off (xs := xs) he ho)
  have HM1 := Lib.hid (fun ho => chkT_on (xs := xs) he ho)
  rw [he]
  clear he
  generalize (hyp l).1 = H at *
  go_wp2_with fail
  refine (HOF.out _ HB2.out).mono ?_
  rintro e w3 ⟨rfl, hb⟩
  have HB3 := Lib.hid (HB2.out.trans hb)
  have HR3 := Lib.hid (HR2.out.bel hb)
  clear hb HB2 HR2 HOF
  cases ho : offsB l
  case true =>
    have HM := Lib.hid (HM0.out ho)
    clear ho
    go_wp2
    go_ret
    exact ⟨ret_int HM.out.symm, HB3.out⟩
  have HM := Lib.hid (HM1.out ho)
  have x3 := HR3.out.cell (i := 0) rfl
  have z3 := HR3.out.lt
  clear HM0 HM1 ho
  by_cases hlen : (xs.length : Int) = H
  case neg =>
    have q1 : ((xs.length : Int) == H) = false := by simpa using hlen
    have q1'' : decide ((xs.length : Int) = H) = false := by simpa using hlen
    have HM2 : Hid (chkT l xs = 2) := Lib.hid (by rw [HM.out, if_pos hlen])
    clear hlen
    go_wp2
    go_ret
    exact ⟨ret_int HM2.out.symm, HB3.out⟩
  have HM2 : Hid (chkT l xs = if xs.any (badK l) then 2 else if servesL l xs 0 l then 0 else 370) := Lib.hid (by rw [HM.out, if_neg (fun q => q hlen)])
  have HFL2 := Lib.hid (HFL.out hlen)
  subst hlen
  clear HM HFL
  have HBK : Hid ((xs.drop 0).any (badK l) = xs.any (badK l)) := Lib.hid rfl
  have HP3 := Lib.hid (HP.out.keep HB3.out.keeps HB3.out.le)
  have HT3 := Lib.hid (HT.out.keep HB3.out.keeps HB3.out.le)
  go_wp2
  go_loopg [7] xs.length (fun gk s7 wr => ∃ (k : Nat), k + gk = xs.length ∧ s7 = .int .i64 k ∧ wr = w3 ∧ (xs.drop k).any (badK l) = xs.any (badK l))
  case atStart => exact ⟨0, by omega, rfl, rfl, HBK.out⟩
  case round =>
    clear HBK
    obtain ⟨k, hk, rfl, hwr, hbk⟩ := hrel
    obtain rfl := hwr.symm
    clear hwr
    by_cases hlt : k < xs.length
    · have hdl : decide ((k : Int) < (xs.length : Int)) = true := by simp; omega
      have hkl : (k : Int) < (xs.length : Int) := by omega
      obtain ⟨bp, op, rfl, hbp, hcell⟩ := HP3.out.at_ (by omega)
      have cc := hcell k hlt
      rw [List.drop_eq_getElem_cons hlt, List.any_cons, show xs[k] = xs.getD k 0 by simp [List.getD, hlt]] at hbk
      clear hcell
      generalize xs.getD k 0 = d at *
      by_cases h1 : d < -1
      · have q1 : decide (d < -1) = true := by simpa using h1
        have HF : Hid (chkT l xs = 2) := Lib.hid (by rw [HM2.out, ← hbk]; simp [badK, h1])
        clear hbk h1
        go_wp2
        go_ret
        exact ⟨ret_int HF.out.symm, HB3.out⟩
      · have q1 : decide (d < -1) = false := by simpa using h1
        by_cases h2 : (l.length : Int) ≤ d
        · have q2 : decide ((l.length : Int) ≤ d) = true := by simpa using h2
          have HF : Hid (chkT l xs = 2) := Lib.hid (by rw [HM2.out, ← hbk]; simp [badK, h2])
          clear hbk h1 h2
          go_wp2
          go_ret
          exact ⟨ret_int HF.out.symm, HB3.out⟩
        · have q2 : decide ((l.length : Int) ≤ d) = false := by simpa using h2
          have HN : Hid ((xs.drop (k + 1)).any (badK l) = xs.any (badK l)) := Lib.hid (by
            have e : badK l d = false := by unfold badK; rw [q1, q2]; rfl
            rw [← hbk, e, Bool.false_or])
          clear hbk h1 h2
          go_wp2
          go_roundg (gk - 1)
          case measure => omega
          case rel => exact ⟨k + 1, by omega, by go_num, rfl, HN.out⟩
    · obtain rfl : k = xs.length := by omega
      have hdl : decide ((xs.length : Int) < (xs.length : Int)) = false := by simp
      have hbf : xs.any (badK l) = false := by rw [← hbk]; simp
      have HM3 : Hid (chkT l xs = if servesL l xs 0 l then 0 else 370) := Lib.hid (by rw [HM2.out, hbf]; rfl)
      have HKK := Lib.hid (badK_false hbf)
      have HSL : Hid (servesL l xs 0 (l.drop 0) = servesL l xs 0 l) := Lib.hid rfl
      clear hbk hbf HM2
      have hl8 := (rchk_ok h0).1
      go_wp2
      go_loopg [8] l.length (fun gk s8 wr => ∃ (i : Nat) (y : Ext w3), i + gk = l.length ∧ s8 = .int .i64 i ∧ wr = y.w ∧ servesL l xs i (l.drop i) = servesL l xs 0 l)
      case atStart => exact ⟨0, ⟨w3, Bel.refl⟩, by omega, rfl, rfl, HSL.out⟩
      case round =>
        clear HSL
        obtain ⟨i, y, hi, rfl, rfl, hs⟩ := hrel
        by_cases hli : i < l.length
        · have hdi : decide ((i : Int) < (l.length : Int)) = true := by simp; omega
          have hil : (i : Int) < (l.length : Int) := by omega
          have hpk := tok_at h0 hli
          have hp1 := hpk.p1
          have hp2 := hpk.p2
          obtain ⟨pn, hpn⟩ : ∃ pn : Nat, (tskAt l i).per = pn := ⟨(tskAt l i).per.toNat, by omega⟩
          obtain ⟨hfl, hpn1⟩ := HFL2.out i hli pn hpn
          rw [tsks_drop hli] at hs
          simp only [servesL] at hs
          have HJ := Lib.hid (fun c (hc : (c + 1) * pn ≤ xs.length) (z : Ext w3) => by
            have := job_any _ _ l i xs c z.w (HT3.out.keep z.bel.keeps z.bel.le) (HP3.out.keep z.bel.keeps z.bel.le) h0 hli hpl HKK.out hsz (by rw [hpn, Int.toNat_natCast]; exact hc)
            rw [hpn, Int.toNat_natCast] at this
            exact this)
          rw [hpn, Int.toNat_natCast] at hs
          obtain ⟨bt, ot, rfl, hbt, hAT⟩ := HT3.out.at_ (by omega)
          obtain ⟨sv, ⟨_, t1, _, _, _, _, _⟩, _⟩ := hAT i hli
          rw [hpn] at t1
          have HI : Hid (∀ f c, servesI l xs i (f + 1) c = if serveB l i (partN xs pn c) then servesI l xs i f (c + 1) else false) := Lib.hid (fun f c => by
            show (if serveB l i (partN xs (tskAt l i).per.toNat c) then servesI l xs i f (c + 1) else false) = _
            rw [hpn, Int.toNat_natCast])
          have hS := Lib.hid hs
          obtain ⟨n, hn⟩ : ∃ n, n = xs.length / pn := ⟨_, rfl⟩
          rw [← hn] at hfl hS
          clear hAT hs hpk hpn hn
          have HS0 : Hid (servesI l xs i (n - 0) 0 = servesI l xs i n 0) := Lib.hid rfl
          have HZ0 : Hid (((0 * pn : Nat) : Int) = 0) := Lib.hid (by simp)
          obtain ⟨G, hG⟩ : ∃ G, G = gk := ⟨_, rfl⟩
          rw [← hG] at hi
          go_wp2
          go_loopg [9] n (fun gk s9 wr => ∃ (c : Nat) (z : Ext w3), c + gk = n ∧ s9 = .int .i64 ((c * pn : Nat) : Int) ∧ wr = z.w ∧ servesI l xs i (n - c) c = servesI l xs i n 0)
          case atStart => exact ⟨0, y, by omega, by rw [HZ0.out], rfl, HS0.out⟩
          case round =>
            clear HS0 HZ0 y
            obtain ⟨c, z, hc, rfl, rfl, hsi⟩ := hrel
            by_cases hlc : c < n
            · have hmul : (c + 1) * pn ≤ n * pn := Nat.mul_le_mul_right _ (by omega)
              have hmul2 : (c + 1) * pn = c * pn + pn := by rw [Nat.add_mul, Nat.one_mul]
              have HJJ := Lib.hid (HJ.out c (by omega) z)
              rw [show n - c = (n - (c + 1)) + 1 by omega, HI.out] at hsi
              have hcx : c * pn + pn ≤ xs.length := by omega
              generalize hcp : c * pn = cp' at *
              have hdc : decide ((cp' : Int) < (xs.length : Int)) = true := by simp; omega
              have hwc : IntKind.i64.wrap ((cp' : Int) + (pn : Int)) = (cp' : Int) + (pn : Int) := IntWalk.i64_in _ (by omega)
              have HCP : Hid (((c + 1) * pn : Nat) = cp' + pn) := Lib.hid (by omega)
              have x3' := (ext_cells z p3 0 z3).trans x3
              have z3' := ext_lt z z3
              clear hmul hmul2 hcp
              generalize serveB l i (partN xs pn c) = sb at *
              have hfull : c * pn + pn ≤ xs.length → True := fun _ => trivial
              clear hfull
              cases sb
              · have HF : Hid (chkT l xs = 370) := Lib.hid (by
                  have e1 : servesI l xs i n 0 = false := by rw [← hsi]; rfl
                  have e2 : servesL l xs 0 l = false := by rw [← hS.out, e1]; rfl
                  rw [HM3.out, e2]; rfl)
                clear hsi
                go_wp2_with fail
                refine HJJ.out.mono ?_
                rintro e w' ⟨rfl, hb⟩
                go_wp2
                go_ret
                exact ⟨ret_int HF.out.symm, (HB3.out.trans z.bel).trans hb⟩
              · have HN : Hid (servesI l xs i (n - (c + 1)) (c + 1) = servesI l xs i n 0) := Lib.hid (by rw [← hsi]; rfl)
                clear hsi
                go_wp2_with fail
                refine HJJ.out.mono ?_
                rintro e w' ⟨rfl, hb⟩
                obtain ⟨z2, hz2⟩ := ext_of (z.bel.trans hb)
                clear hb HJJ x3' z3'
                subst hz2
                go_wp2
                go_roundg (gk - 1)
                case measure => omega
                case rel => exact ⟨c + 1, z2, by omega, by rw [HCP.out]; push_cast; rfl, rfl, HN.out⟩
            · obtain rfl : c = n := by omega
              have hdc : decide (((c * pn : Nat) : Int) < (xs.length : Int)) = false := by simp; omega
              have HN : Hid (servesL l xs (i + 1) (l.drop (i + 1)) = servesL l xs 0 l) := Lib.hid (by
                have e1 : servesI l xs i c 0 = true := by rw [← hsi, Nat.sub_self]; rfl
                rw [← hS.out, e1]; rfl)
              clear hsi
              generalize c * pn = cp' at *
              go_wp2
              go_roundg (G - 1)
              case measure => omega
              case rel => exact ⟨i + 1, z, by omega, by go_num, rfl, HN.out⟩
        · obtain rfl : i = l.length := by omega
          have hdi : decide ((l.length : Int) < (l.length : Int)) = false := by simp
          have HF : Hid (chkT l xs = 0) := Lib.hid (by rw [HM3.out, ← hs, List.drop_length]; rfl)
          clear hs
          go_wp2
          go_ret
          exact ⟨ret_int HF.out.symm, HB3.out.trans y.bel⟩
end Go.Proofs.Ytbilfpoghohddaa
/- tables.Make: the model. -/
namespace Go.Proofs.Ytbilfpoghohddaa
open Go.RowKit
def intsC (xs : List Int) : List Value := xs.map (Value.int .i64)
def fillS (tk : Int) : Nat → Nat → List Int → List Int
  | 0, _, xs => xs
  | n + 1, t, xs => fillS tk n (t + 1) (xs.set t tk)
def paintS : List Stn → List Int → List Int
  | [], xs => xs
  | p :: ps, xs => paintS ps (fillS p.tk (p.to - p.frm).toNat p.frm.toNat xs)
def missD (d : Don) : Bool := d.miss
def makeT (l : List Tsk) (pol : Int) : List Int × Int :=
  if (hypO l).2 = 0 then
    if (scheduleM l pol (hypO l).1).2.2 = 0 then
      if (scheduleM l pol (hypO l).1).2.1.any missD then ([], 370) else (paintS (scheduleM l pol (hypO l).1).1 (List.replicate (hypO l).1.toNat (-1)), 0)
    else ([], (scheduleM l pol (hypO l).1).2.2)
  else ([], (hypO l).2)
theorem fillS_len (tk : Int) : ∀ (n t : Nat) (xs : List Int), (fillS tk n t xs).length = xs.length
  | 0, _, _ => rfl
  | n + 1, t, xs => by unfold fillS; rw [fillS_len tk n]; simp
theorem paintS_len : ∀ (ss : List Stn) (xs : List Int), (paintS ss xs).length = xs.length
  | [], _ => rfl
  | p :: ps, xs => by unfold paintS; rw [paintS_len ps, fillS_len]
theorem fillS_at (tk : Int) : ∀ (n t : Nat) (xs : List Int) (k : Nat), t + n ≤ xs.length → (fillS tk n t xs).getD k 0 = if t ≤ k ∧ k < t + n then tk else xs.getD k 0
  | 0, t, xs, k, _ => by simp [fillS]; omega
  | n + 1, t, xs, k, h => by
    unfold fillS
    rw [fillS_at tk n (t + 1) _ k (by simp; omega)]
    by_cases h1 : t = k
    · subst h1
      rw [if_neg (by omega), if_pos (by omega)]
      simp [List.getD, show t < xs.length by omega]
    · by_cases h2 : t ≤ k ∧ k < t + (n + 1)
      · rw [if_pos h2, if_pos (by omega)]
      · rw [if_neg h2, if_neg (by omega)]
        simp [List.getD, List.getElem?_set, h1]
theorem stints_in {l : List Tsk} (h0 : rchk l = 0) (pol : Int) {n : Nat} (hn : n ≤ 20000) {s : Stn} (hs : s ∈ (scheduleM l pol n).1) :
    0 ≤ s.frm ∧ s.frm < s.to ∧ s.to ≤ n ∧ 0 ≤ s.tk ∧ s.tk < l.length := by
  by_cases hp : pol ≠ 1 ∧ (pol ≠ 2 ∨ secsB l = true)
  · unfold scheduleM at hs
    rw [if_pos h0, if_pos (.inl hp)] at hs
    cases hs
  · rw [sched_ok h0 hp hn] at hs
    have hT := upTo_TI h0 pol n
    have ho := hT.order h0
    dsimp only at hs
    obtain ⟨pre, post, e⟩ := List.append_of_mem hs
    have hk := hT.st pre s post e
    have hl := (sum_bd 0 0 _ pre rfl (fun a x b q => hT.st a x (b ++ s :: post) (by rw [e, q]; simp))).2.2.1
    obtain ⟨k, hkl, ⟨e1, _⟩, _⟩ := hk.fd
    have := (hT.jr k hkl).tk
    have := hk.fr
    have := hk.ft
    have := hk.tt
    omega
end Go.Proofs.Ytbilfpoghohddaa
namespace Go.Proofs.Ytbilfpoghohddaa
open Go.RowKit
theorem offsB_eq (l : List Tsk) : l.any hasOff = offsB l := rfl
set_option maxRecDepth 100000 in
set_option maxHeartbeats 4000000 in
theorem hyperO_any (v : Value) (l : List Tsk) (w : World) (h : TsksAt w w.heap.size v l) (hs : Sized l) :
    Calls Try.prog 40 #[v] w fun e w' => e = .returned (.tuple #[.int .i64 (hypO l).1, .int .i64 (hypO l).2]) ∧ Bel w w' := by
  have HH := Lib.hid (hyper_any checkP v l w h hs)
  have HA := Lib.hid (fun (W : World) (hW : Bel w W) => hyp1_has v l W (h.keep hW.keeps hW.le) hs.len)
  obtain ⟨A, c, rfl, _⟩ := h.form
  clear h
  go_enter Try.func40, Try.ntmps40
  go_wp2_with fail
  refine HH.out.mono ?_
  rintro e w2 ⟨rfl, hb⟩
  by_cases he : (hyp l).2 = 0
  case neg =>
    have HM : Hid (hypO l = hyp l) := Lib.hid (by unfold hypO; rw [if_neg (fun q => he q.1)])
    have q1 : ((hyp l).2 == 0) = false := by simpa using he
    generalize hyp l = hy at *
    obtain ⟨H, er⟩ := hy
    dsimp only at *
    clear he
    go_wp2
    go_ret2
    exact ⟨by rw [HM.out]; rfl, hb⟩
  have HM0 : Hid (offsB l = true → hypO l = ((hyp l).1, 2)) := Lib.hid (fun ho => by unfold hypO; rw [if_pos ⟨he, ho⟩])
  have HM1 : Hid (offsB l = false → hypO l = ((hyp l).1, 0)) := Lib.hid (fun ho => by unfold hypO; rw [if_neg (fun q => by rw [ho] at q; cases q.2), ← he])
  rw [he]
  clear he
  generalize (hyp l).1 = H at *
  go_wp2_with fail
  refine (HA.out _ hb).mono ?_
  rintro e w3 ⟨rfl, hb3⟩
  rw [offsB_eq]
  cases ho : offsB l
  · have HM := Lib.hid (HM1.out ho)
    clear ho
    go_wp2
    go_ret2
    exact ⟨by rw [HM.out]; rfl, hb.trans hb3⟩
  · have HM := Lib.hid (HM0.out ho)
    clear ho
    go_wp2
    go_ret2
    exact ⟨by rw [HM.out]; rfl, hb.trans hb3⟩
end Go.Proofs.Ytbilfpoghohddaa
