import Derived.Test.YtalphoebmefgoaaG38
import Derived.Test.YtalphoebmefgoaaG39
/- poly.Has. -/
namespace Go.Proofs.Ytalphoebmefgoaa
open Go.RowKit
def badR (r : Rt) : Bool := !rval r
def idxR (f : Rt → Bool) : List Rt → Nat → Int
  | [], _ => -1
  | x :: l, i => if f x then (i : Int) else idxR f l (i + 1)
theorem idxR_any (f : Rt → Bool) : ∀ (l : List Rt) (i : Nat), decide (0 ≤ idxR f l i) = l.any f
  | [], i => by simp [idxR]
  | x :: l, i => by
    unfold idxR
    rw [List.any_cons]
    cases h : f x
    · rw [if_neg (by simp), idxR_any f l (i + 1)]; simp
    · rw [if_pos rfl]; simp
theorem rats_drop {p : List Rt} {k : Nat} (h : k < p.length) : p.drop k = rtAt p k :: p.drop (k + 1) := by
  rw [List.drop_eq_getElem_cons h, rtAt_get h]
set_option maxRecDepth 100000 in
set_option maxHeartbeats 4000000 in
theorem has1_one (x : Rt) (w : World) (hx : x.wf) :
    Calls Try.prog 63 #[.agg #[.int .i64 x.num, .int .i64 x.den]] w fun e w' => e = .returned (.bool (badR x)) ∧ Bel w w' := by
  have HV := Lib.hid (fun W => pval_any x W hx)
  have HR : Hid ((!rval x) = badR x) := Lib.hid rfl
  generalize rval x = r at *
  unfold Rt.V at HV
  go_enter Try.func63, Try.ntmps63
  go_wp2_with fail
  refine (HV.out _).mono ?_
  rintro e w2 ⟨rfl, hB⟩
  have HB := Lib.hid ((Bel.refl.alloc _).trans hB)
  clear hB
  go_wp2
  go_ret
  exact ⟨ret_bool (by rw [← HR.out]), HB.out⟩
set_option maxRecDepth 100000 in
set_option maxHeartbeats 4000000 in
theorem has1_idx (sv : Value) (l : List Rt) (w : World) (h : RatsAt w w.heap.size sv l) (hl : l.length ≤ 1000000) (hw : ∀ r, r ∈ l → r.wf) :
    Calls Try.prog 96 #[sv, .func (.func 63) #[] #[]] w fun e w' => e = .returned (.int .i64 (idxR badR l 0)) ∧ Bel w w' := by
  obtain ⟨A, c, rfl, hc, hA⟩ := h
  have HA := Lib.hid hA
  have HW := Lib.hid hw
  clear hA hw
  go_enter Try.func96, Try.ntmps96
  go_wp2
  go_loopw [8] (fun si wr => ∃ (j : Nat) (z : Ext w), j ≤ l.length ∧ si = .int .i64 j ∧ wr = z.w ∧ idxR badR (l.drop j) j = idxR badR l 0) (fun si _ => l.length - (intOf si).toNat)
  case atStart => exact ⟨0, ⟨w, Bel.refl⟩, by omega, rfl, rfl, rfl⟩
  case round =>
    obtain ⟨j, x, hj, rfl, rfl, hd⟩ := hrel
    by_cases hlt : j < l.length
    · rw [rats_drop hlt] at hd
      obtain ⟨b, off, rfl, hb, hA⟩ := HA.out (by omega)
      obtain ⟨t0, t1⟩ := rd_rat hA hlt
      clear hA
      have HH := fun (y : Ext w) => has1_one (rtAt l j) y.w (HW.out _ (rtAt_mem hlt))
      generalize rtAt l j = R at *
      cases hh : badR R
      · have HD : Hid (idxR badR (l.drop (j + 1)) (j + 1) = idxR badR l 0) := Lib.hid (by rw [← hd]; simp only [idxR, hh]; rfl)
        rw [hh] at HH
        replace HH := Lib.hid HH
        clear hd hh
        go_wp2_with (first | (go_at_call 63; (with_reducible refine (HH.out _).mono ?_); rintro e w2 ⟨rfl, hb2⟩; obtain ⟨x, rfl⟩ : ∃ x : Ext w, w2 = x.w := ext_of (hb2.after (by (repeat (first | exact Ext.bel _ | exact Bel.refl | refine Bel.alloc ?_ _ | refine Bel.drew ?_ | refine Bel.drewN ?_ _)))); clear hb2))
        go_roundw
        case rel => exact ⟨j + 1, x, by omega, by go_num, rfl, HD.out⟩
        case measure => simp [intOf]; omega
      · have HD : Hid (idxR badR l 0 = (j : Int)) := Lib.hid (by rw [← hd]; simp only [idxR, hh]; rfl)
        rw [hh] at HH
        replace HH := Lib.hid HH
        clear hd hh
        go_wp2_with (first | (go_at_call 63; (with_reducible refine (HH.out _).mono ?_); rintro e w2 ⟨rfl, hb2⟩; obtain ⟨x, rfl⟩ : ∃ x : Ext w, w2 = x.w := ext_of (hb2.after (by (repeat (first | exact Ext.bel _ | exact Bel.refl | refine Bel.alloc ?_ _ | refine Bel.drew ?_ | refine Bel.drewN ?_ _)))); clear hb2))
        go_ret
        exact ⟨ret_int HD.out.symm, x.bel⟩
    · obtain rfl : j = l.length := by omega
      have HD : Hid (idxR badR l 0 = -1) := Lib.hid (by rw [← hd]; simp [idxR])
      clear hd
      go_wp2
      go_ret
      exact ⟨ret_int HD.out.symm, x.bel⟩
set_option maxHeartbeats 1000000 in
theorem has1_has (sv : Value) (l : List Rt) (w : World) (h : RatsAt w w.heap.size sv l) (hl : l.length ≤ 1000000) (hw : ∀ r, r ∈ l → r.wf) :
    Calls Try.prog 62 #[sv, .func (.func 63) #[] #[]] w fun e w' => e = .returned (.bool (l.any badR)) ∧ Bel w w' := by
  have HK := Lib.hid (has1_idx sv l w h hl hw)
  have HR := Lib.hid (idxR_any badR l 0)
  obtain ⟨A, c, rfl, hc⟩ := h.form
  generalize idxR badR l 0 = n at *
  clear h
  go_enter Try.func62, Try.ntmps62
  go_wp2_with (first | (go_at_call 96; (with_reducible refine (HK.out).mono ?_); rintro e w2 ⟨rfl, hb2⟩; obtain ⟨x, rfl⟩ : ∃ x : Ext w, w2 = x.w := ext_of (hb2.after (by (repeat (first | exact Ext.bel _ | exact Bel.refl | refine Bel.alloc ?_ _ | refine Bel.drew ?_ | refine Bel.drewN ?_ _)))); clear hb2))
  go_ret
  exact ⟨ret_bool (by rw [← HR.out]), x.bel⟩
/-- does a point meet a line, whose sum is known -/
def meetB (t : Rt) (b : Int) (s : Bool) : Bool := decide ((rcmp t ⟨b, 1⟩).1 < 0) || decide ((rcmp t ⟨b, 1⟩).1 = 0) && !s
def hasF (p : List Rt) : List Ln → Bool → Bool × Int
  | [], all => (all, 0)
  | x :: t, all => if (totL x.a p).2 ≠ 0 then (false, (totL x.a p).2) else hasF p t (all && meetB (totL x.a p).1 x.b x.s)
def hasM (n : Int) (l : List AL) (p : List Rt) : Bool × Int :=
  if checkM n l ≠ 0 then (false, checkM n l) else if (p.length : Int) ≠ n ∨ p.any badR = true then (false, 2) else hasF p (padAll l) true
theorem lns_drop {l : List Ln} {k : Nat} (h : k < l.length) : l.drop k = lnAt l k :: l.drop (k + 1) := by
  rw [List.drop_eq_getElem_cons h, lnAt_get h]
set_option maxRecDepth 100000 in
set_option maxHeartbeats 8000000 in
theorem has_any (n : Int) (v pv : Value) (l : List AL) (p : List Rt) (w : World) (h : LinesAt w w.heap.size v l) (hl : AlLens l) (hn : l.length ≤ 1000000) (hp : RatsAt w w.heap.size pv p) (hpl : p.length ≤ 1000000) (hw : ∀ r, r ∈ p → r.wf) :
    Calls Try.prog 32 #[.int .i64 n, v, pv] w (BoPost (hasM n l p) w) := by
  have H := Lib.hid h
  have HP := Lib.hid hp
  have HPW := Lib.hid hw
  have HCK := Lib.hid (check_any n v l w h hl hn)
  obtain ⟨A, c, rfl, hc⟩ := h.form
  obtain ⟨Ap, cp, rfl, hcp⟩ := hp.form
  clear h hl hp hw
  go_enter Try.func32, Try.ntmps32
  go_wp2_with fail
  refine HCK.out.mono ?_
  rintro e w1 ⟨rfl, hB⟩
  have HB1 := Lib.hid hB
  clear hB HCK
  by_cases hck : checkM n l = 0
  · have HC := Lib.hid hck
    rw [hck]
    have h0 : ((0 : Int) != 0) = false := rfl
    obtain ⟨hn5, hl1, _⟩ := check_fits hck
    have HM : Hid (hasM n l p = if (p.length : Int) ≠ n ∨ p.any badR = true then (false, 2) else hasF p (padAll l) true) := Lib.hid (by unfold hasM; rw [if_neg (by simp [hck])])
    clear hck
    by_cases hpn : (p.length : Int) = n
    · have d1 : ((p.length : Int) != n) = false := by simp [hpn]
      have hp5 : p.length ≤ 5 := by omega
      have HHAS := Lib.hid (has1_has _ p w1 (HP.out.bel HB1.out) hpl HPW.out)
      have HPN := Lib.hid hpn
      clear hpn hn5
      go_wp2_with fail
      refine HHAS.out.mono ?_
      rintro e w2 ⟨rfl, hB⟩
      have HB2 := Lib.hid (HB1.out.trans hB)
      clear hB HHAS
      cases hbad : p.any badR
      case true =>
        have HF : Hid (BoPost (hasM n l p) w (.returned (.tuple #[.bool false, .int .i64 2])) w2) := Lib.hid ⟨by rw [HM.out, if_pos (.inr hbad)], HB2.out⟩
        clear hbad HM
        go_wp2
        go_ret2
        exact HF.out
      have HM2 : Hid (hasM n l p = hasF p (padAll l) true) := Lib.hid (by rw [HM.out, if_neg]; rw [hbad]; simp [HPN.out])
      clear hbad HM
      have HOF := Lib.hid (of_any _ l w2 (H.out.bel HB2.out) (by omega) (check_lens HC.out))
      have HPI := Lib.hid (pad_inr HC.out)
      go_wp2_with fail
      refine HOF.out.mono ?_
      rintro e w3 ⟨b, rfl, hb, hB, hr⟩
      have HB3 := Lib.hid (HB2.out.trans hB)
      have HLN := Lib.hid (OfPost.lns hb (by omega) hr)
      have hpll := pad_len l
      have hll : (padAll l).length ≤ 1000 := by omega
      rw [← hpll] at HLN ⊢
      clear hb hB hr HOF hpll
      generalize padAll l = ls at *
      go_wp2
      go_loopw [9, 33] (fun s9 s33 wq => ∃ (k : Nat) (y : Ext w3) (al : Bool), k ≤ ls.length ∧ s9 = .bool al ∧ s33 = .int .i64 k ∧ wq = y.w ∧ hasF p (ls.drop k) al = hasM n l p) (fun _ s33 _ => ls.length + 1 - (intOf s33).toNat)
      case atStart => exact ⟨0, ⟨_, Bel.refl⟩, true, Nat.zero_le _, rfl, rfl, rfl, HM2.out.symm⟩
      case round =>
        obtain ⟨k, y, al, hk, rfl, rfl, rfl, hf⟩ := hrel
        have HB := Lib.hid (HB3.out.trans y.bel)
        by_cases hlt : k < ls.length
        · have hd : decide ((k : Int) < (ls.length : Int)) = true := by simp; omega
          have hL : (k : Int) < (ls.length : Int) := by omega
          have wk : IntKind.i64.wrap ((k : Int) + 1) = ((k + 1 : Nat) : Int) := IntWalk.i64_in _ (by omega)
          obtain ⟨g, off, e1, hg, hcl⟩ := (HLN.out.keep y.bel.keeps y.bel.le).at_ (by omega)
          injection e1 with e1
          injection e1 with e1 e2
          subst e1; subst e2
          obtain ⟨x0, x1, x2, x3, x4, x5, x6, x7⟩ := rd_line hcl hlt
          simp only [Nat.zero_add] at x0 x1 x2 x3 x4 x5 x6 x7
          clear hcl
          rw [lns_drop hlt] at hf
          have HXI := Lib.hid (HPI.out _ (lnAt_mem hlt))
          generalize lnAt ls k = X at *
          have HF2 : Hid ((if (totL X.a p).2 ≠ 0 then (false, (totL X.a p).2) else hasF p (ls.drop (k + 1)) (al && meetB (totL X.a p).1 X.b X.s)) = hasM n l p) := Lib.hid hf
          have HTO := Lib.hid (fun W (hW : Bel y.w W) => total_any X _ p W HXI.out (by omega) (HP.out.bel (HB.out.trans hW)) HPW.out)
          have HTW := Lib.hid (tot_wf X.a p)
          clear hf
          generalize totL X.a p = M at *
          obtain ⟨⟨tn, td⟩, er⟩ := M
          unfold rresV Rt.V at HTO
          simp only at HTO HF2 HTW
          have HCP := Lib.hid (fun W => prcmp_any ⟨tn, td⟩ ⟨X.b, 1⟩ W HTW.out (one_wf HXI.out.b))
          unfold Rt.V intV at HCP
          have hbx := RowAt.new y.w 72 X.cells
          go_wp2_with fail
          refine (HTO.out _ (Bel.refl.alloc _)).mono ?_
          rintro e w4 ⟨rfl, hB⟩
          have hB4 : Bel y.w w4 := (Bel.refl.alloc _).trans hB
          have rx := hbx.bel hB
          clear hB hbx x0 x1 x2 x3 x4 x5 x6 x7 hg
          obtain ⟨px, hpx⟩ : ∃ b, b = y.w.heap.size := ⟨_, rfl⟩
          rw [← hpx] at rx ⊢
          have HB4 := Lib.hid hB4
          have HPX := Lib.hid hpx
          clear hB4 hpx
          have HRX := Lib.hid rx
          have lx := rx.lt
          clear rx
          by_cases her : er = 0
          · subst her
            have h0' : ((0 : Int) != 0) = false := rfl
            have HF3 : Hid (hasF p (ls.drop (k + 1)) (al && meetB ⟨tn, td⟩ X.b X.s) = hasM n l p) := Lib.hid (by have := HF2.out; rwa [if_neg (by simp)] at this)
            have hMB : meetB ⟨tn, td⟩ X.b X.s = (decide ((rcmp ⟨tn, td⟩ ⟨X.b, 1⟩).1 < 0) || decide ((rcmp ⟨tn, td⟩ ⟨X.b, 1⟩).1 = 0) && !X.s) := rfl
            rw [hMB] at HF3
            clear hMB HF2
            have hbx2 := HRX.out.alloc (.cells #[.int .i64 tn, .int .i64 td] 41)
            have c6 := hbx2.cell (i := 6) rfl
            have c7 := hbx2.cell (i := 7) rfl
            have HBX2 := Lib.hid hbx2
            clear hbx2
            generalize rcmp ⟨tn, td⟩ ⟨X.b, 1⟩ = C at *
            obtain ⟨ck, ce⟩ := C
            simp only at HCP HF3
            go_wp2_with fail
            refine (HCP.out _).mono ?_
            rintro e w5 ⟨rfl, hB⟩
            have HB5 := Lib.hid (HB4.out.trans ((Bel.refl.alloc _).trans hB))
            have rx5 := HBX2.out.bel hB
            have c7 := rx5.cell (i := 7) rfl
            have l7 := rx5.lt
            clear hB HBX2 rx5 HRX c6
            obtain ⟨res, hres⟩ : ∃ res, (al && (decide (ck < 0) || decide (ck = 0) && !X.s)) = res := ⟨_, rfl⟩
            have HRES := Lib.hid hres
            rw [hres] at HF3
            go_upto_region 14 with (fail)
            cases al
            · have : res = false := by rw [← hres]; rfl
              subst this
              clear hres
              go_wp2
              go_roundw
              case rel => exact ⟨k + 1, ⟨_, y.bel.trans HB5.out⟩, _, hlt, rfl, by go_num, rfl, HF3.out⟩
              case measure => simp [intOf]; omega
            · by_cases h1 : ck < 0
              · have d1 : decide (ck < 0) = true := decide_eq_true h1
                have : res = true := by rw [← hres, d1]; rfl
                subst this
                clear hres h1
                go_wp2
                go_roundw
                case rel => exact ⟨k + 1, ⟨_, y.bel.trans HB5.out⟩, _, hlt, rfl, by go_num, rfl, HF3.out⟩
                case measure => simp [intOf]; omega
              · have d1 : decide (ck < 0) = false := decide_eq_false h1
                by_cases h2 : ck = 0
                · have d2 : (ck == 0) = true := by simp [h2]
                  have : res = !X.s := by rw [← hres, d1, decide_eq_true h2]; rfl
                  subst this
                  clear hres h1 h2
                  go_wp2
                  go_roundw
                  case rel => exact ⟨k + 1, ⟨_, y.bel.trans HB5.out⟩, _, hlt, rfl, by go_num, rfl, HF3.out⟩
                  case measure => simp [intOf]; omega
                · have d2 : (ck == 0) = false := by simp [h2]
                  have : res = false := by rw [← hres, d1, decide_eq_false h2]; rfl
                  subst this
                  clear hres h1 h2
                  go_wp2
                  go_roundw
                  case rel => exact ⟨k + 1, ⟨_, y.bel.trans HB5.out⟩, _, hlt, rfl, by go_num, rfl, HF3.out⟩
                  case measure => simp [intOf]; omega
          · have h0' : (er != 0) = true := by simp [her]
            have HF : Hid (BoPost (hasM n l p) w (.returned (.tuple #[.bool false, .int .i64 er])) (w4.alloc (.cells #[.int .i64 tn, .int .i64 td] 41))) := Lib.hid ⟨by have := HF2.out; rw [if_pos her] at this; rw [← this], (HB.out.trans HB4.out).alloc _⟩
            clear her HF2
            go_wp2
            go_ret2
            exact HF.out
        · obtain rfl : k = ls.length := by omega
          have hd : decide ((ls.length : Int) < (ls.length : Int)) = false := by simp
          have HF : Hid (BoPost (hasM n l p) w (.returned (.tuple #[.bool al, .int .i64 0])) y.w) := Lib.hid ⟨by rw [← hf, List.drop_length]; rfl, HB.out⟩
          clear hf
          go_wp2
          go_ret2
          exact HF.out
    · have d1 : ((p.length : Int) != n) = true := by simp [hpn]
      have HF : Hid (BoPost (hasM n l p) w (.returned (.tuple #[.bool false, .int .i64 2])) w1) := Lib.hid ⟨by rw [HM.out, if_pos (.inl hpn)], HB1.out⟩
      clear hpn HM
      go_wp2
      go_ret2
      exact HF.out
  · have h0 : (checkM n l != 0) = true := by simp [hck]
    have HF : Hid (BoPost (hasM n l p) w (.returned (.tuple #[.bool false, .int .i64 (checkM n l)])) w1) := Lib.hid (by
      have e : hasM n l p = (false, checkM n l) := by unfold hasM; rw [if_pos hck]
      exact ⟨by rw [e], HB1.out⟩)
    clear hck
    generalize checkM n l = er at *
    go_wp2
    go_ret2
    exact HF.out
end Go.Proofs.Ytalphoebmefgoaa
/- poly.ends: its closure: a bound is taken, if it leaves less. -/
namespace Go.Proofs.Ytalphoebmefgoaa
open Go.RowKit
structure En where
  n : Int
  d : Int
  is : Bool
  op : Bool
deriving DecidableEq
def En.cells (e : En) : List Value := [.int .i64 e.n, .int .i64 e.d, .bool e.is, .bool e.op]
def En.V (e : En) : Value := .agg #[.int .i64 e.n, .int .i64 e.d, .bool e.is, .bool e.op]
def En.at_ (e : En) : Rt := ⟨e.n, e.d⟩
def zeroE : En := ⟨0, 0, false, false⟩
def nearK (e : En) (r : Rt) (sign : Int) : Int := if e.is then (rcmp r e.at_).1 * sign else -1
def nearM (e : En) (r : Rt) (o : Bool) (sign : Int) : En := if nearK e r sign < 0 then ⟨r.num, r.den, true, o⟩ else if nearK e r sign = 0 then { e with op := e.op || o } else e
theorem rcmp_r (a b : Rt) : (rcmp a b).1 = -1 ∨ (rcmp a b).1 = 0 ∨ (rcmp a b).1 = 1 := by
  unfold rcmp
  split
  · simp only
    split
    · exact .inl rfl
    · split
      · exact .inr (.inr rfl)
      · exact .inr (.inl rfl)
  · exact .inr (.inl rfl)
theorem near_wf {e : En} {r : Rt} (h : e.at_.wf) (hr : r.wf) (o : Bool) (sign : Int) : (nearM e r o sign).at_.wf := by
  unfold nearM
  split
  · exact ⟨hr.n, hr.d⟩
  · split
    · exact h
    · exact h
set_option maxRecDepth 100000 in
set_option maxHeartbeats 8000000 in
theorem nearer_any (p : Nat) (e : En) (r : Rt) (o : Bool) (sign : Int) (w : World) (hs : sign = 1 ∨ sign = -1) (he : RowAt w p 76 e.cells) (hew : e.at_.wf) (hr : r.wf) :
    Calls Try.prog 84 #[.pointer (some ⟨p, 0, none⟩), .agg #[.int .i64 r.num, .int .i64 r.den], .bool o, .int .i64 sign] w fun en w' => en = .returned (.tuple #[]) ∧ RowAt w' p 76 (nearM e r o sign).cells ∧ GrsOk w [p] w' := by
  have HE := Lib.hid he
  have HCP := Lib.hid (fun W => prcmp_any r e.at_ W hr hew)
  have HNK : Hid (nearK e r sign = if e.is then (rcmp r e.at_).1 * sign else -1) := Lib.hid rfl
  have HNM : Hid (nearM e r o sign = if nearK e r sign < 0 then ⟨r.num, r.den, true, o⟩ else if nearK e r sign = 0 then { e with op := e.op || o } else e) := Lib.hid rfl
  have HCR := Lib.hid (rcmp_r r e.at_)
  generalize rcmp r e.at_ = C at *
  unfold Rt.V intV En.at_ at HCP
  clear he hew hr
  go_enter Try.func84, Try.ntmps84
  go_upto_region 2 with (fail)
  generalize hW : World.alloc w _ = w1 at *
  have rx : RowAt w1 w.heap.size 41 [.int .i64 r.num, .int .i64 r.den] := by rw [← hW]; exact RowAt.new _ _ _
  have hb1 : Bel w w1 := by rw [← hW]; exact Bel.refl.alloc _
  clear hW
  have hpx : p ≠ w.heap.size := by have := HE.out.lt; omega
  obtain ⟨px, hpx2⟩ : ∃ b, b = w.heap.size := ⟨_, rfl⟩
  rw [← hpx2] at rx hpx ⊢
  clear hpx2
  have re := HE.out.bel hb1
  have HB1 := Lib.hid hb1
  have HRE := Lib.hid re
  have HRX := Lib.hid rx
  have a0 := rx.cell (i := 0) rfl
  have a1 := rx.cell (i := 1) rfl
  have lx := rx.lt
  have e0 := re.cell (i := 0) rfl
  have e1 := re.cell (i := 1) rfl
  have e2 := re.cell (i := 2) rfl
  have e3 := re.cell (i := 3) rfl
  have le := re.lt
  clear rx re hb1
  obtain ⟨k, hk⟩ : ∃ k, nearK e r sign = k := ⟨_, rfl⟩
  rw [hk] at HNK HNM
  clear hk
  go_upto_if 12 with (fail)
  go_cut [8] from 8 to 24 (fun s8 wx => s8 = .int .i64 k ∧ ∃ z : Ext w1, wx = z.w)
  case first =>
    cases his : e.is
    · rw [his] at e2
      have HK : Hid (k = -1) := Lib.hid (by rw [HNK.out, his]; rfl)
      clear his
      go_wp2
      go_meet
      case rel => exact ⟨by rw [HK.out], ⟨_, Bel.refl⟩, rfl⟩
    · rw [his] at e2
      have hk2 : k = C.1 * sign := by rw [HNK.out, his]; rfl
      have wk : IntKind.i64.wrap (C.1 * sign) = k := by rw [← hk2]; exact IntWalk.i64_in _ (by
        rcases HCR.out with h | h | h <;> rcases hs with h2 | h2 <;> rw [hk2, h, h2] <;> decide)
      have w64 : wrap64 (C.1 * sign) = k := by
        rw [← hk2]
        refine wrap_small _ ?_ ?_ <;> (rcases HCR.out with h | h | h <;> rcases hs with h2 | h2 <;> rw [hk2, h, h2] <;> decide)
      clear his hk2
      go_upto_region 3 with (fail)
      (refine wp_region_ext (wb := w1) (by (repeat (first | exact Ext.bel _ | exact Bel.refl | refine Bel.alloc ?_ _ | refine Bel.drew ?_ | refine Bel.drewN ?_ _))) (by kernel_rfl) (by kernel_rfl) ?_; (repeat (any_goals (first | go_big_quiet_step ((go_at_call 48; with_reducible exact ext_call (HCP.out _))) | quiet_step ((go_at_call 48; with_reducible exact ext_call (HCP.out _))) | (refine wpQuiet_step (fun K hK => ?_); go_simp; split <;> (refine hK _ ?_; clear hK K))))); all_goals (refine wpQuiet_nil ?_; intro _ hw'; obtain ⟨y, hw''⟩ := hw'; subst hw''))
      go_wp2
      go_meet
      case rel => exact ⟨rfl, y, rfl⟩
  case rest =>
    obtain ⟨rfl, z, rfl⟩ := hcut
    have re := HRE.out.bel z.bel
    have rx := HRX.out.bel z.bel
    have HRE2 := Lib.hid re
    have HBZ := Lib.hid (HB1.out.trans z.bel)
    clear e0 e1 e2 e3 le a0 a1 lx
    have a0 := rx.cell (i := 0) rfl
    have a1 := rx.cell (i := 1) rfl
    have lx := rx.lt
    have e0 := re.cell (i := 0) rfl
    have e1 := re.cell (i := 1) rfl
    have e2 := re.cell (i := 2) rfl
    have e3 := re.cell (i := 3) rfl
    have fz := fun q => re.frozen q
    have le := re.lt
    have HGZ : Hid (GrsOk w [p] z.w) := Lib.hid (grs_bel (grs_refl w [p]) HBZ.out)
    clear re rx
    by_cases h1 : k < 0
    · have d1 : decide (k < 0) = true := decide_eq_true h1
      have HF : Hid (nearM e r o sign = ⟨r.num, r.den, true, o⟩) := Lib.hid (by rw [HNM.out, if_pos h1])
      have HR9 := Lib.hid ((((HRE2.out.set 0 (.int .i64 r.num)).set 1 (.int .i64 r.den)).set 2 (.bool true)).set 3 (.bool o))
      have HG9 := Lib.hid (grs_set (grs_set (grs_set (grs_set HGZ.out p (by simp) 0 (.int .i64 r.num)) p (by simp) 1 (.int .i64 r.den)) p (by simp) 2 (.bool true)) p (by simp) 3 (.bool o))
      clear h1 HNM
      go_wp2
      generalize World.setCell (World.setCell _ _ _) _ _ = W9 at *
      go_end0
      exact ⟨rfl, by rw [HF.out]; exact HR9.out, HG9.out⟩
    · have d1 : decide (k < 0) = false := decide_eq_false h1
      by_cases h2 : k = 0
      · have d2 : (k == 0) = true := by simp [h2]
        have HF : Hid (nearM e r o sign = { e with op := e.op || o }) := Lib.hid (by rw [HNM.out, if_neg h1, if_pos h2])
        have HR9 := Lib.hid (HRE2.out.set 3 (.bool (e.op || o)))
        have HG9 := Lib.hid (grs_set HGZ.out p (by simp) 3 (.bool (e.op || o)))
        clear h1 h2 HNM
        cases ho : e.op
        all_goals
          rw [ho] at e3 HR9 HG9 HF
          simp only [Bool.true_or, Bool.false_or] at HR9 HG9 HF
          go_wp2
          generalize World.setCell _ _ _ = W9 at *
          go_end0
          exact ⟨rfl, by rw [HF.out]; exact HR9.out, HG9.out⟩
      · have d2 : (k == 0) = false := by simp [h2]
        have HF : Hid (nearM e r o sign = e) := Lib.hid (by rw [HNM.out, if_neg h1, if_neg h2])
        clear h1 h2 HNM
        go_wp2
        go_end0
        exact ⟨rfl, by rw [HF.out]; exact HRE2.out, HGZ.out⟩
end Go.Proofs.Ytalphoebmefgoaa
/- poly.ends. -/
namespace Go.Proofs.Ytalphoebmefgoaa
open Go.RowKit
def valE (x : Ln) (p : List Rt) : Option Rt :=
  if (totL x.a p).2 ≠ 0 then none else if (rsub ⟨x.b, 1⟩ (totL x.a p).1).2 ≠ 0 then none
  else if (rquo (rsub ⟨x.b, 1⟩ (totL x.a p).1).1 ⟨ci x p.length, 1⟩).2 ≠ 0 then none else some (rquo (rsub ⟨x.b, 1⟩ (totL x.a p).1).1 ⟨ci x p.length, 1⟩).1
def endsF (p : List Rt) : List Ln → En → En → En × En × Int
  | [], lo, hi => (lo, hi, 0)
  | x :: t, lo, hi => if ci x p.length = 0 then endsF p t lo hi else
    match valE x p with
    | none => (zeroE, zeroE, 7)
    | some r => if 0 < ci x p.length then endsF p t lo (nearM hi r x.s 1) else endsF p t (nearM lo r x.s (-1)) hi
def endsM (p : List Rt) (l : List Ln) : En × En × Int := endsF p l zeroE zeroE
theorem val_wf {x : Ln} {p : List Rt} {r : Rt} (h : valE x p = some r) : r.wf := by
  unfold valE at h
  split at h
  · cases h
  · split at h
    · cases h
    · split at h
      · cases h
      · injection h with h; rw [← h]; exact rquo_wf _ _
theorem zeroE_wf : zeroE.at_.wf := ⟨i64_lit' (n := 0) (by decide) (by decide), i64_lit' (n := 0) (by decide) (by decide)⟩
theorem ends_wf (p : List Rt) : ∀ (l : List Ln) (lo hi : En), lo.at_.wf → hi.at_.wf → (endsF p l lo hi).1.at_.wf ∧ (endsF p l lo hi).2.1.at_.wf
  | [], _, _, h1, h2 => ⟨h1, h2⟩
  | x :: t, lo, hi, h1, h2 => by
    unfold endsF
    split
    · exact ends_wf p t lo hi h1 h2
    · split
      · exact ⟨zeroE_wf, zeroE_wf⟩
      · rename_i r hr
        split
        · exact ends_wf p t _ _ h1 (near_wf h2 (val_wf hr) _ _)
        · exact ends_wf p t _ _ (near_wf h1 (val_wf hr) _ _) h2
def EnPost (M : En × En × Int) (w : World) (e : Ending) (w' : World) : Prop := e = .returned (.tuple #[M.1.V, M.2.1.V, .int .i64 M.2.2]) ∧ Bel w w'
theorem row_grs {W W' : World} {p q : Nat} {e : TypeId} {xs : List Value} (h : RowAt W q e xs) (hg : GrsOk W [p] W') (hn : q ≠ p) : RowAt W' q e xs := (hg.block q h.lt (by simpa using hn)).trans h
def setE (W : World) (p : Nat) (e : En) : World := (((W.setCell ⟨p, 0, none⟩ (.int .i64 e.n)).setCell ⟨p, 1, none⟩ (.int .i64 e.d)).setCell ⟨p, 2, none⟩ (.bool e.is)).setCell ⟨p, 3, none⟩ (.bool e.op)
theorem box_setE {W : World} {p : Nat} {t : TypeId} {e : En} (e' : En) (h : RowAt W p t e.cells) : RowAt (setE W p e') p t e'.cells := (((h.set 0 _).set 1 _).set 2 _).set 3 _
theorem far_setE {W : World} {p q : Nat} {t : TypeId} {xs : List Value} (e' : En) (h : RowAt W q t xs) (hn : q ≠ p) : RowAt (setE W p e') q t xs := (((h.far (a := ⟨p, 0, none⟩) hn _).far (a := ⟨p, 1, none⟩) hn _).far (a := ⟨p, 2, none⟩) hn _).far (a := ⟨p, 3, none⟩) hn _
theorem bel_setE {w W : World} {p : Nat} (e' : En) (h : Bel w W) (hp : w.heap.size ≤ p) : Bel w (setE W p e') := (((h.set (p := ⟨p, 0, none⟩) hp _).set (p := ⟨p, 1, none⟩) hp _).set (p := ⟨p, 2, none⟩) hp _).set (p := ⟨p, 3, none⟩) hp _
/-- both results' boxes are written -/
theorem two_setE {w W : World} {p4 p5 : Nat} {lo hi : En} (a b : En) (h4 : RowAt W p4 76 lo.cells) (h5 : RowAt W p5 76 hi.cells) (hn : p4 ≠ p5) (hb : Bel w W) (b4 : w.heap.size ≤ p4) (b5 : w.heap.size ≤ p5) :
    RowAt (setE (setE W p4 a) p5 b) p4 76 a.cells ∧ RowAt (setE (setE W p4 a) p5 b) p5 76 b.cells ∧ Bel w (setE (setE W p4 a) p5 b) :=
  ⟨far_setE b (box_setE a h4) hn, box_setE b (far_setE a h5 (fun e => hn e.symm)), bel_setE b (bel_setE a hb b4) b5⟩
set_option maxRecDepth 100000 in
theorem ends_res {tmps : Array Value} {W : World} {p4 p5 : Nat} {a b : En} {er : Int} (h4 : RowAt W p4 76 a.cells) (h5 : RowAt W p5 76 b.cells) (t4 : tmps[4]? = some (.pointer (some ⟨p4, 0, none⟩))) (t5 : tmps[5]? = some (.pointer (some ⟨p5, 0, none⟩))) (t6 : tmps[6]? = some (.int .i64 er)) :
    (results Try.f47 tmps).run Try.prog W = .ok (.tuple #[a.V, b.V, .int .i64 er]) W := by
  have q0 := h4.cell (i := 0) rfl
  have q1 := h4.cell (i := 1) rfl
  have q2 := h4.cell (i := 2) rfl
  have q3 := h4.cell (i := 3) rfl
  have s0 := h5.cell (i := 0) rfl
  have s1 := h5.cell (i := 1) rfl
  have s2 := h5.cell (i := 2) rfl
  have s3 := h5.cell (i := 3) rfl
  simp [results, Try.f47, go_sem, q0, q1, q2, q3, s0, s1, s2, s3, En.V, t4, t5, t6]
theorem ends_post {M : En × En × Int} {w W : World} {a b : En} {er : Int} (h : M = (a, b, er)) (hb : Bel w W) : EnPost M w (.returned (.tuple #[a.V, b.V, .int .i64 er])) W := by subst h; exact ⟨rfl, hb⟩
set_option maxRecDepth 100000 in
set_option maxHeartbeats 2000000 in
theorem ends_any (v pv : Value) (l : List Ln) (p : List Rt) (w : World) (h : LnsAt w w.heap.size v l) (hl : l.length ≤ 100000) (hin : ∀ x, x ∈ l → x.inr) (hp : RatsAt w w.heap.size pv p) (hpl : p.length ≤ 5) (hw : ∀ r, r ∈ p → r.wf) :
    Calls Try.prog 47 #[v, pv] w (EnPost (endsM p l) w) := by
  have H := Lib.hid h
  have HIN := Lib.hid hin
  have HP := Lib.hid hp
  have HPW := Lib.hid hw
  obtain ⟨A, c, rfl, hc⟩ := h.form
  obtain ⟨Ap, cp, rfl, hcp⟩ := hp.form
  clear h hin hp hw
  go_enter Try.func47, Try.ntmps47
  go_upto_region 1 with (fail)
  generalize hW : World.alloc (World.alloc w _) _ = w1 at *
  have hb1 : Bel w w1 := by rw [← hW]; exact (Bel.refl.alloc _).alloc _
  have r4 : RowAt w1 w.heap.size 76 zeroE.cells := by rw [← hW]; exact (RowAt.new w 76 zeroE.cells).alloc _
  have r5 : RowAt w1 (w.heap.size + 1) 76 zeroE.cells := by
    rw [← hW, ← size_alV w (.cells #[.int .i64 0, .int .i64 0, .bool false, .bool false] 76)]; exact RowAt.new _ _ _
  clear hW
  obtain ⟨p5, hp5⟩ : ∃ b, b = w.heap.size + 1 := ⟨_, rfl⟩
  rw [← hp5] at r5 ⊢
  obtain ⟨p4, hp4⟩ : ∃ b, b = w.heap.size := ⟨_, rfl⟩
  rw [← hp4] at r4 ⊢
  have HN : Hid (w.heap.size ≤ p4 ∧ w.heap.size ≤ p5 ∧ p4 ≠ p5) := Lib.hid (by omega)
  clear hp4 hp5
  have HB1 := Lib.hid hb1
  have HR4 := Lib.hid r4
  have HR5 := Lib.hid r5
  clear r4 r5 hb1
  go_wp2
  go_loopw [15] (fun s15 wq => ∃ (k : Nat) (y : Ext w) (lo hi : En), k ≤ l.length ∧ s15 = .int .i64 k ∧ wq = y.w ∧ RowAt y.w p4 76 lo.cells ∧ RowAt y.w p5 76 hi.cells ∧ lo.at_.wf ∧ hi.at_.wf ∧ endsF p (l.drop k) lo hi = endsM p l) (fun s15 _ => l.length + 1 - (intOf s15).toNat)
  case atStart => exact ⟨0, ⟨_, HB1.out⟩, zeroE, zeroE, Nat.zero_le _, rfl, rfl, HR4.out, HR5.out, zeroE_wf, zeroE_wf, rfl⟩
  case round =>
    clear HR4 HR5 HB1
    obtain ⟨k, y, lo, hi, hk, rfl, rfl, hr4, hr5, hlw, hhw, hf⟩ := hrel
    have HR4 := Lib.hid hr4
    have HR5 := Lib.hid hr5
    have HWF := Lib.hid (And.intro hlw hhw)
    have HB := Lib.hid y.bel
    clear hlw hhw
    by_cases hlt : k < l.length
    · have hd : decide ((k : Int) < (l.length : Int)) = true := by simp; omega
      have hL : (k : Int) < (l.length : Int) := by omega
      have wk : IntKind.i64.wrap ((k : Int) + 1) = ((k + 1 : Nat) : Int) := IntWalk.i64_in _ (by omega)
      have hp6 : (p.length : Int) < 6 := by omega
      have hp60 : ¬ (p.length : Int) < 0 := by omega
      obtain ⟨g, off, rfl, hg, hcl⟩ := (H.out.keep y.bel.keeps y.bel.le).at_ (by omega)
      obtain ⟨x0, x1, x2, x3, x4, x5, x6, x7⟩ := rd_line hcl hlt
      clear hcl hr4 hr5
      rw [lns_drop hlt] at hf
      have HXI := Lib.hid (HIN.out _ (lnAt_mem hlt))
      generalize lnAt l k = X at *
      have HF : Hid ((if ci X p.length = 0 then endsF p (l.drop (k + 1)) lo hi else
        match valE X p with
        | none => (zeroE, zeroE, 7)
        | some r => if 0 < ci X p.length then endsF p (l.drop (k + 1)) lo (nearM hi r X.s 1) else endsF p (l.drop (k + 1)) (nearM lo r X.s (-1)) hi) = endsM p l) := Lib.hid hf
      have HVW : Hid (∀ r, valE X p = some r → r.wf) := Lib.hid (fun r hr => val_wf hr)
      have HV : Hid (valE X p = if (totL X.a p).2 ≠ 0 then none else if (rsub ⟨X.b, 1⟩ (totL X.a p).1).2 ≠ 0 then none
        else if (rquo (rsub ⟨X.b, 1⟩ (totL X.a p).1).1 ⟨ci X p.length, 1⟩).2 ≠ 0 then none else some (rquo (rsub ⟨X.b, 1⟩ (totL X.a p).1).1 ⟨ci X p.length, 1⟩).1) := Lib.hid rfl
      clear hf
      have hbl4 : p4 < y.w.heap.size := HR4.out.lt
      have hbl5 : p5 < y.w.heap.size := HR5.out.lt
      have hbx := RowAt.new y.w 72 X.cells
      have cx := box_ci hbx (show p.length < 6 by omega)
      have hB2 : Bel y.w (y.w.alloc (.cells X.cells.toArray 72)) := Bel.refl.alloc _
      have HCI := Lib.hid (HXI.out.ci p.length)
      obtain ⟨C, hC⟩ : ∃ C, ci X p.length = C := ⟨_, rfl⟩
      rw [hC] at cx HF HV HCI
      clear hC
      unfold Ln.cells at hbx cx hB2
      have HBX := Lib.hid hbx
      have HB2 := Lib.hid hB2
      clear hbx hB2
      by_cases hc0 : C = 0
      · have d0 : (C == 0) = true := by simp [hc0]
        have HF2 : Hid (endsF p (l.drop (k + 1)) lo hi = endsM p l) := Lib.hid (by have := HF.out; rwa [if_pos hc0] at this)
        clear hc0 HF HV
        go_wp2
        go_roundw
        case rel => exact ⟨k + 1, ⟨_, HB.out.trans HB2.out⟩, lo, hi, hlt, by go_num, rfl, HR4.out.bel HB2.out, HR5.out.bel HB2.out, HWF.out.1, HWF.out.2, HF2.out⟩
        case measure => simp [intOf]; omega
      · have d0 : (C == 0) = false := by simp [hc0]
        have HF2 : Hid ((match valE X p with
          | none => (zeroE, zeroE, 7)
          | some r => if 0 < C then endsF p (l.drop (k + 1)) lo (nearM hi r X.s 1) else endsF p (l.drop (k + 1)) (nearM lo r X.s (-1)) hi) = endsM p l) := Lib.hid (by have := HF.out; rwa [if_neg hc0] at this)
        have HC0 := Lib.hid hc0
        clear HF hc0
        have HTO := Lib.hid (fun W (hW : Bel y.w W) => total_any X _ p W HXI.out (by omega) (HP.out.bel (HB.out.trans hW)) HPW.out)
        have HTW := Lib.hid (tot_wf X.a p)
        generalize totL X.a p = M at *
        obtain ⟨⟨tn, td⟩, e1⟩ := M
        unfold rresV Rt.V at HTO
        simp only at HTO HTW HV
        go_wp2_with fail
        refine (HTO.out _ HB2.out).mono ?_
        rintro e w4 ⟨rfl, hB⟩
        have HBX4 := Lib.hid (HBX.out.bel hB)
        have HB4 := Lib.hid (HB2.out.trans hB)
        clear hB HBX HB2 x0 x1 x2 x3 x4 x5 x6 x7 hg cx HTO
        obtain ⟨px, hpx⟩ : ∃ b, b = y.w.heap.size := ⟨_, rfl⟩
        rw [← hpx] at HBX4 ⊢
        have HPX : Hid (px ≠ p4 ∧ px ≠ p5) := Lib.hid (by omega)
        clear hpx hbl4 hbl5
        go_upto_region 8 with (fail)
        generalize hW : World.alloc w4 _ = w5
        have rt : RowAt w5 w4.heap.size 41 [.int .i64 tn, .int .i64 td] := by rw [← hW]; exact RowAt.new _ _ _
        have hB5 : Bel w4 w5 := by rw [← hW]; exact Bel.refl.alloc _
        clear hW
        obtain ⟨pt, hpt⟩ : ∃ b, b = w4.heap.size := ⟨_, rfl⟩
        rw [← hpt] at rt ⊢
        have HB5 := Lib.hid (HB4.out.trans hB5)
        have HX5 := Lib.hid (HBX4.out.bel hB5)
        have HS4 := Lib.hid (HR4.out.bel HB5.out)
        have HS5 := Lib.hid (HR5.out.bel HB5.out)
        have HPT : Hid (pt ≠ p4 ∧ pt ≠ p5 ∧ pt ≠ px ∧ w.heap.size ≤ pt) := Lib.hid (by
          have a1 := (HR4.out.bel HB4.out).lt
          have a2 := (HR5.out.bel HB4.out).lt
          have a3 := HBX4.out.lt
          have a4 := (HB.out.trans HB4.out).le
          omega)
        have HRT := Lib.hid rt
        clear rt hpt hB5 HBX4 HB4 HR4 HR5
        have HB6 := Lib.hid (HB.out.trans HB5.out)
        have hnone : valE X p = none → endsM p l = (zeroE, zeroE, 7) := fun q => by have := HF2.out; rw [q] at this; exact this.symm
        have HNONE := Lib.hid hnone
        clear hnone
        by_cases he1 : e1 = 0
        · subst he1
          have t0 : ((0 : Int) == 0) = true := rfl
          have HSB := Lib.hid (fun W => prsub_any ⟨X.b, 1⟩ ⟨tn, td⟩ W (one_wf HXI.out.b) HTW.out)
          have HSW := Lib.hid (rsub_wf ⟨X.b, 1⟩ ⟨tn, td⟩)
          simp only [ne_eq, not_true, if_false] at HV
          generalize rsub ⟨X.b, 1⟩ ⟨tn, td⟩ = M at *
          obtain ⟨⟨sn, sd⟩, e2⟩ := M
          unfold rresV Rt.V at HSB
          simp only at HSB HSW HV
          have hxc := HX5.out.cell (i := 6) rfl
          have hxl := HX5.out.lt
          have c0 := HRT.out.cell (i := 0) rfl
          have c1 := HRT.out.cell (i := 1) rfl
          have lt_ := HRT.out.lt
          go_wp2_with fail
          refine (HSB.out _).mono ?_
          rintro e w6 ⟨rfl, hB⟩
          have HX6 := Lib.hid (HX5.out.bel hB)
          have HT6 := Lib.hid (HRT.out.bel hB)
          have HS46 := Lib.hid (HS4.out.bel hB)
          have HS56 := Lib.hid (HS5.out.bel hB)
          have HB7 := Lib.hid (HB6.out.trans hB)
          clear hB hxc hxl c0 c1 lt_ HX5 HRT HS4 HS5 HB6 HSB
          have c0 := HT6.out.cell (i := 0) rfl
          have c1 := HT6.out.cell (i := 1) rfl
          have f0 := HT6.out.frozen 0
          have f1 := HT6.out.frozen 1
          have lt_ := HT6.out.lt
          have HX7 := Lib.hid ((HX6.out.far (a := ⟨pt, 0, none⟩) (fun e => HPT.out.2.2.1 e.symm) (.int .i64 sn)).far (a := ⟨pt, 1, none⟩) (fun e => HPT.out.2.2.1 e.symm) (.int .i64 sd))
          have HT7 := Lib.hid ((HT6.out.set 0 (.int .i64 sn)).set 1 (.int .i64 sd))
          have HS47 := Lib.hid ((HS46.out.far (a := ⟨pt, 0, none⟩) (fun e => HPT.out.1 e.symm) (.int .i64 sn)).far (a := ⟨pt, 1, none⟩) (fun e => HPT.out.1 e.symm) (.int .i64 sd))
          have HS57 := Lib.hid ((HS56.out.far (a := ⟨pt, 0, none⟩) (fun e => HPT.out.2.1 e.symm) (.int .i64 sn)).far (a := ⟨pt, 1, none⟩) (fun e => HPT.out.2.1 e.symm) (.int .i64 sd))
          have HB8 := Lib.hid ((HB7.out.set (p := ⟨pt, 0, none⟩) HPT.out.2.2.2 (.int .i64 sn)).set (p := ⟨pt, 1, none⟩) HPT.out.2.2.2 (.int .i64 sd))
          go_upto_region 10 with (fail)
          generalize World.setCell (World.setCell w6 _ _) _ _ = w7 at *
          clear c0 c1 f0 f1 lt_ HX6 HT6 HS46 HS56 HB7
          by_cases he2 : e2 = 0
          · subst he2
            have HDV := Lib.hid (fun W => prdiv_any ⟨sn, sd⟩ ⟨C, 1⟩ W HSW.out (one_wf HCI.out))
            simp only [not_true, if_false] at HV
            generalize rquo ⟨sn, sd⟩ ⟨C, 1⟩ = M at *
            obtain ⟨⟨qn, qd⟩, e3⟩ := M
            unfold rresV Rt.V at HDV
            simp only at HDV HV
            have c0 := HT7.out.cell (i := 0) rfl
            have c1 := HT7.out.cell (i := 1) rfl
            have lt_ := HT7.out.lt
            go_wp2_with fail
            refine (HDV.out _).mono ?_
            rintro e w8 ⟨rfl, hB⟩
            have HX8 := Lib.hid (HX7.out.bel hB)
            have HT8 := Lib.hid (HT7.out.bel hB)
            have HS48 := Lib.hid (HS47.out.bel hB)
            have HS58 := Lib.hid (HS57.out.bel hB)
            have HB9 := Lib.hid (HB8.out.trans hB)
            clear hB c0 c1 lt_ HX7 HT7 HS47 HS57 HB8 HDV
            have c0 := HT8.out.cell (i := 0) rfl
            have c1 := HT8.out.cell (i := 1) rfl
            have f0 := HT8.out.frozen 0
            have f1 := HT8.out.frozen 1
            have lt_ := HT8.out.lt
            have HX9 := Lib.hid ((HX8.out.far (a := ⟨pt, 0, none⟩) (fun e => HPT.out.2.2.1 e.symm) (.int .i64 qn)).far (a := ⟨pt, 1, none⟩) (fun e => HPT.out.2.2.1 e.symm) (.int .i64 qd))
            have HT9 := Lib.hid ((HT8.out.set 0 (.int .i64 qn)).set 1 (.int .i64 qd))
            have HS49 := Lib.hid ((HS48.out.far (a := ⟨pt, 0, none⟩) (fun e => HPT.out.1 e.symm) (.int .i64 qn)).far (a := ⟨pt, 1, none⟩) (fun e => HPT.out.1 e.symm) (.int .i64 qd))
            have HS59 := Lib.hid ((HS58.out.far (a := ⟨pt, 0, none⟩) (fun e => HPT.out.2.1 e.symm) (.int .i64 qn)).far (a := ⟨pt, 1, none⟩) (fun e => HPT.out.2.1 e.symm) (.int .i64 qd))
            have HBA := Lib.hid ((HB9.out.set (p := ⟨pt, 0, none⟩) HPT.out.2.2.2 (.int .i64 qn)).set (p := ⟨pt, 1, none⟩) HPT.out.2.2.2 (.int .i64 qd))
            go_upto_region 12 with (fail)
            generalize World.setCell (World.setCell w8 _ _) _ _ = w9 at *
            clear c0 c1 f0 f1 lt_ HX8 HT8 HS48 HS58 HB9
            by_cases he3 : e3 = 0
            · subst he3
              have t1 : ((0 : Int) != 0) = false := rfl
              simp only [not_true, if_false] at HV
              have HQW := Lib.hid (HVW.out _ HV.out)
              have HF3 : Hid ((if 0 < C then endsF p (l.drop (k + 1)) lo (nearM hi ⟨qn, qd⟩ X.s 1) else endsF p (l.drop (k + 1)) (nearM lo ⟨qn, qd⟩ X.s (-1)) hi) = endsM p l) := Lib.hid (by have := HF2.out; rw [HV.out] at this; exact this)
              have c0 := HT9.out.cell (i := 0) rfl
              have c1 := HT9.out.cell (i := 1) rfl
              have lt_ := HT9.out.lt
              have hx7 := HX9.out.cell (i := 7) rfl
              have hxl := HX9.out.lt
              clear HF2 HNONE
              by_cases hcp : 0 < C
              · have d1 : decide (C > 0) = true := decide_eq_true hcp
                have d2 : decide (0 < C) = true := decide_eq_true hcp
                have HF4 : Hid (endsF p (l.drop (k + 1)) lo (nearM hi ⟨qn, qd⟩ X.s 1) = endsM p l) := Lib.hid (by have := HF3.out; rwa [if_pos hcp] at this)
                have HNR := Lib.hid (nearer_any p5 hi ⟨qn, qd⟩ X.s 1 w9 (.inl rfl) HS59.out HWF.out.2 HQW.out)
                have HNW := Lib.hid (near_wf HWF.out.2 HQW.out X.s 1)
                clear hcp HF3
                go_wp2_with fail
                refine HNR.out.mono ?_
                rintro e wa ⟨rfl, hr5', hg'⟩
                have HRN := Lib.hid hr5'
                have HR4N := Lib.hid (row_grs HS49.out hg' HN.out.2.2)
                have HBN := Lib.hid (grs_bel2 HBA.out HN.out.2.1 hg')
                clear hr5' hg' c0 c1 lt_ hx7 hxl HNR
                go_wp2
                go_roundw
                case rel => exact ⟨k + 1, ⟨_, HBN.out⟩, _, _, hlt, by go_num, rfl, HR4N.out, HRN.out, HWF.out.1, HNW.out, HF4.out⟩
                case measure => simp [intOf]; omega
              · have d1 : decide (C > 0) = false := decide_eq_false hcp
                have d2 : decide (0 < C) = false := decide_eq_false hcp
                have HF4 : Hid (endsF p (l.drop (k + 1)) (nearM lo ⟨qn, qd⟩ X.s (-1)) hi = endsM p l) := Lib.hid (by have := HF3.out; rwa [if_neg hcp] at this)
                have HNR := Lib.hid (nearer_any p4 lo ⟨qn, qd⟩ X.s (-1) w9 (.inr rfl) HS49.out HWF.out.1 HQW.out)
                have HNW := Lib.hid (near_wf HWF.out.1 HQW.out X.s (-1))
                clear hcp HF3
                go_wp2_with fail
                refine HNR.out.mono ?_
                rintro e wa ⟨rfl, hr4', hg'⟩
                have HRN := Lib.hid hr4'
                have HR5N := Lib.hid (row_grs HS59.out hg' (fun e => HN.out.2.2 e.symm))
                have HBN := Lib.hid (grs_bel2 HBA.out HN.out.1 hg')
                clear hr4' hg' c0 c1 lt_ hx7 hxl HNR
                go_wp2
                go_roundw
                case rel => exact ⟨k + 1, ⟨_, HBN.out⟩, _, _, hlt, by go_num, rfl, HRN.out, HR5N.out, HNW.out, HWF.out.2, HF4.out⟩
                case measure => simp [intOf]; omega
            · have t1 : (e3 != 0) = true := by simp [he3]
              have HM := Lib.hid (HNONE.out (by have := HV.out; rwa [if_pos he3] at this))
              clear he3 HV HF2 HNONE
              have a0 := HS49.out.cell (i := 0) rfl
              have a1 := HS49.out.cell (i := 1) rfl
              have a2 := HS49.out.cell (i := 2) rfl
              have a3 := HS49.out.cell (i := 3) rfl
              have b0 := HS59.out.cell (i := 0) rfl
              have b1 := HS59.out.cell (i := 1) rfl
              have b2 := HS59.out.cell (i := 2) rfl
              have b3 := HS59.out.cell (i := 3) rfl
              have fa := fun q => HS49.out.frozen q
              have fb := fun q => HS59.out.frozen q
              have la := HS49.out.lt
              have lb := HS59.out.lt
              have h45 : p4 ≠ p5 := HN.out.2.2
              have h54 : p5 ≠ p4 := fun e => h45 e.symm
              have HT := Lib.hid (two_setE (w := w) zeroE zeroE HS49.out HS59.out HN.out.2.2 HBA.out HN.out.1 HN.out.2.1)
              go_wp2
              unfold setE zeroE at HT
              dsimp only at HT
              generalize World.setCell (World.setCell _ _ _) _ _ = W10 at *
              clear a0 a1 a2 a3 b0 b1 b2 b3 fa fb la lb
              exact bodyPost_ret (ends_res HT.out.1 HT.out.2.1 rfl rfl rfl) rfl (ends_post HM.out HT.out.2.2)
          · have t1 : (e2 == 0) = false := by simp [he2]
            have t2 : (e2 != 0) = true := by simp [he2]
            have HM := Lib.hid (HNONE.out (by have := HV.out; rwa [if_pos he2] at this))
            clear he2 HV HF2 HNONE
            have a0 := HS47.out.cell (i := 0) rfl
            have a1 := HS47.out.cell (i := 1) rfl
            have a2 := HS47.out.cell (i := 2) rfl
            have a3 := HS47.out.cell (i := 3) rfl
            have b0 := HS57.out.cell (i := 0) rfl
            have b1 := HS57.out.cell (i := 1) rfl
            have b2 := HS57.out.cell (i := 2) rfl
            have b3 := HS57.out.cell (i := 3) rfl
            have fa := fun q => HS47.out.frozen q
            have fb := fun q => HS57.out.frozen q
            have la := HS47.out.lt
            have lb := HS57.out.lt
            have h45 : p4 ≠ p5 := HN.out.2.2
            have h54 : p5 ≠ p4 := fun e => h45 e.symm
            have HT := Lib.hid (two_setE (w := w) zeroE zeroE HS47.out HS57.out HN.out.2.2 HB8.out HN.out.1 HN.out.2.1)
            go_wp2
            unfold setE zeroE at HT
            dsimp only at HT
            generalize World.setCell (World.setCell _ _ _) _ _ = W10 at *
            clear a0 a1 a2 a3 b0 b1 b2 b3 fa fb la lb
            exact bodyPost_ret (ends_res HT.out.1 HT.out.2.1 rfl rfl rfl) rfl (ends_post HM.out HT.out.2.2)
        · have t1 : (e1 == 0) = false := by simp [he1]
          have t2 : (e1 != 0) = true := by simp [he1]
          have HM := Lib.hid (HNONE.out (by have := HV.out; rwa [if_pos he1] at this))
          clear he1 HV HF2 HNONE
          have a0 := HS4.out.cell (i := 0) rfl
          have a1 := HS4.out.cell (i := 1) rfl
          have a2 := HS4.out.cell (i := 2) rfl
          have a3 := HS4.out.cell (i := 3) rfl
          have b0 := HS5.out.cell (i := 0) rfl
          have b1 := HS5.out.cell (i := 1) rfl
          have b2 := HS5.out.cell (i := 2) rfl
          have b3 := HS5.out.cell (i := 3) rfl
          have fa := fun q => HS4.out.frozen q
          have fb := fun q => HS5.out.frozen q
          have la := HS4.out.lt
          have lb := HS5.out.lt
          have h45 : p4 ≠ p5 := HN.out.2.2
          have h54 : p5 ≠ p4 := fun e => h45 e.symm
          have HT := Lib.hid (two_setE (w := w) zeroE zeroE HS4.out HS5.out HN.out.2.2 HB6.out HN.out.1 HN.out.2.1)
          go_wp2
          unfold setE zeroE at HT
          dsimp only at HT
          generalize World.setCell (World.setCell _ _ _) _ _ = W10 at *
          clear a0 a1 a2 a3 b0 b1 b2 b3 fa fb la lb
          exact bodyPost_ret (ends_res HT.out.1 HT.out.2.1 rfl rfl rfl) rfl (ends_post HM.out HT.out.2.2)
    · obtain rfl : k = l.length := by omega
      have hd : decide ((l.length : Int) < (l.length : Int)) = false := by simp
      have HM : Hid (endsM p l = (lo, hi, 0)) := Lib.hid (by rw [← hf, List.drop_length]; rfl)
      have a0 := HR4.out.cell (i := 0) rfl
      have a1 := HR4.out.cell (i := 1) rfl
      have a2 := HR4.out.cell (i := 2) rfl
      have a3 := HR4.out.cell (i := 3) rfl
      have b0 := HR5.out.cell (i := 0) rfl
      have b1 := HR5.out.cell (i := 1) rfl
      have b2 := HR5.out.cell (i := 2) rfl
      have b3 := HR5.out.cell (i := 3) rfl
      have fa := fun q => HR4.out.frozen q
      have fb := fun q => HR5.out.frozen q
      have la := HR4.out.lt
      have lb := HR5.out.lt
      have h45 : p4 ≠ p5 := HN.out.2.2
      have h54 : p5 ≠ p4 := fun e => h45 e.symm
      have HT := Lib.hid (two_setE (w := w) lo hi HR4.out HR5.out HN.out.2.2 HB.out HN.out.1 HN.out.2.1)
      clear hr4 hr5 hf
      go_wp2
      unfold setE at HT
      generalize World.setCell (World.setCell _ _ _) _ _ = W10 at *
      clear a0 a1 a2 a3 b0 b1 b2 b3 fa fb la lb
      exact bodyPost_ret (ends_res HT.out.1 HT.out.2.1 rfl rfl rfl) rfl (ends_post HM.out HT.out.2.2)
end Go.Proofs.Ytalphoebmefgoaa
