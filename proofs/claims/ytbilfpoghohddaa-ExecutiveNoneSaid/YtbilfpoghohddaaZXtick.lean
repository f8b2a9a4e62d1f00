/- executive: Tick of the program. -/
import Derived.Deep.Onto
import Derived.Test.YtbilfpoghohddaaZXfin
import Derived.Test.YtbilfpoghohddaaG1
import Derived.Deep.CutRange
namespace Go.Proofs.Ytbilfpoghohddaa
open Go.RowKit
def TickPost (wb w : World) (be : Nat) (lv tv : Value) (l : List Tsk) (xs : List Int) (R : TickR) (e : Ending) (w' : World) : Prop :=
  ∃ dv, e = .returned (.tuple #[.int .i64 R.run, dv, .int .i64 R.err]) ∧ ExAt wb w' be lv tv l xs R.st ∧ w'.ownsRow w.heap.size 60 5 dv R.done.length (R.done.flatMap donC) ∧ w.grownBy w' (some be)
theorem tickPost_of {wb w w3 W : World} {be bx bd : Nat} {lv tv : Value} {l : List Tsk} {xs : List Int} {st : ExS} {dv : Value} {ds : List Don} {R : TickR} {r er : Int} (hR : R = ⟨r, ds, er, st⟩) (h : TkAt wb w w3 W be bx bd lv tv l xs st dv ds) :
    TickPost wb w be lv tv l xs R (.returned (.tuple #[.int .i64 r, dv, .int .i64 er])) W := by
  subst hR
  exact ⟨dv, rfl, h.ex, h.own.mono h.le3, h.gr⟩
theorem TkAt.ints {wb w0 w3 W : World} {be bx bd : Nat} {lv tv : Value} {l : List Tsk} {xs : List Int} {st : ExS} {dv : Value} {ds : List Don} (h : TkAt wb w0 w3 W be bx bd lv tv l xs st dv ds) {b o : Nat} (hb : b < w3.heap.size) (h1 : b ≠ be) (h2 : b ≠ bd) : W.cell? ⟨b, o, none⟩ = w3.cell? ⟨b, o, none⟩ ∧ b < W.heap.size :=
  ⟨cell_block (h.g3 b hb h1 h2), Nat.lt_of_lt_of_le hb h.sz3⟩
theorem need_at {l : List Tsk} {is : List Nat} {ns : List Int} {k : Nat} (h1 : k < is.length) (h2 : k < ns.length) : needOk l (is.drop k) (ns.drop k) = (decide (0 ≤ ns.getD k 0) && decide (ns.getD k 0 ≤ (tskAt l (is.getD k 0)).cost) && needOk l (is.drop (k + 1)) (ns.drop (k + 1))) := by
  rw [List.drop_eq_getElem_cons h1, List.drop_eq_getElem_cons h2]
  simp [needOk, List.getD, h1, h2]
theorem need_end {l : List Tsk} {is : List Nat} {ns : List Int} {k : Nat} (h : is.length ≤ k) : needOk l (is.drop k) (ns.drop k) = true := by
  rw [List.drop_eq_nil_of_le h]; cases ns.drop k <;> rfl
theorem start_at {now : Int} {is : List Nat} {ns : List Int} {k : Nat} {p : List JobX × List Don} (h1 : k < is.length) (h2 : k < ns.length) : startX now (is.drop k) (ns.drop k) p =
    startX now (is.drop (k + 1)) (ns.drop (k + 1)) (p.1.set (is.getD k 0) ⟨(jxAt p.1 (is.getD k 0)).num + 1, now, ns.getD k 0⟩, if ns.getD k 0 = 0 then p.2 ++ [⟨is.getD k 0, (jxAt p.1 (is.getD k 0)).num + 1, now, 0, false⟩] else p.2) := by
  rw [List.drop_eq_getElem_cons h1, List.drop_eq_getElem_cons h2]
  simp [startX, List.getD, h1, h2]
theorem start_end {now : Int} {is : List Nat} {ns : List Int} {k : Nat} {p : List JobX × List Don} (h : is.length ≤ k) : startX now (is.drop k) (ns.drop k) p = p := by
  rw [List.drop_eq_nil_of_le h]; cases ns.drop k <;> rfl
theorem need_k {l : List Tsk} : ∀ {is : List Nat} {ns : List Int} {k : Nat}, needOk l is ns = true → k < is.length → k < ns.length → 0 ≤ ns.getD k 0 ∧ ns.getD k 0 ≤ (tskAt l (is.getD k 0)).cost
  | [], _, k, _, h, _ => by simp at h
  | _ :: _, [], k, _, _, h => by simp at h
  | i :: is, n :: ns, 0, h, _, _ => by
    simp only [needOk, Bool.and_eq_true, decide_eq_true_eq] at h
    exact ⟨h.1.1, h.1.2⟩
  | i :: is, n :: ns, k + 1, h, h1, h2 => by
    simp only [needOk, Bool.and_eq_true, decide_eq_true_eq] at h
    simp only [List.getD_cons_succ]
    exact need_k h.2 (by simpa using h1) (by simpa using h2)
/-- the state when a job is released -/
def relSt (st : ExS) (t : Nat) (n : Int) : ExS := ⟨st.now, st.js.set t ⟨(jxAt st.js t).num + 1, st.now, n⟩⟩
theorem TkAt.release {wb w0 w3 W : World} {be bx bd : Nat} {lv tv : Value} {l : List Tsk} {xs : List Int} {st : ExS} {dv : Value} {ds : List Don} (h : TkAt wb w0 w3 W be bx bd lv tv l xs st dv ds) {t : Nat} (ht : t < st.js.length) (n : Int) :
    TkAt wb w0 w3 (((W.setCell ⟨be, 3 + t * 3, none⟩ (.int .i64 ((jxAt st.js t).num + 1))).setCell ⟨be, 3 + t * 3 + 1, none⟩ (.int .i64 st.now)).setCell ⟨be, 3 + t * 3 + 2, none⟩ (.int .i64 n)) be bx bd lv tv l xs (relSt st t n) dv ds := by
  have h1 := h.setBe (k := 3 + t * 3) (v := .int .i64 ((jxAt st.js t).num + 1)) (exC_put (r := 0) (j' := { jxAt st.js t with num := (jxAt st.js t).num + 1 }) ht (by omega) rfl)
  have h2 := h1.setBe (k := 3 + t * 3 + 1) (v := .int .i64 st.now) (exC_put (r := 1) (j' := { jxAt st.js t with num := (jxAt st.js t).num + 1, rel := st.now }) (i := t) (by rw [List.length_set]; exact ht) (by omega) (by rw [jxAt_set ht, if_pos rfl]; rfl))
  have h3 := h2.setBe (k := 3 + t * 3 + 2) (v := .int .i64 n) (exC_put (r := 2) (j' := ⟨(jxAt st.js t).num + 1, st.now, n⟩) (i := t) (by rw [List.length_set, List.length_set]; exact ht) (by omega) (by rw [jxAt_set (by rw [List.length_set]; exact ht), if_pos rfl]; rfl))
  dsimp only at h3
  rw [List.set_set, List.set_set] at h3
  exact h3
theorem relSt_at {st : ExS} {t : Nat} {n : Int} (ht : t < st.js.length) : jxAt (relSt st t n).js t = ⟨(jxAt st.js t).num + 1, st.now, n⟩ := by
  unfold relSt; dsimp only; rw [jxAt_set ht, if_pos rfl]
theorem relSt_fin {st : ExS} {t : Nat} {n : Int} {ds : List Don} (ht : t < st.js.length) : finD (relSt st t n) t 0 ds = if n = 0 then ds ++ [⟨t, (jxAt st.js t).num + 1, st.now, 0, false⟩] else ds := by
  unfold finD
  rw [relSt_at ht]
  dsimp only [relSt]
  rw [show st.now + 0 - st.now = 0 by omega]
theorem run_none {now k : Int} {p : List JobX × List Don} (h : k < 0 ∨ (jxAt p.1 k.toNat).lft = 0) : runX now k p = (-1, p) := by unfold runX; rw [if_pos h]
/-- a job is executed -/
def exeSt (st : ExS) (t : Nat) : ExS := ⟨st.now, st.js.set t { jxAt st.js t with lft := (jxAt st.js t).lft - 1 }⟩
theorem run_some {st : ExS} {t : Nat} {d : List Don} (ht : t < st.js.length) (h : ¬ (jxAt st.js t).lft = 0) : runX st.now t (st.js, d) = ((t : Int), (exeSt st t).js, finD (exeSt st t) t 1 d) := by
  unfold runX
  rw [if_neg (by rw [Int.toNat_natCast]; intro q; rcases q with q | q; omega; exact h q), Int.toNat_natCast]
  have e : jxAt (exeSt st t).js t = { jxAt st.js t with lft := (jxAt st.js t).lft - 1 } := by unfold exeSt; dsimp only; rw [jxAt_set ht, if_pos rfl]
  unfold finD
  rw [e]
  rfl
theorem TkAt.execute {wb w0 w3 W : World} {be bx bd : Nat} {lv tv : Value} {l : List Tsk} {xs : List Int} {st : ExS} {dv : Value} {ds : List Don} (h : TkAt wb w0 w3 W be bx bd lv tv l xs st dv ds) {t : Nat} (ht : t < st.js.length) :
    TkAt wb w0 w3 (W.setCell ⟨be, 3 + t * 3 + 2, none⟩ (.int .i64 ((jxAt st.js t).lft - 1))) be bx bd lv tv l xs (exeSt st t) dv ds :=
  h.setBe (k := 3 + t * 3 + 2) (exC_put (r := 2) (j' := { jxAt st.js t with lft := (jxAt st.js t).lft - 1 }) ht (by omega) rfl)
set_option maxRecDepth 100000 in
set_option maxHeartbeats 16000000 in
theorem tick_any {wb : World} {be : Nat} {lv tv : Value} {l : List Tsk} {xs : List Int} {st : ExS} (w : World) (nv : Value) (needs : List Int) (h : ExAt wb w be lv tv l xs st) (hok : ExOk l xs st) (hn : st.now ≤ 100000) (hv : IntsNe w be nv needs) (hnl : needs.length ≤ 1000000) :
    Calls Try.prog 17 #[.pointer (some ⟨be, 0, none⟩), nv] w (TickPost wb w be lv tv l xs (tickX l xs st needs)) := by
  obtain ⟨Al, cl, rfl, _⟩ := h.lform
  obtain ⟨Ax, cx, rfl, _⟩ := h.xform
  obtain ⟨An, cn, rfl, _⟩ := hv.form
  have HN := Lib.hid (fun (W : World) (hW : Bel w W) => none_at W (h.bel hW).c1)
  have HRL := Lib.hid (fun (W : World) (hW : Bel w W) => released_any W (h.bel hW) hok (by omega))
  have HX := Lib.hid h
  have HV := Lib.hid hv
  have HOK := Lib.hid hok
  have hmf : ∀ (fn : Fn) (first cap : Array Value) (w : World), (Instr.makeFunc fn first cap).run Try.prog w = .ok (.func fn first cap) w := fun _ _ _ _ => rfl
  have hl1 := hok.l1
  have hl8 := hok.l8
  have hx1 := hok.x1
  have hn0 := hok.n0
  have hbz := h.lt
  clear h hok hv
  go_enter_defers Try.func17, Try.ntmps17
  go_upto_region 1 with (fail)
  generalize hWa : World.alloc w _ = Wa at *
  generalize hWb : World.alloc Wa _ = Wb at *
  have za : Wa.heap.size = w.heap.size + 1 := by rw [← hWa]; simp [go_sem]
  have ba : Bel w Wa := by rw [← hWa]; exact Bel.refl.alloc _
  have bb : Bel Wa Wb := by rw [← hWb]; exact Bel.refl.alloc _
  have rx : RowAt Wa w.heap.size 29 [.pointer (some ⟨be, 0, none⟩)] := by rw [← hWa]; exact RowAt.new _ _ _
  have rd : RowAt Wb (w.heap.size + 1) 42 [.slice none 0 0] := by rw [← za, ← hWb]; exact RowAt.new _ _ _
  have RX := Lib.hid (rx.bel bb)
  have RD := Lib.hid rd
  have HB := Lib.hid (ba.trans bb)
  clear hWa hWb za ba bb rx rd
  obtain ⟨bx, hbx⟩ : ∃ bx, bx = w.heap.size := ⟨_, rfl⟩
  obtain ⟨bd, hbd⟩ : ∃ bd, bd = w.heap.size + 1 := ⟨_, rfl⟩
  rw [← hbd] at RD ⊢
  rw [← hbx] at RX ⊢
  have HBX := Lib.hid hbx
  have HBD := Lib.hid hbd
  clear hbx hbd
  have c0 := RX.out.cell (i := 0) rfl
  have cz := RX.out.lt
  go_wp2_with fail
  have hnn := HN.out _ HB.out
  have q2 : decide (xs.length = 0) = false := decide_eq_false (by omega)
  rw [q2] at hnn
  refine hnn.mono ?_
  rintro e w2 ⟨rfl, rfl⟩
  clear hnn q2 HN
  go_wp2_with fail
  refine (HRL.out _ HB.out).mono ?_
  rintro e w3 ⟨rv, rfl, ho, hb⟩
  have HT : Hid (TkAt wb w w3 w3 be bx bd (.slice Al l.length cl) (.slice Ax xs.length cx) l xs st (.slice none 0 0) []) := Lib.hid (by
    have hb3 := HB.out.trans hb
    have g0 := gro_bel2 (gro_refl w (row := some be)) hb3
    exact ⟨g0, HX.out.bel hb3, hbz, by rw [HBX.out]; omega, by rw [HBD.out]; omega, RX.out.bel hb, RD.out.bel hb, World.ownsRow_nil _ _ _ _, hb3.le, Nat.le_refl _, fun k _ _ _ => rfl⟩)
  obtain ⟨Ar, cr, rfl, _⟩ := own_slice ho
  have HO := Lib.hid ho
  have HV3 := Lib.hid (HV.out.gro (gro_bel2 (gro_refl w (row := some be)) (HB.out.trans hb)))
  -- the blocks of needs and of the released lie apart
  have HVB : Hid (0 < needs.length → ∃ bn on, An = some ⟨bn, on, none⟩ ∧ bn < w3.heap.size ∧ bn ≠ be ∧ bn ≠ bd ∧ ∀ i, i < needs.length → w3.cell? ⟨bn, on + i, none⟩ = some (.int .i64 (needs.getD i 0))) := Lib.hid (fun h0 => by
    obtain ⟨bn, on, e, h1, h2, h3⟩ := HV.out.at_ h0
    refine ⟨bn, on, e, Nat.lt_of_lt_of_le h1 (HB.out.trans hb).le, h2, by rw [HBD.out]; omega, fun i hi => ((HB.out.trans hb).cells bn (on + i) h1).trans (h3 i hi)⟩)
  have HRB : Hid (0 < (relL st.now 0 l).length → ∃ b_, Ar = some ⟨b_, 0, none⟩ ∧ b_ < w3.heap.size ∧ b_ ≠ be ∧ b_ ≠ bd ∧ ∀ i, i < (relL st.now 0 l).length → w3.cell? ⟨b_, i, none⟩ = some (.int .i64 ((relL st.now 0 l).getD i 0 : Nat))) := Lib.hid (fun h0 => by
    obtain ⟨g, cap, e, h1, h2, h3⟩ := own_form ho h0
    injection e with e1 e2 e3
    subst e1; subst e3
    refine ⟨g, rfl, h3, by have := HB.out.le; omega, ?_, fun i hi => ?_⟩
    · have := own_box_ne (RD.out.bel hb) ho (by decide)
      rcases this with h | h
      · cases h
      · intro e; exact h (by simp [Value.ownBlock, e])
    · have := ho.cellAt i (by omega)
      rw [this]
      simp [natC, List.getD, hi])
  clear hb ho HB RX RD HRL c0 cz HV HV3
  have HLR := Lib.hid (relL_len st.now l 0)
  have HMEM := Lib.hid (fun i hi => relL_mem (now := st.now) (i := i) l 0 hi)
  have HSO := Lib.hid (relL_sorted st.now l 0)
  have HTK : Hid (tickX l xs st needs = if needs.length = (relL st.now 0 l).length ∧ needOk l (relL st.now 0 l) needs = true then
      let p := startX st.now (relL st.now 0 l) needs (st.js, [])
      let q := runX st.now (tickK xs st.now) p
      ⟨q.1, q.2.2, 0, ⟨st.now + 1, q.2.1⟩⟩
    else ⟨-1, [], 2, st⟩) := Lib.hid rfl
  generalize relL st.now 0 l = is at *
  by_cases hlen : needs.length = is.length
  case neg =>
    have q1 : ((needs.length : Int) == is.length) = false := by simp; omega
    have q2 : ((needs.length : Int) != is.length) = true := by simp; omega
    have HR : Hid (tickX l xs st needs = ⟨-1, [], 2, st⟩) := Lib.hid (by rw [HTK.out, if_neg (fun q => hlen q.1)])
    clear hlen
    have d0 := HT.out.bdr.cell (i := 0) rfl
    have dz := HT.out.bdr.lt
    have df := HT.out.bdr.frozen 0
    have HS := Lib.hid (HT.out.setBd (ds' := []) (gro_refl w3) (World.ownsRow_nil _ _ _ _))
    go_wp2
    generalize hW : World.setCell w3 _ _ = w5 at *
    clear hW d0 dz df
    have r0 := HS.out.bdr.cell (i := 0) rfl
    exact ⟨.tuple #[.int .i64 (-1), .slice none 0 0, .int .i64 2], by simp [results, Try.results17, go_sem, r0], tickPost_of HR.out HS.out⟩
  have hlen2 : (needs.length : Int) = (is.length : Int) := by omega
  have q1 : ((needs.length : Int) == is.length) = true := by simp; omega
  have q2 : ((needs.length : Int) != is.length) = false := by simp; omega
  have HLEN := Lib.hid hlen
  have HL2 := Lib.hid hlen2
  clear hlen hlen2
  go_wp2
  clear q1 q2
  have HN0 : Hid (needOk l (is.drop 0) (needs.drop 0) = needOk l is needs) := Lib.hid rfl
  go_loopw [24] (fun si wr => ∃ (i : Nat) (z : Ext w3), i ≤ needs.length ∧ si = .int .i64 i ∧ wr = z.w ∧ needOk l (is.drop i) (needs.drop i) = needOk l is needs) (fun si _ => needs.length - (intOf si).toNat)
  case atStart => exact ⟨0, ⟨w3, Bel.refl⟩, by omega, rfl, rfl, HN0.out⟩
  case round =>
    clear HN0
    obtain ⟨i, z, hi, rfl, rfl, hnd⟩ := hrel
    by_cases hlt : i < needs.length
    · have hlt2 : i < is.length := by rw [← HLEN.out]; exact hlt
      have hiN : (i : Int) < (needs.length : Int) := by omega
      have hiI : (i : Int) < (is.length : Int) := by omega
      rw [need_at hlt2 hlt] at hnd
      obtain ⟨bn, on, rfl, hbn, hbn1, hbn2, hcn⟩ := HVB.out (by omega)
      obtain ⟨br, rfl, hbr, hbr1, hbr2, hcr⟩ := HRB.out (by omega)
      have n0 := (z.bel.cells bn (on + i) hbn).trans (hcn i hlt)
      have nz := ext_lt z hbn
      have r0 := (z.bel.cells br i hbr).trans (hcr i hlt2)
      have rz := ext_lt z hbr
      have HCN := Lib.hid hcn
      have HCR := Lib.hid hcr
      have hmem := HMEM.out (is.getD i 0) (by simp [List.getD, hlt2])
      generalize is.getD i 0 = k at *
      generalize needs.getD i 0 = n at *
      have hkl : k < l.length := by omega
      have hkI : (k : Int) < (l.length : Int) := by omega
      have hTZ := HT.out.bel z.bel
      have x0 := hTZ.bxr.cell (i := 0) rfl
      have xz := hTZ.bxr.lt
      have e0 := hTZ.ex.c0
      have ez := hTZ.ex.lt
      obtain ⟨bt, ot, rfl, hbt, hA⟩ := (hTZ.ex.tsks (by omega)).at_ (by omega)
      obtain ⟨sv, ⟨t0, t1, t2, t3, t4, t5, t6⟩, hS⟩ := hA k hkl
      have HND := Lib.hid hnd
      have HZB := Lib.hid z.bel
      clear hcn hcr hmem hTZ hA hS t0 t1 t2 t3 t5 t6 hnd
      go_upto_region 9 with (fail)
      generalize z.w = wz at *
      by_cases hneg : n < 0
      · have hd1 : decide (n < 0) = true := by simpa using hneg
        (refine wp_region_ext (wb := wz) (by (repeat (first | exact Ext.bel _ | exact Bel.refl | refine Bel.alloc ?_ _ | refine Bel.drew ?_ | refine Bel.drewN ?_ _))) (by kernel_rfl) (by kernel_rfl) ?_; (repeat (any_goals (first | go_big_quiet_step (fail) | quiet_step (fail) | (refine wpQuiet_step (fun K hK => ?_); go_simp; split <;> (refine hK _ ?_; clear hK K))))); all_goals (refine wpQuiet_nil ?_; intro _ hw'; obtain ⟨y, hw''⟩ := hw'; subst hw''))
        have HR : Hid (tickX l xs st needs = ⟨-1, [], 2, st⟩) := Lib.hid (by rw [HTK.out, if_neg (fun q => by rw [← HND.out] at q; simp at q; omega)])
        have HY := HT.out.bel (HZB.out.trans y.bel)
        have d0 := HY.bdr.cell (i := 0) rfl
        have dz := HY.bdr.lt
        have df := HY.bdr.frozen 0
        have HS := Lib.hid (HY.setBd (ds' := []) (gro_refl y.w) (World.ownsRow_nil _ _ _ _))
        clear HY
        go_wp2
        generalize hW : World.setCell y.w _ _ = w5 at *
        clear hW d0 dz df
        have s0 := HS.out.bdr.cell (i := 0) rfl
        exact ⟨.tuple #[.int .i64 (-1), .slice none 0 0, .int .i64 2], by simp [results, Try.results17, go_sem, s0], tickPost_of HR.out HS.out⟩
      have hd1 : decide (n < 0) = false := by simpa using hneg
      have hn00 : 0 ≤ n := by omega
      by_cases hbig : (tskAt l k).cost < n
      · have hd2 : decide ((tskAt l k).cost < n) = true := by simpa using hbig
        (refine wp_region_ext (wb := wz) (by (repeat (first | exact Ext.bel _ | exact Bel.refl | refine Bel.alloc ?_ _ | refine Bel.drew ?_ | refine Bel.drewN ?_ _))) (by kernel_rfl) (by kernel_rfl) ?_; (repeat (any_goals (first | go_big_quiet_step (fail) | quiet_step (fail) | (refine wpQuiet_step (fun K hK => ?_); go_simp; split <;> (refine hK _ ?_; clear hK K))))); all_goals (refine wpQuiet_nil ?_; intro _ hw'; obtain ⟨y, hw''⟩ := hw'; subst hw''))
        have HR : Hid (tickX l xs st needs = ⟨-1, [], 2, st⟩) := Lib.hid (by rw [HTK.out, if_neg (fun q => by rw [← HND.out] at q; simp at q; omega)])
        have HY := HT.out.bel (HZB.out.trans y.bel)
        have d0 := HY.bdr.cell (i := 0) rfl
        have dz := HY.bdr.lt
        have df := HY.bdr.frozen 0
        have HS := Lib.hid (HY.setBd (ds' := []) (gro_refl y.w) (World.ownsRow_nil _ _ _ _))
        clear HY
        go_wp2
        generalize hW : World.setCell y.w _ _ = w5 at *
        clear hW d0 dz df
        have s0 := HS.out.bdr.cell (i := 0) rfl
        exact ⟨.tuple #[.int .i64 (-1), .slice none 0 0, .int .i64 2], by simp [results, Try.results17, go_sem, s0], tickPost_of HR.out HS.out⟩
      have hd2 : decide ((tskAt l k).cost < n) = false := by simpa using hbig
      (refine wp_region_ext (wb := wz) (by (repeat (first | exact Ext.bel _ | exact Bel.refl | refine Bel.alloc ?_ _ | refine Bel.drew ?_ | refine Bel.drewN ?_ _))) (by kernel_rfl) (by kernel_rfl) ?_; (repeat (any_goals (first | go_big_quiet_step (fail) | quiet_step (fail) | (refine wpQuiet_step (fun K hK => ?_); go_simp; split <;> (refine hK _ ?_; clear hK K))))); all_goals (refine wpQuiet_nil ?_; intro _ hw'; obtain ⟨y, hw''⟩ := hw'; subst hw''))
      have HND2 : Hid (needOk l (is.drop (i + 1)) (needs.drop (i + 1)) = needOk l is needs) := Lib.hid (by
        rw [← HND.out, decide_eq_true (show 0 ≤ n by omega), decide_eq_true (show n ≤ (tskAt l k).cost by omega)]; rfl)
      obtain ⟨z2, hz2⟩ := ext_of (HZB.out.trans y.bel)
      rw [hz2]
      clear hz2 hd1 hd2 hneg hbig n0 nz r0 rz x0 xz e0 ez t4
      go_wp2
      go_roundw
      case rel => exact ⟨i + 1, z2, by omega, by go_num, rfl, HND2.out⟩
      case measure => simp [intOf]; omega
    · obtain rfl : i = needs.length := by omega
      have hdl : decide ((needs.length : Int) < (needs.length : Int)) = false := by simp
      rw [need_end (by rw [HLEN.out]; exact Nat.le_refl _)] at hnd
      have HGO : Hid (tickX l xs st needs = ⟨(runX st.now (tickK xs st.now) (startX st.now is needs (st.js, []))).1, (runX st.now (tickK xs st.now) (startX st.now is needs (st.js, []))).2.2, 0, ⟨st.now + 1, (runX st.now (tickK xs st.now) (startX st.now is needs (st.js, []))).2.1⟩⟩) := Lib.hid (by
        rw [HTK.out, if_pos ⟨HLEN.out, hnd.symm⟩])
      have HNK : Hid (needOk l is needs = true) := Lib.hid hnd.symm
      have HT4 := Lib.hid (HT.out.bel z.bel)
      clear hnd HTK HT
      go_upto_region 14 with (fail)
      have hxn := HOK.out.n0
      have HP0 : Hid (startX st.now (is.drop 0) (needs.drop 0) (st.js, []) = startX st.now is needs (st.js, [])) := Lib.hid rfl
      have HM0 : Hid (MidOk l st.now st.js ∧ Fresh st.now st.js (is.drop 0)) := Lib.hid ⟨HOK.out.mid, fun i hi => (HOK.out.jn i (by have := HMEM.out i (by simpa using hi); omega)).2⟩
      go_wp2
      go_loopw [51] (fun si wr => ∃ (k : Nat) (dv : Value) (p : List JobX × List Don), k ≤ is.length ∧ si = .int .i64 k ∧ TkAt wb w w3 wr be bx bd (.slice Al l.length cl) (.slice Ax xs.length cx) l xs ⟨st.now, p.1⟩ dv p.2 ∧ startX st.now (is.drop k) (needs.drop k) p = startX st.now is needs (st.js, []) ∧ (MidOk l st.now p.1 ∧ Fresh st.now p.1 (is.drop k)) ∧ p.2.length ≤ k) (fun si _ => is.length - (intOf si).toNat)
      case atStart => exact ⟨0, _, (st.js, []), by omega, rfl, HT4.out, HP0.out, HM0.out, by simp⟩
      case round =>
        clear HP0 HM0 HT4
        obtain ⟨k, dv, p, hk, rfl, ht, hp, hm, hpl⟩ := hrel
        have HTK := Lib.hid ht
        have HP := Lib.hid hp
        have HM := Lib.hid hm
        clear ht hp hm
        by_cases hlt : k < is.length
        · have hlt2 : k < needs.length := by rw [HLEN.out]; exact hlt
          have hkN : (k : Int) < (needs.length : Int) := by omega
          have hkI : (k : Int) < (is.length : Int) := by omega
          have hsp := start_at (now := st.now) (p := p) hlt hlt2
          rw [HP.out] at hsp
          obtain ⟨bn, on, rfl, hbn, hbn1, hbn2, hcn⟩ := HVB.out (by omega)
          obtain ⟨br, rfl, hbr, hbr1, hbr2, hcr⟩ := HRB.out (by omega)
          have cn := (HTK.out.ints (o := on + k) hbn hbn1 hbn2).1.trans (hcn k hlt2)
          have nz := (HTK.out.ints (o := on + k) hbn hbn1 hbn2).2
          have cr_ := (HTK.out.ints (o := k) hbr hbr1 hbr2).1.trans (hcr k hlt)
          have rz := (HTK.out.ints (o := k) hbr hbr1 hbr2).2
          have hmem := HMEM.out (is.getD k 0) (by simp [List.getD, hlt])
          have hnk := need_k HNK.out hlt hlt2
          have hfr := HM.out.2 (is.getD k 0) (by rw [show is.getD k 0 = is[k] by simp [List.getD, hlt], List.drop_eq_getElem_cons hlt]; exact List.mem_cons_self)
          have HFR : Hid (Fresh st.now p.1 (is.drop (k + 1)) ∧ ∀ q ∈ is.drop (k + 1), is.getD k 0 < q) := Lib.hid ⟨fun q hq => HM.out.2 q (by rw [List.drop_eq_getElem_cons hlt]; exact List.mem_cons_of_mem _ hq), fun q hq => by
            have hs := HSO.out.drop (i := k)
            rw [List.drop_eq_getElem_cons hlt, List.pairwise_cons] at hs
            have := hs.1 q hq
            simpa [List.getD, hlt] using this⟩
          have HSP := Lib.hid hsp
          clear hcn hcr hsp
          generalize is.getD k 0 = t at *
          generalize needs.getD k 0 = n at *
          have htl : t < l.length := by omega
          have htj : t < p.1.length := by rw [HM.out.1.ln]; exact htl
          have ht8 : (t : Int) < 8 := by omega
          have HTN := Lib.hid (HTK.out.release htj n)
          have HMN := Lib.hid (mid_start HM.out.1 htl hxn hfr hnk.1 hnk.2)
          have HFN := Lib.hid (fresh_start (j := ⟨(jxAt p.1 t).num + 1, st.now, n⟩) HFR.out.1 htj HFR.out.2)
          have HJN := HM.out.1.jn t htl
          have hj1 : IntKind.i64.wrap ((jxAt p.1 t).num + 1) = (jxAt p.1 t).num + 1 := IntWalk.i64_in _ (by omega)
          have x0 := HTK.out.bxr.cell (i := 0) rfl
          have xz := HTK.out.bxr.lt
          have e2 := HTK.out.ex.c2
          have ez := HTK.out.ex.lt
          have j0 : wr.cell? ⟨be, 3 + t * 3, none⟩ = some (.int .i64 (jxAt p.1 t).num) := HTK.out.ex.cj (r := 0) htj (by omega)
          clear hmem hfr hnk
          go_upto_region 17 with (fail)
          (refine wp_region_qtail 22 (wb := wr) (by (repeat (first | exact Ext.bel _ | exact Bel.refl | refine Bel.alloc ?_ _ | refine Bel.drew ?_ | refine Bel.drewN ?_ _))) (by kernel_rfl) (by kernel_rfl) ?_; simp only [List.take_succ_cons, List.take_zero, List.drop_succ_cons, List.drop_zero]; (repeat (any_goals (first | go_big_quiet_step (fail) | quiet_step (fail) | (refine wpQuiet_step (fun K hK => ?_); go_simp; split <;> (refine hK _ ?_; clear hK K))))); all_goals (refine wpQuiet_nil ?_; intro _ hw'; obtain ⟨y, hw''⟩ := hw'; subst hw''))
          have HTY := Lib.hid ((HTK.out.bel y.bel).release htj n)
          have HEY := Lib.hid (HTK.out.bel y.bel)
          have k0 : y.w.cell? ⟨be, 3 + t * 3, none⟩ = some (.int .i64 (jxAt p.1 t).num) := HEY.out.ex.cj (r := 0) htj (by omega)
          have k1 : y.w.cell? ⟨be, 3 + t * 3 + 1, none⟩ = some (.int .i64 (jxAt p.1 t).rel) := HEY.out.ex.cj (r := 1) htj (by omega)
          have k2 : y.w.cell? ⟨be, 3 + t * 3 + 2, none⟩ = some (.int .i64 (jxAt p.1 t).lft) := HEY.out.ex.cj (r := 2) htj (by omega)
          have f0 := HEY.out.ex.row.frozen (3 + t * 3)
          have f1 := HEY.out.ex.row.frozen (3 + t * 3 + 1)
          have f2 := HEY.out.ex.row.frozen (3 + t * 3 + 2)
          have kz := HEY.out.ex.lt
          clear x0 xz e2 ez j0 cn nz cr_ rz hj1 HJN
          go_wp2_with fail
          have hRA := relSt_at (st := ⟨st.now, p.1⟩) (n := n) htj
          refine (finish_any _ HTY.out t (by unfold relSt; dsimp only; rw [List.length_set]; exact htj) (by unfold relSt; dsimp only; rw [List.length_set, HM.out.1.ln]; exact hl8) 0 (by omega) (by omega) hxn (by unfold relSt; dsimp only; omega) (by rw [hRA]; exact hxn) (by rw [hRA]; dsimp only; omega) (by have := HLR.out; omega)).mono ?_
          rintro e W5 ⟨rfl, dv', hT5⟩
          rw [relSt_fin htj] at hT5
          have HT5 := Lib.hid hT5
          have HSP2 := Lib.hid HSP.out.symm
          have HPL2 : Hid ((if n = 0 then p.2 ++ [(⟨t, (jxAt p.1 t).num + 1, st.now, 0, false⟩ : Don)] else p.2).length ≤ k + 1) := Lib.hid (by
            split
            · rw [List.length_append]; simp; omega
            · omega)
          clear hT5 hRA HTY HEY k0 k1 k2 f0 f1 f2 kz HTN
          go_wp2
          go_roundw
          case rel => exact ⟨k + 1, dv', (p.1.set t ⟨(jxAt p.1 t).num + 1, st.now, n⟩, if n = 0 then p.2 ++ [(⟨t, (jxAt p.1 t).num + 1, st.now, 0, false⟩ : Don)] else p.2), by omega, by go_num, HT5.out, HSP2.out, ⟨HMN.out, HFN.out⟩, HPL2.out⟩
          case measure => simp [intOf]; omega
        · obtain rfl : k = is.length := by omega
          have hpe := HP.out
          rw [start_end (Nat.le_refl _)] at hpe
          have hdl : decide ((is.length : Int) < (is.length : Int)) = false := by simp
          have HMM := Lib.hid HM.out.1
          rw [← hpe] at HGO
          clear hpe HP HM HVB HRB HNK HMEM HSO
          have HKM := Lib.hid (HOK.out.xk _ (tickK_mem hxn hx1))
          have HKT : Hid (tickK xs st.now = xs.getD (st.now % (xs.length : Int)).toNat 0) := Lib.hid rfl
          generalize tickK xs st.now = K at *
          obtain ⟨q, hq⟩ : ∃ q : Nat, st.now % (xs.length : Int) = q := ⟨(st.now % (xs.length : Int)).toNat, (Int.toNat_of_nonneg (Int.emod_nonneg st.now (b := (xs.length : Int)) (by omega))).symm⟩
          have hq2 : q < xs.length := by have := Int.emod_lt_of_pos st.now (b := (xs.length : Int)) (by omega); rw [hq] at this; omega
          have hqi : (q : Int) < (xs.length : Int) := by omega
          rw [hq, Int.toNat_natCast] at HKT
          have htm := Int.tmod_eq_emod_of_nonneg (a := st.now) (b := (xs.length : Int)) hxn
          rw [hq] at htm
          have hxz : ((xs.length : Int) == 0) = false := beq_eq_false_iff_ne.2 (by omega)
          obtain ⟨bq, oq, rfl, hbq, hcq⟩ := HTK.out.ex.ints.at_ (by omega)
          have hcq2 := hcq q hq2
          rw [← HKT.out] at hcq2
          have x0 := HTK.out.bxr.cell (i := 0) rfl
          have xz := HTK.out.bxr.lt
          have e1 := HTK.out.ex.c1
          have e2 := HTK.out.ex.c2
          have ez := HTK.out.ex.lt
          obtain ⟨Ad, cd, rfl, _⟩ := own_slice HTK.out.own
          clear hcq hq
          go_upto_region 20 with (fail)
          (refine wp_region_ext (wb := wr) (by (repeat (first | exact Ext.bel _ | exact Bel.refl | refine Bel.alloc ?_ _ | refine Bel.drew ?_ | refine Bel.drewN ?_ _))) (by kernel_rfl) (by kernel_rfl) ?_; (repeat (any_goals (first | go_big_quiet_step (fail) | quiet_step (fail) | (refine wpQuiet_step (fun K hK => ?_); go_simp; split <;> (refine hK _ ?_; clear hK K))))); all_goals (refine wpQuiet_nil ?_; intro _ hw'; obtain ⟨y, hw''⟩ := hw'; subst hw''))
          have HT6 := Lib.hid (HTK.out.bel y.bel)
          clear x0 xz e1 e2 ez hcq2 htm hxz HTK
          by_cases hK : K < 0
          · have hd1 : decide (K < 0) = true := by simpa using hK
            have a0 : True := trivial
            have a1 : True := trivial
            have a2 : True := trivial
            have a3 : True := trivial
            have HR : Hid (tickX l xs st needs = ⟨-1, p.2, 0, ⟨st.now + 1, p.1⟩⟩) := Lib.hid (by rw [HGO.out, run_none (.inl hK)])
            go_upto_region 22 with (fail)
            clear a0 a1 a2 a3
            have d0 := HT6.out.bdr.cell (i := 0) rfl
            have dz := HT6.out.bdr.lt
            have HZ6 := HT6
            clear HT6
            generalize y.w = wy at *
            clear y
            (refine wp_region_qtail 2 (wb := wy) (by (repeat (first | exact Ext.bel _ | exact Bel.refl | refine Bel.alloc ?_ _ | refine Bel.drew ?_ | refine Bel.drewN ?_ _))) (by kernel_rfl) (by kernel_rfl) ?_; simp only [List.take_succ_cons, List.take_zero, List.drop_succ_cons, List.drop_zero]; (repeat (any_goals (first | go_big_quiet_step (fail) | quiet_step (fail) | (refine wpQuiet_step (fun K hK => ?_); go_simp; split <;> (refine hK _ ?_; clear hK K))))); all_goals (refine wpQuiet_nil ?_; intro _ hw'; obtain ⟨y, hw''⟩ := hw'; subst hw''))
            have HT7 := HZ6.out.bel y.bel
            have d1 := HT7.bdr.cell (i := 0) rfl
            have d2 := HT7.bdr.lt
            have d3 := HT7.bdr.frozen 0
            have HT8 := Lib.hid (HT7.setBd (gro_refl y.w) HT7.own)
            clear HT7 d0 dz
            go_wp2
            generalize hW : World.setCell _ _ _ = w9 at *
            clear hW
            refine leaves_cons (f := 37) (args := #[.pointer (some ⟨bx, 0, none⟩)]) (by simp) (by simp [go_sem]) ?_
            refine (bump_deferred w9 HT8.out hxn (by show st.now ≤ _; omega) .returning).mono ?_
            rintro e u' w10 ⟨rfl, rfl, hT⟩
            have s0 := hT.bdr.cell (i := 0) rfl
            exact ⟨.tuple #[.int .i64 (-1), .slice Ad p.2.length cd, .int .i64 0], by simp [results, Try.results17, go_sem, s0], tickPost_of HR.out hT⟩
          have hd1 : decide (K < 0) = false := by simpa using hK
          obtain ⟨t, rfl⟩ : ∃ t : Nat, K = t := ⟨K.toNat, by omega⟩
          have htl : t < l.length := by have := HKM.out; omega
          have htj : t < p.1.length := by rw [HMM.out.ln]; exact htl
          have ht8 : (t : Int) < 8 := by omega
          clear hK
          have a0 := HT6.out.bxr.cell (i := 0) rfl
          have a1 := HT6.out.bxr.lt
          have a2 : y.w.cell? ⟨be, 3 + t * 3 + 2, none⟩ = some (.int .i64 (jxAt p.1 t).lft) := HT6.out.ex.cj (r := 2) htj (by omega)
          have a3 := HT6.out.ex.lt
          by_cases hz : (jxAt p.1 t).lft = 0
          · have hq1 : ((jxAt p.1 t).lft == 0) = true := by simpa using hz
            have HR : Hid (tickX l xs st needs = ⟨-1, p.2, 0, ⟨st.now + 1, p.1⟩⟩) := Lib.hid (by rw [HGO.out, run_none (.inr (by rw [Int.toNat_natCast]; exact hz))])
            go_upto_region 22 with (fail)
            clear a0 a1 a2 a3
            have d0 := HT6.out.bdr.cell (i := 0) rfl
            have dz := HT6.out.bdr.lt
            have HZ6 := HT6
            clear HT6
            generalize y.w = wy at *
            clear y
            (refine wp_region_qtail 2 (wb := wy) (by (repeat (first | exact Ext.bel _ | exact Bel.refl | refine Bel.alloc ?_ _ | refine Bel.drew ?_ | refine Bel.drewN ?_ _))) (by kernel_rfl) (by kernel_rfl) ?_; simp only [List.take_succ_cons, List.take_zero, List.drop_succ_cons, List.drop_zero]; (repeat (any_goals (first | go_big_quiet_step (fail) | quiet_step (fail) | (refine wpQuiet_step (fun K hK => ?_); go_simp; split <;> (refine hK _ ?_; clear hK K))))); all_goals (refine wpQuiet_nil ?_; intro _ hw'; obtain ⟨y, hw''⟩ := hw'; subst hw''))
            have HT7 := HZ6.out.bel y.bel
            have d1 := HT7.bdr.cell (i := 0) rfl
            have d2 := HT7.bdr.lt
            have d3 := HT7.bdr.frozen 0
            have HT8 := Lib.hid (HT7.setBd (gro_refl y.w) HT7.own)
            clear HT7 d0 dz
            go_wp2
            generalize hW : World.setCell _ _ _ = w9 at *
            clear hW
            refine leaves_cons (f := 37) (args := #[.pointer (some ⟨bx, 0, none⟩)]) (by simp) (by simp [go_sem]) ?_
            refine (bump_deferred w9 HT8.out hxn (by show st.now ≤ _; omega) .returning).mono ?_
            rintro e u' w10 ⟨rfl, rfl, hT⟩
            have s0 := hT.bdr.cell (i := 0) rfl
            exact ⟨.tuple #[.int .i64 (-1), .slice Ad p.2.length cd, .int .i64 0], by simp [results, Try.results17, go_sem, s0], tickPost_of HR.out hT⟩
          have hq1 : ((jxAt p.1 t).lft == 0) = false := by simpa using hz
          have hrs := run_some (st := ⟨st.now, p.1⟩) (d := p.2) htj hz
          have HR : Hid (tickX l xs st needs = ⟨t, finD (exeSt ⟨st.now, p.1⟩ t) t 1 p.2, 0, ⟨st.now + 1, (exeSt ⟨st.now, p.1⟩ t).js⟩⟩) := Lib.hid (by rw [HGO.out, hrs])
          have hjl := HMM.out.jl t htl
          have hjr := HMM.out.jr t htl
          have hco := tok_at HOK.out.h0 htl
          have hc2 := hco.c2
          have hd2 := hco.d2
          have hp2 := hco.p2
          have hwr : IntKind.i64.wrap ((jxAt p.1 t).lft - 1) = (jxAt p.1 t).lft - 1 := IntWalk.i64_in _ (by omega)
          clear hrs hco
          go_upto_region 23 with (fail)
          have HZ6 := HT6
          clear HT6
          generalize y.w = wy at *
          clear y
          (refine wp_region_qtail 12 (wb := wy) (by (repeat (first | exact Ext.bel _ | exact Bel.refl | refine Bel.alloc ?_ _ | refine Bel.drew ?_ | refine Bel.drewN ?_ _))) (by kernel_rfl) (by kernel_rfl) ?_; simp only [List.take_succ_cons, List.take_zero, List.drop_succ_cons, List.drop_zero]; (repeat (any_goals (first | go_big_quiet_step (fail) | quiet_step (fail) | (refine wpQuiet_step (fun K hK => ?_); go_simp; split <;> (refine hK _ ?_; clear hK K))))); all_goals (refine wpQuiet_nil ?_; intro _ hw'; obtain ⟨y, hw''⟩ := hw'; subst hw''))
          have HT7 := HZ6.out.bel y.bel
          have b2 : y.w.cell? ⟨be, 3 + t * 3 + 2, none⟩ = some (.int .i64 (jxAt p.1 t).lft) := HT7.ex.cj (r := 2) htj (by omega)
          have b3 := HT7.ex.row.frozen (3 + t * 3 + 2)
          have b4 := HT7.ex.lt
          have HT8 := Lib.hid (HT7.execute htj)
          clear HT7 a0 a1 a2 a3 hwr
          go_wp2_with fail
          have e1 : jxAt (exeSt ⟨st.now, p.1⟩ t).js t = { jxAt p.1 t with lft := (jxAt p.1 t).lft - 1 } := by unfold exeSt; dsimp only; rw [jxAt_set htj, if_pos rfl]
          refine (finish_any _ HT8.out t (by unfold exeSt; dsimp only; rw [List.length_set]; exact htj) (by unfold exeSt; dsimp only; rw [List.length_set, HMM.out.ln]; exact hl8) 1 (by omega) (by omega) hxn (by show st.now ≤ _; omega) (by rw [e1]; exact hjr.1) (by rw [e1]; dsimp only; omega) (by have := HLR.out; omega)).mono ?_
          rintro e W5 ⟨rfl, dv', hT5⟩
          obtain ⟨Ae, ce, rfl, _⟩ := own_slice hT5.own
          have HT9 := Lib.hid hT5
          have HWW := Lib.hid (Nat.le_refl W5.heap.size)
          clear hT5 e1 HT8 b2 b3 b4 HZ6
          have d0 := HT9.out.bdr.cell (i := 0) rfl
          have dz := HT9.out.bdr.lt
          go_upto_region 25 with (fail)
          (refine wp_region_qtail 3 (wb := W5) (by (repeat (first | exact Ext.bel _ | exact Bel.refl | refine Bel.alloc ?_ _ | refine Bel.drew ?_ | refine Bel.drewN ?_ _))) (by kernel_rfl) (by kernel_rfl) ?_; simp only [List.take_succ_cons, List.take_zero, List.drop_succ_cons, List.drop_zero]; (repeat (any_goals (first | go_big_quiet_step (fail) | quiet_step (fail) | (refine wpQuiet_step (fun K hK => ?_); go_simp; split <;> (refine hK _ ?_; clear hK K))))); all_goals (refine wpQuiet_nil ?_; intro _ hw'; obtain ⟨y, hw''⟩ := hw'; subst hw''))
          have HTa := HT9.out.bel y.bel
          have d1 := HTa.bdr.cell (i := 0) rfl
          have d2 := HTa.bdr.lt
          have d3 := HTa.bdr.frozen 0
          have HTb := Lib.hid (HTa.setBd (gro_refl y.w) HTa.own)
          clear HTa d0 dz HT9
          go_wp2
          generalize hW : World.setCell _ _ _ = w9 at *
          clear hW
          refine leaves_cons (f := 37) (args := #[.pointer (some ⟨bx, 0, none⟩)]) (by simp) (by simp [go_sem]) ?_
          refine (bump_deferred w9 HTb.out hxn (by show st.now ≤ _; omega) .returning).mono ?_
          rintro e u' w10 ⟨rfl, rfl, hT⟩
          have s0 := hT.bdr.cell (i := 0) rfl
          exact ⟨.tuple #[.int .i64 t, .slice Ae (finD (exeSt ⟨st.now, p.1⟩ t) t 1 p.2).length ce, .int .i64 0], by simp [results, Try.results17, go_sem, s0], tickPost_of HR.out hT⟩
end Go.Proofs.Ytbilfpoghohddaa
