import Derived.Test.YtbilfpoghohddaaZSref
namespace Go.Proofs.Ytbilfpoghohddaa
open Go.RowKit
def respR (l : List Tsk) (j : Nat) : List Int := (List.range j).map (respM l (blocks l))
def okB (r : Int) : Bool := decide (0 ≤ r)
theorem respR_succ (l : List Tsk) (j : Nat) : respR l (j + 1) = respR l j ++ [respM l (blocks l) j] := by simp [respR, List.range_succ]
theorem respR_all (l : List Tsk) (j : Nat) : (respR l (j + 1)).all okB = ((respR l j).all okB && okB (respM l (blocks l) j)) := by rw [respR_succ]; simp
theorem fixedM_ok {l : List Tsk} (h : rchk l = 0) : fixedM l = (respR l l.length, (respR l l.length).all okB, 0) := by unfold fixedM; rw [if_pos h]; rfl
theorem fixedM_no {l : List Tsk} (h : rchk l ≠ 0) : fixedM l = ([], false, rchk l) := by unfold fixedM; rw [if_neg h]
/-- what Fixed hands back -/
def FixedPost (l : List Tsk) (w : World) (e : Ending) (w' : World) : Prop :=
  ∃ v, e = .returned (.tuple #[v, .bool (fixedM l).2.1, .int .i64 (fixedM l).2.2]) ∧ IntsAt w' w'.heap.size v (fixedM l).1 ∧ Bel w w' ∧ ∀ k, v.ownBlock = some k → w.heap.size ≤ k
theorem respM_sign (l : List Tsk) (bl : List Int) (i : Nat) : respM l bl i = -1 ∨ (1 ≤ respM l bl i ∧ respM l bl i ≤ (tskAt l i).dl.toNat) := by
  unfold respM
  rcases fixN_bd (f := respF l ((tskAt l i).cost + bl.getD i 0) (tskAt l i).prio) (tskAt l i).dl.toNat 1 (by omega) with h | ⟨h1, h2, _⟩
  · rw [if_pos h]; exact .inl rfl
  · rw [if_neg (by omega)]; exact .inr ⟨h1, by omega⟩
set_option maxRecDepth 100000 in
set_option maxHeartbeats 8000000 in
theorem rfixed_any (v : Value) (l : List Tsk) (w : World) (h : TsksAt w w.heap.size v l) (hs : Sized l) : Calls Try.prog 29 #[v] w (FixedPost l w) := by
  have HBK := Lib.hid (rblocking_any v l w h hs)
  by_cases h0 : rchk l = 0
  · obtain ⟨hl8, hok⟩ := rchk_ok h0
    have hmd := fixedM_ok h0
    have HT := Lib.hid (toks_of h0)
    have HBD := Lib.hid (fun i (hi : i < l.length) => blocks_bd h0 hi)
    have HH := Lib.hid h
    obtain ⟨A, c, rfl, hlc⟩ := h.form
    have HMD := Lib.hid hmd
    have H0 := Lib.hid h0
    clear h hs hok hmd h0
    go_enter Try.func29, Try.ntmps29
    go_wp2_with fail
    refine HBK.out.mono ?_
    rintro e w2 ⟨vb, rfl, hvb, hb2, _⟩
    rw [H0.out] at hvb ⊢
    rw [if_pos rfl] at hvb
    obtain ⟨x0, rfl⟩ := ext_of hb2
    have HVB := Lib.hid hvb
    obtain ⟨Ab, cb, rfl, hcb⟩ := hvb.form
    rw [blocks_len] at *
    clear hvb HBK hb2 hcb
    go_wp2
    go_loopw [7, 8, 9] (fun s7 s8 s9 wr => ∃ (j : Nat) (v7 : Value) (z : Ext x0.w), j ≤ l.length ∧ s7 = v7 ∧ s8 = .bool ((respR l j).all okB) ∧ s9 = .int .i64 j ∧ wr = z.w ∧ z.w.ownsRow x0.w.heap.size 2 1 v7 j ((respR l j).map (Value.int .i64))) (fun _ _ s9 _ => l.length - (intOf s9).toNat)
    case atStart => exact ⟨0, _, ⟨x0.w, Bel.refl⟩, by omega, rfl, rfl, rfl, rfl, World.ownsRow_nil x0.w _ _ _⟩
    case round =>
      obtain ⟨j, v7, z, hj, rfl, rfl, rfl, rfl, hown⟩ := hrel
      by_cases hlt : j < l.length
      · have hdl : decide ((j : Int) < (l.length : Int)) = true := by simp; omega
        have HC := Lib.hid (rresp_any _ _ l (blocks l) j z.w (HH.out.keep (x0.bel.trans z.bel).keeps (x0.bel.trans z.bel).le) (HVB.out.keep z.bel.keeps z.bel.le) hl8 HT.out hlt (blocks_len l) (HBD.out j hlt).1 (HBD.out j hlt).2)
        have HOWN := Lib.hid hown
        have hall := respR_all l j
        have hsc := respR_succ l j
        have hsg := respM_sign l (blocks l) j
        generalize respM l (blocks l) j = r at *
        have HALL := Lib.hid hall
        have HSC := Lib.hid hsc
        clear hall hsc hown
        obtain ⟨j0, hj0, hy0, hy1, hy2⟩ := info_parts Try.infoLong
        go_upto_region 10 with (first | (go_at_call 53; (with_reducible refine (HC.out).mono ?_); rintro e w2 ⟨rfl, hb2⟩; have HB2 := Lib.hid hb2; clear hb2))
        have hown := ownsRow_bel HOWN.out HB2.out
        have hle : x0.w.heap.size ≤ w2.heap.size := (z.bel.trans HB2.out).le
        generalize hab : (respR l j).all okB = ab at *
        clear hab
        go_upto_region 11 with (at_builtin; go_must (refine wpList_append_own _ rfl _ _ 36 rfl x0.w.heap.size 2 j0 _ 1 8 Try.underlying36 hj0 hy0 hy1 hy2 rfl (by decide) _ _ _ rfl (hown.alloc _) ⟨w2.heap.size, 0, none⟩ 1 1 [.int .i64 r] rfl rfl ?d1 ?d2 ?d3 ?d4 ?d5 ?_))
        case d1 => exact cells_new _ [.int .i64 r] _
        case d2 => intro u hu; simp at hu; subst hu; rfl
        case d3 => unfold maxLen; omega
        case d4 => omega
        case d5 => simp; omega
        intro v8 w3 hown3 hg3 _
        have hbel := bel_grown ((z.bel.trans HB2.out).alloc _) (hown.alloc _) hg3
        have HOW3 : Hid (w3.ownsRow x0.w.heap.size 2 1 v8 (j + 1) ((respR l (j + 1)).map (Value.int .i64))) := Lib.hid (by rw [HSC.out, List.map_append]; exact hown3)
        have HBL := Lib.hid hbel
        clear hown3 hg3 hbel hown hj0 hy0 hy1 hy2 hsg
        by_cases hr0 : 0 ≤ r
        · have hdr : decide (0 ≤ r) = true := by simpa using hr0
          have hok : okB r = true := hdr
          rw [hok] at HALL
          cases ab
          all_goals
            go_wp2
            go_roundw
            case rel => exact ⟨j + 1, _, ⟨w3, HBL.out⟩, by omega, rfl, by rw [HALL.out]; rfl, by go_num, rfl, HOW3.out⟩
            case measure => simp [intOf]; omega
        · have hdr : decide (0 ≤ r) = false := by simpa using hr0
          have hok : okB r = false := hdr
          rw [hok] at HALL
          cases ab
          all_goals
            go_wp2
            go_roundw
            case rel => exact ⟨j + 1, _, ⟨w3, HBL.out⟩, by omega, rfl, by rw [HALL.out]; rfl, by go_num, rfl, HOW3.out⟩
            case measure => simp [intOf]; omega
      · obtain rfl : j = l.length := by omega
        have hdl : decide ((l.length : Int) < (l.length : Int)) = false := by simp
        have hI : IntsAt z.w z.w.heap.size _ (respR l l.length) := IntsAt.of_own (by rw [show (respR l l.length).length = l.length by simp [respR]]; exact hown)
        obtain ⟨A3, c3, rfl, _⟩ := hI.form
        have HI := Lib.hid hI
        have hob := hown.lt
        have HOB := Lib.hid hob
        have hx0 := x0.bel.le
        clear hI hown hob
        rw [show (respR l l.length).length = l.length by simp [respR]] at *
        go_wp2
        go_ret3
        exact ⟨_, by rw [HMD.out]; rfl, by rw [HMD.out]; exact HI.out, x0.bel.trans z.bel, fun k hk => by have := (HOB.out k hk).1; omega⟩
  · have HMD := Lib.hid (fixedM_no h0)
    have hne : (rchk l == 0) = false := by simpa using h0
    obtain ⟨A, c, rfl, hlc⟩ := h.form
    clear h hs
    go_enter Try.func29, Try.ntmps29
    go_wp2_with fail
    refine HBK.out.mono ?_
    rintro e w2 ⟨vb, rfl, hvb, hb2, _⟩
    rw [if_neg h0] at hvb
    obtain ⟨Ab, cb, rfl, hcb⟩ := hvb.form
    have HB2 := Lib.hid hb2
    clear hvb HBK hb2 hcb
    generalize rchk l = ck at *
    go_wp2
    go_ret3
    exact ⟨_, by rw [HMD.out]; rfl, by rw [HMD.out]; exact ⟨none, 0, rfl, Nat.le_refl _, fun h => absurd h (by simp)⟩, HB2.out, fun k hk => by simp [Value.ownBlock] at hk⟩
end Go.Proofs.Ytbilfpoghohddaa
