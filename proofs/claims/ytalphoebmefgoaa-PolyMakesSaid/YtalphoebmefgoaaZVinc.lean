/- poly.Includes. -/
import Derived.Test.YtalphoebmefgoaaG41
import Derived.Test.YtalphoebmefgoaaG40
namespace Go.Proofs.Ytalphoebmefgoaa
open Go.RowKit
def inclF (n : Nat) (ls : List Ln) : List Ln → Bool × Int
  | [] => (true, 0)
  | x :: t => if (emptyL n (ls ++ [oppL x])).2 ≠ 0 ∨ (emptyL n (ls ++ [oppL x])).1 = false then (false, (emptyL n (ls ++ [oppL x])).2) else inclF n ls t
def includesM (n : Int) (a b : List AL) : Bool × Int := if check2 n a b ≠ 0 then (false, check2 n a b) else inclF n.toNat (padAll b) (padAll a)
theorem check2_both {n : Int} {a b : List AL} (h : check2 n a b = 0) : checkM n a = 0 ∧ checkM n b = 0 := by
  unfold check2 at h
  by_cases ha : checkM n a = 0
  · rw [if_neg (by simp [ha])] at h; exact ⟨ha, h⟩
  · rw [if_pos ha] at h; exact absurd h ha
set_option maxRecDepth 100000 in
set_option maxHeartbeats 8000000 in
theorem includes_any (n : Int) (va vb : Value) (a b : List AL) (w : World) (ha : LinesAt w w.heap.size va a) (hb : LinesAt w w.heap.size vb b) (hla : AlLens a) (hlb : AlLens b) (hna : a.length ≤ 1000000) (hnb : b.length ≤ 1000000) :
    Calls Try.prog 30 #[.int .i64 n, va, vb] w (BoPost (includesM n a b) w) := by
  have HA := Lib.hid ha
  have HBB := Lib.hid hb
  obtain ⟨Aa, ca, rfl, _⟩ := ha.form
  obtain ⟨Ab, cb, rfl, _⟩ := hb.form
  have HRQ := RowAt.new w 22 [.slice Aa a.length ca, .slice Ab b.length cb]
  have hbq : Bel w (w.alloc (.cells [.slice Aa a.length ca, .slice Ab b.length cb].toArray 22)) := Bel.refl.alloc _
  have HCK := Lib.hid (checked_any n _ _ _ a b _ HRQ (ha.bel hbq) (hb.bel hbq) hla hlb hna hnb)
  have HBQ := Lib.hid hbq
  clear ha hb HRQ hbq
  go_enter Try.func30, Try.ntmps30
  go_wp2_with fail
  refine HCK.out.mono ?_
  rintro e w1 ⟨rfl, hB⟩
  have HB1 := Lib.hid (HBQ.out.trans hB)
  clear hB HCK HBQ
  by_cases hck : check2 n a b = 0
  · obtain ⟨hca, hcb⟩ := check2_both hck
    have HCA := Lib.hid hca
    have HCB := Lib.hid hcb
    rw [hck]
    have h0 : ((0 : Int) != 0) = false := rfl
    obtain ⟨hn5, hl1, _⟩ := check_fits hca
    obtain ⟨_, hl2, _⟩ := check_fits hcb
    have HM : Hid (includesM n a b = inclF n.toNat (padAll b) (padAll a)) := Lib.hid (by unfold includesM; rw [if_neg (by simp [hck])])
    obtain ⟨m, rfl⟩ : ∃ m : Nat, n = (m : Int) := ⟨n.toNat, by omega⟩
    have hm5 : m ≤ 5 := by omega
    rw [Int.toNat_natCast] at HM
    clear hck hca hcb hn5
    have HOB := Lib.hid (of_any _ b w1 (HBB.out.bel HB1.out) (by omega) (check_lens HCB.out))
    go_wp2_with fail
    refine HOB.out.mono ?_
    rintro e w2 ⟨q2, rfl, hq2, hB, hr⟩
    have HB2 := Lib.hid (HB1.out.trans hB)
    have HLB := Lib.hid (OfPost.lns hq2 (by omega) hr)
    clear hq2 hB hr HOB
    have HOA := Lib.hid (of_any _ a w2 (HA.out.bel HB2.out) (by omega) (check_lens HCA.out))
    go_wp2_with fail
    refine HOA.out.mono ?_
    rintro e w3 ⟨q3, rfl, hq3, hB, hr⟩
    have HB3 := Lib.hid (HB2.out.trans hB)
    have HLA := Lib.hid (OfPost.lns hq3 (by omega) hr)
    have HLB3 := Lib.hid (HLB.out.bel hB)
    have hpa := pad_len a
    have hpb := pad_len b
    have HPA := Lib.hid (pad_inr HCA.out)
    have HPB := Lib.hid (pad_inr HCB.out)
    rw [← hpa] at hl1 HLA ⊢
    rw [← hpb] at hl2 HLB3 ⊢
    clear hq3 hB hr HOA HLB hpa hpb
    generalize padAll a = la at *
    generalize padAll b = lb at *
    go_wp2
    go_loopw [27] (fun s27 wq => ∃ (k : Nat) (y : Ext w3), k ≤ la.length ∧ s27 = .int .i64 k ∧ wq = y.w ∧ inclF m lb (la.drop k) = includesM m a b) (fun s27 _ => la.length + 1 - (intOf s27).toNat)
    case atStart => exact ⟨0, ⟨_, Bel.refl⟩, Nat.zero_le _, rfl, rfl, HM.out.symm⟩
    case round =>
      obtain ⟨k, y, hk, rfl, rfl, hf⟩ := hrel
      have HB := Lib.hid (HB3.out.trans y.bel)
      by_cases hlt : k < la.length
      · have hd : decide ((k : Int) < (la.length : Int)) = true := by simp; omega
        have hL : (k : Int) < (la.length : Int) := by omega
        have wk : IntKind.i64.wrap ((k : Int) + 1) = ((k + 1 : Nat) : Int) := IntWalk.i64_in _ (by omega)
        obtain ⟨g, off, e1, hg, hcl⟩ := (HLA.out.keep y.bel.keeps y.bel.le).at_ (by omega)
        injection e1 with e1
        injection e1 with e1 e2
        subst e1; subst e2
        obtain ⟨x0, x1, x2, x3, x4, x5, x6, x7⟩ := rd_line hcl hlt
        simp only [Nat.zero_add] at x0 x1 x2 x3 x4 x5 x6 x7
        clear hcl
        rw [lns_drop hlt] at hf
        have HXI := Lib.hid (HPA.out _ (lnAt_mem hlt))
        generalize lnAt la k = X at *
        have HF : Hid ((if (emptyL m (lb ++ [oppL X])).2 ≠ 0 ∨ (emptyL m (lb ++ [oppL X])).1 = false then (false, (emptyL m (lb ++ [oppL X])).2) else inclF m lb (la.drop (k + 1))) = includesM m a b) := Lib.hid hf
        clear hf
        have HIM := Lib.hid (fun W (hW : Bel w3 W) => implied_any m _ lb X W hm5 (HLB3.out.bel hW) (by omega) HPB.out HXI.out)
        generalize emptyL m (lb ++ [oppL X]) = M at *
        obtain ⟨eb, er⟩ := M
        simp only at HF
        go_wp2_with fail
        refine (HIM.out _ (y.bel.alloc _)).mono ?_
        rintro e w4 ⟨rfl, hB⟩
        have HB4 := Lib.hid ((y.bel.alloc _).trans hB)
        clear hB HIM x0 x1 x2 x3 x4 x5 x6 x7 hg
        by_cases he : er = 0
        · subst he
          have t0 : ((0 : Int) != 0) = false := rfl
          cases eb
          · have HP : Hid (BoPost (includesM m a b) w (.returned (.tuple #[.bool false, .int .i64 0])) w4) := Lib.hid ⟨by have := HF.out; rw [if_pos (.inr rfl)] at this; rw [← this], HB3.out.trans HB4.out⟩
            clear HF
            go_wp2
            go_ret2
            exact HP.out
          · have HF2 : Hid (inclF m lb (la.drop (k + 1)) = includesM m a b) := Lib.hid (by have := HF.out; rwa [if_neg (by simp)] at this)
            clear HF
            go_wp2
            go_roundw
            case rel => exact ⟨k + 1, ⟨_, HB4.out⟩, hlt, by go_num, rfl, HF2.out⟩
            case measure => simp [intOf]; omega
        · have t0 : (er != 0) = true := by simp [he]
          have HP : Hid (BoPost (includesM m a b) w (.returned (.tuple #[.bool false, .int .i64 er])) w4) := Lib.hid ⟨by have := HF.out; rw [if_pos (.inl he)] at this; rw [← this], HB3.out.trans HB4.out⟩
          clear HF he
          go_wp2
          go_ret2
          exact HP.out
      · obtain rfl : k = la.length := by omega
        have hd : decide ((la.length : Int) < (la.length : Int)) = false := by simp
        have HP : Hid (BoPost (includesM m a b) w (.returned (.tuple #[.bool true, .int .i64 0])) y.w) := Lib.hid ⟨by rw [← hf, List.drop_length]; rfl, HB.out⟩
        clear hf
        go_wp2
        go_ret2
        exact HP.out
  · have h0 : (check2 n a b != 0) = true := by simp [hck]
    have HF : Hid (BoPost (includesM n a b) w (.returned (.tuple #[.bool false, .int .i64 (check2 n a b)])) w1) := Lib.hid (by
      have e : includesM n a b = (false, check2 n a b) := by unfold includesM; rw [if_pos hck]
      exact ⟨by rw [e], HB1.out⟩)
    clear hck
    generalize check2 n a b = er at *
    go_wp2
    go_ret2
    exact HF.out
end Go.Proofs.Ytalphoebmefgoaa
