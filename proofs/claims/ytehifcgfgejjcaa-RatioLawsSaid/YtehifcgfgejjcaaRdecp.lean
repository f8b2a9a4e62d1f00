import Derived.Test.YtehifcgfgejjcaaRdec
import Derived.Test.YtehifcgfgejjcaaRow
import Derived.Deep.Cut
namespace Go.Proofs.Ytehifcgfgejjcaa
open Go.RowKit
def u8V (c : UInt8) : Value := .int .u8 (c.toNat : Int)
theorem add_ofs' (g k : Nat) : (⟨g, 0, none⟩ : Addr).add k = ⟨g, k, none⟩ := by
  unfold Addr.add; split
  · subst_vars; rfl
  · simp
theorem drop_set {α : Type} {l : List α} {k : Nat} (h : k < l.length) (v : α) : (l.set k v).drop k = v :: l.drop (k + 1) := by
  rw [List.drop_eq_getElem_cons (by simpa using h), List.drop_set]
  simp
theorem Try.infoU8 : (Try.prog.info? 5).map (fun i => (i.zero, i.size, i.bytes)) = some (some (.int .u8 0), 1, 1) := by kernel_rfl
theorem Try.sizeU8 : (Try.prog.info? 5).map (·.size) = some 1 := by kernel_rfl
/-- make of n bytes -/
theorem make_bytes (n : Nat) (hn : n ≤ 1000000) (W : World) : (Instr.makeSlice 55 (.int .i64 (n : Int)) (.int .i64 (n : Int))).run Try.prog W =
      .ok (.slice (some ⟨W.heap.size, 0, none⟩) n n) (W.alloc (.cells (Array.replicate n (Value.int .u8 0)) 5)) := by
  obtain ⟨i0, hi, hz0, hz1, hz2⟩ := info_parts Try.infoU8
  have h := run_make (P := Try.prog) W 55 5 i0 _ Try.underlying55 hi hz0 .i64 .i64 (n : Int) (n : Int) (by omega) (by omega) (by rw [hz2]; omega) (by omega)
  rw [hz1, Int.toNat_natCast] at h
  rw [h]
  congr 2
  have : madeCells (Value.int IntKind.u8 0).cells (n * 1) = (Array.replicate n (Value.int .u8 0)) := by
    apply Array.ext
    · simp [madeCells]
    · intro i h1 h2; simp [madeCells, Value.cells, Nat.mod_one]
  rw [this]
theorem slice_arr (W : World) (p k : Nat) (hk : k < 20) : (Instr.sliceAt 54 (.pointer (some ⟨p, 0, none⟩)) (some (.int .i64 (k : Int))) none none).run Try.prog W = .ok (.slice (some ⟨p, k, none⟩) (20 - k) (20 - k)) W := by
  have hl : Try.prog.arrayLen 54 = 20 := by kernel_rfl
  have he : Try.prog.elem 54 = 5 := by kernel_rfl
  have hu : Try.prog.underlying 54 = some (.array (Try.prog.arrayLen 54) (Try.prog.elem 54)) := by kernel_rfl
  obtain ⟨i0, hi, hz0, hz1, hz2⟩ := info_parts Try.infoU8
  have h := run_sliceAt_array_l (P := Try.prog) W 54 ⟨p, 0, none⟩ hu .i64 (k : Int) (by omega) (by rw [hl]; omega)
  rw [h, hl, he, Int.toNat_natCast]
  simp [sizeOf, typeInfo, hi, hz1, slicedAt, if_neg (show ¬ 20 = k by omega), add_ofs']
theorem conv_row (W : World) (q k : Nat) (l : List UInt8) (hk : l.length = k) (R : RowAt W q 5 (l.map u8V)) :
    (convert 55 9 (.slice (some ⟨q, 0, none⟩) k k)).run Try.prog W = .ok (.string ⟨l.toArray⟩) W := by
  subst hk
  refine run_convert_bytes_back W 55 9 5 ⟨q, 0, none⟩ l.length l Try.underlying55 Try.underlying5 Try.underlying9 ?_
  intro j hj
  rw [add_ofs', R.cell?]
  simp [hj, u8V]
theorem copy_bytes (W w : World) (q p k n : Nat) (cur cs : List Value) (hk : cs.length = n) (hc : cur.length = n) (RQ : RowAt W q 5 cur) (hs : ∀ j v, cs[j]? = some v → W.cell? ⟨p, k + j, none⟩ = some v) (h1 : ∀ v ∈ cs, v.oneCell' = true) (hb : Bel w W) (hq : w.heap.size ≤ q) (ty : TypeId) :
    ∃ W2, (Builtin.copy_ #[55, 55] ty #[.slice (some ⟨q, 0, none⟩) n n, .slice (some ⟨p, k, none⟩) n n]).run Try.prog W = .ok (goInt n) W2 ∧ RowAt W2 q 5 cs ∧ Bel w W2 := by
  have h := run_copy_row (P := Try.prog) W 55 55 ty 5 q 0 n n ⟨p, k, none⟩ n n cur.toArray 5 cs Try.underlying55 Try.sizeU8 RQ (by simpa using hk) (fun j v hj => by
    have := hs j v hj
    unfold Addr.add
    split
    · subst_vars; simpa using this
    · exact this) (by simp [hk, hc]) h1
  rw [hk] at h
  refine ⟨_, h, ?_, below_setRow hb hq _⟩
  have := setRow_heap W q cur.toArray (cur.toArray.toList.take 0 ++ cs ++ cur.toArray.toList.drop (0 + n)).toArray 5 (0, 0) RQ
  unfold RowAt
  rw [this]
  simp [← hc]
theorem u8V_dig (j : Nat) : u8V (UInt8.ofNat (48 + j % 10)) = .int .u8 (48 + (j : Int) % 10) := by
  unfold u8V
  congr 1
  rw [UInt8.toNat_ofNat']
  omega
theorem splice_all {cur cs : List Value} (h : cur.length = cs.length) : splice cur 0 cs = cs := by
  simp [splice, ← h]
set_option maxRecDepth 100000 in
set_option maxHeartbeats 4000000 in
theorem pdec_any (n : Int) (w : World) (h : i64 n) :
    Calls Try.prog 41 #[.int .i64 n] w fun e w' => e = .returned (.string ⟨(decL n).toArray⟩) ∧ Bel w w' := by
  have HN := Lib.hid h
  unfold i64 at h
  have HK : absU n = ((n.natAbs : Nat) : Int) := rfl
  replace HK := Lib.hid HK
  go_enter Try.func41, Try.ntmps41
  go_wp2_with fail
  have R0 : RowAt (w.alloc (.cells #[.int .u8 0, .int .u8 0, .int .u8 0, .int .u8 0, .int .u8 0, .int .u8 0, .int .u8 0, .int .u8 0, .int .u8 0, .int .u8 0, .int .u8 0, .int .u8 0, .int .u8 0, .int .u8 0, .int .u8 0, .int .u8 0, .int .u8 0, .int .u8 0, .int .u8 0, .int .u8 0] 54)) w.heap.size 54 [.int .u8 0, .int .u8 0, .int .u8 0, .int .u8 0, .int .u8 0, .int .u8 0, .int .u8 0, .int .u8 0, .int .u8 0, .int .u8 0, .int .u8 0, .int .u8 0, .int .u8 0, .int .u8 0, .int .u8 0, .int .u8 0, .int .u8 0, .int .u8 0, .int .u8 0, .int .u8 0] := RowAt.new w _ _
  have HB0 : Hid (Bel w (w.alloc (.cells #[.int .u8 0, .int .u8 0, .int .u8 0, .int .u8 0, .int .u8 0, .int .u8 0, .int .u8 0, .int .u8 0, .int .u8 0, .int .u8 0, .int .u8 0, .int .u8 0, .int .u8 0, .int .u8 0, .int .u8 0, .int .u8 0, .int .u8 0, .int .u8 0, .int .u8 0, .int .u8 0] 54))) := Lib.hid (Bel.refl.alloc _)
  refine (pabs_any n _ HN.out).mono ?_
  rintro e w2 ⟨rfl, hb2⟩
  have R1 := R0.bel hb2
  obtain ⟨x, rfl⟩ : ∃ x : Ext w, w2 = x.w := ext_of (hb2.after HB0.out)
  clear hb2 HB0 R0
  have hp : w.heap.size ≤ w.heap.size := Nat.le_refl _
  generalize hpp : w.heap.size = p at R1
  have hpw : w.heap.size ≤ p := by omega
  have HPP := Lib.hid hpp
  clear hp
  simp only [hpp]
  clear hpp
  go_wp2_with fail
  go_loopw [4, 5] (fun a k wr => ∃ (j i : Nat) (acc : List UInt8) (xs : List Value) (z : Ext w), (acc = [] ∨ j < 10 ^ (i - 1)) ∧ i + acc.length = 20 ∧ 1 ≤ i ∧ a = .int .i64 (i : Int) ∧ k = .int .u64 (j : Int) ∧ wr = z.w ∧ RowAt z.w p 54 xs ∧ xs.length = 20 ∧ xs.drop i = acc.map u8V ∧ digF i j acc = digs n.natAbs ∧ j < 10 ^ 19) (fun a k _ => (intOf k).toNat + (intOf a - 19).toNat)
  case atStart => exact ⟨n.natAbs, 20, [], _, x, .inl rfl, by simp, by omega, rfl, by rw [HK.out], rfl, R1, by simp, by simp, rfl, by omega⟩
  case round =>
    clear R1 x
    obtain ⟨j, i, acc, xs, z, hj, hi, hi1, rfl, rfl, rfl, R, hxl, hxs, hd, hj19⟩ := hrel
    by_cases hs : j = 0 ∧ acc ≠ []
    · have HD := Lib.hid ((digF_stop hs.1 hs.2).symm.trans hd)
      obtain ⟨rfl, hne⟩ := hs
      have hi20 : i ≤ 19 := by cases acc with
        | nil => exact absurd rfl hne
        | cons a b => simp at hi; omega
      have hz20 : (((i : Nat) : Int) == 20) = false := by simp; omega
      have HXS := Lib.hid hxs
      clear hd hj hne hxs
      have hmk : ∀ (W : World) (k : Nat), k ≤ 20 → (Instr.makeSlice 55 (.int .i64 (20 - (k : Int))) (.int .i64 (20 - (k : Int)))).run Try.prog W = .ok (.slice (some ⟨W.heap.size, 0, none⟩) (20 - k) (20 - k)) (W.alloc (.cells (Array.replicate (20 - k) (Value.int .u8 0)) 5)) := fun W k hk => by
        rw [show (20 - (k : Int)) = ((20 - k : Nat) : Int) by omega]
        exact make_bytes (20 - k) (by omega) W
      by_cases hn : n < 0
      · obtain ⟨m, rfl⟩ : ∃ m, i = m + 1 := ⟨i - 1, by omega⟩
        have f0 := R.frozen m
        have c0 : ∃ v, z.w.cell? ⟨p, m, none⟩ = some v := ⟨_, R.cell (i := m) (List.getElem?_eq_getElem (by omega))⟩
        obtain ⟨v0, c0⟩ := c0
        replace hmk := fun W => hmk W m (by omega)
        have hxl0 := hxl
        have HXL := Lib.hid hxl
        clear hxl
        have RA : RowAt (z.w.setCell ⟨p, m, none⟩ (.int .u8 45)) p 54 (xs.set m (.int .u8 45)) := R.set m _
        have RD : Hid ((xs.set m (.int .u8 45)).drop m = (decL n).map u8V) := Lib.hid (by rw [drop_set (by rw [hxl0]; omega), HXS.out]; simp only [decL, if_pos (show n < 0 from hn), ← HD.out]; rfl)
        have RL : Hid ((decL n).length = 20 - m) := Lib.hid (by
          have := congrArg List.length RD.out
          simp only [List.length_drop, List.length_set, List.length_map, HXL.out] at this
          omega)
        have hm20 : m < 20 := by omega
        have hsl := fun W => slice_arr W p m hm20
        have RB := RA.alloc (.cells (Array.replicate (20 - m) (Value.int .u8 0)) 5)
        have RQ : RowAt ((z.w.setCell ⟨p, m, none⟩ (.int .u8 45)).alloc (.cells (Array.replicate (20 - m) (Value.int .u8 0)) 5)) z.w.heap.size 5 (List.replicate (20 - m) (Value.int .u8 0)) := by simpa [World.setCell] using RowAt.newRep (z.w.setCell ⟨p, m, none⟩ (.int .u8 45)) 5 (20 - m) (Value.int .u8 0)
        have HB : Hid (Bel w ((z.w.setCell ⟨p, m, none⟩ (.int .u8 45)).alloc (.cells (Array.replicate (20 - m) (Value.int .u8 0)) 5))) := Lib.hid (by exact (z.bel.set (p := ⟨p, m, none⟩) hpw _).alloc _)
        have hwz : w.heap.size ≤ z.w.heap.size := z.bel.le
        go_upto_region 12 with fail
        generalize hW : World.alloc _ _ = W1 at *
        clear hW RA hmk
        generalize z.w.heap.size = q at *
        have HRB := Lib.hid RB
        have HRQ := Lib.hid RQ
        clear RB RQ
        obtain ⟨W2, hcp, RW, hbw⟩ := copy_bytes W1 w q p m (20 - m) (List.replicate (20 - m) (Value.int .u8 0)) ((decL n).map u8V) (by simpa using RL.out) (by simp) HRQ.out (fun j v hj => by
          rw [HRB.out.cell?, ← hj, ← RD.out, List.getElem?_drop]) (by simp [u8V, Value.oneCell']) HB.out hwz 3
        have hcv := conv_row W2 q (20 - m) (decL n) RL.out RW
        have HW := Lib.hid hbw
        clear hbw RW
        go_wp2
        go_ret
        exact ⟨rfl, HW.out⟩
      · replace hmk := fun W => hmk W i (by omega)
        have hxl0 := hxl
        have HXL := Lib.hid hxl
        clear hxl
        have RA : RowAt (z.w) p 54 (xs) := R
        have RD : Hid ((xs).drop i = (decL n).map u8V) := Lib.hid (by rw [HXS.out]; simp only [decL, if_neg (show ¬ n < 0 from hn), ← HD.out]; rfl)
        have RL : Hid ((decL n).length = 20 - i) := Lib.hid (by
          have := congrArg List.length RD.out
          simp only [List.length_drop, List.length_set, List.length_map, HXL.out] at this
          omega)
        have hm20 : i < 20 := by omega
        have hsl := fun W => slice_arr W p i hm20
        have RB := RA.alloc (.cells (Array.replicate (20 - i) (Value.int .u8 0)) 5)
        have RQ : RowAt ((z.w).alloc (.cells (Array.replicate (20 - i) (Value.int .u8 0)) 5)) z.w.heap.size 5 (List.replicate (20 - i) (Value.int .u8 0)) := by simpa [World.setCell] using RowAt.newRep (z.w) 5 (20 - i) (Value.int .u8 0)
        have HB : Hid (Bel w ((z.w).alloc (.cells (Array.replicate (20 - i) (Value.int .u8 0)) 5))) := Lib.hid (by exact z.bel.alloc _)
        have hwz : w.heap.size ≤ z.w.heap.size := z.bel.le
        go_upto_region 12 with fail
        generalize hW : World.alloc _ _ = W1 at *
        clear hW RA hmk
        generalize z.w.heap.size = q at *
        have HRB := Lib.hid RB
        have HRQ := Lib.hid RQ
        clear RB RQ
        obtain ⟨W2, hcp, RW, hbw⟩ := copy_bytes W1 w q p i (20 - i) (List.replicate (20 - i) (Value.int .u8 0)) ((decL n).map u8V) (by simpa using RL.out) (by simp) HRQ.out (fun j v hj => by
          rw [HRB.out.cell?, ← hj, ← RD.out, List.getElem?_drop]) (by simp [u8V, Value.oneCell']) HB.out hwz 3
        have hcv := conv_row W2 q (20 - i) (decL n) RL.out RW
        have HW := Lib.hid hbw
        clear hbw RW
        go_wp2
        go_ret
        exact ⟨rfl, HW.out⟩
    · obtain ⟨m, rfl⟩ : ∃ m, i = m + 1 := ⟨i - 1, by omega⟩
      have HD := Lib.hid ((digF_go (f := m) hs).symm.trans hd)
      have HL : Hid (1 ≤ m) := Lib.hid (by
        rcases hj with rfl | hj
        · simp at hi; omega
        · by_cases h19 : m = 0
          · exfalso
            subst h19
            exact hs ⟨by simpa using hj, by intro h0; rw [h0] at hi; simp at hi⟩
          · omega)
      have HJ : Hid (j / 10 < 10 ^ (m - 1)) := Lib.hid (by
        have := HL.out
        rcases hj with rfl | hj
        · simp at hi; subst hi; exact pow_step (by simpa using hj19)
        · exact pow_step (by rw [show m - 1 + 1 = m by omega]; exact hj))
      have c0 : ∃ v, z.w.cell? ⟨p, m, none⟩ = some v := ⟨_, R.cell (i := m) (List.getElem?_eq_getElem (by omega))⟩
      obtain ⟨v0, c0⟩ := c0
      have f0 := R.frozen m
      have hm20 : m < 20 := by omega
      have HS := Lib.hid hs
      have hjb : (j : Int) ≤ 9999999999999999999 := by omega
      have HXS := Lib.hid hxs
      have HXL := Lib.hid hxl
      clear hd hj hs hxs hxl
      by_cases h0 : j = 0
      · subst h0
        have hne : acc = [] := by have := HS.out; simpa using this
        subst hne
        obtain rfl : m = 19 := by simp at hi; omega
        go_wp2
        go_roundw
        case rel => exact ⟨0, 19, [48], _, ⟨_, z.bel.set (p := ⟨p, 19, none⟩) hpw _⟩, .inr (by simp), by simp, by omega, rfl, rfl, rfl, R.set 19 _, by simpa using HXL.out, by rw [drop_set (by rw [HXL.out]; omega), HXS.out]; rfl, HD.out, by omega⟩
        case measure => simp [intOf]
      · go_wp2
        go_roundw
        case rel => exact ⟨j / 10, m, UInt8.ofNat (48 + j % 10) :: acc, _, ⟨_, z.bel.set (p := ⟨p, m, none⟩) hpw _⟩, .inr HJ.out, by simp; omega, HL.out, rfl, by go_num, rfl, R.set m _, by simpa using HXL.out, by rw [drop_set (by rw [HXL.out]; omega), HXS.out, List.map_cons, u8V_dig], HD.out, by omega⟩
        case measure => simp [intOf]; omega
end Go.Proofs.Ytehifcgfgejjcaa
