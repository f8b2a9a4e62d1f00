import Derived.Test.YtalphoebmefgoaaZVpt
import Derived.Test.YtalphoebmefgoaaZVlea
import Derived.Test.YtalphoebmefgoaaG39
import Derived.Test.YtalphoebmefgoaaG42
import Derived.Test.YtalphoebmefgoaaG45
/- poly: what shown asks, of the models. -/
namespace Go.Proofs.Ytalphoebmefgoaa
def exL : List AL := [⟨[1, 1], 4, false⟩, ⟨[-1, 0], 0, true⟩, ⟨[0, -1], -1, true⟩]
def exW : List AL := [⟨[-1], 0, true⟩, ⟨[1], 3, true⟩]
def exB : List AL := [⟨[-1, 0], -1, false⟩, ⟨[0, -1], -2, true⟩]
def exE : List AL := [⟨[1], 2, false⟩, ⟨[-1], -2, true⟩]
theorem ex_wo : withoutM 2 exL 1 = (exW, 0) := by kernel_rfl
theorem ex_em : EmptyM 1 exE = (true, 0) := by kernel_rfl
theorem ex_le : leastM 2 exB [2, 3] = (⟨8, 1⟩, false, 0) := by kernel_rfl
theorem ex_pt : pointM 2 exL = ([⟨1, 1⟩, ⟨2, 1⟩], 0) := by kernel_rfl
end Go.Proofs.Ytalphoebmefgoaa
/- poly: a list that shares no memory with another one. -/
namespace Go.Proofs.Ytalphoebmefgoaa
open Go.RowKit
theorem AO.ar {W : World} {base : Nat} {v : Value} {L : List (Value × AL)} (h : AO W base v L) : AR W base v L := ⟨h.own, fun p hp => .inr (h.at_ p hp)⟩
theorem AO.bel {W W' : World} {base : Nat} {v : Value} {L : List (Value × AL)} (h : AO W base v L) (hb : Bel W W') : AO W' base v L := ⟨ownsRow_bel h.own hb, fun p hp => ownsRow_bel (h.at_ p hp) hb⟩
theorem ao_append {w0 W : World} {v : Value} {L : List (Value × AL)} {p : Value × AL} {q : Nat} {e2 : TypeId} (hb : Bel w0 W) (h : AO W w0.heap.size v L) (hl : L.length ≤ 1000000) (r : RowAt W q e2 (arC p)) (hp : W.ownsRow w0.heap.size 2 1 p.1 p.2.a.length (intsV p.2.a)) :
    ∃ A c W', (∀ ty, (Builtin.append_ #[22, 22] ty #[v, .slice (some ⟨q, 0, none⟩) 1 1]).run Try.prog W = .ok (.slice A (L.length + 1) c) W') ∧ AO W' w0.heap.size (.slice A (L.length + 1) c) (L ++ [p]) ∧ Bel w0 W' ∧ W.grownBy W' v.ownBlock := by
  obtain ⟨A1, c1, e1, _⟩ := own_slice hp
  obtain ⟨A, c, W', hr, ha, hb2, hg⟩ := ar_append hb h.ar hl r (.inr hp) (by rw [e1]; rfl)
  refine ⟨A, c, W', hr, ⟨ha.own, fun x hx => ?_⟩, hb2, hg⟩
  rcases List.mem_append.1 hx with hx | hx
  · exact (h.at_ x hx).kept hg (own_ne (h.at_ x hx) h.own i64_ne_line)
  · obtain rfl : x = p := by simpa using hx
    exact hp.kept hg (own_ne hp h.own i64_ne_line)
def LentPost (l : List AL) (w : World) (e : Ending) (w' : World) : Prop := ∃ v' L, e = .returned v' ∧ AO w' w.heap.size v' L ∧ L.map Prod.snd = l ∧ Bel w w'
set_option maxRecDepth 100000 in
set_option maxHeartbeats 8000000 in
theorem lent_any (v : Value) (l : List AL) (w : World) (h : LinesAt w w.heap.size v l) (hl : l.length ≤ 100000) (hls : ∀ x, x ∈ l → x.a.length ≤ 1000000) :
    Calls Try.prog 11 #[v] w (LentPost l w) := by
  have H := Lib.hid h
  have HLS := Lib.hid hls
  obtain ⟨A, c, rfl, hc⟩ := h.form
  clear h hls
  go_enter Try.func11, Try.ntmps11
  go_wp2
  go_loopw [3, 4] (fun s3 s4 wq => ∃ (k : Nat) (y : Ext w) (L : List (Value × AL)), k ≤ l.length ∧ s4 = .int .i64 k ∧ wq = y.w ∧ AO y.w w.heap.size s3 L ∧ L.map Prod.snd = l.take k) (fun _ s4 _ => l.length - (intOf s4).toNat)
  case atStart => exact ⟨0, ⟨_, Bel.refl⟩, [], Nat.zero_le _, rfl, rfl, AO.nil, rfl⟩
  case round =>
    obtain ⟨k, y, L, hk, rfl, rfl, har, hm⟩ := hrel
    have HAR := Lib.hid har
    have HM := Lib.hid hm
    clear har hm
    by_cases hlt : k < l.length
    · have hd : decide ((k : Int) < (l.length : Int)) = true := by simp; omega
      have hil : (k : Int) < (l.length : Int) := by omega
      have hw : IntKind.i64.wrap ((k : Int) + 1) = (k : Int) + 1 := IntWalk.i64_in _ (by omega)
      obtain ⟨b, off, rfl, hbb, hA⟩ := H.out.at_ (by omega)
      obtain ⟨rv0, ⟨d0, d1, d2⟩, hrv0⟩ := hA k hlt
      have c0 := (y.bel.cells b _ hbb).trans d0
      have c1 := (y.bel.cells b _ hbb).trans d1
      have c2 := (y.bel.cells b _ hbb).trans d2
      have hrv := hrv0.keep y.bel.keeps y.bel.le
      have hbl : b < y.w.heap.size := Nat.lt_of_lt_of_le hbb y.bel.le
      have HXL := Lib.hid (HLS.out _ (alAt_mem hlt))
      have HLL : Hid (L.length ≤ 1000000) := Lib.hid (by have := congrArg List.length HM.out; simp at this; omega)
      have HST := Lib.hid (take_al hlt)
      have HBY := Lib.hid y.bel
      obtain ⟨A0, k0, rfl, _⟩ := hrv.form
      obtain ⟨A3, c3, rfl, _⟩ := HAR.out.ar.form
      have hrow : some b ≠ (Value.slice A3 L.length c3).ownBlock := fun e => by have := (HAR.out.ar.lt b e.symm).1; omega
      have HRV := Lib.hid hrv
      clear hrv hA hrv0 d0 d1 d2
      generalize alAt l k = X at *
      obtain ⟨Xa, Xb, Xs⟩ := X
      dsimp only at *
      generalize y.w = wy at *
      go_upto_region 5 with (fail)
      (refine wp_region_E 21 (Value.slice A3 L.length c3).ownBlock (by kernel_rfl) ?_; refine anyE_takes [0, 2, 3, 4, 5, 6, 8, 9, 10, 11, 12, 13, 14, 15, 16, 17] (fun _ _ _ _ _ h => h) ⟨⟨_, gro_drew (gro_refl _)⟩, rfl⟩ (by kernel_rfl) (by rfl) ?_; simp only [opsOf, List.filterMap_cons, List.filterMap_nil, List.getElem?_toArray, List.getElem?_cons_succ, List.getElem?_cons_zero, List.foldl_cons, List.foldl_nil]; (repeat (any_goals (first | go_big_quiet_step (fail) | quiet_step (fail)))); refine wpQuiet_nil ?_)
      have G0 : Hid (wy.grownBy wy.drew (Value.slice A3 L.length c3).ownBlock) := Lib.hid (gro_drew (gro_refl _))
      have B0 := Lib.hid (HBY.out.drew)
      have HR0 := Lib.hid (HRV.out.bel (Bel.refl (w := wy)).drew)
      have HA0 := Lib.hid (HAR.out.bel (Bel.refl (w := wy)).drew)
      clear c0 c1 c2 hbl hrow hbb HAR HRV HBY
      generalize wy.drew = W0 at *
      (refine anyE_one 1 _ (by kernel_rfl) (by rfl) (fun K hK => ?_))
      rw [if_pos (by rfl)]
      go_simp
      refine hK _ _ (fun _ => ⟨⟨_, gro_alloc G0.out _⟩, rfl⟩) ?_
      clear hK K
      have G1 := Lib.hid (gro_alloc G0.out (.cells #[] 2))
      obtain ⟨A2, k2, W2, hap, ho, hb, _⟩ := ints_append (w0 := W0) (Bel.refl.alloc (.cells #[] 2)) (p := []) (World.ownsRow_made W0 #[] 0 (Nat.le_refl _) (by unfold maxLen; omega) (by simp)) (HR0.out.bel (Bel.refl.alloc (.cells #[] 2))) (by simp) HXL.out
      rw [show ([] : List Int).length + Xa.length = Xa.length by simp] at hap ho
      rw [List.nil_append] at ho
      have HA2 := Lib.hid (HA0.out.bel hb)
      have G2 : Hid (wy.grownBy W2 (Value.slice A3 L.length c3).ownBlock) := Lib.hid (G0.out.trans (gro_weak (gro_of_bel2 hb) _))
      have B2 := Lib.hid (B0.out.trans hb)
      have O2 := Lib.hid (own_base ho B0.out.le)
      generalize World.alloc W0 _ = W1 at *
      generalize W0.heap.size = b1 at *
      (refine anyE_one 7 _ (by kernel_rfl) (by rfl) (fun K hK => ?_))
      rw [if_pos (by rfl)]
      refine oper_append_run _ _ 23 rfl _ _ _ rfl rfl (hap _) (hK _ _ (fun _ => ⟨⟨_, G2.out⟩, rfl⟩) ?_)
      simp only [Act.put, List.setIfInBounds_toArray]
      clear hK K hap ho hb
      (refine anyE_one 18 _ (by kernel_rfl) (by rfl) (fun K hK => ?_))
      rw [if_pos (by rfl)]
      go_simp
      refine hK _ _ (fun _ => ⟨⟨_, G2.out⟩, rfl⟩) ?_
      clear hK K
      (refine anyE_one 19 _ (by kernel_rfl) (by rfl) (fun K hK => ?_))
      rw [if_pos (by rfl)]
      go_simp
      refine hK _ _ (fun _ => ⟨⟨_, gro_alloc G2.out _⟩, rfl⟩) ?_
      clear hK K
      obtain ⟨A4, k4, W4, hap, ho, hb, hg⟩ := ao_append (w0 := w) (W := W2.alloc (.cells (arC (.slice A2 Xa.length k2, ⟨Xa, Xb, Xs⟩)).toArray 25)) (B2.out.alloc _) (HA2.out.bel (Bel.refl.alloc _)) HLL.out (RowAt.new W2 25 (arC (.slice A2 Xa.length k2, ⟨Xa, Xb, Xs⟩))) (ownsRow_bel O2.out (Bel.refl.alloc _))
      have G4 : Hid (wy.grownBy W4 (Value.slice A3 L.length c3).ownBlock) := Lib.hid ((gro_alloc G2.out _).trans hg)
      have HA4 := Lib.hid ho
      have B4 := Lib.hid hb
      unfold arC at hap
      (refine anyE_one 20 _ (by kernel_rfl) (by rfl) (fun K hK => ?_))
      rw [if_pos (by rfl)]
      refine oper_append_run _ _ 22 rfl _ _ _ rfl rfl (hap _) (hK _ _ (fun _ => ⟨⟨_, G4.out⟩, rfl⟩) ?_)
      simp only [Act.put, List.setIfInBounds_toArray]
      clear hK K hap ho hb hg
      have HM4 : Hid ((L ++ [((.slice A2 Xa.length k2, ⟨Xa, Xb, Xs⟩) : Value × AL)]).map Prod.snd = l.take (k + 1)) := Lib.hid (by rw [List.map_append, HM.out, HST.out]; rfl)
      (refine anyE_tail 21 (by decide) (by rfl) (by kernel_rfl) ?_; simp only [List.drop_succ_cons, List.drop_zero])
      go_wp2
      refine NoPanic.normal ?_
      go_wp2
      go_roundw
      case rel => exact ⟨k + 1, ⟨_, B4.out⟩, _, by omega, by go_num, rfl, HA4.out, HM4.out⟩
      case measure => simp [intOf]; omega
    · obtain rfl : k = l.length := by omega
      have hd : decide ((l.length : Int) < (l.length : Int)) = false := by simp
      have HM2 : Hid (L.map Prod.snd = l) := Lib.hid (by rw [HM.out, List.take_length])
      go_wp2
      go_ret
      exact ⟨_, L, rfl, HAR.out, HM2.out, y.bel⟩
end Go.Proofs.Ytalphoebmefgoaa
/- poly: shown. -/
namespace Go.Proofs.Ytalphoebmefgoaa
open Go.RowKit
theorem ints_lit {W : World} {b : Nat} {e : TypeId} {l : List Int} (r : RowAt W b e (l.map (Value.int .i64))) : IntsAt W W.heap.size (.slice (some ⟨b, 0, none⟩) l.length l.length) l :=
  ⟨_, l.length, rfl, Nat.le_refl _, fun _ => ⟨b, 0, rfl, r.lt, fun i hi => by rw [r.cell?, Nat.zero_add]; simp [List.getD, hi]⟩⟩
theorem lines_lit {W : World} {b : Nat} {L : List (Value × AL)} (r : RowAt W b 25 (L.flatMap arC)) (h : ∀ p, p ∈ L → IntsAt W W.heap.size p.1 p.2.a) : LinesAt W W.heap.size (.slice (some ⟨b, 0, none⟩) L.length L.length) (L.map Prod.snd) := by
  refine ⟨_, L.length, by rw [List.length_map], by rw [List.length_map]; exact Nat.le_refl _, fun _ => ⟨b, 0, rfl, r.lt, fun i hi => ?_⟩⟩
  rw [List.length_map] at hi
  show ∃ rv, AlCells W b (0 + i * 3) (alAt (L.map Prod.snd) i) rv ∧ IntsAt W W.heap.size rv (alAt (L.map Prod.snd) i).a
  rw [alAt_get (by rw [List.length_map]; exact hi), List.getElem_map, Nat.zero_add]
  refine ⟨L[i].1, ⟨?_, ?_, ?_⟩, h _ (List.getElem_mem hi)⟩
  · rw [r.cell?, show i * 3 = i * 3 + 0 from rfl, flat_at arC_len _ _ _ hi (by decide)]; rfl
  · rw [r.cell?, flat_at arC_len _ _ _ hi (by decide)]; rfl
  · rw [r.cell?, flat_at arC_len _ _ _ hi (by decide)]; rfl
theorem lens_lit {l : List AL} (h : l.all (fun x => decide (x.a.length ≤ 1000000)) = true) : AlLens l := fun i hi => by
  have := List.all_eq_true.1 h _ (alAt_mem hi)
  simpa using this
def intsO (a : List Int) : Obj := .cells (a.map (Value.int .i64)).toArray 2
theorem lit3 (w : World) (a1 a2 a3 : List Int) (b1 b2 b3 : Int) (s1 s2 s3 : Bool) (W : World) (hW : W = (((w.alloc (intsO a1)).alloc (intsO a2)).alloc (intsO a3)).alloc (.cells #[.slice (some ⟨w.heap.size, 0, none⟩) a1.length a1.length, .int .i64 b1, .bool s1, .slice (some ⟨w.heap.size + 1, 0, none⟩) a2.length a2.length, .int .i64 b2, .bool s2, .slice (some ⟨w.heap.size + 1 + 1, 0, none⟩) a3.length a3.length, .int .i64 b3, .bool s3] 25)) :
    LinesAt W W.heap.size (.slice (some ⟨w.heap.size + 1 + 1 + 1, 0, none⟩) 3 3) [⟨a1, b1, s1⟩, ⟨a2, b2, s2⟩, ⟨a3, b3, s3⟩] ∧ Bel w W := by
  subst hW
  have e1 : (w.alloc (intsO a1)).heap.size = w.heap.size + 1 := size_alV _ _
  have e2 : ((w.alloc (intsO a1)).alloc (intsO a2)).heap.size = w.heap.size + 1 + 1 := by rw [size_alV, e1]
  have e3 : (((w.alloc (intsO a1)).alloc (intsO a2)).alloc (intsO a3)).heap.size = w.heap.size + 1 + 1 + 1 := by rw [size_alV, e2]
  have r1 : RowAt (w.alloc (intsO a1)) w.heap.size 2 (a1.map (Value.int .i64)) := RowAt.new _ _ _
  have r2 : RowAt ((w.alloc (intsO a1)).alloc (intsO a2)) (w.heap.size + 1) 2 (a2.map (Value.int .i64)) := by rw [← e1]; exact RowAt.new _ _ _
  have r3 : RowAt (((w.alloc (intsO a1)).alloc (intsO a2)).alloc (intsO a3)) (w.heap.size + 1 + 1) 2 (a3.map (Value.int .i64)) := by rw [← e2]; exact RowAt.new _ _ _
  refine ⟨?_, (((Bel.refl.alloc _).alloc _).alloc _).alloc _⟩
  rw [← e3]
  refine lines_lit (L := [(.slice (some ⟨w.heap.size, 0, none⟩) a1.length a1.length, ⟨a1, b1, s1⟩), (.slice (some ⟨w.heap.size + 1, 0, none⟩) a2.length a2.length, ⟨a2, b2, s2⟩), (.slice (some ⟨w.heap.size + 1 + 1, 0, none⟩) a3.length a3.length, ⟨a3, b3, s3⟩)]) (RowAt.new _ _ _) (fun p hp => ?_)
  simp only [List.mem_cons, List.not_mem_nil, or_false] at hp
  rcases hp with rfl | rfl | rfl
  · exact ints_lit (((r1.alloc _).alloc _).alloc _)
  · exact ints_lit ((r2.alloc _).alloc _)
  · exact ints_lit (r3.alloc _)
theorem lit2 (w : World) (a1 a2 : List Int) (b1 b2 : Int) (s1 s2 : Bool) (W : World) (hW : W = ((w.alloc (intsO a1)).alloc (intsO a2)).alloc (.cells #[.slice (some ⟨w.heap.size, 0, none⟩) a1.length a1.length, .int .i64 b1, .bool s1, .slice (some ⟨w.heap.size + 1, 0, none⟩) a2.length a2.length, .int .i64 b2, .bool s2] 25)) :
    LinesAt W W.heap.size (.slice (some ⟨w.heap.size + 1 + 1, 0, none⟩) 2 2) [⟨a1, b1, s1⟩, ⟨a2, b2, s2⟩] ∧ Bel w W := by
  subst hW
  have e1 : (w.alloc (intsO a1)).heap.size = w.heap.size + 1 := size_alV _ _
  have e2 : ((w.alloc (intsO a1)).alloc (intsO a2)).heap.size = w.heap.size + 1 + 1 := by rw [size_alV, e1]
  have r1 : RowAt (w.alloc (intsO a1)) w.heap.size 2 (a1.map (Value.int .i64)) := RowAt.new _ _ _
  have r2 : RowAt ((w.alloc (intsO a1)).alloc (intsO a2)) (w.heap.size + 1) 2 (a2.map (Value.int .i64)) := by rw [← e1]; exact RowAt.new _ _ _
  refine ⟨?_, ((Bel.refl.alloc _).alloc _).alloc _⟩
  rw [← e2]
  refine lines_lit (L := [(.slice (some ⟨w.heap.size, 0, none⟩) a1.length a1.length, ⟨a1, b1, s1⟩), (.slice (some ⟨w.heap.size + 1, 0, none⟩) a2.length a2.length, ⟨a2, b2, s2⟩)]) (RowAt.new _ _ _) (fun p hp => ?_)
  simp only [List.mem_cons, List.not_mem_nil, or_false] at hp
  rcases hp with rfl | rfl
  · exact ints_lit ((r1.alloc _).alloc _)
  · exact ints_lit (r2.alloc _)
theorem rats_lit {W : World} {b : Nat} {e : TypeId} {p : List Rt} (r : RowAt W b e (p.flatMap Rt.cells)) : RatsAt W W.heap.size (.slice (some ⟨b, 0, none⟩) p.length p.length) p :=
  ⟨_, p.length, rfl, Nat.le_refl _, fun _ => ⟨b, 0, rfl, r.lt, fun i hi q hq => by rw [r.cell?, Nat.zero_add, flat_at rcells_len _ _ _ hi hq]⟩⟩
set_option maxRecDepth 100000 in
set_option maxHeartbeats 8000000 in
theorem shown7_any (w : World) : Calls Try.prog 10 #[] w fun e w' => e = .returned (.bool true) ∧ Bel w w' := by
  go_enter Try.func10, Try.ntmps10
  go_upto_region 2 with (fail)
  generalize hW : World.alloc (World.alloc (World.alloc (World.alloc w _) _) _) _ = w1 at *
  obtain ⟨hl, hb⟩ := lit3 w [1, 1] [-1, 0] [0, -1] 4 0 (-1) false true true w1 hW.symm
  have HL1 := Lib.hid hl
  have HB1 := Lib.hid hb
  clear hW hl hb
  generalize w.heap.size + 1 + 1 + 1 = b1 at *
  have HWO := Lib.hid (without_any 2 1 _ _ w1 HL1.out (lens_lit rfl) (by decide))
  go_wp2_with fail
  refine HWO.out.mono ?_
  rintro e w2 hwi
  have h := hwi.ls
  rw [show withoutM 2 [⟨[1, 1], 4, false⟩, ⟨[-1, 0], 0, true⟩, ⟨[0, -1], -1, true⟩] 1 = (exW, 0) from ex_wo] at h
  obtain ⟨v2, rfl, hls, hB⟩ := h
  have HL2 := Lib.hid (HL1.out.bel hB)
  have HB2 := Lib.hid (HB1.out.trans hB)
  have HA2 := Lib.hid hls
  obtain ⟨A2, c2, rfl, _⟩ : ∃ A c, v2 = .slice A 2 c ∧ 2 ≤ c := hls.form
  clear hwi hls hB HWO
  have HPT := Lib.hid (point_any 2 _ _ w2 HL2.out (lens_lit rfl) (by decide))
  go_wp2_with fail
  refine HPT.out.mono ?_
  rintro e w3 h
  rw [show pointM 2 [⟨[1, 1], 4, false⟩, ⟨[-1, 0], 0, true⟩, ⟨[0, -1], -1, true⟩] = ([⟨1, 1⟩, ⟨2, 1⟩], 0) from ex_pt] at h
  obtain ⟨v3, rfl, hrs, hB⟩ := h
  have HA3 := Lib.hid (HA2.out.bel hB)
  have HP3 := Lib.hid hrs
  have HB3 := Lib.hid (HB2.out.trans hB)
  obtain ⟨A3, c3, rfl, _⟩ : ∃ A c, v3 = .slice A 2 c ∧ 2 ≤ c := hrs.form
  clear hrs hB HPT HL2 HL1
  go_wp2_with fail
  generalize hW : World.alloc (World.alloc (World.alloc w3 _) _) _ = w4 at *
  obtain ⟨hl, hb⟩ := lit2 w3 [-1, 0] [0, -1] (-1) (-2) false true w4 hW.symm
  have es : w3.heap.size + 1 + 1 + 1 = w4.heap.size := by rw [← hW]; simp
  rw [es]
  have HL4 := Lib.hid hl
  have HB4 := Lib.hid (HB3.out.trans hb)
  have HA4 := Lib.hid (HA3.out.bel hb)
  have HP4 := Lib.hid (HP3.out.bel hb)
  clear hW hl hb es
  generalize w3.heap.size + 1 + 1 = b4 at *
  have hIA : IntsAt (w4.alloc (.cells #[.int .i64 2, .int .i64 3] 2)) (w4.alloc (.cells #[.int .i64 2, .int .i64 3] 2)).heap.size (.slice (some ⟨w4.heap.size, 0, none⟩) 2 2) [2, 3] := ints_lit (l := [2, 3]) (RowAt.new w4 2 [.int .i64 2, .int .i64 3])
  have hb5 : Bel w4 (w4.alloc (.cells #[.int .i64 2, .int .i64 3] 2)) := Bel.refl.alloc _
  have HL5 := Lib.hid (HL4.out.bel hb5)
  have HB5 := Lib.hid (HB4.out.trans hb5)
  have HA5 := Lib.hid (HA4.out.bel hb5)
  have HP5 := Lib.hid (HP4.out.bel hb5)
  clear HL4 HB4 HA4 HP4 hb5
  generalize w4.alloc (.cells #[.int .i64 2, .int .i64 3] 2) = w5 at *
  generalize w4.heap.size = b5 at *
  have HLE := Lib.hid (least_any 2 _ _ [⟨[-1, 0], -1, false⟩, ⟨[0, -1], -2, true⟩] [2, 3] w5 HL5.out (lens_lit rfl) (by decide) hIA (by decide))
  clear hIA
  refine HLE.out.mono ?_
  rintro e w6 h
  rw [show leastM 2 [⟨[-1, 0], -1, false⟩, ⟨[0, -1], -2, true⟩] [2, 3] = (⟨8, 1⟩, false, 0) from ex_le] at h
  obtain ⟨rfl, hB⟩ := h
  have HA6 := Lib.hid (HA5.out.bel hB)
  have HP6 := Lib.hid (HP5.out.bel hB)
  have HB6 := Lib.hid (HB5.out.trans hB)
  clear hB HLE HL5 HA5 HP5 HB5
  unfold Rt.V
  dsimp only
  go_upto_region 5 with (fail)
  generalize hW : World.alloc w6 _ = w7 at *
  have r6 : RowAt w7 w6.heap.size 41 (Rt.cells ⟨8, 1⟩) := by rw [← hW]; exact RowAt.new _ _ _
  have hb7 : Bel w6 w7 := by rw [← hW]; exact Bel.refl.alloc _
  clear hW
  have HA7 := Lib.hid (HA6.out.bel hb7)
  have HP7 := Lib.hid (HP6.out.bel hb7)
  have HB7 := Lib.hid (HB6.out.trans hb7)
  have HR7 := Lib.hid r6
  clear r6 hb7 HA6 HP6 HB6
  generalize w6.heap.size = b6 at *
  go_wp2_with fail
  generalize hW : World.alloc (World.alloc (World.alloc w7 _) _) _ = w8 at *
  obtain ⟨hl, hb⟩ := lit2 w7 [1] [-1] 2 (-2) false true w8 hW.symm
  have HE := Lib.hid (Empty_any 1 _ [⟨[1], 2, false⟩, ⟨[-1], -2, true⟩] w8 hl (lens_lit rfl) (by decide))
  have HA8 := Lib.hid (HA7.out.bel hb)
  have HP8 := Lib.hid (HP7.out.bel hb)
  have HB8 := Lib.hid (HB7.out.trans hb)
  have HR8 := Lib.hid (HR7.out.bel hb)
  clear hl hb hW
  generalize w7.heap.size + 1 + 1 = b8 at *
  refine HE.out.mono ?_
  rintro e w9 h
  rw [show EmptyM 1 [⟨[1], 2, false⟩, ⟨[-1], -2, true⟩] = (true, 0) from ex_em] at h
  obtain ⟨rfl, hB⟩ := h
  have HA9 := Lib.hid (HA8.out.bel hB)
  have HP9 := Lib.hid (HP8.out.bel hB)
  have HB9 := Lib.hid (HB8.out.trans hB)
  have HR9 := Lib.hid (HR8.out.bel hB)
  clear hB HE HA8 HP8 HB8 HR8 HA7 HP7 HB7 HR7
  have x0 := HR9.out.cell (i := 0) rfl
  have x1 := HR9.out.cell (i := 1) rfl
  have lx := HR9.out.lt
  dsimp only at x0 x1
  have hE8 : ∀ W, (binOp .eql 41 (.agg #[.int .i64 8, .int .i64 1]) (.agg #[.int .i64 8, .int .i64 1])).run Try.prog W = .ok (.bool true) W := fun W => by rw [rt_eql]; simp
  go_wp2_with fail
  have r1 := RowAt.new w9 41 [.int .i64 1, .int .i64 1, .int .i64 2, .int .i64 1]
  have hb10 : Bel w9 (w9.alloc (.cells #[.int .i64 1, .int .i64 1, .int .i64 2, .int .i64 1] 41)) := Bel.refl.alloc _
  have HSR := Lib.hid (sameRatios_any _ _ [⟨1, 1⟩, ⟨2, 1⟩] [⟨1, 1⟩, ⟨2, 1⟩] _ (HP9.out.bel hb10) (rats_lit (p := [⟨1, 1⟩, ⟨2, 1⟩]) r1) (by decide) (by decide))
  have HA10 := Lib.hid (HA9.out.bel hb10)
  have HB10 := Lib.hid (HB9.out.trans hb10)
  refine HSR.out.mono ?_
  rintro e w11 ⟨rfl, hB⟩
  have HA11 := Lib.hid (HA10.out.bel hB)
  have HB11 := Lib.hid (HB10.out.trans hB)
  rw [show sameR [⟨1, 1⟩, ⟨2, 1⟩] [⟨1, 1⟩, ⟨2, 1⟩] = true from rfl]
  clear hB HSR HA10 HB10 r1 hb10 x0 x1 lx HR9 HA9 HP9 HB9
  go_wp2_with fail
  generalize hW : World.alloc (World.alloc (World.alloc w11 _) _) _ = w12 at *
  obtain ⟨hl, hb⟩ := lit2 w11 [-1] [1] 0 3 true true w12 hW.symm
  have HSM := Lib.hid (same7_any _ _ exW exW w12 (HA11.out.bel hb) hl (by decide) (by decide) (lens_lit rfl) (lens_lit rfl))
  have HB12 := Lib.hid (HB11.out.trans hb)
  clear hl hb hW HA11 HB11
  generalize w11.heap.size + 1 + 1 = b12 at *
  refine HSM.out.mono ?_
  rintro e w13 ⟨rfl, hB⟩
  have HB13 := Lib.hid (HB12.out.trans hB)
  rw [show sameA exW exW = true from rfl]
  clear hB HSM HB12
  go_wp2
  go_ret
  exact ⟨rfl, HB13.out⟩
end Go.Proofs.Ytalphoebmefgoaa
