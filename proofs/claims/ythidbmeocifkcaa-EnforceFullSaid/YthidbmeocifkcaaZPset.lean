import Derived.Test.YthidbmeocifkcaaZPrunm
import Derived.Test.YthidbmeocifkcaaG1
import Derived.DeepKeys4
import Derived.WalkSmall
namespace Go.Proofs.Ythidbmeocifkcaa
open Go.RowKit Go.Maps Go.WideMaps
def PtWf (y : Pt) : Prop := ∃ l u0 u1 u2 : Int, y = ⟨l, [u0, u1, u2]⟩ ∧ i64 l ∧ i64 u0 ∧ i64 u1 ∧ i64 u2
theorem laidOut35 : laidOutB Try.prog = true := by kernel_rfl
/-- what one type of points needs -/
structure PtKey (k : TypeId) : Prop where
  key : Keyed Try.prog k
  lit : ∀ {l u0 u1 u2 : Int}, i64 l → i64 u0 → i64 u1 → i64 u2 → ∃ x, keyOf Try.prog k (.agg #[.int .i64 l, .int .i64 u0, .int .i64 u1, .int .i64 u2]) = some x
theorem litwf {n : Int} (h : i64 n) : (Lit.int .i64 n).wf = true := i64_lit h
theorem kl_int {D : Nat} {n : Int} {e : TypeId} (hu : Try.prog.underlying e = some (.int .i64)) (h : i64 n) : Try.prog.keyLits (D + 1) e [.int .i64 n] = some [.int .i64 n] := by
  simp [Program.keyLits, hu, litwf h]
theorem kl_arr {D : Nat} {u0 u1 u2 : Int} {t e : TypeId} (ht : Try.prog.underlying t = some (.array 3 e)) (hu : Try.prog.underlying e = some (.int .i64)) (hc : Try.prog.cellsOf t = 3) (he : Try.prog.cellsOf e = 1) (h0 : i64 u0) (h1 : i64 u1) (h2 : i64 u2) :
    Try.prog.keyLits (D + 2) t [.int .i64 u0, .int .i64 u1, .int .i64 u2] = some [.int .i64 u0, .int .i64 u1, .int .i64 u2] := by
  have e0 := kl_int (D := D) hu h0
  have e1 := kl_int (D := D) hu h1
  have e2 := kl_int (D := D) hu h2
  have hr : List.range 3 = [0, 1, 2] := rfl
  unfold Program.keyLits
  rw [ht]
  simp [hc, he, hr, e0, e1, e2]
theorem kl_str {D : Nat} {l u0 u1 u2 : Int} {k t e f : TypeId} (fs : Array Field) (hk : Try.prog.underlying k = some (.struct fs)) (hfs : fs.toList.map (fun f => (f.type, f.offset)) = [(f, 0), (t, 1)]) (hb : fs.all (·.name != "_") = true) (hck : Try.prog.cellsOf k = 4) (hf : Try.prog.underlying f = some (.int .i64)) (hcf : Try.prog.cellsOf f = 1) (ht : Try.prog.underlying t = some (.array 3 e)) (hu : Try.prog.underlying e = some (.int .i64)) (hc : Try.prog.cellsOf t = 3) (he : Try.prog.cellsOf e = 1) (hl : i64 l) (h0 : i64 u0) (h1 : i64 u1) (h2 : i64 u2) :
    ∃ x, Try.prog.keyLits (D + 3) k [.int .i64 l, .int .i64 u0, .int .i64 u1, .int .i64 u2] = some x := by
  have e0 := kl_int (D := D + 1) hf hl
  have e1 := kl_arr (D := D) ht hu hc he h0 h1 h2
  have hl2 : ∃ f1 f2, fs.toList = [f1, f2] := by
    cases hh : fs.toList with
    | nil => rw [hh] at hfs; simp at hfs
    | cons f1 r =>
      cases r with
      | nil => rw [hh] at hfs; simp at hfs
      | cons f2 r =>
        cases r with
        | nil => exact ⟨f1, f2, rfl⟩
        | cons f3 r => rw [hh] at hfs; simp at hfs
  obtain ⟨f1, f2, hfl⟩ := hl2
  rw [hfl] at hfs
  simp at hfs
  obtain ⟨⟨q1, q2⟩, q3, q4⟩ := hfs
  unfold Program.keyLits
  rw [hk]
  refine ⟨[.int .i64 l, .int .i64 u0, .int .i64 u1, .int .i64 u2], ?_⟩
  simp only [hck, hb, hfl]
  simp [q1, q2, q3, q4, hcf, hc, e0, e1]
theorem keyOf_str {k : TypeId} {cs : Array Value} {x : List Lit} {fs : Array Field} (hk : Try.prog.underlying k = some (.struct fs)) (hkt : Try.prog.keyType k = true) (hck : Try.prog.cellsOf k = cs.size) (hl : Try.prog.keyLits (Try.prog.types.size + 1) k cs.toList = some x) : ∃ y, keyOf Try.prog k (.agg cs) = some y := by
  unfold keyOf
  rw [hk]
  have hf : (Value.agg cs).formed Try.prog k = true := by simp [Value.formed, hk, hck]
  refine ⟨.string (keyBytes x), ?_⟩
  rw [show (Value.agg cs).cells = cs from rfl, hl, hkt, hf]
  rfl
theorem sizeD : ∃ D, Try.prog.types.size + 1 = D + 3 := ⟨Try.prog.types.size - 2, by have : 3 ≤ Try.prog.types.size := of_decide_eq_true (by kernel_rfl); omega⟩
noncomputable def fsOf (k : TypeId) : Array Field := match Try.prog.underlying k with | some (.struct fs) => fs | _ => #[]
set_option maxHeartbeats 4000000 in
theorem pkey_r : PtKey 43 where
  key := Keyed.of_law (deep_law_laid laidOut35 (m := 4) (by omega) (of_decide_eq_true (by kernel_rfl)) (by kernel_rfl) (by kernel_rfl))
  lit := fun {l u0 u1 u2} h0 h1 h2 h3 => by
    obtain ⟨D, hD⟩ := sizeD
    have hu : Try.prog.underlying 43 = some (.struct (fsOf 43)) := by kernel_rfl
    obtain ⟨x, hx⟩ := kl_str (D := D) (k := 43) (t := 41) (e := 2) (f := 3) (fsOf 43) hu (by kernel_rfl) (by kernel_rfl) (by kernel_rfl) (by kernel_rfl) (by kernel_rfl) (by kernel_rfl) (by kernel_rfl) (by kernel_rfl) (by kernel_rfl) h0 h1 h2 h3
    exact keyOf_str hu (by kernel_rfl) (by kernel_rfl) (by rw [hD]; exact hx)
theorem PtWf.v {y : Pt} (h : PtWf y) : ∃ l u0 u1 u2 : Int, y = ⟨l, [u0, u1, u2]⟩ ∧ y.V = .agg #[.int .i64 l, .int .i64 u0, .int .i64 u1, .int .i64 u2] := by
  obtain ⟨l, u0, u1, u2, rfl, _⟩ := h
  exact ⟨l, u0, u1, u2, rfl, rfl⟩
theorem PtKey.code {k : TypeId} (K : PtKey k) {y : Pt} (h : PtWf y) : ∃ x, keyOf Try.prog k y.V = some x := by
  obtain ⟨l, u0, u1, u2, rfl, h0, h1, h2, h3⟩ := h
  exact K.lit h0 h1 h2 h3
theorem PtWf.inj {y z : Pt} (hy : PtWf y) (hz : PtWf z) (h : y.V = z.V) : y = z := by
  obtain ⟨l, u0, u1, u2, rfl, _⟩ := hy
  obtain ⟨m, v0, v1, v2, rfl, _⟩ := hz
  have h2 : (Value.agg #[.int .i64 l, .int .i64 u0, .int .i64 u1, .int .i64 u2]) = (Value.agg #[.int .i64 m, .int .i64 v0, .int .i64 v1, .int .i64 v2]) := h
  simp at h2
  obtain ⟨rfl, rfl, rfl, rfl⟩ := h2
  rfl
/-- block b is a map from points to bools: those of F are in it -/
def PSet (w : World) (k e : TypeId) (b n : Nat) (F : List Pt) : Prop :=
  ∃ m, BSet w Try.prog k e b n m ∧ ∀ y, PtWf y → ∀ x, keyOf Try.prog k y.V = some x → (m x = true ↔ y ∈ F)
section
variable {k e t : TypeId} {w w' : World} {b n : Nat} {F : List Pt}
theorem PSet.made (w : World) (k e : TypeId) : PSet (w.alloc (.map #[] 0)) k e w.heap.size 0 [] :=
  ⟨_, BSet.made w Try.prog k e, fun _ _ _ _ => by simp⟩
theorem PSet.block (h : PSet w k e b n F) (hb : w'.heap[b]? = w.heap[b]?) : PSet w' k e b n F := let ⟨m, h1, h2⟩ := h; ⟨m, h1.block hb, h2⟩
theorem PSet.lt (h : PSet w k e b n F) : b < w.heap.size := let ⟨_, h1, _⟩ := h; h1.lt
theorem PSet.alloc (h : PSet w k e b n F) (o : Obj) : PSet (w.alloc o) k e b n F := let ⟨m, h1, h2⟩ := h; ⟨m, h1.alloc o, h2⟩
theorem PSet.drew (h : PSet w k e b n F) : PSet w.drew k e b n F := h
theorem PSet.bel (h : PSet w k e b n F) (hb : Bel w w') : PSet w' k e b n F := let ⟨m, h1, h2⟩ := h; ⟨m, h1.bel hb, h2⟩
theorem PSet.far (h : PSet w k e b n F) {a : Addr} (ha : b ≠ a.block) (v : Value) : PSet (w.setCell a v) k e b n F := h.block (Below.heap_setCell w a v b ha)
theorem PSet.grown {row : Option Nat} (h : PSet w k e b n F) (hg : w.grownBy w' row) (hne : some b ≠ row) : PSet w' k e b n F := let ⟨m, h1, h2⟩ := h; ⟨m, h1.grown hg hne, h2⟩
theorem PSet.look (h : PSet w k e b n F) (K : PtKey k) (ht : Try.prog.underlying t = some (.map k e)) (he : Try.prog.underlying e = some .bool) (hz : (zeroValue e).run Try.prog w = .ok (.bool false) w) {y : Pt} (hy : PtWf y) :
    ∃ c : Bool, (Instr.lookup t (.map (some b)) y.V false).run Try.prog w = .ok (.bool c) w ∧ (c = true ↔ y ∈ F) := by
  obtain ⟨m, h1, h2⟩ := h
  obtain ⟨x, hx⟩ := K.code hy
  exact ⟨m x, h1.look K.key ht he hz hx (K.key.key hx), h2 y hy x hx⟩
theorem PSet.put (h : PSet w k e b n F) (K : PtKey k) (ht : Try.prog.underlying t = some (.map k e)) (he : Try.prog.underlying e = some .bool) (hn : n < maxLen) {y : Pt} (hy : PtWf y) :
    ∃ w', (Instr.mapUpdate t (.map (some b)) y.V (.bool true)).run Try.prog w = .ok () w' ∧ PSet w' k e b (n + 1) (y :: F) ∧ w.grownBy w' (some b) := by
  obtain ⟨m, h1, h2⟩ := h
  obtain ⟨x, hx⟩ := K.code hy
  obtain ⟨w', m', hr, hB, hg, ht, ho⟩ := h1.put K.key ht he hn hx (K.key.key hx)
  refine ⟨w', hr, ⟨m', hB, fun z hz c hc => ?_⟩, hg⟩
  by_cases hcx : c = x
  · subst hcx
    have hzy : z = y := hz.inj hy (K.key.inj hc hx)
    simp [ht, hzy]
  · rw [ho c hcx, h2 z hz c hc, List.mem_cons]
    constructor
    · exact fun h => .inr h
    · rintro (rfl | h)
      · rw [hx] at hc; exact absurd (Option.some.inj hc).symm hcx
      · exact h
end
end Go.Proofs.Ythidbmeocifkcaa
