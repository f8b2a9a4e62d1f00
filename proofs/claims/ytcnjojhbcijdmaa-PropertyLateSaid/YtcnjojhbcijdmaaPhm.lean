import Derived.Test.YtcnjojhbcijdmaaPrunm
namespace Go.Proofs.Ytcnjojhbcijdmaa
open Go.RowKit
/-- y is reached from x by steps of at most 31 -/
inductive Reach (p : PP) (x : Pt) : Pt → Prop
  | here : Reach p x x
  | next {y : Pt} (a ev : Nat) : Reach p x y → 0 ≤ y.loc → a < 32 → (ev : Int) < p.evs → Reach p x (step p.clks.toNat p.edges y a ev)
def HopeP (p : PP) (x : Pt) : Prop := ∃ y, Reach p x y ∧ goodM p y = true
noncomputable def hopeB (p : PP) (x : Pt) : Bool := @decide (HopeP p x) (Classical.propDecidable _)
theorem hopeB_t {p : PP} {x : Pt} (h : HopeP p x) : hopeB p x = true := by unfold hopeB; exact @decide_eq_true _ (Classical.propDecidable _) h
theorem hopeB_f {p : PP} {x : Pt} (h : ¬ HopeP p x) : hopeB p x = false := by unfold hopeB; exact @decide_eq_false _ (Classical.propDecidable _) h
theorem hopeB_iff {p : PP} {x : Pt} : hopeB p x = true ↔ HopeP p x := by
  constructor
  · intro h; unfold hopeB at h; exact @of_decide_eq_true _ (Classical.propDecidable _) h
  · exact hopeB_t
noncomputable def hopeM (p : PP) (l : List PS) : Bool × Int := if rpword p l = 0 then (hopeB p (runP p l).1, 0) else (false, rpword p l)
theorem hopeM_ok {p : PP} {l : List PS} (h : rpword p l = 0) : hopeM p l = (hopeB p (runP p l).1, 0) := by unfold hopeM; rw [if_pos h]
theorem hopeM_no {p : PP} {l : List PS} (h : rpword p l ≠ 0) : hopeM p l = (false, rpword p l) := by unfold hopeM; rw [if_neg h]
def PtOk (p : PP) (y : Pt) : Prop := LocOk p y ∧ ClOk y.cl
def ptCode (y : Pt) : Nat := ((((y.loc + 1).toNat * 32 + (y.cl.getD 0 0).toNat) * 32 + (y.cl.getD 1 0).toNat) * 32 + (y.cl.getD 2 0).toNat)
theorem ptCode_lt {p : PP} {y : Pt} (h : PtOk p y) (hg : p.good.length ≤ 12) : ptCode y < 425984 := by
  obtain ⟨⟨h1, h2⟩, h3⟩ := h
  have a0 := cl_at h3 (show 0 < 3 by omega)
  have a1 := cl_at h3 (show 1 < 3 by omega)
  have a2 := cl_at h3 (show 2 < 3 by omega)
  unfold ptCode; omega
theorem cl_ext {a b : List Int} (ha : a.length = 3) (hb : b.length = 3) (h0 : a.getD 0 0 = b.getD 0 0) (h1 : a.getD 1 0 = b.getD 1 0) (h2 : a.getD 2 0 = b.getD 2 0) : a = b := by
  match a, b, ha, hb with
  | [a0, a1, a2], [b0, b1, b2], _, _ => simp at h0 h1 h2; simp [h0, h1, h2]
theorem ptCode_inj {p : PP} {y z : Pt} (h : PtOk p y) (k : PtOk p z) (he : ptCode y = ptCode z) : y = z := by
  obtain ⟨⟨h1, h2⟩, h3⟩ := h
  obtain ⟨⟨k1, k2⟩, k3⟩ := k
  have a0 := cl_at h3 (show 0 < 3 by omega)
  have a1 := cl_at h3 (show 1 < 3 by omega)
  have a2 := cl_at h3 (show 2 < 3 by omega)
  have b0 := cl_at k3 (show 0 < 3 by omega)
  have b1 := cl_at k3 (show 1 < 3 by omega)
  have b2 := cl_at k3 (show 2 < 3 by omega)
  unfold ptCode at he
  have e : y.loc = z.loc ∧ y.cl.getD 0 0 = z.cl.getD 0 0 ∧ y.cl.getD 1 0 = z.cl.getD 1 0 ∧ y.cl.getD 2 0 = z.cl.getD 2 0 := by omega
  obtain ⟨yl, yc⟩ := y
  obtain ⟨zl, zc⟩ := z
  obtain ⟨e1, e2, e3, e4⟩ := e
  have := cl_ext h3.1 k3.1 e2 e3 e4
  simp only at e1 this
  rw [e1, this]
theorem nodup_le : ∀ (n : Nat) (l : List Nat), l.Nodup → (∀ x ∈ l, x < n) → l.length ≤ n
  | 0, l, _, h => by
    cases l with
    | nil => simp
    | cons x xs => exact absurd (h x (by simp)) (by omega)
  | n + 1, l, hd, h => by
    have := nodup_le n (l.erase n) (hd.erase n) (fun x hx => by
      have h1 := (hd.mem_erase_iff).mp hx
      have := h x h1.2
      have := h1.1
      omega)
    rw [List.length_erase] at this
    split at this <;> omega
theorem pts_le {p : PP} (hg : p.good.length ≤ 12) {F : List Pt} (hd : F.Nodup) (h : ∀ y ∈ F, PtOk p y) : F.length ≤ 425984 := by
  have h1 : (F.map ptCode).Nodup := by
    unfold List.Nodup
    rw [List.pairwise_map]
    exact List.Pairwise.imp_of_mem (fun ha hb hne he => hne (ptCode_inj (h _ ha) (h _ hb) he)) hd
  have := nodup_le 425984 (F.map ptCode) h1 (fun x hx => by
    obtain ⟨y, hy, rfl⟩ := List.mem_map.mp hx
    exact ptCode_lt (h y hy) hg)
  simpa using this
theorem step_pt {p : PP} (hv : PValid p p.clks.toNat) {y : Pt} (h : PtOk p y) (a ev : Nat) : PtOk p (step p.clks.toNat p.edges y a ev) :=
  ⟨step_loc hv h.1 _ _, step_ok h.2 (by omega)⟩
theorem step_pit {n : Nat} {es : List PE} {y : Pt} {a ev : Int} (h : y.loc < 0) : (step n es y a ev).loc < 0 := by unfold step; rw [if_pos h]; exact h
theorem good_loc {p : PP} {y : Pt} (h : goodM p y = true) : 0 ≤ y.loc := by
  unfold goodM at h; simp at h; exact h.1
/-- the steps from y, up to (a, e), lead into F (or the pit) -/
def Done (p : PP) (F : List Pt) (y : Pt) (a e : Nat) : Prop := ∀ b ev : Nat, (b < a ∨ (b = a ∧ ev < e)) → b < 32 → (ev : Int) < p.evs → 0 ≤ (step p.clks.toNat p.edges y b ev).loc → step p.clks.toNat p.edges y b ev ∈ F
structure HInv (p : PP) (x0 : Pt) (F L : List Pt) : Prop where
  st : x0 ∈ F
  rc : ∀ y ∈ F, Reach p x0 y ∧ PtOk p y
  lf : ∀ y ∈ L, y ∈ F
  cl : ∀ y ∈ F, y ∈ L ∨ (goodM p y = false ∧ Done p F y 32 0)
  nd : F.Nodup
structure HMid (p : PP) (x0 x : Pt) (F L : List Pt) (a e : Nat) : Prop where
  st : x0 ∈ F
  rc : ∀ y ∈ F, Reach p x0 y ∧ PtOk p y
  lf : ∀ y ∈ L, y ∈ F
  cl : ∀ y ∈ F, y ∈ L ∨ y = x ∨ (goodM p y = false ∧ Done p F y 32 0)
  nd : F.Nodup
  xf : x ∈ F
  gx : goodM p x = false
  dn : Done p F x a e
theorem HInv.init {p : PP} {x : Pt} (h : PtOk p x) : HInv p x [x] [x] where
  st := by simp
  rc := fun y hy => by simp at hy; subst hy; exact ⟨.here, h⟩
  lf := fun y hy => hy
  cl := fun y hy => .inl hy
  nd := by simp
theorem HInv.good {p : PP} {x0 x : Pt} {F L : List Pt} (h : HInv p x0 F L) (hx : x ∈ L) (hg : goodM p x = true) : hopeB p x0 = true :=
  hopeB_t ⟨x, (h.rc x (h.lf x hx)).1, hg⟩
theorem Done.mono {p : PP} {F G : List Pt} {y : Pt} {a e : Nat} (h : Done p F y a e) (hs : ∀ z ∈ F, z ∈ G) : Done p G y a e := fun b ev h1 h2 h3 h4 => hs _ (h b ev h1 h2 h3 h4)
theorem HInv.pop {p : PP} {x0 x : Pt} {F L L' : List Pt} (h : HInv p x0 F L) (hL : ∀ y, y ∈ L ↔ (y ∈ L' ∨ y = x)) (hg : goodM p x = false) : HMid p x0 x F L' 0 0 where
  st := h.st
  rc := h.rc
  lf := fun y hy => h.lf y ((hL y).mpr (.inl hy))
  cl := fun y hy => by
    rcases h.cl y hy with h1 | h1
    · rcases (hL y).mp h1 with h2 | h2
      · exact .inl h2
      · exact .inr (.inl h2)
    · exact .inr (.inr h1)
  nd := h.nd
  xf := h.lf x ((hL x).mpr (.inr rfl))
  gx := hg
  dn := fun b ev h1 => by omega
theorem HMid.skip {p : PP} {x0 x : Pt} {F L : List Pt} {a e : Nat} (h : HMid p x0 x F L a e) (hs : 0 ≤ (step p.clks.toNat p.edges x a e).loc → step p.clks.toNat p.edges x a e ∈ F) : HMid p x0 x F L a (e + 1) := by
  have hd : Done p F x a (e + 1) := fun b ev h1 h2 h3 h4 => by
    by_cases hb : b = a ∧ ev = e
    · obtain ⟨rfl, rfl⟩ := hb
      exact hs h4
    · exact h.dn b ev (by omega) h2 h3 h4
  exact { h with dn := hd }
theorem HMid.push {p : PP} (hv : PValid p p.clks.toNat) {x0 x : Pt} {F L : List Pt} {a e : Nat} (h : HMid p x0 x F L a e) (hx : 0 ≤ x.loc) (ha : a < 32) (he : (e : Int) < p.evs) (hn : step p.clks.toNat p.edges x a e ∉ F) :
    HMid p x0 x (step p.clks.toNat p.edges x a e :: F) (L ++ [step p.clks.toNat p.edges x a e]) a (e + 1) where
  st := by simp [h.st]
  rc := fun y hy => by
    rcases List.mem_cons.mp hy with rfl | hy
    · exact ⟨.next a e (h.rc x h.xf).1 hx ha he, step_pt hv (h.rc x h.xf).2 a e⟩
    · exact h.rc y hy
  lf := fun y hy => by
    rcases List.mem_append.mp hy with hy | hy
    · exact List.mem_cons_of_mem _ (h.lf y hy)
    · simp at hy; subst hy; simp
  cl := fun y hy => by
    rcases List.mem_cons.mp hy with rfl | hy
    · exact .inl (by simp)
    · rcases h.cl y hy with h1 | h1 | h1
      · exact .inl (by simp [h1])
      · exact .inr (.inl h1)
      · exact .inr (.inr ⟨h1.1, h1.2.mono (fun z hz => List.mem_cons_of_mem _ hz)⟩)
  nd := List.nodup_cons.mpr ⟨hn, h.nd⟩
  xf := List.mem_cons_of_mem _ h.xf
  gx := h.gx
  dn := fun b ev h1 h2 h3 h4 => by
    by_cases hb : b = a ∧ ev = e
    · obtain ⟨rfl, rfl⟩ := hb; simp
    · exact List.mem_cons_of_mem _ (h.dn b ev (by omega) h2 h3 h4)
theorem HMid.row {p : PP} {x0 x : Pt} {F L : List Pt} {a e : Nat} (h : HMid p x0 x F L a e) (he : p.evs ≤ e) : HMid p x0 x F L (a + 1) 0 := by
  have hd : Done p F x (a + 1) 0 := fun b ev h1 h2 h3 h4 => h.dn b ev (by omega) h2 h3 h4
  exact { h with dn := hd }
theorem HMid.done {p : PP} {x0 x : Pt} {F L : List Pt} (h : HMid p x0 x F L 32 0) : HInv p x0 F L where
  st := h.st
  rc := h.rc
  lf := h.lf
  cl := fun y hy => by
    rcases h.cl y hy with h1 | rfl | h1
    · exact .inl h1
    · exact .inr ⟨h.gx, h.dn⟩
    · exact .inr h1
  nd := h.nd
theorem HMid.pit {p : PP} {x0 x : Pt} {F L : List Pt} {a e : Nat} (h : HMid p x0 x F L a e) (hx : x.loc < 0) : HInv p x0 F L := by
  have hd : Done p F x 32 0 := fun b ev _ _ _ h4 => absurd h4 (by have := step_pit (n := p.clks.toNat) (es := p.edges) (a := b) (ev := ev) hx; omega)
  exact HMid.done { h with dn := hd }
theorem HInv.empty {p : PP} {x0 : Pt} {F : List Pt} (h : HInv p x0 F []) : hopeB p x0 = false := by
  have hr : ∀ y, Reach p x0 y → (0 ≤ y.loc ∨ y = x0) → y ∈ F := by
    intro y hy
    induction hy with
    | here => exact fun _ => h.st
    | next a ev hr hl ha he ih =>
      intro hor
      rename_i y
      rcases hor with h1 | h1
      · rcases h.cl y (ih (.inl hl)) with h2 | h2
        · simp at h2
        · exact h2.2 a ev (.inl ha) ha he h1
      · rw [h1]; exact h.st
  refine hopeB_f fun ⟨y, h1, h2⟩ => ?_
  rcases h.cl y (hr y h1 (.inl (good_loc h2))) with h3 | h3
  · simp at h3
  · rw [h3.1] at h2; cases h2
theorem PtOk.wf {p : PP} {y : Pt} (h : PtOk p y) (hg : p.good.length ≤ 12) : ∃ l u0 u1 u2 : Int, y = ⟨l, [u0, u1, u2]⟩ ∧ i64 l ∧ i64 u0 ∧ i64 u1 ∧ i64 u2 := by
  obtain ⟨⟨h1, h2⟩, h3⟩ := h
  have a0 := cl_at h3 (show 0 < 3 by omega)
  have a1 := cl_at h3 (show 1 < 3 by omega)
  have a2 := cl_at h3 (show 2 < 3 by omega)
  obtain ⟨l, c⟩ := y
  have h4 := h3.1
  match c, h4 with
  | [u0, u1, u2], _ =>
    simp at a0 a1 a2 h1 h2
    exact ⟨l, u0, u1, u2, rfl, ⟨by omega, by omega⟩, ⟨by omega, by omega⟩, ⟨by omega, by omega⟩, ⟨by omega, by omega⟩⟩
end Go.Proofs.Ytcnjojhbcijdmaa
