import Derived.Test.YthcdemmamggboaaHord
/- schedule: the execution of a tick keeps what the timeline says (plain). -/
namespace Go.Proofs.Ythcdemmamggboaa
open Go.RowKit
theorem jbAt_ready {l : List Tsk} {t : Int} {i : Nat} {s : St} (h : TI l t i s) {b : Nat} (hb : b < s.ready.length) : JobIn l s (jbAt s.ready b) := h.rd _ (jbAt_mem hb)
/-- the jobs that read alike, apart from the response -/
def Alike (js js' : List Don) : Prop := js'.length = js.length ∧ ∀ k, (dnAt js' k).tk = (dnAt js k).tk ∧ (dnAt js' k).job = (dnAt js k).job ∧ (dnAt js' k).rel = (dnAt js k).rel
theorem Alike.refl (js : List Don) : Alike js js := ⟨rfl, fun _ => ⟨rfl, rfl, rfl⟩⟩
theorem Alike.set (js : List Don) {p : Nat} (hp : p < js.length) (r : Int) : Alike js (js.set p { dnAt js p with resp := r }) := by
  refine ⟨by simp, fun k => ?_⟩
  rw [dnAt_set2 hp]
  by_cases h : k = p
  · rw [if_pos h, h]; exact ⟨rfl, rfl, rfl⟩
  · rw [if_neg h]; exact ⟨rfl, rfl, rfl⟩
theorem Alike.sum {js js' : List Don} (h : Alike js js') (ss : List Stn) (k : Nat) : sumD ss (dnAt js' k) = sumD ss (dnAt js k) := by unfold sumD; rw [(h.2 k).1, (h.2 k).2.1]
theorem Alike.end_ {js js' : List Don} (h : Alike js js') (ss : List Stn) (k : Nat) : endD ss (dnAt js' k) = endD ss (dnAt js k) := by unfold endD; rw [(h.2 k).1, (h.2 k).2.1]
theorem Alike.cost {js js' : List Don} (h : Alike js js') (l : List Tsk) (k : Nat) : costD l (dnAt js' k) = costD l (dnAt js k) := by unfold costD; rw [(h.2 k).1]
theorem Alike.stn {js js' : List Don} (h : Alike js js') {l : List Tsk} {t u : Int} (htu : t ≤ u) {pre : List Stn} {x : Stn} (hs : StnOk l t js pre x) : StnOk l u js' pre x := by
  obtain ⟨a1, a2, a3, ⟨k, hk, hj, hr⟩, a5⟩ := hs
  refine ⟨a1, a2, by omega, ⟨k, by rw [h.1]; exact hk, by rw [(h.2 k).1, (h.2 k).2.1]; exact hj, by rw [(h.2 k).2.2]; exact hr⟩, fun hg q hq hr2 => ?_⟩
  rw [h.cost, h.sum]
  exact a5 hg q (by rw [← h.1]; exact hq) (by rw [← (h.2 q).2.2]; exact hr2)
/-- the stints behind a tick -/
theorem stints_ok {l : List Tsk} {t : Int} {s : St} (ht : 0 ≤ t) (h : TI l t l.length s) {b : Nat} (hb : b < s.ready.length) {js : List Don} (ha : Alike s.jobs js) :
    ∀ pre x post, stintsM t (jbAt s.ready b) s.stints = pre ++ x :: post → StnOk l (t + 1) js pre x := by
  intro pre x post e
  have hj := jbAt_ready h hb
  have hkey : ∀ q, q < s.jobs.length → (dnAt s.jobs q).rel < t → lastTo s.stints < t → costD l (dnAt s.jobs q) ≤ sumD s.stints (dnAt s.jobs q) := by
    intro q hq hr hl
    rcases h.dn q hq with ⟨j', hj', e'⟩ | hdn
    · exfalso
      have := (h.rd j' hj').eq
      rw [e'] at this
      have h2 := h.wk ⟨j', hj', by rw [this] at hr; exact hr⟩
      omega
    · exact Int.le_of_eq hdn.1.symm
  have hre : (jbAt s.ready b).rel ≤ t := by
    have := (h.jr _ hj.ps).lt
    rw [hj.eq] at this
    dsimp only at this
    omega
  rcases stintsM_cases t (jbAt s.ready b) s.stints with ⟨ss', z, e1, ⟨hz1, hz2⟩, hz3, e2⟩ | e2
  · rw [e2] at e
    rcases snoc_split e.symm with ⟨rfl, rfl, rfl⟩ | ⟨q, hq⟩
    · have h2 := ha.stn (u := t) (Int.le_refl _) (h.st pre z [] (by rw [e1]))
      obtain ⟨a1, a2, a3, a4, a5⟩ := h2
      exact ⟨a1, by dsimp only; omega, Int.le_refl _, a4, a5⟩
    · exact ha.stn (by omega) (h.st pre x (q ++ [z]) (by rw [e1, hq]; simp))
  · rw [e2] at e
    rcases snoc_split e.symm with ⟨rfl, rfl, rfl⟩ | ⟨q, hq⟩
    · refine ⟨h.last ht, by dsimp only; omega, Int.le_refl _, ⟨_, by rw [ha.1]; exact hj.ps, ?_, ?_⟩, fun hg k hk hr => ?_⟩
      · rw [(ha.2 _).1, (ha.2 _).2.1, hj.eq]; exact ⟨rfl, rfl⟩
      · rw [(ha.2 _).2.2, hj.eq]; exact hre
      · rw [ha.cost, ha.sum]
        rw [(ha.2 k).2.2] at hr
        exact hkey k (by rw [← ha.1]; exact hk) hr hg
    · exact ha.stn (by omega) (h.st pre x q hq)
theorem sum_other {l : List Tsk} {t : Int} {i : Nat} {s : St} (h : TI l t i s) {j : Job} (hj : JobIn l s j) {k : Nat} (hk : k < s.jobs.length) (hne : k ≠ j.pos) :
    ¬ ((j.tk : Int) = (dnAt s.jobs k).tk ∧ j.num = (dnAt s.jobs k).job) := by
  rintro ⟨e1, e2⟩
  exact hne (h.un k j.pos hk hj.ps (by rw [hj.eq]; dsimp only; omega) (by rw [hj.eq]; exact e2.symm))
/-- a tick -/
theorem TI.exe {l : List Tsk} {pol t : Int} {s : St} (ht : 0 ≤ t) (h : TI l t l.length s) : TI l (t + 1) 0 (exeM l pol t s) := by
  have hjr : ∀ k, k < s.jobs.length → DonOk l (t + 1) 0 (dnAt s.jobs k) := fun k hk => by
    obtain ⟨a1, a2, a3, a4⟩ := h.jr k hk
    exact ⟨a1, a2, a3, by omega⟩
  unfold exeM
  split
  · next hn =>
    have hr : s.ready = [] := List.length_eq_zero_iff.mp hn
    exact ⟨hjr, h.un, h.rd, h.rp, h.dn, fun pre x post e => (Alike.refl _).stn (by omega) (h.st pre x post e), fun ⟨j, hj, _⟩ => by rw [hr] at hj; cases hj⟩
  · next hn =>
    have hb := bestM_lt2 l pol (r := s.ready) (by omega)
    generalize bestM l pol s.ready = b at *
    have hj := jbAt_ready h hb
    have hre : (jbAt s.ready b).rel ≤ t := by
      have := (h.jr _ hj.ps).lt
      rw [hj.eq] at this
      dsimp only at this
      omega
    have hoth : ∀ k, k < s.jobs.length → k ≠ (jbAt s.ready b).pos → sumD (stintsM t (jbAt s.ready b) s.stints) (dnAt s.jobs k) = sumD s.stints (dnAt s.jobs k) ∧ endD (stintsM t (jbAt s.ready b) s.stints) (dnAt s.jobs k) = endD s.stints (dnAt s.jobs k) := by
      intro k hk hne
      have := sum_other h hj hk hne
      unfold sumD endD
      rw [sum_stintsM, end_stintsM, if_neg this, if_neg this]
      omega
    have hothJ : ∀ j ∈ s.ready, j.pos ≠ (jbAt s.ready b).pos → sumOf j.tk j.num (stintsM t (jbAt s.ready b) s.stints) = j.dn := by
      intro j hjm hne
      have h1 := h.rd j hjm
      have h2 := (hoth j.pos h1.ps hne).1
      unfold sumD at h2
      rw [h1.eq] at h2
      rw [h2]; exact h1.sm
    have hself : sumOf (jbAt s.ready b).tk (jbAt s.ready b).num (stintsM t (jbAt s.ready b) s.stints) = (jbAt s.ready b).dn + 1 := by
      rw [sum_stintsM, if_pos ⟨rfl, rfl⟩, hj.sm]
    have hselfE : endOf (jbAt s.ready b).tk (jbAt s.ready b).num (stintsM t (jbAt s.ready b) s.stints) = t + 1 := by
      rw [end_stintsM, if_pos ⟨rfl, rfl⟩]
    have hlast := last_stintsM t (jbAt s.ready b) s.stints
    unfold runOne
    dsimp only
    split
    · next hc =>
      have ha := Alike.set s.jobs hj.ps (t + 1 - (jbAt s.ready b).rel)
      have hdn : ∀ k, k ≠ (jbAt s.ready b).pos → dnAt (s.jobs.set (jbAt s.ready b).pos { dnAt s.jobs (jbAt s.ready b).pos with resp := t + 1 - (jbAt s.ready b).rel }) k = dnAt s.jobs k := fun k hk => by rw [dnAt_set2 hj.ps, if_neg hk]
      have hdn2 : dnAt (s.jobs.set (jbAt s.ready b).pos { dnAt s.jobs (jbAt s.ready b).pos with resp := t + 1 - (jbAt s.ready b).rel }) (jbAt s.ready b).pos = ⟨(jbAt s.ready b).tk, (jbAt s.ready b).num, (jbAt s.ready b).rel, t + 1 - (jbAt s.ready b).rel, false⟩ := by rw [dnAt_set2 hj.ps, if_pos rfl, hj.eq]
      refine ⟨fun k hk => ?_, fun x y hx hy e1 e2 => ?_, fun j hjm => ?_, ?_, fun k hk => ?_, stints_ok ht h hb ha, fun _ => hlast⟩
      · rw [ha.1] at hk
        obtain ⟨a1, a2, a3, a4⟩ := hjr k hk
        have := ha.2 k
        exact ⟨by rw [this.1]; exact a1, by rw [this.2.1]; exact a2, by rw [this.1, this.2.1, this.2.2]; exact a3, by rw [this.1, this.2.2]; exact a4⟩
      · rw [ha.1] at hx hy
        rw [(ha.2 x).1, (ha.2 y).1] at e1
        rw [(ha.2 x).2.1, (ha.2 y).2.1] at e2
        exact h.un x y hx hy e1 e2
      · obtain ⟨hm, hne⟩ := mem_erase_other h.rp hb hjm
        obtain ⟨a1, a2, a3, a4, a5⟩ := h.rd j hm
        exact ⟨by rw [ha.1]; exact a1, by dsimp only; rw [hdn _ hne]; exact a2, hothJ j hm hne, a4, a5⟩
      · exact h.rp.sublist (List.eraseIdx_sublist _ _)
      · rw [ha.1] at hk
        by_cases hne : k = (jbAt s.ready b).pos
        · right
          subst hne
          dsimp only
          rw [hdn2]
          unfold sumD endD costD
          dsimp only
          rw [hself, hselfE]
          exact ⟨hc, by omega, rfl⟩
        · dsimp only
          rw [hdn k hne, (hoth k hk hne).1, (hoth k hk hne).2]
          rcases h.dn k hk with ⟨j, hjm, e⟩ | hd
          · left
            obtain ⟨c, hcl, ej⟩ := mem_jbAt hjm
            refine ⟨j, ?_, e⟩
            rw [List.mem_eraseIdx_iff_getElem?]
            refine ⟨c, fun e2 => ?_, ?_⟩
            · subst e2; rw [ej] at hne; exact hne e.symm
            · rw [← ej]; simp [jbAt, List.getD, hcl]
          · exact .inr hd
    · next hc =>
      have hd1 := hj.d1
      have hd0 := hj.d0
      refine ⟨hjr, h.un, fun j hjm => ?_, ?_, fun k hk => ?_, stints_ok ht h hb (Alike.refl _), fun _ => hlast⟩
      · rcases mem_set_other h.rp hb hjm with rfl | ⟨hm, hne⟩
        · exact ⟨hj.ps, hj.eq, hself, by dsimp only; omega, by dsimp only; omega⟩
        · obtain ⟨a1, a2, a3, a4, a5⟩ := h.rd j hm
          exact ⟨a1, a2, hothJ j hm hne, a4, a5⟩
      · rw [List.pairwise_iff_getElem]
        intro x y hx hy hxy
        have h2 := List.pairwise_iff_getElem.mp h.rp x y (by simpa using hx) (by simpa using hy) hxy
        have hp : ∀ z (hz : z < (s.ready.set b { jbAt s.ready b with dn := (jbAt s.ready b).dn + 1 }).length), (s.ready.set b { jbAt s.ready b with dn := (jbAt s.ready b).dn + 1 })[z].pos = (s.ready[z]'(by simpa using hz)).pos := by
          intro z hz
          rw [List.getElem_set]
          split
          · next e => subst e; simp [jbAt, List.getD, hb]
          · rfl
        rw [hp x hx, hp y hy]
        exact h2
      · by_cases hne : k = (jbAt s.ready b).pos
        · left
          exact ⟨{ jbAt s.ready b with dn := (jbAt s.ready b).dn + 1 }, List.mem_iff_getElem.mpr ⟨b, by simpa using hb, by simp⟩, hne.symm⟩
        · rw [(hoth k hk hne).1, (hoth k hk hne).2]
          rcases h.dn k hk with ⟨j, hjm, e⟩ | hd
          · left
            obtain ⟨c, hcl, ej⟩ := mem_jbAt hjm
            refine ⟨j, List.mem_iff_getElem.mpr ⟨c, by simpa using hcl, ?_⟩, e⟩
            rw [List.getElem_set, if_neg]
            · rw [← ej]; simp [jbAt, List.getD, hcl]
            · intro e2; subst e2; rw [ej] at hne; exact hne e.symm
          · exact .inr hd
/-- the state before a tick -/
def upTo (l : List Tsk) (pol : Int) (n : Nat) : St := runS l pol n 0 ⟨[], [], []⟩
theorem runS_snoc (l : List Tsk) (pol : Int) : ∀ (n : Nat) (t : Int) (s : St), runS l pol (n + 1) t s = tickM l pol (t + n) (runS l pol n t s)
  | 0, t, s => by simp [runS]
  | n + 1, t, s => by
    have := runS_snoc l pol n (t + 1) (tickM l pol t s)
    rw [show t + 1 + (n : Int) = t + ((n + 1 : Nat) : Int) by push_cast; omega] at this
    exact this
theorem upTo_succ (l : List Tsk) (pol : Int) (n : Nat) : upTo l pol (n + 1) = tickM l pol n (upTo l pol n) := by
  unfold upTo
  rw [runS_snoc]
  simp
theorem upTo_TI {l : List Tsk} (h0 : rchk l = 0) (pol : Int) : ∀ n : Nat, TI l n 0 (upTo l pol n)
  | 0 => TI0 l
  | n + 1 => by
    rw [upTo_succ]
    exact TI.exe (pol := pol) (t := (n : Int)) (by omega) ((upTo_TI h0 pol n).rel h0)
end Go.Proofs.Ythcdemmamggboaa
