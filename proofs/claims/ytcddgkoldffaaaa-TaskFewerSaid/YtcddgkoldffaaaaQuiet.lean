import Derived.Test.YtcddgkoldffaaaaBase
namespace Go.Proofs.Ytcddgkoldffaaaa
open Go.RowKit
section
variable {P : Program} {ops : Array Oper} {C : World → Prop} {Q : Act → Prop} {Q' : Exit → Act → World → Prop}
theorem wpList_of_quiet (hQ : ∀ a w, C w → Q a → Q' .normal a w) : ∀ (l : List Oper) (a : Act) (w : World), C w → wpQuiet P ops C Q l a → wpList P ops Q' l a w
  | [], _, _, hw, h => hQ _ _ hw h
  | o :: rest, a, w, hw, h => by
    unfold wpList
    unfold wpQuiet at h
    by_cases hx : Region.wanted o (yielded ops a.tmps) = true
    · rw [if_pos hx] at h ⊢
      exact .inl (Oper.wp_of_quiet hw (fun a' w' hw' ha => wpList_of_quiet hQ rest a' w' hw' ha) h)
    · rw [if_neg hx] at h ⊢
      exact wpList_of_quiet hQ rest _ _ hw h
/-- a region in the text's order that makes no memory that it looks at -/
theorem wp_region_extp {wb : World} {id : Nat} {a : Act} {w : World} {l : List Oper} (hb : Bel wb w)
    (h : wpQuiet P l.toArray (fun w' => ∃ y : Ext wb, w' = y.w) (fun a' => ∀ w', (∃ y : Ext wb, w' = y.w) → Q' .normal a' w') l a) : (Code.region id l.toArray false).wp P Q' a w :=
  wp_region_lit (wpList_of_quiet (Q := fun a' => ∀ w', (∃ y : Ext wb, w' = y.w) → Q' .normal a' w') (fun _ w' hw' h => h w' hw') l a w (ext_of hb) h)
/-- a region's list is cut behind n operations -/
theorem wpQuiet_cut_aux {Q R : Act → Prop} {l2 : List Oper} (h2 : ∀ a', R a' → wpQuiet P ops C Q l2 a') : ∀ (l1 : List Oper) (a : Act), wpQuiet P ops C R l1 a → wpQuiet P ops C Q (l1 ++ l2) a
  | [], a, h => h2 a h
  | o :: l1, a, h => by
    show wpQuiet P ops C Q (o :: (l1 ++ l2)) a
    unfold wpQuiet at h ⊢
    by_cases hx : Region.wanted o (yielded ops a.tmps) = true
    · rw [if_pos hx] at h ⊢
      obtain ⟨v, hv, hn⟩ := h
      exact ⟨v, hv, wpQuiet_cut_aux h2 l1 _ hn⟩
    · rw [if_neg hx] at h ⊢
      exact wpQuiet_cut_aux h2 l1 _ h
theorem wpQuiet_cut {Q : Act → Prop} {l : List Oper} {a : Act} (n : Nat) (R : Act → Act → Prop) (h1 : wpQuiet P ops C (R a) (l.take n) a) (h2 : ∀ a', R a a' → wpQuiet P ops C Q (l.drop n) a') : wpQuiet P ops C Q l a := by
  have := wpQuiet_cut_aux h2 (l.take n) a h1
  rwa [List.take_append_drop] at this
end
end Go.Proofs.Ytcddgkoldffaaaa
