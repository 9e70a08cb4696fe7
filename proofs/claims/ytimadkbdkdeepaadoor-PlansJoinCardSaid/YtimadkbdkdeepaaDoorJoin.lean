import Derived.Test.YtimadkbdkdeepaaDoorSortSp
import Derived.Test.YtimadkbdkdeepaaDoorJoinP
import Derived.Test.YtimadkbdkdeepaaDoorTwSpan
import Derived.Test.YtimadkbdkdeepaaDoorMeets
set_option linter.unusedVariables false
set_option linter.unusedSimpArgs false
namespace Go.Proofs.YtimadkbdkdeepaaDoor
open Go.RowKit Go.Shelf

theorem cmpLaysSpan (blk off size : Nat) (w : World) : CmpLays Tryd.prog 46 #[] Span.enc 2 cfSpan blk off size w := fun m os dk hs x y => by
  refine (by_calls x.f x.t y.f y.t _).mono ?_
  rintro e w' ⟨rfl, os', rfl⟩
  exact ⟨rfl, 0, os', rfl⟩

/-- slices.SortFunc at a row of one's own. -/
theorem sortSpan_calls {base : Nat} {w : World} {v : Value} {xs : List Span} (h : Own Span.enc 2 88 base w v xs) (hl : xs.length ≤ 1000000000) :
    Calls Tryd.prog 45 #[v, .func (.func 46) #[] #[]] w fun e w' =>
      ∃ ys, e = .returned (.tuple #[]) ∧ Own Span.enc 2 88 base w' v ys ∧ (∀ y, y ∈ ys ↔ y ∈ xs) ∧ ys.length = xs.length ∧ (ys.Pairwise fun a b => sle a.f b.f = true) ∧ w.grownBy w' v.ownBlock := by
  rcases Nat.eq_zero_or_pos xs.length with h0 | hp
  · have hx : xs = [] := List.length_eq_zero_iff.1 h0
    subst hx
    obtain ⟨A, c, rfl, _, _⟩ := h.slice
    refine (AnyF.slices_SortFunc_none sortSpan A c _ w).mono ?_
    rintro e w' ⟨rfl, rfl⟩
    exact ⟨[], rfl, h, fun _ => Iff.rfl, rfl, List.Pairwise.nil, World.grownBy.refl _ _⟩
  · obtain ⟨g, cap, cur, rfl, _⟩ := h.some_block hp
    obtain ⟨hH, hg⟩ := h.holdsK span_len hp
    have hc := AnyQ.slices_SortFunc sortSpan 2 Tryd.isAgg88 Tryd.sizeOf88 Span.enc span_len span_one cfSpan swoSpan 46 #[] g 0 cap xs.toArray w
      (enters_of Tryd.func46 (by kernel_rfl) rfl) (cmpLaysSpan _ _ _ _) hH hg (by simp; omega)
    refine Calls.mono hc ?_
    rintro e w' ⟨rfl, d, n, os, hp', hs, rfl⟩
    obtain ⟨m1, m2⟩ := permIn_mem hp'
    obtain ⟨o1, o2⟩ := sortWorld_own h span_len hp n os d (by simpa using m1)
    refine ⟨d.toList, rfl, o1, fun y => by rw [m2], by simpa using m1, ?_, o2⟩
    have := sortedIn_pairwise (d := d) (by rw [m1]; exact hs)
    exact this.imp fun h => by rw [ltSpan] at h; exact not_slt.1 h

theorem joinStep_meet {out : List Span} {x l : Span} (hl : out[out.length - 1]? = some l) (hm : meet4 x.f x.t l.f l.t = true) : joinStep out x = out.set (out.length - 1) ⟨l.f, smax l.t x.t⟩ := by
  rcases List.eq_nil_or_concat out with rfl | ⟨o, y, rfl⟩
  · simp at hl
  · rw [List.concat_eq_append] at *
    have e : l = y := by simpa using hl.symm
    subst e
    rw [joinStep_snoc, if_pos hm, List.length_append, List.length_singleton, Nat.add_sub_cancel, List.set_append_right _ _ (Nat.le_refl _), Nat.sub_self]
    rfl
theorem joinStep_no {out : List Span} {x l : Span} (hl : out[out.length - 1]? = some l) (hm : meet4 x.f x.t l.f l.t = false) : joinStep out x = out ++ [x] := by
  rcases List.eq_nil_or_concat out with rfl | ⟨o, y, rfl⟩
  · simp at hl
  · rw [List.concat_eq_append] at *
    have e : l = y := by simpa using hl.symm
    subst e
    rw [joinStep_snoc, if_neg (by rw [hm]; exact Bool.false_ne_true)]
theorem joinStep_length (out : List Span) (x : Span) : (joinStep out x).length ≤ out.length + 1 := by
  unfold joinStep
  cases out.getLast? with
  | none => simp
  | some l =>
    simp only
    split <;> simp <;> omega
theorem joinAll_length (xs : List Span) : (joinAll xs).length ≤ xs.length := by
  have : ∀ (xs o : List Span), (xs.foldl joinStep o).length ≤ o.length + xs.length := fun xs => by
    induction xs with
    | nil => intro o; simp
    | cons x xs ih => intro o; rw [List.foldl_cons]; have := ih (joinStep o x); have := joinStep_length o x; simp only [List.length_cons]; omega
  simpa [joinAll] using this xs []
theorem joinAll_snoc (xs : List Span) (k : Nat) (x : Span) (h : xs[k]? = some x) : joinAll (xs.take (k + 1)) = joinStep (joinAll (xs.take k)) x := by
  obtain ⟨hl, he⟩ := List.getElem?_eq_some_iff.1 h
  rw [List.take_succ_eq_append_getElem hl, he]
  unfold joinAll
  rw [List.foldl_append]; rfl
theorem full_snoc (xs : List Span) (k : Nat) (x : Span) (h : xs[k]? = some x) : full (xs.take (k + 1)) = if sle x.f x.t = true then full (xs.take k) ++ [x] else full (xs.take k) := by
  obtain ⟨hl, he⟩ := List.getElem?_eq_some_iff.1 h
  rw [List.take_succ_eq_append_getElem hl, he]
  unfold full
  rw [List.filter_append]
  cases hx : sle x.f x.t <;> simp [hx]

end Go.Proofs.YtimadkbdkdeepaaDoor
