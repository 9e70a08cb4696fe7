import Derived.Test.YtimadkbdkdeepaaDoorJoinP
set_option linter.unusedVariables false
set_option linter.unusedSimpArgs false
namespace Go.Proofs.YtimadkbdkdeepaaDoor

theorem NF_single {x : Span} (h : sle x.f x.t = true) : NF [x] := ⟨fun y hy => by rw [List.mem_singleton.1 hy]; exact h, List.pairwise_singleton ..⟩
theorem NF_two {x y : Span} (hx : sle x.f x.t = true) (hy : sle y.f y.t = true) (h : slt x.t y.f = true) : NF [x, y] :=
  ⟨fun z hz => by rcases List.mem_cons.1 hz with rfl | hz; · exact hx
                  · rw [List.mem_singleton.1 hz]; exact hy, by simp [h]⟩
theorem cov_two (x y : Span) (k : Str) (b : Bool) : cov [x, y] k b ↔ x.has k b ∨ y.has k b := by rw [cov_cons, cov_single]
theorem no_has {x : Span} (h : slt x.t x.f = true) (k : Str) (b : Bool) : ¬ x.has k b := fun hh => slt_sle_absurd h (sle_trans (Span.has_sle hh).1 (Span.has_sle hh).2)

theorem meet_eq_false {a b : Span} (h : ¬ (sle a.f a.t = true ∧ sle b.f b.t = true ∧ sle a.f b.t = true ∧ sle b.f a.t = true)) : meet4 a.f a.t b.f b.t = false := by
  cases hm : meet4 a.f a.t b.f b.t with
  | false => rfl
  | true => exact (h (meet4_true.1 hm)).elim

/-! SpansInside -/
theorem inside_in {a b : Span} (ha : sle a.f a.t = true) (h1 : sin b.f a.f a.t = true) (h2 : sin b.t a.f a.t = true) (h3 : sle b.f b.t = true) : meet4 a.f a.t b.f b.t = true ∧ joinF [a, b] = [a] := by
  unfold sin at h1 h2
  rw [Bool.and_eq_true] at h1 h2
  refine ⟨meet4_true.2 ⟨ha, h3, h2.1, h1.2⟩, (joinF_of (NF_single ha) fun k b' => ?_).symm⟩
  rw [cov_single, cov_two]
  refine ⟨.inl, fun h => h.elim id fun hb => ⟨sle_trans h1.1 hb.1, ?_⟩⟩
  have := hb.2
  split
  · rename_i hq; rw [if_pos hq] at this; exact slt_of_slt_sle this h2.2
  · rename_i hq; rw [if_neg hq] at this; exact sle_trans this h2.2

theorem inside_none {a b : Span} (ha : sle a.f a.t = true) (h : sle b.f b.t = false) : meet4 a.f a.t b.f b.t = false ∧ joinF [a, b] = [a] := by
  refine ⟨meet_eq_false fun hh => by rw [h] at hh; exact absurd hh.2.1 Bool.false_ne_true, (joinF_of (NF_single ha) fun k b' => ?_).symm⟩
  rw [cov_single, cov_two]
  exact ⟨.inl, fun hh => hh.elim id fun hb => (no_has (not_sle.1 h) k b' hb).elim⟩

theorem inside_low {a b : Span} (ha : sle a.f a.t = true) (hb : sle b.f b.t = true) (h : slt b.t a.f = true) : meet4 a.f a.t b.f b.t = false ∧ joinF [a, b] = [b, a] := by
  refine ⟨meet_eq_false fun hh => slt_sle_absurd h hh.2.2.1, (joinF_of (NF_two hb ha h) fun k b' => ?_).symm⟩
  rw [cov_two, cov_two]; exact or_comm

theorem inside_high {a b : Span} (ha : sle a.f a.t = true) (hb : sle b.f b.t = true) (h : slt a.t b.f = true) : meet4 a.f a.t b.f b.t = false ∧ joinF [a, b] = [a, b] :=
  ⟨meet_eq_false fun hh => slt_sle_absurd h hh.2.2.2, (joinF_of (NF_two ha hb h) fun k b' => Iff.rfl).symm⟩

/-- What two that meet have together, in whichever order they begin. -/
def hull (a b : Span) : Span := ⟨smin a.f b.f, smax a.t b.t⟩
theorem smax_comm (a b : Str) : smax a b = smax b a := by
  unfold smax
  cases h : slt a b
  · cases h' : slt b a
    · simp [slt_total h h']
    · simp
  · simp [slt_asymm h]
theorem smin_le_left (a b : Str) : sle (smin a b) a = true := by
  unfold smin
  split
  · rename_i h; exact sle_of_slt h
  · exact sle_refl _
theorem has_hull2 {a b : Span} (h : meet4 a.f a.t b.f b.t = true) (k : Str) (c : Bool) : (hull a b).has k c ↔ a.has k c ∨ b.has k c := by
  obtain ⟨h1, h2, h3, h4⟩ := meet4_true.1 h
  unfold hull smin
  split
  · rename_i hlt
    rw [smax_comm a.t b.t, has_hull (x := a) (l := b) (sle_of_slt hlt) h3]
    exact or_comm
  · rename_i hlt
    exact has_hull (x := b) (l := a) (by simpa [sle] using hlt) h4 k c
theorem hull_full {a b : Span} (h : sle a.f a.t = true) : sle (hull a b).f (hull a b).t = true := sle_trans (smin_le_left _ _) (sle_trans h (smax_ge_left _ _))

theorem inside_meet {a b : Span} (ha : sle a.f a.t = true) (hb : sle b.f b.t = true) (h1 : slt b.t a.f = false) (h2 : slt a.t b.f = false) : meet4 a.f a.t b.f b.t = true ∧ (joinF [a, b]).length = 1 := by
  have hm : meet4 a.f a.t b.f b.t = true := meet4_true.2 ⟨ha, hb, not_slt.1 h1, not_slt.1 h2⟩
  refine ⟨hm, ?_⟩
  rw [← joinF_of (NF_single (hull_full (b := b) ha)) fun k c => by rw [cov_single, cov_two, has_hull2 hm]]
  rfl

/-! SpansCut -/
theorem cut_join {a : Span} {k : Str} (h1 : sle a.f k = true) (h2 : sle k a.t = true) : joinF [⟨k, a.t⟩, ⟨a.f, k⟩] = [a] := by
  refine (joinF_of (NF_single (sle_trans h1 h2)) fun p c => ?_).symm
  rw [cov_single, cov_two]
  unfold Span.has
  simp only
  constructor
  · rintro ⟨a1, a2⟩
    rcases sle_or_slt k p with hk | hk
    · exact .inl ⟨hk, a2⟩
    · refine .inr ⟨a1, ?_⟩
      split
      · exact hk
      · exact sle_of_slt hk
  · rintro (⟨a1, a2⟩ | ⟨a1, a2⟩)
    · exact ⟨sle_trans h1 a1, a2⟩
    · refine ⟨a1, ?_⟩
      split
      · rename_i hc; rw [if_pos hc] at a2; exact slt_of_slt_sle a2 h2
      · rename_i hc; rw [if_neg hc] at a2; exact sle_trans a2 h2

theorem cut_meet {a x : Span} {k : Str} (h1 : sle a.f k = true) (h2 : sle k a.t = true) : meet4 x.f x.t a.f a.t = (meet4 x.f x.t a.f k || meet4 x.f x.t k a.t) := by
  rw [Bool.eq_iff_iff, Bool.or_eq_true, meet4_true, meet4_true, meet4_true]
  constructor
  · rintro ⟨g1, g2, g3, g4⟩
    rcases sle_or_slt x.f k with hk | hk
    · exact .inl ⟨g1, h1, hk, g4⟩
    · exact .inr ⟨g1, h2, g3, sle_trans (sle_of_slt hk) g1⟩
  · rintro (⟨g1, g2, g3, g4⟩ | ⟨g1, g2, g3, g4⟩)
    · exact ⟨g1, sle_trans h1 h2, sle_trans g3 h2, g4⟩
    · exact ⟨g1, sle_trans h1 h2, g3, sle_trans h1 g4⟩
theorem cut_two {a : Span} {k : Str} (h1 : sle a.f k = true) (h2 : sle k a.t = true) : meet4 a.f k k a.t = true := meet4_true.2 ⟨h1, h2, sle_trans h1 h2, sle_refl _⟩

/-! SpansBoth -/
theorem meet_self (a : Span) : meet4 a.f a.t a.f a.t = sle a.f a.t := by
  rw [Bool.eq_iff_iff, meet4_true]
  exact ⟨fun h => h.1, fun h => ⟨h, h, h, h⟩⟩
theorem both_in {a b : Span} {k : Str} (h1 : sin k a.f a.t = true) (h2 : sin k b.f b.t = true) : meet4 a.f a.t b.f b.t = true := by
  unfold sin at h1 h2
  rw [Bool.and_eq_true] at h1 h2
  exact meet4_true.2 ⟨sle_trans h1.1 h1.2, sle_trans h2.1 h2.2, sle_trans h1.1 h2.2, sle_trans h2.1 h1.2⟩

/-! SpansOps -/
theorem sin_self (k a : Str) : sin k a a = decide (k = a) := by
  rw [Bool.eq_iff_iff]
  unfold sin
  rw [Bool.and_eq_true, decide_eq_true_eq]
  exact ⟨fun h => (sle_antisymm h.1 h.2).symm, fun h => by rw [h]; exact ⟨sle_refl _, sle_refl _⟩⟩

/-! SpansWhole -/
theorem NF.next {xs : List Span} (h : NF xs) {i : Nat} {x y : Span} (hx : xs[i]? = some x) (hy : xs[i + 1]? = some y) : slt x.t y.f = true := by
  obtain ⟨h1, e1⟩ := List.getElem?_eq_some_iff.1 hx
  obtain ⟨h2, e2⟩ := List.getElem?_eq_some_iff.1 hy
  have := List.pairwise_iff_getElem.1 h.2 i (i + 1) h1 h2 (by omega)
  rw [e1, e2] at this
  exact this

end Go.Proofs.YtimadkbdkdeepaaDoor
