import Derived.Test.YtanjgeacmpmjhaaGreatDoorStr
set_option linter.unusedVariables false
set_option linter.unusedSimpArgs false
namespace Go.Proofs.YtanjgeacmpmjhaaGreatDoor

/-- do two spans meet, as the program tells it. -/
def meet4 (a b c d : Str) : Bool := sin (smax a c) a b && sin (smax a c) c d
/-- as the reference tells it. -/
def rmeet4 (a b c d : Str) : Bool := (sle a b && sle c d) && (sin a c d || sin c a b)

theorem meet4_true {a b c d : Str} : meet4 a b c d = true ↔ sle a b = true ∧ sle c d = true ∧ sle a d = true ∧ sle c b = true := by
  unfold meet4 sin smax
  simp only [Bool.and_eq_true]
  by_cases h : slt a c = true
  · rw [if_pos h]
    have h1 : sle a c = true := sle_of_slt h
    constructor
    · rintro ⟨⟨_, h2⟩, _, h3⟩
      exact ⟨sle_trans h1 h2, h3, sle_trans h1 h3, h2⟩
    · rintro ⟨_, h3, _, h4⟩
      exact ⟨⟨h1, h4⟩, sle_refl _, h3⟩
  · rw [if_neg h]
    have h1 : sle c a = true := by simpa [sle] using h
    constructor
    · rintro ⟨⟨_, h2⟩, _, h3⟩
      exact ⟨h2, sle_trans h1 h3, h3, sle_trans h1 h2⟩
    · rintro ⟨h2, _, h4, _⟩
      exact ⟨⟨sle_refl _, h2⟩, h1, h4⟩

theorem rmeet4_true {a b c d : Str} : rmeet4 a b c d = true ↔ sle a b = true ∧ sle c d = true ∧ sle a d = true ∧ sle c b = true := by
  unfold rmeet4 sin
  simp only [Bool.and_eq_true, Bool.or_eq_true]
  constructor
  · rintro ⟨⟨h1, h2⟩, ⟨h3, h4⟩ | ⟨h3, h4⟩⟩
    · exact ⟨h1, h2, h4, sle_trans h3 h1⟩
    · exact ⟨h1, h2, sle_trans h3 h2, h4⟩
  · rintro ⟨h1, h2, h3, h4⟩
    refine ⟨⟨h1, h2⟩, ?_⟩
    rcases sle_total a c with h | h
    · exact .inr ⟨h, h4⟩
    · exact .inl ⟨h, h3⟩

theorem rmeet4_eq (a b c d : Str) : rmeet4 a b c d = meet4 a b c d := by
  rw [Bool.eq_iff_iff, rmeet4_true, meet4_true]

theorem meet4_comm (a b c d : Str) : meet4 a b c d = meet4 c d a b := by
  rw [Bool.eq_iff_iff, meet4_true, meet4_true]
  constructor <;> rintro ⟨h1, h2, h3, h4⟩ <;> exact ⟨h2, h1, h4, h3⟩

end Go.Proofs.YtanjgeacmpmjhaaGreatDoor
