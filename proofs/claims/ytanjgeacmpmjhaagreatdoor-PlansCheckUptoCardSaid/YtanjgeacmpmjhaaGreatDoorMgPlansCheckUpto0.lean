
set_option linter.unusedVariables false
set_option linter.unusedSimpArgs false
namespace Go.Proofs.YtanjgeacmpmjhaaGreatDoor
/-- The order of texts, by bytes. -/
def lt8 : List UInt8 → List UInt8 → Bool
  | _, [] => false
  | [], _ :: _ => true
  | a :: x, b :: y => a < b || (a == b && lt8 x y)

theorem lt8_irrefl (a : List UInt8) : lt8 a a = false := by
  induction a with
  | nil => rfl
  | cons x a ih => simp [lt8, ih]

theorem lt8_nil (a : List UInt8) : lt8 a [] = false := by cases a <;> rfl

theorem lt8_trans : ∀ (a b c : List UInt8), lt8 a b = true → lt8 b c = true → lt8 a c = true
  | _, _, [], _, h => by simp [lt8_nil] at h
  | _, [], _ :: _, h, _ => by simp [lt8_nil] at h
  | [], _ :: _, _ :: _, _, _ => rfl
  | a :: x, b :: y, c :: z, h1, h2 => by
    simp only [lt8, Bool.or_eq_true, Bool.and_eq_true, decide_eq_true_eq, beq_iff_eq, UInt8.lt_iff_toNat_lt] at *
    rcases h1 with h1 | ⟨rfl, h1⟩
    · rcases h2 with h2 | ⟨rfl, h2⟩
      · left; omega
      · left; exact h1
    · rcases h2 with h2 | ⟨rfl, h2⟩
      · left; exact h2
      · right; exact ⟨rfl, lt8_trans x y z h1 h2⟩

theorem lt8_total : ∀ (a b : List UInt8), lt8 a b = false → lt8 b a = false → a = b
  | [], [], _, _ => rfl
  | [], _ :: _, h, _ => by simp [lt8] at h
  | _ :: _, [], _, h => by simp [lt8] at h
  | a :: x, b :: y, h1, h2 => by
    simp only [lt8, Bool.or_eq_false_iff, Bool.and_eq_false_iff, decide_eq_false_iff_not, beq_eq_false_iff_ne, UInt8.lt_iff_toNat_lt] at *
    have e : a = b := by
      apply UInt8.toNat_inj.1
      omega
    subst e
    rw [lt8_total x y (h1.2.resolve_left (fun h => h rfl)) (h2.2.resolve_left (fun h => h rfl))]

/-- Texts: bytes. -/
abbrev Str := ByteArray
def Str.l (s : Str) : List UInt8 := s.data.toList
/-- one stands ahead of another one. -/
def slt (a b : Str) : Bool := lt8 a.l b.l
/-- not behind. -/
def sle (a b : Str) : Bool := !slt b a

theorem Str.ext {a b : Str} (h : a.l = b.l) : a = b := by
  cases a with
  | mk x => cases b with
    | mk y =>
      simp only [Str.l] at h
      congr
      exact Array.toList_inj.1 h

theorem slt_irrefl (a : Str) : slt a a = false := lt8_irrefl _
theorem slt_trans {a b c : Str} (h : slt a b = true) (k : slt b c = true) : slt a c = true := lt8_trans _ _ _ h k
theorem slt_total {a b : Str} (h : slt a b = false) (k : slt b a = false) : a = b := Str.ext (lt8_total _ _ h k)
theorem slt_asymm {a b : Str} (h : slt a b = true) : slt b a = false := by
  cases hb : slt b a with
  | false => rfl
  | true => have := slt_trans h hb; rw [slt_irrefl] at this; cases this
theorem slt_of_lt_le {a b c : Str} (h : slt a b = true) (k : slt c b = false) : slt a c = true := by
  cases hc : slt a c with
  | true => rfl
  | false =>
    cases hd : slt c a with
    | true => have := slt_trans hd h; rw [k] at this; cases this
    | false => have e := slt_total hc hd; subst e; rw [h] at k; cases k
theorem slt_of_le_lt {a b c : Str} (h : slt b a = false) (k : slt b c = true) : slt a c = true := by
  cases hc : slt a c with
  | true => rfl
  | false =>
    cases hd : slt c a with
    | true => have := slt_trans k hd; rw [h] at this; cases this
    | false => have e := slt_total hc hd; subst e; rw [h] at k; cases k
theorem sle_refl (a : Str) : sle a a = true := by simp [sle, slt_irrefl]
theorem sle_trans {a b c : Str} (h : sle a b = true) (k : sle b c = true) : sle a c = true := by
  simp only [sle, Bool.not_eq_true'] at *
  cases hc : slt c a with
  | false => rfl
  | true => have := slt_of_lt_le hc h; rw [k] at this; cases this
theorem sle_total (a b : Str) : sle a b = true ∨ sle b a = true := by
  simp only [sle, Bool.not_eq_true']
  cases h : slt b a with
  | false => exact .inl rfl
  | true => exact .inr (slt_asymm h)
theorem sle_antisymm {a b : Str} (h : sle a b = true) (k : sle b a = true) : a = b := by
  simp only [sle, Bool.not_eq_true'] at *
  exact slt_total k h
theorem slt_ne {a b : Str} (h : slt a b = true) : a ≠ b := fun e => by subst e; rw [slt_irrefl] at h; cases h
theorem not_sle {a b : Str} : sle a b = false ↔ slt b a = true := by simp [sle]
theorem not_slt {a b : Str} : slt a b = false ↔ sle b a = true := by simp [sle]
theorem sle_of_slt {a b : Str} (h : slt a b = true) : sle a b = true := by simp [sle, slt_asymm h]
/-- the greater one. -/
def smax (a b : Str) : Str := if slt a b then b else a
/-- the smaller one. -/
def smin (a b : Str) : Str := if slt b a then b else a
/-- from one to another one. -/
def sin (k a b : Str) : Bool := sle a k && sle k b

theorem slt_sle_absurd {a b : Str} (h : slt a b = true) (k : sle b a = true) : False := by
  simp only [sle, Bool.not_eq_true'] at k
  rw [h] at k; cases k

theorem slt_of_slt_sle {a b c : Str} (h : slt a b = true) (k : sle b c = true) : slt a c = true := by
  simp only [sle, Bool.not_eq_true'] at k
  exact slt_of_lt_le h k
theorem slt_of_sle_slt {a b c : Str} (h : sle a b = true) (k : slt b c = true) : slt a c = true := by
  simp only [sle, Bool.not_eq_true'] at h
  exact slt_of_le_lt h k
theorem sle_or_slt (a b : Str) : sle a b = true ∨ slt b a = true := by
  cases h : slt b a with
  | true => exact .inr rfl
  | false => exact .inl (by simp [sle, h])

end Go.Proofs.YtanjgeacmpmjhaaGreatDoor

set_option linter.unusedVariables false
set_option linter.unusedSimpArgs false
namespace Go.Proofs.YtanjgeacmpmjhaaGreatDoor

/-- do two spans meet, as the program tells it. -/
def meet4 (a b c d : Str) : Bool := sin (smax a c) a b && sin (smax a c) c d
/-- as the reference tells it. -/
def rmeet4 (a b c d : Str) : Bool := (sle a b && sle c d) && (sin a c d || sin c a b)

theorem meet4_true {a b c d : Str} : meet4 a b c d = true ↔ sle a b = true ∧ sle c d = true ∧ sle a d = true ∧ sle c b = true := by
  unfold meet4 sin smax
  simp only [Bool.and_eq_true]
  by_cases h : slt a c = true
  · rw [if_pos h]
    have h1 : sle a c = true := sle_of_slt h
    constructor
    · rintro ⟨⟨_, h2⟩, _, h3⟩
      exact ⟨sle_trans h1 h2, h3, sle_trans h1 h3, h2⟩
    · rintro ⟨_, h3, _, h4⟩
      exact ⟨⟨h1, h4⟩, sle_refl _, h3⟩
  · rw [if_neg h]
    have h1 : sle c a = true := by simpa [sle] using h
    constructor
    · rintro ⟨⟨_, h2⟩, _, h3⟩
      exact ⟨h2, sle_trans h1 h3, h3, sle_trans h1 h2⟩
    · rintro ⟨h2, _, h4, _⟩
      exact ⟨⟨sle_refl _, h2⟩, h1, h4⟩

theorem rmeet4_true {a b c d : Str} : rmeet4 a b c d = true ↔ sle a b = true ∧ sle c d = true ∧ sle a d = true ∧ sle c b = true := by
  unfold rmeet4 sin
  simp only [Bool.and_eq_true, Bool.or_eq_true]
  constructor
  · rintro ⟨⟨h1, h2⟩, ⟨h3, h4⟩ | ⟨h3, h4⟩⟩
    · exact ⟨h1, h2, h4, sle_trans h3 h1⟩
    · exact ⟨h1, h2, sle_trans h3 h2, h4⟩
  · rintro ⟨h1, h2, h3, h4⟩
    refine ⟨⟨h1, h2⟩, ?_⟩
    rcases sle_total a c with h | h
    · exact .inr ⟨h, h4⟩
    · exact .inl ⟨h, h3⟩

theorem rmeet4_eq (a b c d : Str) : rmeet4 a b c d = meet4 a b c d := by
  rw [Bool.eq_iff_iff, rmeet4_true, meet4_true]

theorem meet4_comm (a b c d : Str) : meet4 a b c d = meet4 c d a b := by
  rw [Bool.eq_iff_iff, meet4_true, meet4_true]
  constructor <;> rintro ⟨h1, h2, h3, h4⟩ <;> exact ⟨h2, h1, h4, h3⟩

end Go.Proofs.YtanjgeacmpmjhaaGreatDoor

set_option linter.unusedVariables false
namespace Go.Proofs.YtanjgeacmpmjhaaGreatDoor

/-- What a key may have. -/
def okRune (c : Nat) : Bool := (decide (97 ≤ c) && decide (c ≤ 122) || decide (48 ≤ c) && decide (c ≤ 57)) || decide (c = 95)
/-- May a text be a key? -/
def okKey (s : Str) : Bool := (decide (s.size ≠ 0) && decide (s.size ≤ 16)) && s.l.all fun c => okRune c.toNat

end Go.Proofs.YtanjgeacmpmjhaaGreatDoor
