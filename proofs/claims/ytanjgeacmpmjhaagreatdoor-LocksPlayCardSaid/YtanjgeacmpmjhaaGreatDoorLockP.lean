import Derived.Test.YtanjgeacmpmjhaaGreatDoorKinds
import Derived.Test.YtanjgeacmpmjhaaGreatDoorMgLocksPlay0
set_option linter.unusedVariables false
set_option linter.unusedSimpArgs false
set_option linter.unusedSectionVars false
namespace Go.Proofs.YtanjgeacmpmjhaaGreatDoor

/-! ### who has what -/
abbrev Tab := Int → List Lock
def mayL (who : Int) (f t : Str) : Bool := decide (who ≠ 0) && sle f t
/-- is one in the way? -/
def hitL (al : Bool) (f t : Str) (x : Lock) : Bool := (al || x.a) && meet4 x.f x.t f t
def InWay (T : Tab) (who : Int) (f t : Str) (al : Bool) (o : Int) : Prop := o ≠ who ∧ ∃ x ∈ T o, hitL al f t x = true
structure WayIs (T : Tab) (who : Int) (f t : Str) (al : Bool) (l : List Int) : Prop where
  rise : l.Pairwise (· < ·)
  mem : ∀ o, o ∈ l ↔ InWay T who f t al o

theorem rise_ext : ∀ {l m : List Int}, l.Pairwise (· < ·) → m.Pairwise (· < ·) → (∀ x, x ∈ l ↔ x ∈ m) → l = m
  | [], [], _, _, _ => rfl
  | [], y :: m, _, _, h => absurd ((h y).2 (by simp)) (by simp)
  | x :: l, [], _, _, h => absurd ((h x).1 (by simp)) (by simp)
  | x :: l, y :: m, hl, hm, h => by
    rw [List.pairwise_cons] at hl hm
    have h1 := (h x).1 (by simp)
    have h2 := (h y).2 (by simp)
    have e : x = y := by
      rcases List.mem_cons.1 h1 with e | e
      · exact e
      · rcases List.mem_cons.1 h2 with e' | e'
        · exact e'.symm
        · have a := hm.1 x e
          have b := hl.1 y e'
          omega
    subst e
    rw [rise_ext hl.2 hm.2 fun z => ?_]
    constructor
    · intro hz
      rcases List.mem_cons.1 ((h z).1 (List.mem_cons_of_mem _ hz)) with e | e
      · have := hl.1 z hz; omega
      · exact e
    · intro hz
      rcases List.mem_cons.1 ((h z).2 (List.mem_cons_of_mem _ hz)) with e | e
      · have := hm.1 z hz; omega
      · exact e

theorem WayIs.uniq {T : Tab} {who : Int} {f t : Str} {al : Bool} {l m : List Int} (h : WayIs T who f t al l) (k : WayIs T who f t al m) : l = m :=
  rise_ext h.rise k.rise fun x => (h.mem x).trans (k.mem x).symm
theorem WayIs.empty {T : Tab} {who : Int} {f t : Str} {al : Bool} (h : ∀ o, ¬ InWay T who f t al o) : WayIs T who f t al [] := ⟨.nil, fun o => ⟨fun e => absurd e (by simp), fun e => (h o e).elim⟩⟩
theorem WayIs.nil_iff {T : Tab} {who : Int} {f t : Str} {al : Bool} {l : List Int} (h : WayIs T who f t al l) : l = [] ↔ ∀ o, ¬ InWay T who f t al o :=
  ⟨fun e o ho => (by have h1 := (h.mem o).2 ho; rw [e] at h1; exact absurd h1 (by simp)), fun e => h.uniq (.empty e)⟩

/-! ### what is had once a span is got -/
def sameSp (f t : Str) (x : Lock) : Bool := decide (x.f = f) && decide (x.t = t)
def addL (f t : Str) (al : Bool) : List Lock → List Lock
  | [] => [⟨f, t, al⟩]
  | x :: xs => if sameSp f t x then ⟨x.f, x.t, x.a || al⟩ :: xs else x :: addL f t al xs
def spOf (x : Lock) : Span := ⟨x.f, x.t⟩
def putT (T : Tab) (who : Int) (l : List Lock) : Tab := fun o => if who = o then l else T o

theorem sameSp_true {f t : Str} {x : Lock} : sameSp f t x = true ↔ x.f = f ∧ x.t = t := by unfold sameSp; simp

theorem addL_new {f t : Str} {al : Bool} : ∀ {l : List Lock}, (∀ x ∈ l, sameSp f t x = false) → addL f t al l = l ++ [⟨f, t, al⟩]
  | [], _ => rfl
  | x :: l, h => by
    unfold addL
    rw [if_neg (by rw [h x (by simp)]; exact Bool.false_ne_true), addL_new fun y hy => h y (by simp [hy])]; rfl
theorem addL_old {f t : Str} {al : Bool} : ∀ {l : List Lock} {i : Nat} {x : Lock}, l[i]? = some x → sameSp f t x = true → (∀ j y, j < i → l[j]? = some y → sameSp f t y = false) → addL f t al l = l.set i ⟨x.f, x.t, x.a || al⟩
  | [], i, x, h, _, _ => by simp at h
  | y :: l, 0, x, h, hs, _ => by
    simp only [List.getElem?_cons_zero, Option.some.injEq] at h
    subst h
    unfold addL
    rw [if_pos hs]; rfl
  | y :: l, i + 1, x, h, hs, hno => by
    have h0 := hno 0 y (by omega) rfl
    simp only [List.getElem?_cons_succ] at h
    unfold addL
    rw [if_neg (by rw [h0]; exact Bool.false_ne_true), addL_old h hs fun j z hj hz => hno (j + 1) z (by omega) (by simpa using hz)]; rfl

theorem addL_length (f t : Str) (al : Bool) : ∀ l : List Lock, (addL f t al l).length ≤ l.length + 1
  | [] => by simp [addL]
  | x :: l => by
    have := addL_length f t al l
    unfold addL
    split <;> simp <;> omega
theorem addL_ne (f t : Str) (al : Bool) : ∀ l : List Lock, addL f t al l ≠ []
  | [] => by simp [addL]
  | x :: l => by unfold addL; split <;> simp

/-- who is in it, once it is got. -/
theorem addL_mem {f t : Str} {al : Bool} {y : Lock} : ∀ {l : List Lock}, y ∈ addL f t al l → y ∈ l ∨ (y.f = f ∧ y.t = t ∧ (y.a = al ∨ ∃ x ∈ l, x.f = f ∧ x.t = t ∧ y.a = (x.a || al)))
  | [], h => by
    simp only [addL, List.mem_singleton] at h
    subst h
    exact .inr ⟨rfl, rfl, .inl rfl⟩
  | x :: l, h => by
    unfold addL at h
    by_cases hs : sameSp f t x = true
    · rw [if_pos hs] at h
      rcases List.mem_cons.1 h with e | e
      · obtain ⟨h1, h2⟩ := sameSp_true.1 hs
        subst e
        exact .inr ⟨h1, h2, .inr ⟨x, by simp, h1, h2, rfl⟩⟩
      · exact .inl (by simp [e])
    · rw [if_neg hs] at h
      rcases List.mem_cons.1 h with e | e
      · exact .inl (by simp [e])
      · rcases addL_mem e with e | ⟨h1, h2, h3⟩
        · exact .inl (by simp [e])
        · refine .inr ⟨h1, h2, h3.imp id ?_⟩
          rintro ⟨z, hz, h⟩
          exact ⟨z, by simp [hz], h⟩

/-- the spans are no two alike. -/
def OnceL (l : List Lock) : Prop := (l.map spOf).Nodup
theorem addL_spans (f t : Str) (al : Bool) : ∀ l : List Lock, (addL f t al l).map spOf = if l.any (sameSp f t) then l.map spOf else l.map spOf ++ [⟨f, t⟩]
  | [] => rfl
  | x :: l => by
    have ih := addL_spans f t al l
    unfold addL
    by_cases hs : sameSp f t x = true
    · rw [if_pos hs]
      simp [hs, spOf]
    · rw [if_neg hs]
      rw [Bool.not_eq_true] at hs
      rw [List.map_cons, ih, List.any_cons, hs, Bool.false_or]
      split <;> rfl
theorem any_same {f t : Str} {l : List Lock} : l.any (sameSp f t) = true ↔ (⟨f, t⟩ : Span) ∈ l.map spOf := by
  rw [List.any_eq_true, List.mem_map]
  constructor
  · rintro ⟨x, hx, hs⟩
    obtain ⟨h1, h2⟩ := sameSp_true.1 hs
    exact ⟨x, hx, by unfold spOf; rw [h1, h2]⟩
  · rintro ⟨x, hx, e⟩
    unfold spOf at e
    injection e with e1 e2
    exact ⟨x, hx, sameSp_true.2 ⟨e1, e2⟩⟩
theorem addL_once {f t : Str} {al : Bool} {l : List Lock} (h : OnceL l) : OnceL (addL f t al l) := by
  unfold OnceL at *
  rw [addL_spans]
  split
  · exact h
  · rename_i hn
    rw [List.nodup_append]
    refine ⟨h, by simp, fun a ha b hb e => hn (any_same.2 ?_)⟩
    rw [List.mem_singleton] at hb
    rw [← hb, ← e]; exact ha
/-- of one span there is one alone. -/
theorem OnceL.one {l : List Lock} (h : OnceL l) {x y : Lock} (hx : x ∈ l) (hy : y ∈ l) (hf : x.f = y.f) (ht : x.t = y.t) : x = y := by
  unfold OnceL at h
  induction l with
  | nil => cases hx
  | cons z l ih =>
    rw [List.map_cons, List.nodup_cons] at h
    have hin : ∀ {u : Lock}, u ∈ l → spOf u ∈ l.map spOf := fun hu => List.mem_map_of_mem hu
    have hsp : spOf x = spOf y := by unfold spOf; rw [hf, ht]
    rcases List.mem_cons.1 hx with e1 | e1 <;> rcases List.mem_cons.1 hy with e2 | e2
    · rw [e1, e2]
    · exact (h.1 (by rw [← e1, hsp]; exact hin e2)).elim
    · exact (h.1 (by rw [← e2, ← hsp]; exact hin e1)).elim
    · exact ih h.2 e1 e2

/-- the one of that span, once it is got. -/
theorem addL_has {f t : Str} {al : Bool} {l : List Lock} : ∃ y ∈ addL f t al l, y.f = f ∧ y.t = t ∧ (al = true → y.a = true) ∧ (∀ x ∈ l, OnceL l → x.f = f → x.t = t → x.a = true → y.a = true) := by
  induction l with
  | nil => exact ⟨⟨f, t, al⟩, by simp [addL], rfl, rfl, id, fun x hx => by cases hx⟩
  | cons z l ih =>
    unfold addL
    by_cases hs : sameSp f t z = true
    · rw [if_pos hs]
      obtain ⟨h1, h2⟩ := sameSp_true.1 hs
      refine ⟨_, List.mem_cons_self .., h1, h2, fun h => (by simp [h]), fun x hx ho hf ht ha => ?_⟩
      have := ho.one hx (by simp : z ∈ z :: l) (hf.trans h1.symm) (ht.trans h2.symm)
      rw [← this]
      simp [ha]
    · rw [if_neg hs]
      obtain ⟨y, hy, h1, h2, h3, h4⟩ := ih
      refine ⟨y, by simp [hy], h1, h2, h3, fun x hx ho hf ht ha => ?_⟩
      rcases List.mem_cons.1 hx with e | e
      · exact (hs (sameSp_true.2 ⟨by rw [← e]; exact hf, by rw [← e]; exact ht⟩)).elim
      · exact h4 x e (by unfold OnceL at *; exact (List.nodup_cons.1 ho).2) hf ht ha
theorem addL_keep {f t : Str} {al : Bool} {x : Lock} : ∀ {l : List Lock}, x ∈ l → ∃ y ∈ addL f t al l, y.f = x.f ∧ y.t = x.t ∧ (x.a = true → y.a = true)
  | z :: l, hx => by
    unfold addL
    by_cases hs : sameSp f t z = true
    · rw [if_pos hs]
      rcases List.mem_cons.1 hx with e | e
      · subst e
        exact ⟨_, List.mem_cons_self .., rfl, rfl, fun h => (by simp [h])⟩
      · exact ⟨x, by simp [e], rfl, rfl, id⟩
    · rw [if_neg hs]
      rcases List.mem_cons.1 hx with e | e
      · exact ⟨x, by simp [e], rfl, rfl, id⟩
      · obtain ⟨y, hy, h⟩ := addL_keep (f := f) (t := t) (al := al) e
        exact ⟨y, by simp [hy], h⟩

/-! ### what holds of a table, whatever was done -/
structure Tidy (T : Tab) : Prop where
  zero : T 0 = []
  once : ∀ o, OnceL (T o)
  may : ∀ o, ∀ x ∈ T o, sle x.f x.t = true
  apart : ∀ o p, o ≠ p → ∀ x ∈ T o, ∀ y ∈ T p, (x.a || y.a) = true → meet4 x.f x.t y.f y.t = false
theorem Tidy.new : Tidy fun _ => [] := ⟨rfl, fun _ => .nil, fun _ _ h => (nomatch h), fun _ _ _ _ h => (nomatch h)⟩
theorem Tidy.free {T : Tab} (h : Tidy T) (who : Int) : Tidy (putT T who []) := by
  have hs : ∀ {o : Int} {x : Lock}, x ∈ putT T who [] o → x ∈ T o := fun {o x} hx => by
    unfold putT at hx
    split at hx
    · cases hx
    · exact hx
  refine ⟨?_, fun o => ?_, fun o x hx => h.may o x (hs hx), fun o p e x hx y hy => h.apart o p e x (hs hx) y (hs hy)⟩
  · unfold putT
    rw [h.zero]
    split <;> rfl
  · unfold putT
    split
    · exact .nil
    · exact h.once o
theorem Tidy.add {T : Tab} (h : Tidy T) {who : Int} {f t : Str} {al : Bool} (hm : mayL who f t = true) (hno : ∀ o, ¬ InWay T who f t al o) : Tidy (putT T who (addL f t al (T who))) := by
  unfold mayL at hm
  rw [Bool.and_eq_true, decide_eq_true_eq] at hm
  have hfree : ∀ o, o ≠ who → ∀ x ∈ T o, ¬ (hitL al f t x = true) := fun o ho x hx hh => hno o ⟨ho, x, hx, hh⟩
  -- one of who's own, against one of another's
  have key : ∀ p, p ≠ who → ∀ x ∈ addL f t al (T who), ∀ y ∈ T p, (x.a || y.a) = true → meet4 x.f x.t y.f y.t = false := fun p hp x hx y hy ha => by
    rcases addL_mem hx with hx | ⟨h1, h2, h3⟩
    · exact h.apart who p (fun e => hp e.symm) x hx y hy ha
    · rw [Bool.eq_false_iff]
      intro hme
      rw [h1, h2, meet4_comm] at hme
      have hnh := hfree p hp y hy
      unfold hitL at hnh
      rw [hme, Bool.and_true] at hnh
      rcases h3 with h3 | ⟨z, hz, z1, z2, h3⟩
      · rw [h3] at ha
        exact hnh ha
      · rw [h3] at ha
        have hza : (z.a || y.a) = true := by
          cases hz' : z.a
          · rw [hz', Bool.false_or] at ha
            exact (hnh ha).elim
          · rfl
        have := h.apart who p (fun e => hp e.symm) z hz y hy hza
        rw [z1, z2, meet4_comm, hme] at this
        cases this
  refine ⟨?_, fun o => ?_, fun o x hx => ?_, fun o p e x hx y hy ha => ?_⟩
  · unfold putT
    rw [if_neg hm.1]
    exact h.zero
  · unfold putT
    split
    · exact addL_once (h.once who)
    · exact h.once o
  · unfold putT at hx
    split at hx
    · rcases addL_mem hx with hx | ⟨h1, h2, _⟩
      · exact h.may _ x hx
      · rw [h1, h2]; exact hm.2
    · exact h.may o x hx
  · unfold putT at hx hy
    split at hx
    · rename_i e1
      subst e1
      rw [if_neg e] at hy
      exact key p (fun e' => e e'.symm) x hx y hy ha
    · rename_i e1
      split at hy
      · rename_i e2
        subst e2
        rw [meet4_comm]
        exact key o (fun e' => e1 e'.symm) y hy x hx (by rw [Bool.or_comm]; exact ha)
      · exact h.apart o p e x hx y hy ha

end Go.Proofs.YtanjgeacmpmjhaaGreatDoor
