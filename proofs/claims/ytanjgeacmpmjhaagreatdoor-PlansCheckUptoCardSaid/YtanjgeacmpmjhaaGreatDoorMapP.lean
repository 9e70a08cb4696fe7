import Derived.Test.YtanjgeacmpmjhaaGreatDoorKinds
set_option linter.unusedVariables false
set_option linter.unusedSimpArgs false
namespace Go.Proofs.YtanjgeacmpmjhaaGreatDoor

/-! Rows in order, as plain lists. -/
def Rising (l : List Row) : Prop := l.Pairwise fun a b => slt a.k b.k = true

def getL (k : Str) : List Row → Option Int
  | [] => none
  | x :: xs => if x.k = k then some x.v else getL k xs

def putL (k : Str) (v : Int) : List Row → List Row
  | [] => [⟨k, v⟩]
  | x :: xs => if slt x.k k then x :: putL k v xs else if x.k = k then ⟨k, v⟩ :: xs else ⟨k, v⟩ :: x :: xs

def delL (k : Str) : List Row → List Row
  | [] => []
  | x :: xs => if slt x.k k then x :: delL k xs else if x.k = k then xs else x :: xs

/-- how many stand ahead of a key. -/
def posL (k : Str) (l : List Row) : Nat := (l.takeWhile fun x => slt x.k k).length

theorem Rising.tail {x : Row} {l : List Row} (h : Rising (x :: l)) : Rising l := (List.pairwise_cons.1 h).2
theorem Rising.head {x y : Row} {l : List Row} (h : Rising (x :: l)) (hy : y ∈ l) : slt x.k y.k = true := (List.pairwise_cons.1 h).1 y hy

theorem getL_mem {k : Str} {v : Int} : ∀ {l : List Row}, getL k l = some v → (⟨k, v⟩ : Row) ∈ l
  | x :: xs, h => by
    unfold getL at h
    split at h
    · rename_i e
      injection h with h
      subst e h
      exact List.mem_cons_self ..
    · exact List.mem_cons_of_mem _ (getL_mem h)

theorem getL_none {k : Str} : ∀ {l : List Row}, getL k l = none ↔ ∀ x ∈ l, x.k ≠ k
  | [] => by simp [getL]
  | x :: xs => by
    unfold getL
    split
    · rename_i e
      simp [e]
    · rename_i e
      rw [getL_none]
      simp [e]

theorem getL_of_mem {x : Row} : ∀ {l : List Row}, Rising l → x ∈ l → getL x.k l = some x.v
  | y :: ys, h, hx => by
    unfold getL
    rcases List.mem_cons.1 hx with rfl | hx
    · simp
    · rw [if_neg (fun e => slt_ne (h.head hx) e)]
      exact getL_of_mem h.tail hx

theorem getL_lt {k : Str} : ∀ {l : List Row}, (∀ x ∈ l, slt k x.k = true) → getL k l = none := fun h => getL_none.2 fun x hx e => slt_ne (h x hx) e.symm

/-- Rows that rise are told by what is got. -/
theorem rising_ext : ∀ {l m : List Row}, Rising l → Rising m → (∀ k, getL k l = getL k m) → l = m
  | [], [], _, _, _ => rfl
  | [], y :: ys, _, _, h => by have := h y.k; simp [getL] at this
  | x :: xs, [], _, _, h => by have := h x.k; simp [getL] at this
  | x :: xs, y :: ys, hl, hm, h => by
    have hxy : x.k = y.k := by
      have h1 := h x.k
      have h2 := h y.k
      simp only [getL, if_true] at h1 h2
      by_cases e : x.k = y.k
      · exact e
      · rw [if_neg (fun e' => e e'.symm)] at h1
        rw [if_neg e] at h2
        have m1 := hm.head (getL_mem h1.symm)
        have m2 := hl.head (getL_mem h2)
        simp only at m1 m2
        have := slt_trans m1 m2
        rw [slt_irrefl] at this
        cases this
    have hv : x.v = y.v := by
      have h1 := h x.k
      simp only [getL, if_true, hxy] at h1
      injection h1
    have e : x = y := by cases x; cases y; simp_all
    subst e
    congr 1
    refine rising_ext hl.tail hm.tail fun k => ?_
    by_cases e : x.k = k
    · subst e
      rw [getL_lt fun z hz => hl.head hz, getL_lt fun z hz => hm.head hz]
    · have := h k
      simp only [getL, if_neg e] at this
      exact this

theorem putL_mem {k : Str} {v : Int} {y : Row} : ∀ {l : List Row}, y ∈ putL k v l → y = ⟨k, v⟩ ∨ y ∈ l
  | [], h => by simpa [putL] using h
  | x :: xs, h => by
    unfold putL at h
    split at h
    · rcases List.mem_cons.1 h with rfl | h
      · exact .inr (List.mem_cons_self ..)
      · exact (putL_mem h).imp id (List.mem_cons_of_mem _)
    · split at h
      · rcases List.mem_cons.1 h with rfl | h
        · exact .inl rfl
        · exact .inr (List.mem_cons_of_mem _ h)
      · rcases List.mem_cons.1 h with rfl | h
        · exact .inl rfl
        · exact .inr h

theorem putL_rising {k : Str} {v : Int} : ∀ {l : List Row}, Rising l → Rising (putL k v l)
  | [], _ => by simp [putL, Rising]
  | x :: xs, h => by
    unfold putL
    split
    · rename_i hlt
      refine List.pairwise_cons.2 ⟨fun y hy => ?_, putL_rising h.tail⟩
      rcases putL_mem hy with rfl | hy
      · exact hlt
      · exact h.head hy
    · rename_i hlt
      split
      · rename_i e
        subst e
        exact List.pairwise_cons.2 ⟨fun y hy => h.head hy, h.tail⟩
      · rename_i e
        have hkx : slt k x.k = true := by
          cases hs : slt k x.k with
          | true => rfl
          | false => exact absurd (slt_total (by simpa using hlt) hs) e
        refine List.pairwise_cons.2 ⟨fun y hy => ?_, h⟩
        rcases List.mem_cons.1 hy with rfl | hy
        · exact hkx
        · exact slt_trans hkx (h.head hy)

theorem getL_put (k : Str) (v : Int) (k' : Str) : ∀ (l : List Row), getL k' (putL k v l) = if k = k' then some v else getL k' l
  | [] => by simp [putL, getL]
  | x :: xs => by
    unfold putL
    split
    · rename_i hlt
      simp only [getL, getL_put k v k' xs]
      by_cases e : x.k = k'
      · rw [if_pos e, if_neg (fun e' => slt_ne hlt (e.trans e'.symm)), if_pos e]
      · rw [if_neg e, if_neg e]
    · split
      · rename_i e
        subst e
        by_cases e' : x.k = k' <;> simp [getL, e']
      · rename_i e
        simp [getL]

theorem delL_mem {k : Str} {y : Row} : ∀ {l : List Row}, y ∈ delL k l → y ∈ l
  | [], h => h
  | x :: xs, h => by
    unfold delL at h
    split at h
    · rcases List.mem_cons.1 h with rfl | h
      · exact List.mem_cons_self ..
      · exact List.mem_cons_of_mem _ (delL_mem h)
    · split at h
      · exact List.mem_cons_of_mem _ h
      · exact h

theorem delL_rising {k : Str} : ∀ {l : List Row}, Rising l → Rising (delL k l)
  | [], h => h
  | x :: xs, h => by
    unfold delL
    split
    · exact List.pairwise_cons.2 ⟨fun y hy => h.head (delL_mem hy), delL_rising h.tail⟩
    · split
      · exact h.tail
      · exact h

theorem getL_del (k : Str) (k' : Str) : ∀ {l : List Row}, Rising l → getL k' (delL k l) = if k = k' then none else getL k' l
  | [], _ => by simp [delL, getL]
  | x :: xs, h => by
    unfold delL
    split
    · rename_i hlt
      simp only [getL, getL_del k k' h.tail]
      by_cases e : x.k = k'
      · rw [if_pos e, if_neg (fun e' => slt_ne hlt (e.trans e'.symm)), if_pos e]
      · rw [if_neg e, if_neg e]
    · rename_i hlt
      split
      · rename_i e
        subst e
        by_cases e' : x.k = k'
        · subst e'
          rw [if_pos rfl]
          exact getL_lt fun z hz => h.head hz
        · simp [getL, e']
      · rename_i e
        by_cases e' : k = k'
        · subst e'
          rw [if_pos rfl]
          have hkx : slt k x.k = true := by
            cases hs : slt k x.k with
            | true => rfl
            | false => exact absurd (slt_total (by simpa using hlt) hs) e
          refine getL_lt fun z hz => ?_
          rcases List.mem_cons.1 hz with rfl | hz
          · exact hkx
          · exact slt_trans hkx (h.head hz)
        · rw [if_neg e']

/-! Where something belongs. -/
theorem posL_le (k : Str) (l : List Row) : posL k l ≤ l.length := (List.takeWhile_sublist _).length_le

theorem posL_cons (k : Str) (x : Row) (l : List Row) : posL k (x :: l) = if slt x.k k then posL k l + 1 else 0 := by
  unfold posL
  rw [List.takeWhile_cons]
  split <;> simp

theorem put_at : ∀ (k : Str) (v : Int) (l : List Row), getL k l = none → Rising l → putL k v l = l.take (posL k l) ++ ⟨k, v⟩ :: l.drop (posL k l)
  | k, v, [], _, _ => by simp [putL, posL]
  | k, v, x :: xs, h, hr => by
    rw [posL_cons]
    unfold putL
    unfold getL at h
    split
    · rename_i hlt
      split at h
      · cases h
      · rw [put_at k v xs h hr.tail]; simp
    · split at h
      · cases h
      · rename_i e
        rw [if_neg e]; simp

theorem put_over : ∀ (k : Str) (v : Int) (l : List Row) (u : Int), getL k l = some u → Rising l → posL k l < l.length ∧ (∃ x, l[posL k l]? = some x ∧ x.k = k ∧ x.v = u) ∧ putL k v l = l.set (posL k l) ⟨k, v⟩ ∧ delL k l = l.take (posL k l) ++ l.drop (posL k l + 1)
  | k, v, [], u, h, _ => by simp [getL] at h
  | k, v, x :: xs, u, h, hr => by
    rw [posL_cons]
    unfold putL delL
    unfold getL at h
    by_cases hlt : slt x.k k = true
    · rw [if_neg (slt_ne hlt)] at h
      obtain ⟨h1, ⟨y, h2, h3⟩, h4, h5⟩ := put_over k v xs u h hr.tail
      simp only [hlt, if_true]
      exact ⟨by simpa using h1, ⟨y, by simpa using h2, h3⟩, by rw [h4]; rfl, by rw [h5]; rfl⟩
    · simp only [hlt]
      by_cases e : x.k = k
      · rw [if_pos e] at h
        injection h with h
        simp [e, h]
      · rw [if_neg e] at h
        have hkx : slt k x.k = true := by
          cases hs : slt k x.k with
          | true => rfl
          | false => exact absurd (slt_total (by simpa using hlt) hs) e
        have := hr.head (getL_mem h)
        have := slt_trans hkx this
        simp only [slt_irrefl] at this
        cases this

theorem del_none : ∀ (k : Str) (l : List Row), getL k l = none → delL k l = l
  | k, [], _ => rfl
  | k, x :: xs, h => by
    unfold delL
    unfold getL at h
    split at h
    · cases h
    · rename_i e
      rw [if_neg e, del_none k xs h]
      split <;> rfl

/-- What a search by halves asks. -/
theorem pos_search {k : Str} {l : List Row} (hr : Rising l) : ∀ (i : Nat) (x : Row), l[i]? = some x → (slt x.k k = true ↔ i < posL k l) := by
  induction l with
  | nil => intro i x h; simp at h
  | cons y ys ih =>
    intro i x h
    rw [posL_cons]
    cases i with
    | zero =>
      simp only [List.getElem?_cons_zero, Option.some.injEq] at h
      subst h
      split <;> simp_all
    | succ i =>
      simp only [List.getElem?_cons_succ] at h
      split
      · rw [ih hr.tail i x h]; omega
      · rename_i hlt
        constructor
        · intro hx
          exact absurd (slt_trans (hr.head (List.mem_of_getElem? h)) hx) hlt
        · intro h'; omega

theorem pos_found {k : Str} {l : List Row} (hr : Rising l) : (∃ x, l[posL k l]? = some x ∧ x.k = k) ↔ getL k l ≠ none := by
  constructor
  · rintro ⟨x, hx, rfl⟩
    rw [getL_of_mem hr (List.mem_of_getElem? hx)]
    simp
  · intro h
    cases hg : getL k l with
    | none => exact absurd hg h
    | some u =>
      obtain ⟨_, ⟨x, h1, h2, _⟩, _⟩ := put_over k 0 l u hg hr
      exact ⟨x, h1, h2⟩

theorem putL_length (k : Str) (v : Int) : ∀ l : List Row, (putL k v l).length ≤ l.length + 1
  | [] => by simp [putL]
  | x :: l => by
    have := putL_length k v l
    unfold putL
    repeat' split
    all_goals simp
    all_goals omega
theorem delL_length (k : Str) : ∀ l : List Row, (delL k l).length ≤ l.length
  | [] => by simp [delL]
  | x :: l => by
    have := delL_length k l
    unfold delL
    repeat' split
    all_goals simp
    all_goals omega

end Go.Proofs.YtanjgeacmpmjhaaGreatDoor
