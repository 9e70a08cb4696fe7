import Derived.Test.YtdegcencbbbghaaChP
set_option linter.unusedVariables false
set_option linter.unusedSimpArgs false
namespace Go.Proofs.Ytdegcencbbbghaa
open Go.RowKit

/-- What a row that is put makes of what is there of a key. -/
def stepR (key : Str) (r : Option Int) (x : Row) : Option Int := if okKey x.k = true ∧ x.k = key then some x.v else r

theorem getL_foldR (key : Str) : ∀ (l m : List Row), getL key (l.foldl putR m) = l.foldl (stepR key) (getL key m)
  | [], _ => rfl
  | x :: l, m => by
    rw [List.foldl_cons, getL_foldR key l, getL_putR]
    rfl

theorem putR_rising {m : List Row} (h : Rising m) (x : Row) : Rising (putR m x) := by
  unfold putR
  split
  · exact putL_rising h
  · exact h
theorem foldR_rising : ∀ (l : List Row) {m : List Row}, Rising m → Rising (l.foldl putR m)
  | [], _, h => h
  | x :: l, _, h => foldR_rising l (putR_rising h x)
theorem putAll_rising (l : List Row) : Rising (putAll l) := foldR_rising l List.Pairwise.nil

theorem getL_putAll (key : Str) (l : List Row) : getL key (putAll l) = l.foldl (stepR key) none := getL_foldR key l []

theorem stepR_filter (key : Str) : ∀ (l : List Row) (r : Option Int), l.foldl (stepR key) r = (l.filter fun x => decide (x.k = key)).foldl (stepR key) r
  | [], r => rfl
  | x :: l, r => by
    by_cases h : x.k = key
    · rw [List.filter_cons_of_pos (by simpa using h), List.foldl_cons, List.foldl_cons, stepR_filter key l]
    · rw [List.filter_cons_of_neg (by simpa using h), List.foldl_cons, stepR_filter key l]
      unfold stepR
      rw [if_neg (fun e => h e.2)]

/-- Is something there? -/
theorem stepR_some (key : Str) : ∀ (l : List Row) (r : Option Int), (l.foldl (stepR key) r).isSome = (r.isSome || (okKey key && l.any fun x => decide (x.k = key)))
  | [], r => by simp
  | x :: l, r => by
    rw [List.foldl_cons, stepR_some key l, List.any_cons]
    unfold stepR
    by_cases h : x.k = key
    · subst h
      cases okKey x.k <;> simp
    · simp [h]

theorem any_turn (l : List Row) (k : Nat) (p : Row → Bool) : (l.drop k ++ l.take k).any p = l.any p := by
  conv => rhs; rw [← List.take_append_drop k l]
  rw [List.any_append, List.any_append, Bool.or_comm]

theorem some_turn (key : Str) (l : List Row) (k : Nat) : (getL key (putAll (l.drop k ++ l.take k))).isSome = (getL key (putAll l)).isSome := by
  rw [getL_putAll, getL_putAll, stepR_some, stepR_some, any_turn]

/-- Rows without their values. -/
def bare (m : List Row) : List Row := m.map fun x => ⟨x.k, 0⟩
theorem bare_rising {m : List Row} (h : Rising m) : Rising (bare m) := by
  unfold bare Rising
  rw [List.pairwise_map]
  exact h
theorem getL_bare (key : Str) : ∀ m : List Row, getL key (bare m) = (getL key m).map fun _ => 0
  | [] => rfl
  | x :: m => by
    show (if x.k = key then some 0 else getL key (bare m)) = Option.map _ (if x.k = key then some x.v else getL key m)
    rw [getL_bare key m]
    split <;> rfl

/-- The same keys, in whatever order rows are put. -/
theorem bare_turn (l : List Row) (k : Nat) : bare (putAll (l.drop k ++ l.take k)) = bare (putAll l) := by
  refine rising_ext (bare_rising (putAll_rising _)) (bare_rising (putAll_rising _)) fun key => ?_
  rw [getL_bare, getL_bare]
  have := some_turn key l k
  cases h1 : getL key (putAll (l.drop k ++ l.take k)) <;> cases h2 : getL key (putAll l) <;> rw [h1, h2] at this <;> simp_all

/-- One of a key alone: it does not matter when it is put. -/
theorem once_turn (key : Str) (l : List Row) (k : Nat) (h : (l.filter fun x => decide (x.k = key)).length = 1) : getL key (putAll (l.drop k ++ l.take k)) = getL key (putAll l) := by
  rw [getL_putAll, getL_putAll, stepR_filter, stepR_filter key l]
  obtain ⟨x0, hx0⟩ := List.length_eq_one_iff.1 h
  have hs : l.filter (fun x => decide (x.k = key)) = (l.take k).filter (fun x => decide (x.k = key)) ++ (l.drop k).filter (fun x => decide (x.k = key)) := by
    conv => lhs; rw [← List.take_append_drop k l]
    rw [List.filter_append]
  rw [List.filter_append]
  rw [hs] at hx0 ⊢
  rcases List.append_eq_singleton_iff.1 hx0 with ⟨h1, h2⟩ | ⟨h1, h2⟩ <;> rw [h1, h2] <;> rfl

/-- Rows that rise are put as they are. -/
theorem stepR_rising (key : Str) : ∀ (m : List Row) (r : Option Int), Rising m → (∀ x ∈ m, okKey x.k = true) → m.foldl (stepR key) r = (getL key m).or r
  | [], r, _, _ => by simp [getL]
  | y :: m, r, hr, hok => by
    rw [List.foldl_cons, stepR_rising key m _ hr.tail (fun x hx => hok x (by simp [hx]))]
    have hc : getL key (y :: m) = if y.k = key then some y.v else getL key m := rfl
    rw [hc]
    unfold stepR
    by_cases h : y.k = key
    · have hn : getL key m = none := getL_lt (fun x hx => by rw [← h]; exact hr.head hx)
      rw [if_pos ⟨hok y (by simp), h⟩, if_pos h, hn]
      rfl
    · rw [if_neg (fun e => h e.2), if_neg h]

theorem putAll_same {m : List Row} (hr : Rising m) (hok : ∀ x ∈ m, okKey x.k = true) : putAll m = m := by
  refine rising_ext (putAll_rising m) hr fun key => ?_
  rw [getL_putAll, stepR_rising key m none hr hok]
  cases getL key m <;> rfl

end Go.Proofs.Ytdegcencbbbghaa
