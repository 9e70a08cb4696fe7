import Derived.Test.YtanjgeacmpmjhaaGreatDoorRowLaws
set_option linter.unusedVariables false
set_option linter.unusedSimpArgs false
namespace Go.Proofs.YtanjgeacmpmjhaaGreatDoor
open Go.RowKit

theorem Own.some_block {α : Type} {enc : α → List Value} {k : Nat} {E : TypeId} {base : Nat} {w : World} {v : Value} {xs : List α} (h : Own enc k E base w v xs) (hx : 0 < xs.length) :
    ∃ g cap cur, v = .slice (some ⟨g, 0, none⟩) xs.length cap ∧ base ≤ g ∧ w.heap[g]? = some (.cells cur E (0, 0)) ∧ xs.length ≤ cap ∧ cap ≤ maxLen ∧ cur.size = cap * k ∧ cur.toList.take (xs.length * k) = xs.flatMap enc := by
  rcases h.2 with ⟨rfl, h0⟩ | h
  · omega
  · exact h

/-- What lies at the row's head, where a row of these lies. -/
theorem Own.lies {α : Type} {enc : α → List Value} {k : Nat} {E : TypeId} {base : Nat} {w : World} {v : Value} {xs : List α} (h : Own enc k E base w v xs) (hk : ∀ x, (enc x).length = k) (i : Nat) (x : α) (hx : xs[i]? = some x) :
    ∃ g cap cur, v = .slice (some ⟨g, 0, none⟩) xs.length cap ∧ xs.length ≤ cap ∧ cap ≤ maxLen ∧ w.heap[g]? = some (.cells cur E (0, 0)) ∧ ∀ j u, (enc x)[j]? = some u → cur[i * k + j]? = some u := by
  obtain ⟨g, cap, cur, hv, _, hg, hlc, hcm, hsz, ht⟩ := h.some_block (Nat.lt_of_le_of_lt (Nat.zero_le _) (List.getElem?_eq_some_iff.1 hx).1)
  refine ⟨g, cap, cur, hv, hlc, hcm, hg, fun j u hu => ?_⟩
  have := flat_get hk xs i x j u hx hu
  rw [← ht, List.getElem?_take] at this
  split at this
  · simpa using this
  · cases this

theorem flat_set {α : Type} {enc : α → List Value} {k : Nat} (hk : ∀ x, (enc x).length = k) : ∀ (ys : List α) (i : Nat) (y y' : α) (j : Nat) (u : Value), ys[i]? = some y → enc y' = (enc y).set j u → j < k → (ys.flatMap enc).set (i * k + j) u = (ys.set i y').flatMap enc
  | x :: ys, 0, y, y', j, u, hi, he, hj => by
    simp only [List.getElem?_cons_zero, Option.some.injEq] at hi
    subst hi
    rw [List.flatMap_cons, List.set_cons_zero, List.flatMap_cons, he, Nat.zero_mul, Nat.zero_add, List.set_append_left _ _ (by rw [hk]; exact hj)]
  | x :: ys, i + 1, y, y', j, u, hi, he, hj => by
    simp only [List.getElem?_cons_succ] at hi
    rw [List.flatMap_cons, List.set_cons_succ, List.flatMap_cons, List.set_append_right _ _ (by rw [hk, Nat.add_mul]; omega), hk, show (i + 1) * k + j - k = i * k + j by rw [Nat.add_mul]; omega, flat_set hk ys i y y' j u hi he hj]

/-- A row of one's own, one cell of which is written. -/
theorem Own.cell {α : Type} {enc : α → List Value} {k : Nat} {E : TypeId} {base : Nat} {w : World} {g n cap : Nat} {ys : List α} (h : Own enc k E base w (.slice (some ⟨g, 0, none⟩) n cap) ys) (hk : ∀ x, (enc x).length = k) (i : Nat) (y y' : α) (j : Nat) (u : Value)
    (hy : ys[i]? = some y) (he : enc y' = (enc y).set j u) (hj : j < k) : Own enc k E base (w.setCell ⟨g, i * k + j, none⟩ u) (.slice (some ⟨g, 0, none⟩) n cap) (ys.set i y') ∧ ∀ b, b ≠ g → (w.setCell ⟨g, i * k + j, none⟩ u).heap[b]? = w.heap[b]? := by
  have hi := (List.getElem?_eq_some_iff.1 hy).1
  obtain ⟨g', cap', cur, hv, hb, hg, hlc, hcm, hsz, ht⟩ := h.some_block (by omega)
  injection hv with h1 h2 h3
  injection h1 with h1
  injection h1 with h1
  subst h1 h2 h3
  rw [setCell_eq_setRow w g (i * k + j) cur E (0, 0) u hg]
  refine ⟨⟨flat_length hk _, .inr ⟨g, cap, cur.setIfInBounds (i * k + j) u, by rw [List.length_set], hb, setRow_heap _ _ _ _ _ _ hg, by rw [List.length_set]; exact hlc, hcm, by simpa using hsz, ?_⟩⟩, fun b hb => setRow_other _ _ _ _ hb⟩
  rw [Array.toList_setIfInBounds, List.take_set, List.length_set, ht, flat_set hk ys i y y' j u hy he hj]

theorem ownsRow_lower {W : World} {base base' : Nat} {e : TypeId} {size : Nat} {v : Value} {n : Nat} {xs : List Value} (h : W.ownsRow base e size v n xs) (hb : base' ≤ base) : W.ownsRow base' e size v n xs := by
  refine ⟨h.1, ?_⟩
  rcases h.2 with h | ⟨g, cap, cur, h1, h2, h3⟩
  · exact .inl h
  · exact .inr ⟨g, cap, cur, h1, Nat.le_trans hb h2, h3⟩

theorem Own.lower {α : Type} {enc : α → List Value} {k : Nat} {E : TypeId} {base base' : Nat} {w : World} {v : Value} {xs : List α} (h : Own enc k E base w v xs) (hb : base' ≤ base) : Own enc k E base' w v xs := ownsRow_lower h hb

end Go.Proofs.YtanjgeacmpmjhaaGreatDoor
