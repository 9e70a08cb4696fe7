/-
  The law concordatlaw13.StoresGone: a row that is taken away is not there, all others are; taken away again it is none; put again it is there. No condition.
-/
import Derived.Test.YtdegcencbbbghaaTwo
set_option linter.unusedVariables false
set_option linter.unusedSimpArgs false
namespace Go.Proofs.Ytdegcencbbbghaa
open Go.RowKit Go.Shelf

/-- All but those of a key. -/
def butL (k : Str) (l : List Row) : List Row := l.filter fun x => decide (x.k ≠ k)

theorem delL_but (k : Str) (l : List Row) (hr : Rising l) : delL k l = butL k l := by
  refine rising_ext (delL_rising hr) (List.Pairwise.sublist List.filter_sublist hr) fun k' => ?_
  rw [getL_del k k' hr]
  unfold butL
  induction l with
  | nil => simp [getL]
  | cons x l ih =>
    have ih := ih hr.tail
    by_cases hx : x.k = k
    · rw [List.filter_cons_of_neg (by simp [hx]), ← ih]
      by_cases hk : k = k'
      · simp [hk]
      · rw [if_neg hk, if_neg hk]
        exact if_neg (by rw [hx]; exact hk)
    · rw [List.filter_cons_of_pos (by simp [hx])]
      by_cases hk : k = k'
      · subst hk
        rw [if_pos rfl] at ih ⊢
        conv => rhs; unfold getL
        rw [if_neg hx]
        exact ih
      · rw [if_neg hk] at ih ⊢
        by_cases hxk : x.k = k'
        · unfold getL
          rw [if_pos hxk, if_pos hxk]
        · unfold getL
          rw [if_neg hxk, if_neg hxk]
          exact ih

theorem but_snoc (k : Str) (m : List Row) (j : Nat) (x : Row) (h : m[j]? = some x) : butL k (m.take (j + 1)) = if x.k = k then butL k (m.take j) else butL k (m.take j) ++ [x] := by
  unfold butL
  rw [List.take_add_one, h, List.filter_append]
  by_cases hx : x.k = k <;> simp [hx]

theorem putL_new_length {k : Str} {v : Int} {l : List Row} (hr : Rising l) (h : getL k l = none) : (putL k v l).length = l.length + 1 := by
  rw [put_at k v l h hr]
  have := posL_le k l
  simp
  omega

/-- A slice that was made when the map lay there is none of the map's. -/
theorem Own.rdOff {α : Type} {enc : α → List Value} {k : Nat} {E : TypeId} {base : Nat} {w w' : World} {B : Nat} {v v5 : Value} {xs : List Row} {ys : List α} (hk : ∀ x, (enc x).length = k) (hM : MapAt base w B v xs) (hb : Below w.heap.size w w') (h : Own enc k E w.heap.size w' v5 ys) : RdOff enc k w' B v v5 ys := by
  refine ⟨h.rd hk, .inr fun b e => ?_⟩
  have h1 := h.base_le b e
  have h2 := h.lt b e
  have h3 := hM.lt
  exact ⟨by omega, fun e => by have := hM.own.lt b e; omega, h2⟩

end Go.Proofs.Ytdegcencbbbghaa
