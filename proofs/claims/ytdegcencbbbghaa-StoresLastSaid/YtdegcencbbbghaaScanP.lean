import Derived.Test.YtdegcencbbbghaaMapP
import Derived.Test.YtdegcencbbbghaaMeet
set_option linter.unusedVariables false
set_option linter.unusedSimpArgs false
namespace Go.Proofs.Ytdegcencbbbghaa

/-- The rows of a span. -/
def rowsIn (f t : Str) (xs : List Row) : List Row := xs.filter fun x => sin x.k f t

theorem drop_pos {k : Str} : ∀ {l : List Row}, Rising l → l.drop (posL k l) = l.filter fun x => !slt x.k k
  | [], _ => rfl
  | x :: l, hr => by
    rw [posL_cons]
    cases hx : slt x.k k with
    | true => simp [hx, drop_pos hr.tail]
    | false =>
      have hall : ∀ y ∈ l, slt y.k k = false := fun y hy => by
        cases h : slt y.k k with
        | false => rfl
        | true => rw [slt_trans (hr.head hy) h] at hx; cases hx
      simp [hx]
      exact (List.filter_eq_self.2 fun y hy => by simp [hall y hy]).symm

theorem take_to {t : Str} : ∀ {l : List Row}, Rising l → l.takeWhile (fun x => sle x.k t) = l.filter fun x => sle x.k t
  | [], _ => rfl
  | x :: l, hr => by
    cases hx : sle x.k t with
    | true => simp [hx, take_to hr.tail]
    | false =>
      have hall : ∀ y ∈ l, sle y.k t = false := fun y hy => by
        cases h : sle y.k t with
        | false => rfl
        | true => rw [sle_trans (sle_of_slt (hr.head hy)) h] at hx; cases hx
      simp [hx]
      exact hall

theorem scan_list {f t : Str} {xs : List Row} (hr : Rising xs) : (xs.drop (posL f xs)).takeWhile (fun x => sle x.k t) = rowsIn f t xs := by
  have hr' : Rising (xs.drop (posL f xs)) := List.Pairwise.sublist (List.drop_sublist _ _) hr
  rw [take_to hr', drop_pos hr, List.filter_filter]
  unfold rowsIn sin
  congr 1
  funext x
  rw [Bool.and_comm]
  rfl

theorem rowsIn_empty {f t : Str} {xs : List Row} (h : meet4 f t f t = false) : rowsIn f t xs = [] := by
  unfold rowsIn
  rw [List.filter_eq_nil_iff]
  intro x _ hx
  unfold sin at hx
  rw [Bool.and_eq_true] at hx
  have hft := sle_trans hx.1 hx.2
  rw [(meet4_true (a := f) (b := t) (c := f) (d := t)).2 ⟨hft, hft, hft, hft⟩] at h
  cases h

theorem tw_hit {α : Type} {p : α → Bool} : ∀ {zs : List α} {k : Nat} {x : α}, zs[k]? = some x → k ≤ (zs.takeWhile p).length → p x = true → (zs.takeWhile p)[k]? = some x
  | y :: zs, 0, x, h, _, hp => by
    simp only [List.getElem?_cons_zero, Option.some.injEq] at h
    subst h
    simp [hp]
  | y :: zs, k + 1, x, h, hk, hp => by
    simp only [List.getElem?_cons_succ] at h
    cases hy : p y with
    | false => simp [hy] at hk
    | true =>
      simp only [List.takeWhile_cons, hy, ↓reduceIte, List.length_cons, List.getElem?_cons_succ] at hk ⊢
      exact tw_hit h (by omega) hp
theorem tw_miss {α : Type} {p : α → Bool} : ∀ {zs : List α} {k : Nat} {x : α}, zs[k]? = some x → k ≤ (zs.takeWhile p).length → p x = false → (zs.takeWhile p).length = k
  | y :: zs, 0, x, h, _, hp => by
    simp only [List.getElem?_cons_zero, Option.some.injEq] at h
    subst h
    simp [hp]
  | y :: zs, k + 1, x, h, hk, hp => by
    simp only [List.getElem?_cons_succ] at h
    cases hy : p y with
    | false => simp [hy] at hk
    | true =>
      simp only [List.takeWhile_cons, hy, ↓reduceIte, List.length_cons] at hk ⊢
      rw [tw_miss h (by omega) hp]

end Go.Proofs.Ytdegcencbbbghaa
