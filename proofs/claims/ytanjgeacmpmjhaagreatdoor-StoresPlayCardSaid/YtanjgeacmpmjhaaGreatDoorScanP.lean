import Derived.Test.YtanjgeacmpmjhaaGreatDoorMapP
import Derived.Test.YtanjgeacmpmjhaaGreatDoorMeet
import Derived.Test.YtanjgeacmpmjhaaGreatDoorOkKey
set_option linter.unusedVariables false
set_option linter.unusedSimpArgs false
namespace Go.Proofs.YtanjgeacmpmjhaaGreatDoor

/-- The rows of a span. -/
def rowsIn (f t : Str) (xs : List Row) : List Row := xs.filter fun x => sin x.k f t

theorem drop_pos {k : Str} : ∀ {l : List Row}, Rising l → l.drop (posL k l) = l.filter fun x => !slt x.k k
  | [], _ => rfl
  | x :: l, hr => by
    rw [posL_cons]
    cases hx : slt x.k k with
    | true => simp [hx, drop_pos hr.tail]
    | false =>
      have hall : ∀ y ∈ l, slt y.k k = false := fun y hy => by
        cases h : slt y.k k with
        | false => rfl
        | true => rw [slt_trans (hr.head hy) h] at hx; cases hx
      simp [hx]
      exact (List.filter_eq_self.2 fun y hy => by simp [hall y hy]).symm

theorem take_to {t : Str} : ∀ {l : List Row}, Rising l → l.takeWhile (fun x => sle x.k t) = l.filter fun x => sle x.k t
  | [], _ => rfl
  | x :: l, hr => by
    cases hx : sle x.k t with
    | true => simp [hx, take_to hr.tail]
    | false =>
      have hall : ∀ y ∈ l, sle y.k t = false := fun y hy => by
        cases h : sle y.k t with
        | false => rfl
        | true => rw [sle_trans (sle_of_slt (hr.head hy)) h] at hx; cases hx
      simp [hx]
      exact hall

theorem scan_list {f t : Str} {xs : List Row} (hr : Rising xs) : (xs.drop (posL f xs)).takeWhile (fun x => sle x.k t) = rowsIn f t xs := by
  have hr' : Rising (xs.drop (posL f xs)) := List.Pairwise.sublist (List.drop_sublist _ _) hr
  rw [take_to hr', drop_pos hr, List.filter_filter]
  unfold rowsIn sin
  congr 1
  funext x
  rw [Bool.and_comm]
  rfl

theorem rowsIn_empty {f t : Str} {xs : List Row} (h : meet4 f t f t = false) : rowsIn f t xs = [] := by
  unfold rowsIn
  rw [List.filter_eq_nil_iff]
  intro x _ hx
  unfold sin at hx
  rw [Bool.and_eq_true] at hx
  have hft := sle_trans hx.1 hx.2
  rw [(meet4_true (a := f) (b := t) (c := f) (d := t)).2 ⟨hft, hft, hft, hft⟩] at h
  cases h

theorem tw_hit {α : Type} {p : α → Bool} : ∀ {zs : List α} {k : Nat} {x : α}, zs[k]? = some x → k ≤ (zs.takeWhile p).length → p x = true → (zs.takeWhile p)[k]? = some x
  | y :: zs, 0, x, h, _, hp => by
    simp only [List.getElem?_cons_zero, Option.some.injEq] at h
    subst h
    simp [hp]
  | y :: zs, k + 1, x, h, hk, hp => by
    simp only [List.getElem?_cons_succ] at h
    cases hy : p y with
    | false => simp [hy] at hk
    | true =>
      simp only [List.takeWhile_cons, hy, ↓reduceIte, List.length_cons, List.getElem?_cons_succ] at hk ⊢
      exact tw_hit h (by omega) hp
theorem tw_miss {α : Type} {p : α → Bool} : ∀ {zs : List α} {k : Nat} {x : α}, zs[k]? = some x → k ≤ (zs.takeWhile p).length → p x = false → (zs.takeWhile p).length = k
  | y :: zs, 0, x, h, _, hp => by
    simp only [List.getElem?_cons_zero, Option.some.injEq] at h
    subst h
    simp [hp]
  | y :: zs, k + 1, x, h, hk, hp => by
    simp only [List.getElem?_cons_succ] at h
    cases hy : p y with
    | false => simp [hy] at hk
    | true =>
      simp only [List.takeWhile_cons, hy, ↓reduceIte, List.length_cons] at hk ⊢
      rw [tw_miss h (by omega) hp]

theorem lt8_z : ∀ (n : Nat) (l : List UInt8), (∀ c ∈ l, okRune c.toNat = true) → l.length ≤ n → lt8 (List.replicate n 122) l = false
  | _, [], _, _ => lt8_nil _
  | 0, c :: l, _, h => by simp at h
  | n + 1, c :: l, hc, hl => by
    have h1 := hc c (by simp)
    have h2 := lt8_z n l (fun d hd => hc d (by simp [hd])) (by simpa using hl)
    unfold okRune at h1
    simp only [Bool.or_eq_true, Bool.and_eq_true, decide_eq_true_eq] at h1
    rw [List.replicate_succ]
    simp only [lt8, h2, Bool.and_false, Bool.or_false, decide_eq_false_iff_not, UInt8.lt_iff_toNat_lt]
    show ¬ 122 < c.toNat
    omega

abbrev z17 : Str := ⟨#[122, 122, 122, 122, 122, 122, 122, 122, 122, 122, 122, 122, 122, 122, 122, 122, 122]⟩

theorem sin_all {k : Str} (h : okKey k = true) : sin k ⟨#[]⟩ z17 = true := by
  unfold okKey at h
  simp only [Bool.and_eq_true, decide_eq_true_eq, List.all_eq_true] at h
  obtain ⟨⟨_, h1⟩, h2⟩ := h
  have hl : k.l.length ≤ 17 := by
    show k.data.toList.length ≤ 17
    rw [Array.length_toList]
    show k.size ≤ 17
    omega
  unfold sin
  rw [Bool.and_eq_true]
  constructor
  · show (!lt8 k.l []) = true
    rw [lt8_nil]; rfl
  · show (!lt8 (List.replicate 17 122) k.l) = true
    rw [lt8_z 17 _ h2 hl]; rfl

theorem rowsIn_all {m : List Row} (h : ∀ x ∈ m, okKey x.k = true) : rowsIn ⟨#[]⟩ z17 m = m := by
  unfold rowsIn
  rw [List.filter_eq_self]
  exact fun x hx => sin_all (h x hx)

/-- The first ones of a span, as many as there may be: one more is looked at. -/
theorem rowsIn_snoc (f t : Str) (n : Nat) (m : List Row) (k : Nat) (x : Row) (h : m[k]? = some x) :
    (rowsIn f t (m.take (k + 1))).take n = if sin x.k f t = true ∧ ((rowsIn f t (m.take k)).take n).length < n then (rowsIn f t (m.take k)).take n ++ [x] else (rowsIn f t (m.take k)).take n := by
  have h1 : rowsIn f t (m.take (k + 1)) = rowsIn f t (m.take k) ++ (if sin x.k f t then [x] else []) := by
    unfold rowsIn
    rw [List.take_add_one, h, List.filter_append]
    cases hx : sin x.k f t <;> simp [hx]
  rw [h1]
  generalize rowsIn f t (m.take k) = F
  rw [List.length_take]
  cases sin x.k f t with
  | false => simp
  | true =>
    simp only [↓reduceIte, true_and]
    by_cases hn : F.length < n
    · have h2 : min n F.length < n := by omega
      rw [if_pos h2, List.take_append, List.take_of_length_le (by omega), List.take_of_length_le (by simp; omega)]
    · have h2 : ¬ min n F.length < n := by omega
      rw [if_neg h2, List.take_append_of_le_length (by omega)]

end Go.Proofs.YtanjgeacmpmjhaaGreatDoor
