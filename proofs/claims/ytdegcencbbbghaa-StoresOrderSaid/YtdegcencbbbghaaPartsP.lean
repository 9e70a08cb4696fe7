import Derived.Test.YtdegcencbbbghaaChP
set_option linter.unusedVariables false
set_option linter.unusedSimpArgs false
namespace Go.Proofs.Ytdegcencbbbghaa

theorem take_pos {k : Str} : ∀ {l : List Row}, Rising l → ∀ x ∈ l.take (posL k l), slt x.k k = true
  | [], _, x, hx => by simp at hx
  | y :: l, hr, x, hx => by
    rw [posL_cons] at hx
    cases hy : slt y.k k with
    | true =>
      rw [hy] at hx
      simp only [↓reduceIte, List.take_succ_cons, List.mem_cons] at hx
      rcases hx with rfl | hx
      · exact hy
      · exact take_pos hr.tail x hx
    | false => rw [hy] at hx; simp at hx

theorem drop_pos_mem {k : Str} {l : List Row} (hr : Rising l) : ∀ x ∈ l.drop (posL k l), sle k x.k = true := fun x hx => by
  rw [drop_pos hr] at hx
  have := (List.mem_filter.1 hx).2
  simpa [sle] using this

theorem rowsIn_append (f t : Str) (a b : List Row) : rowsIn f t (a ++ b) = rowsIn f t a ++ rowsIn f t b := List.filter_append ..

theorem rowsIn_congr {f t f' t' : Str} {l : List Row} (h : ∀ x ∈ l, sin x.k f t = sin x.k f' t') : rowsIn f t l = rowsIn f' t' l := List.filter_congr h

/-- What stands ahead of a key, and from it on. -/
theorem rowsIn_parts {f t key : Str} {m : List Row} (hr : Rising m) (hk : sin key f t = true) :
    rowsIn f t m = (rowsIn f key m).take ((rowsIn f key m).length - (if (getL key m).isSome then 1 else 0)) ++ rowsIn key t m ∧ (if (getL key m).isSome then 1 else 0) ≤ (rowsIn f key m).length := by
  unfold sin at hk
  rw [Bool.and_eq_true] at hk
  obtain ⟨hfk, hkt⟩ := hk
  have ha := take_pos (k := key) hr
  have hb := drop_pos_mem (k := key) hr
  have hsplit : m = m.take (posL key m) ++ m.drop (posL key m) := (List.take_append_drop _ _).symm
  have hrb : Rising (m.drop (posL key m)) := List.Pairwise.sublist (List.drop_sublist _ _) hr
  have e1 : rowsIn f t (m.take (posL key m)) = rowsIn f key (m.take (posL key m)) := rowsIn_congr fun x hx => by
    have h1 := sle_of_slt (ha x hx)
    unfold sin
    rw [h1, sle_trans h1 hkt]
  have e2 : rowsIn key t (m.take (posL key m)) = [] := by
    unfold rowsIn
    rw [List.filter_eq_nil_iff]
    intro x hx h
    unfold sin at h
    rw [Bool.and_eq_true] at h
    have h1 := h.1
    unfold sle at h1
    rw [ha x hx] at h1
    cases h1
  have e3 : rowsIn f t (m.drop (posL key m)) = rowsIn key t (m.drop (posL key m)) := rowsIn_congr fun x hx => by
    have h1 := hb x hx
    unfold sin
    rw [h1, sle_trans hfk h1]
  have e4 : (rowsIn f key (m.drop (posL key m))).length = if (getL key m).isSome then 1 else 0 := by
    have e5 : rowsIn f key (m.drop (posL key m)) = (m.drop (posL key m)).filter fun x => decide (x.k = key) := by
      unfold rowsIn
      refine List.filter_congr fun x hx => ?_
      have h1 := hb x hx
      unfold sin
      rw [sle_trans hfk h1, Bool.true_and, Bool.eq_iff_iff, decide_eq_true_eq]
      exact ⟨fun h => sle_antisymm h h1, fun h => by rw [h]; exact sle_refl _⟩
    rw [e5]
    cases hg : getL key m with
    | none =>
      have h1 := getL_none.1 hg
      rw [List.filter_eq_nil_iff.2 (fun x hx => by simpa using h1 x (List.mem_of_mem_drop hx))]
      rfl
    | some u =>
      obtain ⟨hlt, ⟨x, hx, hxk, _⟩, _⟩ := put_over key 0 m u hg hr
      have hd : m.drop (posL key m) = x :: m.drop (posL key m + 1) := by
        obtain ⟨h1, h2⟩ := List.getElem?_eq_some_iff.1 hx
        rw [List.drop_eq_getElem_cons h1, h2]
      rw [hd] at hrb ⊢
      rw [List.filter_cons_of_pos (by simpa using hxk), List.filter_eq_nil_iff.2 (fun y hy => by
        have := hrb.head hy
        rw [hxk] at this
        simpa using (slt_ne this).symm)]
      rfl
  have hf : rowsIn f key m = rowsIn f key (m.take (posL key m)) ++ rowsIn f key (m.drop (posL key m)) := by conv => lhs; rw [hsplit, rowsIn_append]
  have ht : rowsIn f t m = rowsIn f t (m.take (posL key m)) ++ rowsIn f t (m.drop (posL key m)) := by conv => lhs; rw [hsplit, rowsIn_append]
  have hh : rowsIn key t m = rowsIn key t (m.take (posL key m)) ++ rowsIn key t (m.drop (posL key m)) := by conv => lhs; rw [hsplit, rowsIn_append]
  constructor
  · rw [hf, List.length_append, e4, Nat.add_sub_cancel, List.take_left' rfl, ht, hh, e1, e2, e3, List.nil_append]
  · rw [hf, List.length_append, e4]
    omega

end Go.Proofs.Ytdegcencbbbghaa
