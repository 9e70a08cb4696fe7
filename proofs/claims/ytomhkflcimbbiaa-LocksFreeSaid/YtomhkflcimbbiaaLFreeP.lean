import Derived.Test.YtomhkflcimbbiaaLAskR
set_option linter.unusedVariables false
set_option linter.unusedSimpArgs false
set_option linter.unusedSectionVars false
namespace Go.Proofs.Ytomhkflcimbbiaa
open Go.RowKit

/-! ### those in the way are free, one by one -/
def tW (T : Tab) (l : List Int) : Tab := fun o => if o ∈ l then [] else T o
theorem tW_nil (T : Tab) : tW T [] = T := by
  funext o
  simp [tW]
theorem tW_snoc (T : Tab) (l : List Int) (a : Int) : putT (tW T l) a [] = tW T (l ++ [a]) := by
  funext o
  unfold putT tW
  by_cases e : a = o
  · rw [if_pos e, if_pos (by simp [e])]
  · rw [if_neg e]
    by_cases h : o ∈ l
    · rw [if_pos h, if_pos (by simp [h])]
    · rw [if_neg h, if_neg]
      simp only [List.mem_append, List.mem_singleton, not_or]
      exact ⟨h, fun e' => e e'.symm⟩
theorem tW_len {T : Tab} {k : Nat} (h : ∀ o, (T o).length ≤ k) (l : List Int) (o : Int) : (tW T l o).length ≤ k := by
  unfold tW
  split
  · simp
  · exact h o
theorem rise_take {l : List Int} (h : l.Pairwise (· < ·)) {i : Nat} {a : Int} (ha : l[i]? = some a) : a ∉ l.take i := fun hm => by
  obtain ⟨hi, e⟩ := List.getElem?_eq_some_iff.1 ha
  obtain ⟨j, hj, e'⟩ := List.getElem_of_mem hm
  rw [List.length_take] at hj
  rw [List.getElem_take] at e'
  have := List.pairwise_iff_getElem.1 h j i (by omega) hi (by omega)
  omega
theorem tW_at {T : Tab} {l : List Int} (h : l.Pairwise (· < ·)) {i : Nat} {a : Int} (ha : l[i]? = some a) : tW T (l.take i) a = T a := by
  unfold tW
  rw [if_neg (rise_take h ha)]
theorem way_len {T : Tab} {who : Int} {f t : Str} {al : Bool} {l : List Int} (h : WayIs T who f t al l) {a : Int} (ha : a ∈ l) : 0 < (T a).length := by
  obtain ⟨_, x, hx, _⟩ := (h.mem a).1 ha
  exact List.length_pos_of_mem hx
theorem way_zero {T : Tab} (ht : Tidy T) {who : Int} {f t : Str} {al : Bool} {l : List Int} (h : WayIs T who f t al l) {a : Int} (ha : a ∈ l) : a ≠ who ∧ a ≠ 0 := by
  obtain ⟨h1, x, hx, _⟩ := (h.mem a).1 ha
  refine ⟨h1, fun e => ?_⟩
  rw [e, ht.zero] at hx
  cases hx
theorem tW_noway {T : Tab} {who : Int} {f t : Str} {al : Bool} {l : List Int} (h : WayIs T who f t al l) (o : Int) : ¬ InWay (tW T l) who f t al o := by
  rintro ⟨h1, x, hx, hh⟩
  unfold tW at hx
  split at hx
  · cases hx
  · rename_i hn
    exact hn ((h.mem o).2 ⟨h1, x, hx, hh⟩)
theorem tW_who {T : Tab} {who : Int} {f t : Str} {al : Bool} {l : List Int} (h : WayIs T who f t al l) : tW T l who = T who := by
  unfold tW
  rw [if_neg]
  intro hm
  exact ((h.mem who).1 hm).1 rfl
theorem putT_at (T : Tab) (who : Int) (l : List Lock) : putT T who l who = l := by simp [putT]
theorem had_any {f t : Str} {l : List Lock} : (l.map spOf).any (fun s => decide (s = ⟨f, t⟩)) = l.any (sameSp f t) := by
  rw [Bool.eq_iff_iff, any_same, List.any_eq_true]
  constructor
  · rintro ⟨s, hs, e⟩
    rw [decide_eq_true_eq] at e
    rw [← e]; exact hs
  · intro h
    exact ⟨_, h, by simp⟩
end Go.Proofs.Ytomhkflcimbbiaa
