import Derived.Test.YtomhkflcimbbiaaLAliveP
set_option linter.unusedVariables false
set_option linter.unusedSimpArgs false
set_option linter.unusedSectionVars false
namespace Go.Proofs.Ytomhkflcimbbiaa
open Go.RowKit

theorem meet_same (f t : Str) (h : sle f t = true) : meet4 f t f t = true := meet4_true.2 ⟨h, h, h, h⟩
def tR (f t : Str) (a : Bool) : Tab := putT tA0 7 [⟨f, t, a⟩]
theorem put_put (T : Tab) (k : Int) (l m : List Lock) : putT (putT T k l) k m = putT T k m := by
  funext o
  unfold putT
  split <;> rfl
theorem put_at (T : Tab) (k : Int) (l : List Lock) : putT T k l k = l := if_pos rfl
theorem put_off (T : Tab) {k o : Int} (l : List Lock) (h : k ≠ o) : putT T k l o = T o := if_neg h
theorem addL_same (f t : Str) (a al : Bool) : addL f t al [⟨f, t, a⟩] = [⟨f, t, a || al⟩] := by
  unfold addL sameSp
  simp
theorem tR_next (f t : Str) (a al : Bool) : putT (tR f t a) 7 (addL f t al (tR f t a 7)) = tR f t (a || al) := by
  unfold tR
  rw [put_put, put_at, addL_same]
theorem tR_first (f t : Str) (al : Bool) : putT tA0 7 (addL f t al (tA0 7)) = tR f t al := rfl
theorem tR_len (f t : Str) (a : Bool) (o : Int) : (tR f t a o).length ≤ 2 := put_length tA0_len (by simp) o

section
variable {f t : Str} (hft : sle f t = true)
include hft
theorem hit_same (al a : Bool) : hitL al f t ⟨f, t, a⟩ = (al || a) := by
  unfold hitL
  rw [meet_same f t hft, Bool.and_true]
/-- Who is in the way, where one has it, and others have none. -/
theorem way_one {k who : Int} (hk : k ≠ who) (al a : Bool) : WayIs (putT tA0 k [⟨f, t, a⟩]) who f t al (if (al || a) = true then [k] else []) := by
  refine ⟨by split <;> simp, fun o => ?_⟩
  rw [inWay_put]
  simp only [List.any_cons, List.any_nil, hit_same hft, Bool.or_false, inWay_none, and_false, or_false]
  by_cases h : (al || a) = true
  · rw [if_pos h]
    simp only [List.mem_singleton]
    constructor
    · rintro rfl; exact ⟨rfl, hk, h⟩
    · rintro ⟨rfl, _⟩; rfl
  · rw [if_neg h]
    simp [h]
omit hft in
theorem way_own {k : Int} (al a : Bool) (o : Int) : ¬ InWay (putT tA0 k [⟨f, t, a⟩]) k f t al o := by
  rw [inWay_put]
  simp only [inWay_none, and_false, or_false]
  rintro ⟨rfl, h, _⟩
  exact h rfl
end
/-- one is free again. -/
theorem put_back (f t : Str) (a : Bool) (k : Int) (l : List Lock) (hk : k ≠ 7) : putT (putT (tR f t a) k l) k [] = tR f t a := by
  rw [put_put]
  funext o
  unfold tR putT
  by_cases e : k = o
  · subst e
    rw [if_pos rfl, if_neg (fun e => hk e.symm)]
  · rw [if_neg e]
theorem tR_free (f t : Str) (a : Bool) : putT (tR f t a) 7 [] = tA0 := by
  unfold tR
  rw [put_put]
  funext o
  unfold putT
  split <;> rfl
theorem tR8_len (f t : Str) (a b : Bool) (o : Int) : (putT (tR f t a) 8 [⟨f, t, b⟩] o).length ≤ 2 := put_length (tR_len f t a) (by simp) o
/-- eight has it, too: it is in seven's way, who asks for it alone. -/
theorem way_eight {f t : Str} (hft : sle f t = true) (a b : Bool) : WayIs (putT (tR f t a) 8 [⟨f, t, b⟩]) 7 f t true [8] := by
  refine ⟨by simp, fun o => ?_⟩
  unfold tR
  rw [inWay_put, inWay_put]
  simp only [List.any_cons, List.any_nil, hit_same hft, Bool.or_false, Bool.true_or, inWay_none, and_false, or_false, List.mem_singleton, and_true]
  constructor
  · rintro rfl; exact .inl ⟨rfl, by decide⟩
  · rintro (⟨rfl, _⟩ | ⟨_, rfl, h⟩)
    · rfl
    · exact absurd rfl h
end Go.Proofs.Ytomhkflcimbbiaa
