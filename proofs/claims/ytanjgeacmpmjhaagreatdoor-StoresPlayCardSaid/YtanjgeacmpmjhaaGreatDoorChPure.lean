import Derived.Test.YtanjgeacmpmjhaaGreatDoorMapP
import Derived.Test.YtanjgeacmpmjhaaGreatDoorOkKey
set_option linter.unusedVariables false
set_option linter.unusedSimpArgs false
namespace Go.Proofs.YtanjgeacmpmjhaaGreatDoor
open Go.RowKit

/-- May a change be? -/
def okChange (c : Change) : Bool := okKey c.k && (!c.g || decide (c.v = 0))
/-- What a change makes of rows. -/
def doC (xs : List Row) (c : Change) : List Row := if c.g then delL c.k xs else putL c.k c.v xs
def doCs (cs : List Change) (xs : List Row) : List Row := cs.foldl doC xs

theorem doC_length (xs : List Row) (c : Change) : (doC xs c).length ≤ xs.length + 1 := by
  have h1 := putL_length c.k c.v xs
  have h2 := delL_length c.k xs
  unfold doC
  split <;> omega
theorem doCs_length (cs : List Change) : ∀ xs : List Row, (doCs cs xs).length ≤ xs.length + cs.length := by
  induction cs with
  | nil => intro xs; exact Nat.le_refl _
  | cons c cs ih =>
    intro xs
    have h1 := ih (doC xs c)
    have h2 := doC_length xs c
    show (doCs cs (doC xs c)).length ≤ _
    simp only [List.length_cons]
    omega
theorem doCs_snoc (cs : List Change) (k : Nat) (c : Change) (h : cs[k]? = some c) (xs : List Row) : doCs (cs.take (k + 1)) xs = doC (doCs (cs.take k) xs) c := by
  have hk := (List.getElem?_eq_some_iff.1 h).1
  rw [List.take_add_one, h]
  simp [doCs, List.foldl_append]


/-- What a change makes of what is there of a key. -/
def stepK (k : Str) (r : Option Int) (c : Change) : Option Int := if c.k = k then (if c.g then none else some c.v) else r

theorem getL_doC (k : Str) {m : List Row} (hr : Rising m) (c : Change) : getL k (doC m c) = stepK k (getL k m) c := by
  unfold doC stepK
  cases c.g with
  | true => simp only [↓reduceIte]; exact getL_del c.k k hr
  | false => simp only [Bool.false_eq_true, ↓reduceIte]; exact getL_put c.k c.v k m

theorem doC_rising {m : List Row} (hr : Rising m) (c : Change) : Rising (doC m c) := by
  unfold doC
  split
  · exact delL_rising hr
  · exact putL_rising hr

theorem doCs_rising : ∀ (cs : List Change) {m : List Row}, Rising m → Rising (doCs cs m)
  | [], _, h => h
  | c :: cs, _, h => doCs_rising cs (doC_rising h c)

theorem getL_doCs (k : Str) : ∀ (cs : List Change) {m : List Row}, Rising m → getL k (doCs cs m) = cs.foldl (stepK k) (getL k m)
  | [], _, _ => rfl
  | c :: cs, m, h => by
    show getL k (doCs cs (doC m c)) = cs.foldl (stepK k) (stepK k (getL k m) c)
    rw [getL_doCs k cs (doC_rising h c), getL_doC k h c]

theorem step_alt (k : Str) : ∀ cs : List Change, ((∀ c ∈ cs, c.k ≠ k) ∧ ∀ r, cs.foldl (stepK k) r = r) ∨ ((∃ c ∈ cs, c.k = k) ∧ ∃ q, ∀ r, cs.foldl (stepK k) r = q)
  | [] => .inl ⟨by simp, fun _ => rfl⟩
  | c :: cs => by
    rcases step_alt k cs with ⟨h1, h2⟩ | ⟨⟨d, hd, hk⟩, q, hq⟩
    · by_cases hc : c.k = k
      · refine .inr ⟨⟨c, by simp, hc⟩, if c.g then none else some c.v, fun r => ?_⟩
        rw [List.foldl_cons, h2]
        unfold stepK
        rw [if_pos hc]
      · refine .inl ⟨fun d hd => ?_, fun r => ?_⟩
        · rcases List.mem_cons.1 hd with rfl | hd
          · exact hc
          · exact h1 d hd
        · rw [List.foldl_cons, h2]
          unfold stepK
          rw [if_neg hc]
    · exact .inr ⟨⟨d, by simp [hd], hk⟩, q, fun r => by rw [List.foldl_cons]; exact hq _⟩

theorem doCs_twice (cs : List Change) {m : List Row} (hr : Rising m) : doCs cs (doCs cs m) = doCs cs m := by
  refine rising_ext (doCs_rising cs (doCs_rising cs hr)) (doCs_rising cs hr) fun k => ?_
  rw [getL_doCs k cs (doCs_rising cs hr), getL_doCs k cs hr]
  rcases step_alt k cs with ⟨_, h⟩ | ⟨_, q, h⟩
  · rw [h]
  · rw [h, h]

theorem doCs_append (cs ds : List Change) (m : List Row) : doCs (cs ++ ds) m = doCs ds (doCs cs m) := List.foldl_append

/-- What undoes a change. -/
def backC (m : List Row) (c : Change) : Change := ⟨c.k, (getL c.k m).getD 0, !(getL c.k m).isSome⟩

theorem step_back (k : Str) (m : List Row) : ∀ (cs : List Change) (r : Option Int), (cs.map (backC m)).foldl (stepK k) r = if ∃ c ∈ cs, c.k = k then getL k m else r
  | [], r => by simp
  | c :: cs, r => by
    rw [List.map_cons, List.foldl_cons, step_back k m cs]
    by_cases h : ∃ d ∈ cs, d.k = k
    · rw [if_pos h, if_pos (by obtain ⟨d, hd, e⟩ := h; exact ⟨d, by simp [hd], e⟩)]
    · rw [if_neg h]
      by_cases hc : c.k = k
      · have he : ∃ d ∈ c :: cs, d.k = k := ⟨c, by simp, hc⟩
        rw [if_pos he]
        unfold stepK backC
        simp only [hc, ↓reduceIte]
        cases getL k m <;> simp
      · have he : ¬ ∃ d ∈ c :: cs, d.k = k := by
          rintro ⟨d, hd, e⟩
          rcases List.mem_cons.1 hd with rfl | hd
          · exact hc e
          · exact h ⟨d, hd, e⟩
        rw [if_neg he]
        unfold stepK backC
        rw [if_neg hc]

theorem doCs_back (cs : List Change) {m : List Row} (hr : Rising m) : doCs (cs.map (backC m)) (doCs cs m) = m := by
  refine rising_ext (doCs_rising _ (doCs_rising cs hr)) hr fun k => ?_
  rw [getL_doCs k _ (doCs_rising cs hr), getL_doCs k cs hr, step_back]
  rcases step_alt k cs with ⟨h1, h⟩ | ⟨h1, q, h⟩
  · rw [if_neg (by rintro ⟨c, hc, e⟩; exact h1 c hc e), h]
  · rw [if_pos h1]

theorem back_ok {cs : List Change} {m : List Row} (h : cs.all okChange = true) : (cs.map (backC m)).all okChange = true := by
  rw [List.all_eq_true] at h ⊢
  intro d hd
  obtain ⟨c, hc, rfl⟩ := List.mem_map.1 hd
  have := h c hc
  unfold okChange at this ⊢
  rw [Bool.and_eq_true] at this
  unfold backC
  rw [Bool.and_eq_true]
  refine ⟨this.1, ?_⟩
  cases getL c.k m <;> simp


end Go.Proofs.YtanjgeacmpmjhaaGreatDoor
