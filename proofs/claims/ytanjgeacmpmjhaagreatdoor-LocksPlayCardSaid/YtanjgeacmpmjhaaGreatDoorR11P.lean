import Derived.Test.YtanjgeacmpmjhaaGreatDoorLockP
import Derived.Test.YtanjgeacmpmjhaaGreatDoorMgLocksPlay22
set_option linter.unusedVariables false
set_option linter.unusedSimpArgs false
set_option linter.unusedSectionVars false
namespace Go.Proofs.YtanjgeacmpmjhaaGreatDoor

/-! ### the reference's table, as a list in the order in which spans were got -/
def lockOf (h : Held) : Lock := ⟨h.f, h.t, h.a⟩
def tabOf (hs : List Held) : Tab := fun o => (hs.filter fun h => decide (h.who = o)).map lockOf
theorem tabOf_nil : tabOf [] = fun _ => [] := rfl
theorem tabOf_cons (h : Held) (hs : List Held) (o : Int) : tabOf (h :: hs) o = if h.who = o then lockOf h :: tabOf hs o else tabOf hs o := by
  unfold tabOf
  rw [List.filter_cons]
  by_cases e : h.who = o <;> simp [e]
theorem tabOf_snoc (h : Held) (hs : List Held) (o : Int) : tabOf (hs ++ [h]) o = if h.who = o then tabOf hs o ++ [lockOf h] else tabOf hs o := by
  unfold tabOf
  rw [List.filter_append, List.map_append]
  by_cases e : h.who = o <;> simp [e]
theorem tabOf_length (hs : List Held) (o : Int) : (tabOf hs o).length ≤ hs.length := by
  unfold tabOf
  rw [List.length_map]
  exact List.length_filter_le ..

def wayStep (who : Int) (f t : Str) (al : Bool) (out : List Int) (h : Held) : List Int := if h.who = who ∨ (al = false ∧ h.a = false) ∨ meet4 h.f h.t f t = false then out else putL out h.who
def wayR (who : Int) (f t : Str) (al : Bool) (hs : List Held) : List Int := hs.foldl (wayStep who f t al) []
theorem wayR_snoc (who : Int) (f t : Str) (al : Bool) (hs : List Held) (k : Nat) (h : Held) (hk : hs[k]? = some h) : wayR who f t al (hs.take (k + 1)) = wayStep who f t al (wayR who f t al (hs.take k)) h := by
  obtain ⟨hl, rfl⟩ := List.getElem?_eq_some_iff.1 hk
  rw [List.take_succ_eq_append_getElem hl]
  unfold wayR
  rw [List.foldl_append]
  rfl
theorem wayR_length (who : Int) (f t : Str) (al : Bool) (hs : List Held) : (wayR who f t al hs).length ≤ hs.length := by
  have h : ∀ (hs : List Held) (out : List Int), (hs.foldl (wayStep who f t al) out).length ≤ out.length + hs.length := by
    intro hs
    induction hs with
    | nil => intro out; simp
    | cons h hs ih =>
      intro out
      rw [List.foldl_cons]
      have h1 := ih (wayStep who f t al out h)
      have h2 : (wayStep who f t al out h).length ≤ out.length + 1 := by
        unfold wayStep; split
        · omega
        · exact putL_length _ _
      rw [List.length_cons]
      omega
  have := h hs []
  simpa [wayR] using this
theorem wayR_rise (who : Int) (f t : Str) (al : Bool) (hs : List Held) : (wayR who f t al hs).Pairwise (· < ·) := by
  have h : ∀ (hs : List Held) (out : List Int), out.Pairwise (· < ·) → (hs.foldl (wayStep who f t al) out).Pairwise (· < ·) := by
    intro hs
    induction hs with
    | nil => intro out ho; exact ho
    | cons h hs ih =>
      intro out ho
      rw [List.foldl_cons]
      refine ih _ ?_
      unfold wayStep; split
      · exact ho
      · exact putL_rise ho
  exact h hs [] .nil
theorem hit_iff (al : Bool) (f t : Str) (h : Held) : hitL al f t (lockOf h) = true ↔ ¬ ((al = false ∧ h.a = false) ∨ meet4 h.f h.t f t = false) := by
  unfold hitL lockOf
  cases al <;> cases h.a <;> cases meet4 h.f h.t f t <;> simp
theorem wayR_mem (who : Int) (f t : Str) (al : Bool) (hs : List Held) (o : Int) : o ∈ wayR who f t al hs ↔ InWay (tabOf hs) who f t al o := by
  have h : ∀ (hs : List Held) (out : List Int), o ∈ hs.foldl (wayStep who f t al) out ↔ o ∈ out ∨ InWay (tabOf hs) who f t al o := by
    intro hs
    induction hs with
    | nil => intro out; simp [InWay, tabOf]
    | cons h hs ih =>
      intro out
      rw [List.foldl_cons, ih]
      have e : InWay (tabOf (h :: hs)) who f t al o ↔ (o ≠ who ∧ h.who = o ∧ hitL al f t (lockOf h) = true) ∨ InWay (tabOf hs) who f t al o := by
        unfold InWay
        rw [tabOf_cons]
        by_cases e : h.who = o
        · rw [if_pos e]
          constructor
          · rintro ⟨h1, x, hx, h2⟩
            rcases List.mem_cons.1 hx with rfl | hx
            · exact .inl ⟨h1, e, h2⟩
            · exact .inr ⟨h1, x, hx, h2⟩
          · rintro (⟨h1, _, h2⟩ | ⟨h1, x, hx, h2⟩)
            · exact ⟨h1, _, List.mem_cons_self .., h2⟩
            · exact ⟨h1, x, List.mem_cons_of_mem _ hx, h2⟩
        · rw [if_neg e]
          constructor
          · exact fun h => .inr h
          · rintro (⟨_, h2, _⟩ | h)
            · exact absurd h2 e
            · exact h
      rw [e, hit_iff]
      unfold wayStep
      by_cases hc : h.who = who ∨ (al = false ∧ h.a = false) ∨ meet4 h.f h.t f t = false
      · rw [if_pos hc]
        constructor
        · exact fun h => h.imp id .inr
        · rintro (h1 | ⟨h1, h2, h3⟩ | h1)
          · exact .inl h1
          · rcases hc with hc | hc
            · exact absurd (h2.symm.trans hc) h1
            · exact absurd hc h3
          · exact .inr h1
      · rw [if_neg hc, putL_mem]
        have hc1 : h.who ≠ who := fun e => hc (.inl e)
        have hc2 : ¬ ((al = false ∧ h.a = false) ∨ meet4 h.f h.t f t = false) := fun e => hc (.inr e)
        constructor
        · rintro ((h1 | h1) | h1)
          · exact .inl h1
          · exact .inr (.inl ⟨h1 ▸ hc1, h1.symm, hc2⟩)
          · exact .inr (.inr h1)
        · rintro (h1 | ⟨_, h2, _⟩ | h1)
          · exact .inl (.inl h1)
          · exact .inl (.inr h2.symm)
          · exact .inr h1
  have := h hs []
  simpa [wayR] using this
theorem wayR_is (who : Int) (f t : Str) (al : Bool) (hs : List Held) : WayIs (tabOf hs) who f t al (wayR who f t al hs) := ⟨wayR_rise who f t al hs, wayR_mem who f t al hs⟩

def sameH (who : Int) (f t : Str) (h : Held) : Bool := decide (h.who = who) && (decide (h.f = f) && decide (h.t = t))
def addH (who : Int) (f t : Str) (al : Bool) : List Held → List Held
  | [] => [⟨who, f, t, al⟩]
  | h :: hs => if sameH who f t h then ⟨h.who, h.f, h.t, h.a || al⟩ :: hs else h :: addH who f t al hs
theorem addH_miss {who : Int} {f t : Str} {al : Bool} : ∀ {hs : List Held}, (∀ h ∈ hs, sameH who f t h = false) → addH who f t al hs = hs ++ [⟨who, f, t, al⟩]
  | [], _ => rfl
  | h :: hs, hh => by
    unfold addH
    rw [hh h (List.mem_cons_self ..), if_neg (by decide), addH_miss fun x hx => hh x (List.mem_cons_of_mem _ hx)]
    rfl
theorem addH_hit {who : Int} {f t : Str} {al : Bool} : ∀ {hs : List Held} {i : Nat} {h : Held}, hs[i]? = some h → sameH who f t h = true → (∀ j x, j < i → hs[j]? = some x → sameH who f t x = false) → addH who f t al hs = hs.set i ⟨h.who, h.f, h.t, h.a || al⟩
  | x :: hs, 0, h, hi, hs', _ => by
    simp only [List.getElem?_cons_zero, Option.some.injEq] at hi
    subst hi
    unfold addH
    rw [if_pos hs']
    rfl
  | x :: hs, i + 1, h, hi, hs', hlow => by
    have h0 := hlow 0 x (by omega) rfl
    unfold addH
    rw [h0, if_neg (by decide), addH_hit (i := i) (by simpa using hi) hs' fun j y hj hy => hlow (j + 1) y (by omega) (by simpa using hy)]
    rfl
theorem addH_length (who : Int) (f t : Str) (al : Bool) : ∀ hs : List Held, (addH who f t al hs).length ≤ hs.length + 1
  | [] => by simp [addH]
  | h :: hs => by
    have := addH_length who f t al hs
    unfold addH
    split <;> simp <;> omega
theorem addH_mem {who : Int} {f t : Str} {al : Bool} {y : Held} : ∀ {hs : List Held}, y ∈ addH who f t al hs → (y.f = f ∧ y.t = t) ∨ ∃ h ∈ hs, y.f = h.f ∧ y.t = h.t
  | [], hy => by
    simp [addH] at hy
    subst hy
    exact .inl ⟨rfl, rfl⟩
  | h :: hs, hy => by
    unfold addH at hy
    split at hy
    · rcases List.mem_cons.1 hy with rfl | hy
      · exact .inr ⟨h, List.mem_cons_self .., rfl, rfl⟩
      · exact .inr ⟨y, List.mem_cons_of_mem _ hy, rfl, rfl⟩
    · rcases List.mem_cons.1 hy with rfl | hy
      · exact .inr ⟨y, List.mem_cons_self .., rfl, rfl⟩
      · exact (addH_mem hy).imp id fun ⟨h, hh, e⟩ => ⟨h, List.mem_cons_of_mem _ hh, e⟩
theorem tabOf_add (who : Int) (f t : Str) (al : Bool) : ∀ hs : List Held, tabOf (addH who f t al hs) = putT (tabOf hs) who (addL f t al (tabOf hs who))
  | [] => by
    funext o
    unfold putT addH
    rw [tabOf_cons]
    by_cases e : who = o <;> simp [e, tabOf_nil, addL, lockOf]
  | h :: hs => by
    funext o
    have ih := congrFun (tabOf_add who f t al hs) o
    unfold putT at ih
    unfold putT addH
    by_cases hw : h.who = who
    · have e1 : tabOf (h :: hs) who = lockOf h :: tabOf hs who := by rw [tabOf_cons, if_pos hw]
      by_cases hs' : sameH who f t h = true
      · have hsp : sameSp f t (lockOf h) = true := by
          unfold sameH at hs'
          simp only [Bool.and_eq_true, decide_eq_true_eq] at hs'
          exact sameSp_true.2 hs'.2
        rw [if_pos hs', tabOf_cons, e1]
        simp only [addL, hsp, if_true]
        by_cases e : who = o
        · rw [if_pos e, if_pos (hw.trans e), ← e]
          rfl
        · rw [if_neg e, if_neg (fun e' => e (hw.symm.trans e')), tabOf_cons, if_neg (fun e' => e (hw.symm.trans e'))]
      · have hsp : sameSp f t (lockOf h) = false := by
          cases hx : sameSp f t (lockOf h) with
          | false => rfl
          | true =>
            have := sameSp_true.1 hx
            refine absurd ?_ hs'
            unfold sameH
            simp only [Bool.and_eq_true, decide_eq_true_eq]
            exact ⟨hw, this.1, this.2⟩
        rw [if_neg hs', tabOf_cons, e1]
        simp only [addL, hsp, Bool.false_eq_true, if_false]
        by_cases e : who = o
        · rw [if_pos e, if_pos (hw.trans e), ih, if_pos e]
        · rw [if_neg e, if_neg (fun e' => e (hw.symm.trans e')), ih, if_neg e, tabOf_cons, if_neg (fun e' => e (hw.symm.trans e'))]
    · have hs' : ¬ sameH who f t h = true := fun e => by
        unfold sameH at e
        simp only [Bool.and_eq_true, decide_eq_true_eq] at e
        exact hw e.1
      have e1 : tabOf (h :: hs) who = tabOf hs who := by rw [tabOf_cons, if_neg hw]
      rw [if_neg hs', tabOf_cons, e1, ih, tabOf_cons]
      by_cases e : who = o
      · subst e; simp [hw]
      · simp [e]
theorem tabOf_free (who : Int) (hs : List Held) : tabOf (hs.filter fun h => decide (h.who ≠ who)) = putT (tabOf hs) who [] := by
  funext o
  unfold putT tabOf
  rw [List.filter_filter]
  by_cases e : who = o
  · subst e
    rw [if_pos rfl]
    rw [List.filter_eq_nil_iff.2 (fun h _ => by simp)]
    rfl
  · rw [if_neg e]
    congr 1
    refine List.filter_congr fun h _ => ?_
    by_cases e2 : h.who = o <;> simp [e2]
    exact fun e3 => e e3.symm
theorem free_count (who : Int) : ∀ hs : List Held, (hs.filter fun h => decide (h.who ≠ who)).length + (tabOf hs who).length = hs.length
  | [] => rfl
  | h :: hs => by
    have := free_count who hs
    rw [tabOf_cons, List.filter_cons]
    by_cases e : h.who = who <;> simp [e] at this ⊢ <;> omega

end Go.Proofs.YtanjgeacmpmjhaaGreatDoor
