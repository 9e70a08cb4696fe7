import Derived.Test.YtomhkflcimbbiaaLShareP
import Derived.Test.YtomhkflcimbbiaaLPut
set_option linter.unusedVariables false
set_option linter.unusedSimpArgs false
set_option linter.unusedSectionVars false
namespace Go.Proofs.Ytomhkflcimbbiaa
open Go.RowKit

/-! ### one span, many that share it -/
def psM (f t : Str) (ws : List Int) : List (Int × Span) := ws.map fun a => (1 + a, ⟨f, t⟩)
theorem psM_length (f t : Str) (ws : List Int) : (psM f t ws).length = ws.length := by simp [psM]
theorem psM_take (f t : Str) {ws : List Int} {k : Nat} {a : Int} (h : ws[k]? = some a) : psM f t (ws.take (k + 1)) = psM f t (ws.take k) ++ [(1 + a, ⟨f, t⟩)] := by
  unfold psM
  rw [List.take_add_one, h]; simp
def wantL (ws : List Int) : List Int := ws.foldl (fun l a => putL l (1 + a)) []
theorem wantL_take {ws : List Int} {k : Nat} {a : Int} (h : ws[k]? = some a) : wantL (ws.take (k + 1)) = putL (wantL (ws.take k)) (1 + a) := by
  unfold wantL
  rw [List.take_add_one, h]; simp
theorem foldl_put (ws : List Int) : ∀ l : List Int, l.Pairwise (· < ·) → (ws.foldl (fun l a => putL l (1 + a)) l).Pairwise (· < ·) ∧ (∀ o, o ∈ ws.foldl (fun l a => putL l (1 + a)) l ↔ o ∈ l ∨ ∃ a ∈ ws, 1 + a = o) ∧ (ws.foldl (fun l a => putL l (1 + a)) l).length ≤ l.length + ws.length := by
  induction ws with
  | nil => intro l h; exact ⟨h, fun o => by simp, by simp⟩
  | cons a ws ih =>
    intro l h
    obtain ⟨h1, h2, h3⟩ := ih (putL l (1 + a)) (putL_rise h)
    refine ⟨h1, fun o => ?_, ?_⟩
    · rw [List.foldl_cons, h2, putL_mem]
      constructor
      · rintro ((h | rfl) | ⟨b, hb, rfl⟩)
        · exact .inl h
        · exact .inr ⟨a, by simp, rfl⟩
        · exact .inr ⟨b, by simp [hb], rfl⟩
      · rintro (h | ⟨b, hb, rfl⟩)
        · exact .inl (.inl h)
        · rcases List.mem_cons.1 hb with rfl | hb
          · exact .inl (.inr rfl)
          · exact .inr ⟨b, hb, rfl⟩
    · have := putL_length l (1 + a)
      simp only [List.foldl_cons, List.length_cons]
      omega
theorem wantL_rise (ws : List Int) : (wantL ws).Pairwise (· < ·) := (foldl_put ws [] .nil).1
theorem wantL_mem (ws : List Int) (o : Int) : o ∈ wantL ws ↔ ∃ a ∈ ws, 1 + a = o := by
  have := (foldl_put ws [] .nil).2.1 o
  unfold wantL
  simpa using this
theorem wantL_length (ws : List Int) : (wantL ws).length ≤ ws.length := by
  have := (foldl_put ws [] .nil).2.2
  unfold wantL
  simpa using this

theorem accS_one (o : Int) (s0 : Span) (hs : sle s0.f s0.t = true) : ∀ (ps : List (Int × Span)) (l : List Span), (∀ p ∈ ps, p.2 = s0) → (∀ s ∈ l, s = s0) → (∀ s ∈ accS o ps l, s = s0) ∧ (accS o ps l ≠ [] ↔ l ≠ [] ∨ ∃ p ∈ ps, p.1 = o)
  | [], l, _, hl => ⟨hl, by simp [accS]⟩
  | p :: ps, l, hp, hl => by
    have hp0 := hp p (by simp)
    have hadd : (∀ s ∈ addS l p.2, s = s0) ∧ addS l p.2 ≠ [] := by
      unfold addS
      rw [hp0, hs, Bool.true_and]
      cases hh : hasS l s0 with
      | false =>
        simp only [Bool.not_false, if_true]
        refine ⟨fun s h => ?_, by simp⟩
        rcases List.mem_append.1 h with h | h
        · exact hl s h
        · simpa using h
      | true =>
        simp only [Bool.not_true, Bool.false_eq_true, if_false]
        refine ⟨hl, fun e => ?_⟩
        rw [e] at hh; simp [hasS] at hh
    unfold accS
    by_cases e : p.1 = o
    · rw [if_pos e]
      obtain ⟨h1, h2⟩ := accS_one o s0 hs ps (addS l p.2) (fun q hq => hp q (by simp [hq])) hadd.1
      refine ⟨h1, ?_⟩
      rw [h2]
      constructor
      · intro _; exact .inr ⟨p, by simp, e⟩
      · intro _; exact .inl hadd.2
    · rw [if_neg e]
      obtain ⟨h1, h2⟩ := accS_one o s0 hs ps l (fun q hq => hp q (by simp [hq])) hl
      refine ⟨h1, ?_⟩
      rw [h2]
      constructor
      · rintro (h | ⟨q, hq, e'⟩)
        · exact .inl h
        · exact .inr ⟨q, by simp [hq], e'⟩
      · rintro (h | ⟨q, hq, e'⟩)
        · exact .inl h
        · rcases List.mem_cons.1 hq with rfl | hq
          · exact absurd e' e
          · exact .inr ⟨q, hq, e'⟩
theorem tS_many {f t : Str} (hs : sle f t = true) (ws : List Int) (o : Int) : (∀ x ∈ tS (psM f t ws) o, x = ⟨f, t, false⟩) ∧ (tS (psM f t ws) o ≠ [] ↔ ∃ a ∈ ws, 1 + a = o) := by
  obtain ⟨h1, h2⟩ := accS_one o ⟨f, t⟩ hs (psM f t ws) [] (fun p hp => by
    unfold psM at hp
    obtain ⟨a, _, rfl⟩ := List.mem_map.1 hp
    rfl) (fun s hs => by cases hs)
  refine ⟨fun x hx => ?_, ?_⟩
  · unfold tS at hx
    obtain ⟨s, hs', rfl⟩ := List.mem_map.1 hx
    rw [h1 s hs']; rfl
  · have e : tS (psM f t ws) o ≠ [] ↔ gotS o (psM f t ws) ≠ [] := by
      unfold tS
      simp
    rw [e]
    have h3 : gotS o (psM f t ws) = accS o (psM f t ws) [] := rfl
    rw [h3, h2]
    unfold psM
    constructor
    · rintro (h | ⟨p, hp, e'⟩)
      · exact absurd rfl h
      · obtain ⟨a, ha, rfl⟩ := List.mem_map.1 hp
        exact ⟨a, ha, e'⟩
    · rintro ⟨a, ha, e'⟩
      exact .inr ⟨_, List.mem_map_of_mem ha, e'⟩
theorem tS_none {f t : Str} (hs : sle f t = true) {ws : List Int} {o : Int} (h : ∀ a ∈ ws, 1 + a ≠ o) : tS (psM f t ws) o = [] := by
  by_cases e : tS (psM f t ws) o = []
  · exact e
  · obtain ⟨a, ha, e'⟩ := ((tS_many hs ws o).2).1 e
    exact absurd e' (h a ha)
theorem meet_self {f t : Str} (hs : sle f t = true) : meet4 f t f t = true := by
  rw [meet4_true]
  exact ⟨hs, hs, hs, hs⟩
theorem many_way {f t : Str} (hs : sle f t = true) {ws : List Int} {who : Int} (h : ∀ a ∈ ws, 1 + a ≠ who) : WayIs (tS (psM f t ws)) who f t true (wantL ws) := by
  refine ⟨wantL_rise ws, fun o => ?_⟩
  rw [wantL_mem]
  constructor
  · rintro ⟨a, ha, rfl⟩
    obtain ⟨h1, h2⟩ := tS_many hs ws (1 + a)
    obtain ⟨x, hx⟩ := List.exists_mem_of_ne_nil _ (h2.2 ⟨a, ha, rfl⟩)
    refine ⟨h a ha, x, hx, ?_⟩
    rw [h1 x hx]
    unfold hitL
    rw [meet_self hs]; rfl
  · rintro ⟨_, x, hx, _⟩
    exact ((tS_many hs ws o).2).1 (List.ne_nil_of_mem hx)
end Go.Proofs.Ytomhkflcimbbiaa
