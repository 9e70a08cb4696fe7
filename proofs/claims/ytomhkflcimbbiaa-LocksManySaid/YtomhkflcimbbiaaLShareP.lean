import Derived.Test.YtomhkflcimbbiaaLRaisP
import Derived.Test.YtomhkflcimbbiaaJoinP
set_option linter.unusedVariables false
set_option linter.unusedSimpArgs false
set_option linter.unusedSectionVars false
namespace Go.Proofs.Ytomhkflcimbbiaa
open Go.RowKit

/-! ### those that all ask with others -/
def lkF (s : Span) : Lock := ⟨s.f, s.t, false⟩
def hasS (l : List Span) (s : Span) : Bool := l.any fun x => decide (x = s)
def addS (l : List Span) (s : Span) : List Span := if sle s.f s.t && !hasS l s then l ++ [s] else l
def accS (o : Int) : List (Int × Span) → List Span → List Span
  | [], l => l
  | p :: ps, l => accS o ps (if p.1 = o then addS l p.2 else l)
def gotS (o : Int) (ps : List (Int × Span)) : List Span := accS o ps []
def tS (ps : List (Int × Span)) : Tab := fun o => (gotS o ps).map lkF

theorem accS_append (o : Int) : ∀ (ps qs : List (Int × Span)) (l : List Span), accS o (ps ++ qs) l = accS o qs (accS o ps l)
  | [], qs, l => rfl
  | p :: ps, qs, l => accS_append o ps qs _
theorem gotS_snoc (o : Int) (ps : List (Int × Span)) (k : Int) (s : Span) : gotS o (ps ++ [(k, s)]) = if k = o then addS (gotS o ps) s else gotS o ps := by
  unfold gotS
  rw [accS_append]; rfl
theorem addS_length (l : List Span) (s : Span) : (addS l s).length ≤ l.length + 1 := by
  unfold addS
  split <;> simp
theorem accS_length (o : Int) : ∀ (ps : List (Int × Span)) (l : List Span), (accS o ps l).length ≤ l.length + ps.length
  | [], l => by simp [accS]
  | p :: ps, l => by
    have h := accS_length o ps (if p.1 = o then addS l p.2 else l)
    have h2 : (if p.1 = o then addS l p.2 else l).length ≤ l.length + 1 := by
      split
      · exact addS_length _ _
      · omega
    simp only [accS, List.length_cons]
    omega
theorem gotS_length (o : Int) (ps : List (Int × Span)) : (gotS o ps).length ≤ ps.length := by
  have := accS_length o ps []
  simpa [gotS] using this
theorem accS_none (o : Int) : ∀ (ps : List (Int × Span)) (l : List Span), (∀ p ∈ ps, p.1 ≠ o) → accS o ps l = l
  | [], l, _ => rfl
  | p :: ps, l, h => by
    unfold accS
    rw [if_neg (h p (by simp)), accS_none o ps l fun q hq => h q (by simp [hq])]
theorem addL_shared (f t : Str) : ∀ l : List Span, addL f t false (l.map lkF) = (if hasS l ⟨f, t⟩ then l else l ++ [⟨f, t⟩]).map lkF
  | [] => rfl
  | x :: l => by
    have ih := addL_shared f t l
    simp only [List.map_cons, addL]
    by_cases hs : x = ⟨f, t⟩
    · subst hs
      rw [if_pos (by simp [sameSp, lkF])]
      simp [hasS, lkF]
    · rw [if_neg (by rw [sameSp_true]; rintro ⟨h1, h2⟩; exact hs (Span.ext' h1 h2)), ih]
      have : hasS (x :: l) ⟨f, t⟩ = hasS l ⟨f, t⟩ := by simp [hasS, hs]
      rw [this]
      split <;> simp
theorem tS_nil : tS [] = tA0 := rfl
theorem tS_got (ps : List (Int × Span)) (k : Int) (s : Span) (h : sle s.f s.t = true) : putT (tS ps) k (addL s.f s.t false (tS ps k)) = tS (ps ++ [(k, s)]) := by
  funext o
  unfold putT tS
  rw [gotS_snoc, addL_shared]
  by_cases e : k = o
  · subst e
    rw [if_pos rfl, if_pos rfl]
    congr 1
    unfold addS
    rw [h, Bool.true_and]
    cases hasS (gotS k ps) s <;> simp
  · rw [if_neg e, if_neg e]
theorem tS_not (ps : List (Int × Span)) (k : Int) (s : Span) (h : sle s.f s.t = false) : tS (ps ++ [(k, s)]) = tS ps := by
  funext o
  unfold tS
  rw [gotS_snoc]
  unfold addS
  rw [h]
  simp
theorem tS_len (ps : List (Int × Span)) (o : Int) : (tS ps o).length ≤ ps.length := by
  unfold tS
  rw [List.length_map]
  exact gotS_length o ps
theorem shared_nohit (l : List Span) (f t : Str) : (l.map lkF).filter (hitL false f t) = [] := by
  rw [List.filter_eq_nil_iff]
  intro x hx
  obtain ⟨s, _, rfl⟩ := List.mem_map.1 hx
  simp [hitL, lkF]
theorem tS_nohit (ps : List (Int × Span)) (f t : Str) (o : Int) : ((tS ps o).filter (hitL false f t)).length ≤ 0 := by
  unfold tS
  rw [shared_nohit]; simp
theorem nohit_way {T : Tab} {who : Int} {f t : Str} {al : Bool} (h : ∀ o, ((T o).filter (hitL al f t)).length ≤ 0) (o : Int) : ¬ InWay T who f t al o := by
  rintro ⟨_, x, hx, hh⟩
  have := List.mem_filter.2 ⟨hx, hh⟩
  have h2 := h o
  rw [List.length_eq_zero_iff.1 (Nat.le_zero.1 h2)] at this
  cases this
theorem map_sp_lk (l : List Span) : (l.map lkF).map spOf = l := by
  rw [List.map_map]
  exact (List.map_congr_left (g := id) fun x _ => rfl).trans (List.map_id _)

/-! ### they are free again, one by one -/
def tF (ps : List (Int × Span)) (j : Nat) : Tab := fun o => if 1 ≤ o ∧ o < 1 + (j : Int) then [] else tS ps o
theorem tF_zero (ps : List (Int × Span)) : tF ps 0 = tS ps := by
  funext o
  unfold tF
  rw [if_neg (by omega)]
theorem tF_at (ps : List (Int × Span)) (j : Nat) : tF ps j (1 + j) = tS ps (1 + j) := by
  unfold tF
  rw [if_neg (by omega)]
theorem tF_next (ps : List (Int × Span)) (j : Nat) : putT (tF ps j) (1 + j) [] = tF ps (j + 1) := by
  funext o
  unfold tF putT
  by_cases e : (1 : Int) + j = o
  · rw [if_pos e, if_pos (by omega)]
  · rw [if_neg e]
    dsimp only
    by_cases h : 1 ≤ o ∧ o < 1 + (j : Int)
    · rw [if_pos h, if_pos (by omega)]
    · rw [if_neg h, if_neg (by omega)]
theorem tF_end (ps : List (Int × Span)) (h : ∀ p ∈ ps, 1 ≤ p.1 ∧ p.1 ≤ 5) : tF ps 5 = tA0 := by
  funext o
  unfold tF
  by_cases e : 1 ≤ o ∧ o < 1 + ((5 : Nat) : Int)
  · rw [if_pos e]
  · rw [if_neg e]
    unfold tS gotS
    rw [accS_none o ps [] fun p hp e' => by have := h p hp; omega]; rfl
theorem tF_len (ps : List (Int × Span)) (j : Nat) (o : Int) : (tF ps j o).length ≤ ps.length := by
  unfold tF
  split
  · simp
  · exact tS_len ps o

/-! ### of those that do not meet each gets theirs -/
def tJ (js : List Span) (i : Nat) : Tab := fun o => if 1 ≤ o ∧ o < 1 + (i : Int) then (match js[(o - 1).toNat]? with | some s => [⟨s.f, s.t, true⟩] | none => []) else []
theorem tJ_zero (js : List Span) : tJ js 0 = tA0 := by
  funext o
  unfold tJ
  rw [if_neg (by omega)]
theorem tJ_at (js : List Span) (i : Nat) : tJ js i (1 + i) = [] := by
  unfold tJ
  rw [if_neg (by omega)]
theorem tJ_next {js : List Span} {i : Nat} {s : Span} (h : js[i]? = some s) : putT (tJ js i) (1 + i) (addL s.f s.t true (tJ js i (1 + i))) = tJ js (i + 1) := by
  rw [tJ_at]
  funext o
  unfold tJ putT
  by_cases e : (1 : Int) + i = o
  · rw [if_pos e, if_pos (by omega), show (o - 1).toNat = i by omega, h]; rfl
  · rw [if_neg e]
    dsimp only
    by_cases h : 1 ≤ o ∧ o < 1 + (i : Int)
    · rw [if_pos h, if_pos (by omega)]
    · rw [if_neg h, if_neg (by omega)]
theorem tJ_len (js : List Span) (i : Nat) (o : Int) : (tJ js i o).length ≤ 1 := by
  unfold tJ
  split
  · split <;> simp
  · simp
theorem tJ_nohit {js : List Span} (hn : NF js) {i : Nat} {s : Span} (h : js[i]? = some s) (o : Int) : ((tJ js i o).filter (hitL true s.f s.t)).length ≤ 0 := by
  unfold tJ
  split
  · rename_i ho
    split
    · rename_i x hx
      have hlt : (o - 1).toNat < i := by omega
      have hb := (List.getElem?_eq_some_iff.1 hx).1
      have hbi := (List.getElem?_eq_some_iff.1 h).1
      have hp := List.pairwise_iff_getElem.1 hn.2 _ _ hb hbi hlt
      rw [(List.getElem?_eq_some_iff.1 hx).2, (List.getElem?_eq_some_iff.1 h).2] at hp
      have hm : meet4 x.f x.t s.f s.t = false := by
        rw [Bool.eq_false_iff]
        intro e
        have h4 := (meet4_true.1 e).2.2.2
        unfold sle at h4
        rw [hp] at h4
        cases h4
      rw [List.filter_cons, if_neg (by simp [hitL, hm])]
      simp
    · simp
  · simp
end Go.Proofs.Ytomhkflcimbbiaa
