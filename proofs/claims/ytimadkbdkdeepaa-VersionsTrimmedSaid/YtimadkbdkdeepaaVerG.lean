import Derived.Test.YtimadkbdkdeepaaVerF
import Derived.Test.YtimadkbdkdeepaaChange
set_option linter.unusedVariables false
set_option linter.unusedSimpArgs false
namespace Go.Proofs.Ytimadkbdkdeepaa
open Go.RowKit Go.Shelf

/-! ### a past and a map of rows, one beside the other -/
theorem Own.same {α : Type} {enc : α → List Value} {k : Nat} {E : TypeId} {base : Nat} {w w' : World} {v : Value} {xs : List α} (h : Own enc k E base w v xs) (hs : ∀ g, v.ownBlock = some g → w'.heap[g]? = w.heap[g]?) : Own enc k E base w' v xs := by
  refine ⟨h.1, ?_⟩
  rcases h.2 with h2 | ⟨g, cap, cur, rfl, hb, hh, hr⟩
  · exact .inl h2
  · exact .inr ⟨g, cap, cur, rfl, hb, (hs g rfl).trans hh, hr⟩
theorem OwnO.same {α : Type} {enc : α → List Value} {k : Nat} {E : TypeId} {base : Nat} {w w' : World} {v : Value} {xs : List α} (h : OwnO enc k E base w v xs) (hs : ∀ g, v.ownBlock = some g → w'.heap[g]? = w.heap[g]?) : OwnO enc k E base w' v xs := by
  rcases h with h2 | ⟨g, o, cap, cur, rfl, hb, hh, hr⟩
  · exact .inl h2
  · exact .inr ⟨g, o, cap, cur, rfl, hb, (hs g rfl).trans hh, hr⟩

theorem MapAt.pstep {b base : Nat} {w w' : World} {B : Nat} {v : Value} {xs : List Row} (h : MapAt b w B v xs) (s : PStep base w w') : MapAt b w' B v xs := by
  refine ⟨(s.block B h.lt (.inr ⟨_, _, _, h.obj, by decide, by decide⟩)).trans h.obj, h.own.same fun g hg => ?_, h.rise, h.apart, h.low⟩
  rcases h.own.2 with ⟨e, _⟩ | ⟨g', cap, cur, e, hb, hh, hr⟩
  · rw [e] at hg; cases hg
  · rw [e] at hg
    injection hg with hg
    subst hg
    exact s.block _ (Array.getElem?_eq_some_iff.1 hh).1 (.inr ⟨_, _, _, hh, by decide, by decide⟩)

theorem PastP.step {b base : Nat} {w w' : World} {B : Nat} {hist : List (List Change)} {trim : Nat} (h : PastP base w B hist trim) {B' : Nat} {v v' : Value} {xs : List Row} (hM : MapAt b w B' v xs) (s : Step w w' B' v v') : PastP base w' B hist trim := by
  obtain ⟨M, n, D, H, h⟩ := h
  -- what one of the past's blocks is
  have keep : ∀ g, g < w.heap.size → (∀ cur fr, w.heap[g]? ≠ some (.cells cur 71 fr)) → (∀ cur fr, w.heap[g]? ≠ some (.cells cur 44 fr)) → w'.heap[g]? = w.heap[g]? := fun g hg h1 h2 => by
    refine s.block g hg (fun e => h1 _ _ (by rw [e]; exact hM.obj)) (fun e => ?_)
    rcases hM.own.2 with ⟨e1, _⟩ | ⟨g', cap, cur, e1, hb, hh, hr⟩
    · rw [e1] at e; cases e
    · rw [e1] at e
      injection e with e
      subst e
      exact h2 _ _ hh
  have hB := keep B h.lt (fun cur fr e => by rw [h.obj] at e; injection e with e; injection e with _ e; exact absurd e (by decide)) (fun cur fr e => by rw [h.obj] at e; injection e with e; injection e with _ e; exact absurd e (by decide))
  obtain ⟨es, clock, hb, hrest⟩ := h.map.own
  have hMm := keep M (Array.getElem?_eq_some_iff.1 hb).1 (fun cur fr e => by rw [hb] at e; cases e) (fun cur fr e => by rw [hb] at e; cases e)
  refine ⟨M, n, D, H, hB.trans h.obj, ⟨⟨es, clock, hMm.trans hb, hrest⟩, h.map.low, h.map.has, fun x hx => ?_, h.map.apart⟩, h.past, h.low, h.cnt, h.len⟩
  obtain ⟨u, hu, ho⟩ := h.map.elem x hx
  refine ⟨u, hu, ho.same fun g hg => ?_⟩
  obtain ⟨_, hlt, cur, hc⟩ := ho.lt g hg
  exact keep g hlt (fun cur' fr e => by rw [hc] at e; injection e with e; injection e with _ e; exact absurd e (by decide)) (fun cur' fr e => by rw [hc] at e; injection e with e; injection e with _ e; exact absurd e (by decide))

theorem mapAt_lower {b base : Nat} {w : World} {B : Nat} {v : Value} {xs : List Row} (h : MapAt b w B v xs) (hb : base ≤ b) : MapAt base w B v xs :=
  ⟨h.obj, ownsRow_lower h.own hb, h.rise, h.apart, Nat.le_trans hb h.low⟩

/-- a block of another kind stays as it is. -/
theorem keep_step {b : Nat} {w w' : World} {B : Nat} {v v' : Value} {xs : List Row} (hM : MapAt b w B v xs) (s : Step w w' B v v') {S : Nat} {cur : Array Value} {E : TypeId} {fr : Nat × Nat} (h : w.heap[S]? = some (.cells cur E fr)) (h1 : E ≠ 71) (h2 : E ≠ 44) : w'.heap[S]? = some (.cells cur E fr) := by
  refine (s.block S (Array.getElem?_eq_some_iff.1 h).1 (fun e => ?_) (fun e => ?_)).trans h
  · subst e
    rw [hM.obj] at h
    injection h with h
    injection h with _ h
    exact h1 h.symm
  · rcases hM.own.2 with ⟨e1, _⟩ | ⟨g', cap, c', e1, hb, hh, hr⟩
    · rw [e1] at e; cases e
    · rw [e1] at e
      injection e with e
      subst e
      rw [hh] at h
      injection h with h
      injection h with _ h
      exact h2 h.symm
theorem keep_pstep {base : Nat} {w w' : World} (s : PStep base w w') {S : Nat} {cur : Array Value} {E : TypeId} {fr : Nat × Nat} (h : w.heap[S]? = some (.cells cur E fr)) (h1 : E ≠ 65) (h2 : E ≠ 62) : w'.heap[S]? = some (.cells cur E fr) :=
  (s.block S (Array.getElem?_eq_some_iff.1 h).1 (.inr ⟨_, _, _, h, h1, h2⟩)).trans h
theorem keep_below {w w' : World} (s : Below w.heap.size w w') {S : Nat} {o : Obj} (h : w.heap[S]? = some o) : w'.heap[S]? = some o :=
  (s.block S (Array.getElem?_eq_some_iff.1 h).1).trans h

end Go.Proofs.Ytimadkbdkdeepaa
