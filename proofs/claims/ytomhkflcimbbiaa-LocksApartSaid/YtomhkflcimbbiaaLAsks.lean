import Derived.Test.YtomhkflcimbbiaaLAsk
import Derived.Test.YtomhkflcimbbiaaTwInt
set_option linter.unusedVariables false
set_option linter.unusedSimpArgs false
set_option linter.unusedSectionVars false
namespace Go.Proofs.Ytomhkflcimbbiaa
open Go.RowKit Go.Shelf

/-- A slice that is read, that no act on a table turns. -/
def RdT {α : Type} (base : Nat) (enc : α → List Value) (k : Nat) (w : World) (v : Value) (xs : List α) : Prop :=
  Rd enc k w v xs ∧ ∀ b o n c, v = .slice (some ⟨b, o, none⟩) n c → 0 < xs.length → b < w.heap.size ∧ (b < base ∨ ∃ cur E fr, w.heap[b]? = some (.cells cur E fr) ∧ E ≠ 70)

section
variable {α : Type} {enc : α → List Value} {k base : Nat} {w w' : World} {v : Value} {xs : List α}
theorem RdT.step (h : RdT base enc k w v xs) (s : TStep base w w') : RdT base enc k w' v xs := by
  obtain ⟨⟨A, c, rfl, hl, hc, hr⟩, hs⟩ := h
  refine ⟨⟨A, c, rfl, hl, hc, fun hp => ?_⟩, fun b o n c' e hp => ?_⟩
  · obtain ⟨b, o, rfl, hcell⟩ := hr hp
    obtain ⟨h1, h2⟩ := hs b o _ _ rfl hp
    refine ⟨b, o, rfl, fun i x hi j u hu => (World.cell?_of_block (w := w) (s.block b h1 h2)).trans (hcell i x hi j u hu)⟩
  · obtain ⟨h1, h2⟩ := hs b o n c' e hp
    refine ⟨Nat.lt_of_lt_of_le h1 s.size, h2.imp id ?_⟩
    rintro ⟨cur, E, fr, h3, h4⟩
    exact ⟨cur, E, fr, (s.block b h1 (.inr ⟨cur, E, fr, h3, h4⟩)).trans h3, h4⟩
theorem RdT.below (h : RdT base enc k w v xs) (hb : Below w.heap.size w w') : RdT base enc k w' v xs := h.step (.of_below hb)
theorem RdT.own {E : TypeId} {b' : Nat} (hk : ∀ x, (enc x).length = k) (h : Own enc k E b' w v xs) (hE : E ≠ 70) : RdT base enc k w v xs := by
  refine ⟨h.rd hk, fun b o n c e hp => ?_⟩
  rcases h.2 with ⟨h1, _⟩ | ⟨g, cap, cur, h1, _, h2, _⟩
  · rw [h1] at e; cases e
  · rw [h1] at e
    injection e with e
    injection e with e
    injection e with e
    subst e
    exact ⟨(Array.getElem?_eq_some_iff.1 h2).1, .inr ⟨_, _, _, h2, hE⟩⟩
theorem RdT.nil (w : World) : RdT base enc k w (.slice none 0 0) ([] : List α) := ⟨⟨none, 0, rfl, Nat.le_refl _, by omega, fun h => absurd h (Nat.lt_irrefl _)⟩, fun b o n c e => by cases e⟩
theorem RdT.lit {E : TypeId} (hk : ∀ x, (enc x).length = k) (xs : List α) (hl : xs.length ≤ 9223372036854775807) (W : World) (hE : E ≠ 70) : RdT base enc k (W.alloc (.cells (xs.flatMap enc).toArray E)) (.slice (some ⟨W.heap.size, 0, none⟩) xs.length xs.length) xs :=
  ⟨rd_lit enc k hk E xs hl W, fun b o n c e _ => by
    injection e with e
    injection e with e
    injection e with e
    subst e
    exact ⟨by simp, .inr ⟨_, _, _, lalloc_at _ rfl, hE⟩⟩⟩
theorem TStep.cells {b : Nat} {cur : Array Value} {E : TypeId} {fr : Nat × Nat} (s : TStep base w w') (h : w.heap[b]? = some (.cells cur E fr)) (hE : E ≠ 70) : w'.heap[b]? = some (.cells cur E fr) :=
  (s.block b (Array.getElem?_eq_some_iff.1 h).1 (.inr ⟨_, _, _, h, hE⟩)).trans h
theorem TStep.low {b : Nat} {o : Obj} (s : TStep base w w') (h : w.heap[b]? = some o) (hb : b < base) : w'.heap[b]? = some o := (s.block b (Array.getElem?_eq_some_iff.1 h).1 (.inl hb)).trans h
end

theorem s_calls (f t : Str) (w : World) : Calls Try.prog 35 #[.string f, .string t] w fun e w' => e = .returned (.agg #[.string f, .string t]) ∧ Below w.heap.size w w' := by
  go_enter Try.func35, Try.ntmps35
  go_wp2
  refine ⟨rfl, .agg #[.string f, .string t], by simp [results, Try.f35, go_sem], rfl, (Below.refl _ _).alloc (Nat.le_refl _) _⟩

/-- What 'asks' says, and who has what then. -/
def asksB (T : Tab) (who : Int) (f t : Str) (al : Bool) (way : List Int) (b : Bool) (T' : Tab) : Prop :=
  (mayL who f t = false ∧ b = false ∧ T' = T) ∨
  (mayL who f t = true ∧ (∃ l, l ≠ [] ∧ WayIs T who f t al l ∧ b = decide (l = way)) ∧ T' = T) ∨
  (mayL who f t = true ∧ (∀ o, ¬ InWay T who f t al o) ∧ b = decide ([] = way) ∧ T' = putT T who (addL f t al (T who)))

set_option maxHeartbeats 2000000 in
set_option maxRecDepth 100000 in
theorem asks_calls {base : Nat} {w : World} {B M nn : Nat} {D : DataW Value} {T : Tab} (h : TabAt base w B M nn D T) (hbase : base ≤ w.heap.size) {L c : Nat} (hL : ∀ o, (T o).length ≤ L) (hLb : L ≤ 1000) (hnn : nn ≤ 1000) (who : Int) (hw : okU who) (f t : ByteArray) (al : Bool)
    (hc : ∀ o, ((T o).filter (hitL al f t)).length ≤ c) (hN : nn * c ≤ sortN) {vw : Value} {way : List Int} (hvw : RdT base encU 1 w vw way) :
    Calls Try.prog 23 #[.pointer (some ⟨B, 0, none⟩), .int .u32 who, .agg #[.string f, .string t], .bool al, vw] w
      fun e w' => ∃ b T' n', e = .returned (.bool b) ∧ n' ≤ nn + 1 ∧ TabP base w' B n' T' ∧ TStep base w w' ∧ asksB T who f t al way b T' := by
  obtain ⟨Aw, cw, rfl, hlw, hcw⟩ := hvw.1.shape
  go_enter Try.func23, Try.ntmps23
  have hba : Below w.heap.size w (w.alloc (.cells #[.string f, .string t] 24)) := (Below.refl _ w).alloc (Nat.le_refl _) _
  have s0 : (w.alloc (.cells #[.string f, .string t] 24)).heap[w.heap.size]? = some (.cells #[.string f, .string t] 24 (0, 0)) := lalloc_at _ rfl
  have hT := h.below hba
  have hvw2 := hvw.below hba
  have hsz : (w.alloc (.cells #[.string f, .string t] 24)).heap.size = w.heap.size + 1 := by simp
  have hst0 : TStep base w (w.alloc (.cells #[.string f, .string t] 24)) := .of_below hba
  generalize hn0 : way.length = n0 at hvw hvw2 hlw ⊢
  have HN := Lib.hid hn0
  clear hn0
  rcases n0 with _ | n0
  all_goals
    go_wp2_with (first
      | (go_at_call 11; refine (ask_calls hT (by omega) hL hLb hnn who hw f t al hc hN).mono ?_
         rintro e w1 (⟨hm, rfl, hT1, hst⟩ | ⟨hm, v', l, rfl, hne, ho, hway, hT1, hst⟩ | ⟨hm, hno, rfl, ⟨n', hn', hT1⟩, hst⟩))
      | (go_at_call 22
         first
           | (obtain ⟨q, hq⟩ : ∃ q, decide (l = way) = q := ⟨_, rfl⟩
              have hcc := (sameIds_calls _ _ _ _ _ (RdT.own (base := base) encU_len ho (by decide)).1 (hvw2.step hst).1)
              rw [hq] at hcc
              have HQ := Lib.hid hq
              clear hq
              refine hcc.mono ?_; rintro e w2 ⟨rfl, hb2⟩; cases q)
           | (obtain ⟨q, hq⟩ : ∃ q, decide ([] = way) = q := ⟨_, rfl⟩
              have hcc := (sameIds_calls _ _ [] _ _ (RdT.nil (base := base) w1).1 (hvw2.step hst).1)
              rw [hq] at hcc
              have HQ := Lib.hid hq
              clear hq
              refine hcc.mono ?_; rintro e w2 ⟨rfl, hb2⟩; cases q)))
    all_goals go_ret
    all_goals have hst2 := (hst0.trans hst).trans (.of_below hb2)
    all_goals obtain ⟨M1, D1, hTT⟩ := hT1
    all_goals first
      | exact ⟨_, T, nn, rfl, by omega, ⟨M1, D1, hTT.below hb2⟩, hst2, .inl ⟨hm, rfl, rfl⟩⟩
      | exact ⟨_, T, nn, rfl, by omega, ⟨M1, D1, hTT.below hb2⟩, hst2, .inr (.inl ⟨hm, ⟨l, hne, hway, HQ.out.symm⟩, rfl⟩)⟩
      | exact ⟨_, _, n', rfl, by omega, ⟨M1, D1, hTT.below hb2⟩, hst2, .inr (.inr ⟨hm, hno, HQ.out.symm, rfl⟩)⟩
      | (exfalso
         have h1 := of_decide_eq_true HQ.out
         have h2 := HN.out
         first
           | (subst h1; exact hne (List.length_eq_zero_iff.1 h2))
           | (rw [← h1] at h2; simp at h2))
      | (exfalso
         have h1 := of_decide_eq_false HQ.out
         have h2 := HN.out
         exact h1 (List.length_eq_zero_iff.1 h2).symm)
end Go.Proofs.Ytomhkflcimbbiaa
