import Derived.Test.YtomhkflcimbbiaaLApartP
import Derived.Test.YtomhkflcimbbiaaLawLocksSelf
import Derived.Test.YtomhkflcimbbiaaLDoesR
set_option linter.unusedVariables false
set_option linter.unusedSimpArgs false
set_option linter.unusedSectionVars false
namespace Go.Proofs.Ytomhkflcimbbiaa
open Go.RowKit Go.Shelf

/-! ### acts, and what was told -/
/-- what neither the table's rows nor what is told may turn. -/
def KeptH (w w' : World) : Prop := ∀ (i : Nat) (cur : Array Value) (E : TypeId) (fr : Nat × Nat), w.heap[i]? = some (.cells cur E fr) → E ≠ 70 → E ≠ 50 → w'.heap[i]? = some (.cells cur E fr)
theorem Own.keptH {α : Type} {enc : α → List Value} {k : Nat} {E : TypeId} {b : Nat} {w w' : World} {v : Value} {xs : List α} (h : Own enc k E b w v xs) (s : KeptH w w') (hE : E ≠ 70) (hE2 : E ≠ 50) : Own enc k E b w' v xs := by
  refine ⟨h.1, ?_⟩
  rcases h.2 with h0 | ⟨g, cap, cur, hv, hb, hg, hr⟩
  · exact .inl h0
  · exact .inr ⟨g, cap, cur, hv, hb, s _ _ _ _ hg hE hE2, hr⟩
structure ActedH (w0 : World) (bb k : Nat) (w : World) (T : Tab) (v : Value) (hs : List Held) : Prop where
  act : Acted w0 bb k w T
  told : Told T hs
  len : hs.length ≤ k
  own : Own Held.enc 4 50 bb w v hs
theorem Acted.belowH {w0 w w' : World} {bb k : Nat} {T : Tab} (h : Acted w0 bb k w T) (hbb : w0.heap.size ≤ bb) (hb : Below w.heap.size w w') : Acted w0 bb k w' T := by
  obtain ⟨n, hn, hT⟩ := h.tab
  exact ⟨⟨n, hn, hT.below hb⟩, h.tidy, h.len, Nat.le_trans h.room hb.size, h.below.trans (hb.mono (Nat.le_trans hbb h.room))⟩
theorem ActedH.below {w0 w w' : World} {bb k : Nat} {T : Tab} {v : Value} {hs : List Held} (h : ActedH w0 bb k w T v hs) (hbb : w0.heap.size ≤ bb) (hb : Below w.heap.size w w') : ActedH w0 bb k w' T v hs :=
  ⟨h.act.belowH hbb hb, h.told, h.len, h.own.below hb⟩
theorem ActedH.does {w0 w : World} {bb k : Nat} {T : Tab} {v : Value} {hs : List Held} (h : ActedH w0 bb k w T v hs) (hk : k ≤ 200) (hbb : w0.heap.size ≤ bb) (q who : Int) (f t : ByteArray) (al : Bool) (hq : 0 ≤ q ∧ q ≤ 255) (hw : okU who) :
    Calls Try.prog 18 #[.pointer (some ⟨bb + 1, 0, none⟩), v, .agg #[.int .u8 q, .int .u32 who, .string f, .string t, .bool al]] w
      fun e w' => ∃ v' T' g, e = .returned (.tuple #[v', .bool true]) ∧ ActedH w0 bb (k + 1) w' T' v' (heldF ⟨q, who, f, t, al⟩ g hs) ∧ ActIs T ⟨q, who, f, t, al⟩ T' g ∧ KeptH w w' ∧ w.heap.size ≤ w'.heap.size ∧ Rd Held.enc 4 w' v hs := by
  obtain ⟨n, hn, hT⟩ := h.act.tab
  refine (doesR_calls hT h.act.room h.act.len (by omega) (by omega) (Nat.le_trans (Nat.mul_le_mul_right k hn) (Nat.le_trans (Nat.mul_le_mul hk hk) (by decide))) q who f t al hq hw h.own (by have := h.len; omega)).mono ?_
  rintro e w' ⟨v', T', g, n', w1, rfl, hn', hT', hs1, hg, ha, ho, hrd⟩
  have hh1 := h.own.tstep hs1 (by decide)
  have hb1 : Below w0.heap.size w0 w1 := h.act.below.trans ((hs1.below h.act.room).mono hbb)
  refine ⟨v', T', g, rfl, ⟨⟨⟨n', by omega, hT'⟩, ha.tidy h.act.tidy, ha.len h.act.len, Nat.le_trans (Nat.le_trans h.act.room hs1.size) hg.size, ?_⟩, h.told.act ha, Nat.le_trans (heldF_length _ _ _) (by have := h.len; omega), ho⟩, ha, fun i cur E fr hi h1 h2 => ?_, Nat.le_trans hs1.size hg.size, hrd⟩
  · exact hb1.grown hg (Nat.le_trans hbb (Nat.le_trans h.act.room hs1.size)) fun g' e => Nat.le_trans hbb (h.own.base_le g' e)
  · have h3 := hs1.cells hi h1
    rw [← h3]
    refine hg.block i (Array.getElem?_eq_some_iff.1 h3).1 fun e => ?_
    obtain ⟨cur', fr', hc⟩ := hh1.cellsAt i e.symm
    rw [h3] at hc
    injection hc with hc
    injection hc with _ hc
    exact h2 hc
theorem ActedH.way {w0 w : World} {bb k : Nat} {T : Tab} {v : Value} {hs : List Held} (h : ActedH w0 bb k w T v hs) (hk : k ≤ 200) (who : Int) (f t : ByteArray) (al : Bool) :
    Calls Try.prog 12 #[.pointer (some ⟨bb + 1, 0, none⟩), .int .u32 who, .agg #[.string f, .string t], .bool al] w
      fun e w' => ∃ (v' : Value) (l : List Int), e = .returned v' ∧ OwnU w.heap.size w' v' l ∧ Below w.heap.size w w' ∧ (mayL who f t = true → l = wantF who f t al hs) := by
  obtain ⟨n, hn, hT⟩ := h.act.tab
  refine (wayP_calls hT h.act.len (by omega) (by omega) (Nat.le_trans (Nat.mul_le_mul_right k hn) (Nat.le_trans (Nat.mul_le_mul hk hk) (by decide))) who f t al).mono ?_
  rintro e w' ⟨v', l, rfl, ho, hb, hl, _⟩
  refine ⟨v', l, rfl, ho, hb, fun hm => ?_⟩
  rw [if_pos hm] at hl
  exact hl.uniq (wantF_is h.told who f t al)
theorem ActedH.has {w0 w : World} {bb k : Nat} {T : Tab} {v : Value} {hs : List Held} (h : ActedH w0 bb k w T v hs) (hk : k ≤ 200) (who : Int) (hw : okU who) :
    Calls Try.prog 14 #[.pointer (some ⟨bb + 1, 0, none⟩), .int .u32 who] w
      fun e w' => ∃ v', e = .returned v' ∧ Own Span.enc 2 24 w.heap.size w' v' ((T who).map spOf) ∧ Below w.heap.size w w' := by
  obtain ⟨n, hn, hT⟩ := h.act.tab
  exact hasP_calls hT who hw (Nat.le_trans (h.act.len _) (by omega))
end Go.Proofs.Ytomhkflcimbbiaa
