import Derived.Test.YtomhkflcimbbiaaLNo
import Derived.Test.YtomhkflcimbbiaaLockP
import Derived.Test.YtomhkflcimbbiaaSMap
import Derived.Test.YtomhkflcimbbiaaApp
import Derived.RangeFuncNested
import Derived.RangeFuncBound
import Derived.RangeFuncCalls
import Derived.RangeFuncLeaves
import Derived.OwnWalkIn
import Derived.TacticsInMore
import Derived.LoopNIn
import Derived.LoopIn
import Derived.RegionIn
set_option linter.unusedVariables false
set_option linter.unusedSimpArgs false
set_option linter.unusedSectionVars false
namespace Go.Proofs.Ytomhkflcimbbiaa
open Go.RowKit

abbrev klU (x : Int) : Lit := Lit.int .u32 x
abbrev okU (x : Int) : Prop := (Lit.int .u32 x).wf = true
theorem keyU : KeyOk Try.prog 22 (Value.int .u32) klU okU := keyOk_int (by kernel_rfl)
theorem same_u (x y : Int) : (klU x).sameKey (klU y) = decide (x = y) := by
  by_cases h : x = y
  · subst h
    simp [Lit.sameKey, klU]
  · rw [decide_eq_false h, Bool.eq_false_iff]
    intro e
    exact h (keyU.inj _ _ (WideAt.sameKey_eq e))
theorem locks_under : Try.prog.underlying 67 = some (.slice 70) := by kernel_rfl
theorem info_locki : (Try.prog.info? 70).map (fun i => (i.zero, i.size, i.bytes)) = some (some (.agg #[.string ⟨#[]⟩, .string ⟨#[]⟩, .bool false]), 3, 40) := by kernel_rfl

/-- A table of locks that lies at block B. -/
structure TabAt (base : Nat) (w : World) (B M n : Nat) (D : DataW Value) (T : Tab) : Prop where
  obj : w.heap[B]? = some (.cells #[.map (some M)] 28 (0, 0))
  map : SMap Try.prog 22 klU okU Lock.enc 3 70 base w M n D T
  low : base ≤ B
  dom : ∀ o, T o ≠ [] → okU o
def TabP (base : Nat) (w : World) (B n : Nat) (T : Tab) : Prop := ∃ M D, TabAt base w B M n D T

section
variable {base : Nat} {w : World} {B M n : Nat} {D : DataW Value} {T : Tab}
theorem TabAt.lt (h : TabAt base w B M n D T) : B < w.heap.size := (Array.getElem?_eq_some_iff.1 h.obj).1
theorem TabAt.below {w' : World} (h : TabAt base w B M n D T) (hb : Below w.heap.size w w') : TabAt base w' B M n D T :=
  ⟨(hb.block B h.lt).trans h.obj, h.map.below hb, h.low, h.dom⟩
theorem TabP.below {w' : World} (h : TabP base w B n T) (hb : Below w.heap.size w w') : TabP base w' B n T := by
  obtain ⟨M, D, h⟩ := h
  exact ⟨M, D, h.below hb⟩
theorem TabAt.c0 (h : TabAt base w B M n D T) : w.cell? ⟨B, 0, none⟩ = some (.map (some M)) := by simp [World.cell?, h.obj]
/-- The table's own block is none of its rows'. -/
theorem TabAt.offB (h : TabAt base w B M n D T) {x : Int} {v : Value} (hk : okU x) (hv : D.atKey (klU x) nilD = .held v) : v.ownBlock ≠ some B := fun e => by
  obtain ⟨v', hv', ho⟩ := h.map.elem x hk
  rw [hv] at hv'
  injection hv' with hv'
  subst hv'
  obtain ⟨_, _, cur, hc⟩ := ho.lt B e
  rw [h.obj] at hc
  injection hc with hc
  injection hc with _ hc
  exact absurd hc (by decide)
theorem TabAt.neM (h : TabAt base w B M n D T) : M ≠ B := fun e => by
  obtain ⟨es, clock, hb, _⟩ := h.map.own
  rw [e, h.obj] at hb
  cases hb

set_option maxHeartbeats 400000 in
theorem tthere_calls (h : TabAt base w B M n D T) : Calls Try.prog 28 #[.pointer (some ⟨B, 0, none⟩)] w fun e w' => e = .returned (.bool true) ∧ w = w' := by
  have c0 := h.c0
  have hmn := run_lmap_neq M w
  go_enter Try.func28, Try.ntmps28
  go_wp2
  go_ret
  exact ⟨rfl, rfl⟩
end

set_option maxHeartbeats 400000 in
theorem tnew_calls (w : World) : Calls Try.prog 17 #[] w fun e w' => e = .returned (.pointer (some ⟨w.heap.size + 1, 0, none⟩)) ∧ Below w.heap.size w w' ∧ TabP w.heap.size w' (w.heap.size + 1) 0 (fun _ => []) := by
  have hmm := @run_makeMap Try.prog
  go_enter Try.func17, Try.ntmps17
  go_wp2
  go_ret
  refine ⟨by simp, ((Below.refl _ w).alloc (Nat.le_refl _) _).alloc (by simp) _, w.heap.size, .map [], ?_⟩
  refine ⟨?_, ?_, by omega, fun o h => absurd rfl h⟩
  · have := World.alloc_heap_new (w.alloc (.map #[] 0)) (.cells #[.map (some w.heap.size)] 28)
    simpa using this
  · exact (SMap.made w (Nat.le_refl _)).below ((Below.refl _ _).alloc (Nat.le_refl _) _)

section
variable {base : Nat} {w : World} {B M n : Nat} {D : DataW Value} {T : Tab}

theorem TabAt.zero (w : World) : (zeroValue 67).run Try.prog w = .ok nilS w := by simp [Try.zeroValue67]

/-- What an act on a table may have turned: its own block, the map's, its rows'. -/
structure TStep (base : Nat) (w w' : World) : Prop where
  os : w'.os = w.os
  tape : w'.tape = w.tape
  output : w'.output = w.output
  size : w.heap.size ≤ w'.heap.size
  block : ∀ i, i < w.heap.size → (i < base ∨ ∃ cur E fr, w.heap[i]? = some (.cells cur E fr) ∧ E ≠ 70) → w'.heap[i]? = w.heap[i]?
theorem TStep.of_below {w' : World} (h : Below w.heap.size w w') : TStep base w w' := ⟨h.os, h.tape, h.output, h.size, fun i hi _ => h.block i hi⟩
theorem TStep.refl (base : Nat) (w : World) : TStep base w w := .of_below (Below.refl _ _)
theorem TStep.trans {w1 w2 : World} (h : TStep base w w1) (k : TStep base w1 w2) : TStep base w w2 :=
  ⟨k.os.trans h.os, k.tape.trans h.tape, k.output.trans h.output, Nat.le_trans h.size k.size, fun i hi hs => (k.block i (Nat.lt_of_lt_of_le hi h.size) (hs.imp id fun ⟨cur, E, fr, h1, h2⟩ => ⟨cur, E, fr, (h.block i hi (.inr ⟨cur, E, fr, h1, h2⟩)).trans h1, h2⟩)).trans (h.block i hi hs)⟩
theorem TStep.below {w' : World} (h : TStep base w w') (hb : base ≤ w.heap.size) : Below base w w' := ⟨h.os, h.tape, h.output, h.size, fun i hi => h.block i (Nat.lt_of_lt_of_le hi hb) (.inl hi)⟩
theorem TStep.grown {w' : World} {row : Option Nat} (hg : w.grownBy w' row) (hr : ∀ g, row = some g → base ≤ g ∧ ((∃ es c, w.heap[g]? = some (.map es c)) ∨ ∃ cur fr, w.heap[g]? = some (.cells cur 70 fr))) : TStep base w w' :=
  ⟨hg.os, hg.tape, hg.output, hg.size, fun i hi hs => hg.block i hi fun e => by
    obtain ⟨h1, h2⟩ := hr i e.symm
    rcases hs with hs | ⟨cur, E, fr, h3, h4⟩
    · omega
    · rcases h2 with ⟨es, c, h2⟩ | ⟨cur', fr', h2⟩
      · rw [h3] at h2; cases h2
      · rw [h3] at h2
        injection h2 with h2
        injection h2 with _ h2
        exact h4 h2⟩

set_option maxHeartbeats 1000000 in
set_option maxRecDepth 100000 in
theorem tfree_calls (h : TabAt base w B M n D T) (who : Int) (hw : okU who) :
    Calls Try.prog 13 #[.pointer (some ⟨B, 0, none⟩), .int .u32 who] w
      fun e w' => e = .returned (.int .i64 ((T who).length : Int)) ∧ TabP base w' B n (putT T who []) ∧ TStep base w w' := by
  have c0 := h.c0
  obtain ⟨v, hrun, hat, ho⟩ := h.map.look keyU lmap_under (TabAt.zero w) hw
  obtain ⟨A, c, rfl, hlc, hcm⟩ := ho.shape
  obtain ⟨w2, hdel, hM2, hturn⟩ := h.map.drop keyU lmap_under hw 0
  go_enter Try.func13, Try.ntmps13
  go_wp2_with (go_at_call 28; refine (tthere_calls h).mono ?_; rintro e w1 ⟨rfl, rfl⟩)
  go_ret
  have hMB := h.neM
  have hlow := h.map.low
  obtain ⟨es, clock, hb, _⟩ := h.map.own
  refine ⟨rfl, ⟨M, _, (hturn.grown.block B h.lt (fun e => hMB (by injection e with e; exact e.symm))).trans h.obj, hM2, h.low, fun o ho => h.dom o (fun e => ho ?_)⟩, .grown hturn.grown (fun g e => ?_)⟩
  · unfold putT
    split
    · rfl
    · exact e
  · injection e with e
    subst e
    exact ⟨hlow, .inl ⟨_, _, hb⟩⟩
end

end Go.Proofs.Ytomhkflcimbbiaa
