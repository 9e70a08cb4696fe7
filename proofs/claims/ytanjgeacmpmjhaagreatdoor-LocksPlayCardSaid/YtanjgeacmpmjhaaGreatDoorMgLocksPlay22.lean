import Derived.Test.YtanjgeacmpmjhaaGreatDoorLockP
import Derived.Test.YtanjgeacmpmjhaaGreatDoorMgLocksPlay2
import Derived.Test.YtanjgeacmpmjhaaGreatDoorSMap
import Derived.Test.YtanjgeacmpmjhaaGreatDoorApp
import Derived.RangeFuncNested
import Derived.RangeFuncBound
import Derived.RangeFuncCalls
import Derived.RangeFuncLeaves
import Derived.OwnWalkIn
import Derived.TacticsInMore
import Derived.LoopNIn
import Derived.LoopIn
import Derived.RegionIn
import Derived.Test.YtanjgeacmpmjhaaGreatDoorJoinP
import Derived.Test.YtanjgeacmpmjhaaGreatDoorTwSpan
import Derived.Test.YtanjgeacmpmjhaaGreatDoorShape
import Derived.Test.YtanjgeacmpmjhaaGreatDoorBk0
import Derived.Deep.RegionHeld3
import Derived.Deep.RegionLaw
import Derived.StillTailTactics
import Derived.Lib.SmallJoins
set_option linter.unusedVariables false
set_option linter.unusedSimpArgs false
set_option linter.unusedSectionVars false
namespace Go.Proofs.YtanjgeacmpmjhaaGreatDoor
open Go.RowKit

/-! ### one into a list that rises -/
def putL : List Int → Int → List Int
  | [], x => [x]
  | y :: l, x => if y < x then y :: putL l x else if y = x then y :: l else x :: y :: l
theorem putL_at : ∀ {l : List Int} {x : Int} {k : Nat}, (∀ j y, j < k → l[j]? = some y → y < x) → k ≤ l.length → (∀ y, l[k]? = some y → ¬ y < x) → putL l x = if l[k]? = some x then l else l.take k ++ [x] ++ l.drop k
  | [], x, k, _, hk, _ => by
    have : k = 0 := by simpa using hk
    subst this
    simp [putL]
  | y :: l, x, 0, _, _, h => by
    have h0 := h y rfl
    unfold putL
    rw [if_neg h0]
    by_cases e : y = x
    · simp [e]
    · rw [if_neg e, if_neg (by simp [e])]; simp
  | y :: l, x, k + 1, hl, hk, h => by
    have h0 := hl 0 y (by omega) rfl
    unfold putL
    rw [if_pos h0, putL_at (l := l) (k := k) (fun j z hj hz => hl (j + 1) z (by omega) (by simpa using hz)) (by simpa using hk) (fun z hz => h z (by simpa using hz))]
    simp only [List.getElem?_cons_succ]
    split <;> simp
theorem putL_mem : ∀ (l : List Int) (x y : Int), y ∈ putL l x ↔ y ∈ l ∨ y = x
  | [], x, y => by simp [putL]
  | z :: l, x, y => by
    unfold putL
    split
    · rw [List.mem_cons, putL_mem l x y, List.mem_cons, or_assoc]
    · split
      · rename_i e
        constructor
        · exact .inl
        · rintro (h | rfl)
          · exact h
          · exact List.mem_cons.2 (.inl e.symm)
      · simp only [List.mem_cons]
        constructor
        · rintro (h | h | h)
          · exact .inr h
          · exact .inl (.inl h)
          · exact .inl (.inr h)
        · rintro ((h | h) | h)
          · exact .inr (.inl h)
          · exact .inr (.inr h)
          · exact .inl h
theorem putL_rise : ∀ {l : List Int} {x : Int}, l.Pairwise (· < ·) → (putL l x).Pairwise (· < ·)
  | [], x, _ => by simp [putL]
  | z :: l, x, h => by
    rw [List.pairwise_cons] at h
    unfold putL
    split
    · rename_i hz
      rw [List.pairwise_cons]
      refine ⟨fun y hy => ?_, putL_rise h.2⟩
      rcases (putL_mem l x y).1 hy with hy | rfl
      · exact h.1 y hy
      · exact hz
    · split
      · rw [List.pairwise_cons]; exact h
      · rename_i h1 h2
        rw [List.pairwise_cons]
        refine ⟨fun y hy => ?_, List.pairwise_cons.2 h⟩
        rcases List.mem_cons.1 hy with rfl | hy
        · omega
        · have := h.1 y hy; omega
theorem putL_length : ∀ (l : List Int) (x : Int), (putL l x).length ≤ l.length + 1
  | [], x => by simp [putL]
  | z :: l, x => by
    have := putL_length l x
    unfold putL
    split
    · simp; omega
    · split <;> simp

end Go.Proofs.YtanjgeacmpmjhaaGreatDoor

set_option linter.unusedVariables false
set_option linter.unusedSimpArgs false
set_option linter.unusedSectionVars false
namespace Go.Proofs.YtanjgeacmpmjhaaGreatDoor
open Go.RowKit

abbrev klU (x : Int) : Lit := Lit.int .u32 x
abbrev okU (x : Int) : Prop := (Lit.int .u32 x).wf = true
theorem keyU : KeyOk Tryz.prog 42 (Value.int .u32) klU okU := keyOk_int (by kernel_rfl)
theorem same_u (x y : Int) : (klU x).sameKey (klU y) = decide (x = y) := by
  by_cases h : x = y
  · subst h
    simp [Lit.sameKey, klU]
  · rw [decide_eq_false h, Bool.eq_false_iff]
    intro e
    exact h (keyU.inj _ _ (WideAt.sameKey_eq e))
theorem locks_under : Tryz.prog.underlying 159 = some (.slice 162) := by kernel_rfl
theorem info_locki : (Tryz.prog.info? 162).map (fun i => (i.zero, i.size, i.bytes)) = some (some (.agg #[.string ⟨#[]⟩, .string ⟨#[]⟩, .bool false]), 3, 40) := by kernel_rfl

/-- A table of locks that lies at block B. -/
structure TabAt (base : Nat) (w : World) (B M n : Nat) (D : DataW Value) (T : Tab) : Prop where
  obj : w.heap[B]? = some (.cells #[.map (some M)] 158 (0, 0))
  map : SMap Tryz.prog 42 klU okU Lock.enc 3 162 base w M n D T
  low : base ≤ B
  dom : ∀ o, T o ≠ [] → okU o
def TabP (base : Nat) (w : World) (B n : Nat) (T : Tab) : Prop := ∃ M D, TabAt base w B M n D T

section
variable {base : Nat} {w : World} {B M n : Nat} {D : DataW Value} {T : Tab}
theorem TabAt.lt (h : TabAt base w B M n D T) : B < w.heap.size := (Array.getElem?_eq_some_iff.1 h.obj).1
theorem TabAt.below {w' : World} (h : TabAt base w B M n D T) (hb : Below w.heap.size w w') : TabAt base w' B M n D T :=
  ⟨(hb.block B h.lt).trans h.obj, h.map.below hb, h.low, h.dom⟩
theorem TabP.below {w' : World} (h : TabP base w B n T) (hb : Below w.heap.size w w') : TabP base w' B n T := by
  obtain ⟨M, D, h⟩ := h
  exact ⟨M, D, h.below hb⟩
theorem TabAt.c0 (h : TabAt base w B M n D T) : w.cell? ⟨B, 0, none⟩ = some (.map (some M)) := by simp [World.cell?, h.obj]
/-- The table's own block is none of its rows'. -/
theorem TabAt.offB (h : TabAt base w B M n D T) {x : Int} {v : Value} (hk : okU x) (hv : D.atKey (klU x) nilD = .held v) : v.ownBlock ≠ some B := fun e => by
  obtain ⟨v', hv', ho⟩ := h.map.elem x hk
  rw [hv] at hv'
  injection hv' with hv'
  subst hv'
  obtain ⟨_, _, cur, hc⟩ := ho.lt B e
  rw [h.obj] at hc
  injection hc with hc
  injection hc with _ hc
  exact absurd hc (by decide)
theorem TabAt.neM (h : TabAt base w B M n D T) : M ≠ B := fun e => by
  obtain ⟨es, clock, hb, _⟩ := h.map.own
  rw [e, h.obj] at hb
  cases hb

set_option maxHeartbeats 400000 in
theorem tthere_calls (h : TabAt base w B M n D T) : Calls Tryz.prog 141 #[.pointer (some ⟨B, 0, none⟩)] w fun e w' => e = .returned (.bool true) ∧ w = w' := by
  have c0 := h.c0
  have hmn := run_lmap_neq M w
  go_enter Tryz.func141, Tryz.ntmps141
  go_wp2
  go_ret
  exact ⟨rfl, rfl⟩
end

set_option maxHeartbeats 400000 in
theorem tnew_calls (w : World) : Calls Tryz.prog 48 #[] w fun e w' => e = .returned (.pointer (some ⟨w.heap.size + 1, 0, none⟩)) ∧ Below w.heap.size w w' ∧ TabP w.heap.size w' (w.heap.size + 1) 0 (fun _ => []) := by
  have hmm := @run_makeMap Tryz.prog
  go_enter Tryz.func48, Tryz.ntmps48
  go_wp2
  go_ret
  refine ⟨by simp, ((Below.refl _ w).alloc (Nat.le_refl _) _).alloc (by simp) _, w.heap.size, .map [], ?_⟩
  refine ⟨?_, ?_, by omega, fun o h => absurd rfl h⟩
  · have := World.alloc_heap_new (w.alloc (.map #[] 0)) (.cells #[.map (some w.heap.size)] 158)
    simpa using this
  · exact (SMap.made w (Nat.le_refl _)).below ((Below.refl _ _).alloc (Nat.le_refl _) _)

section
variable {base : Nat} {w : World} {B M n : Nat} {D : DataW Value} {T : Tab}

theorem TabAt.zero (w : World) : (zeroValue 159).run Tryz.prog w = .ok nilS w := by simp [Tryz.zeroValue159]

/-- What an act on a table may have turned: its own block, the map's, its rows'. -/
structure TStep (base : Nat) (w w' : World) : Prop where
  os : w'.os = w.os
  tape : w'.tape = w.tape
  output : w'.output = w.output
  size : w.heap.size ≤ w'.heap.size
  block : ∀ i, i < w.heap.size → (i < base ∨ ∃ cur E fr, w.heap[i]? = some (.cells cur E fr) ∧ E ≠ 162) → w'.heap[i]? = w.heap[i]?
theorem TStep.of_below {w' : World} (h : Below w.heap.size w w') : TStep base w w' := ⟨h.os, h.tape, h.output, h.size, fun i hi _ => h.block i hi⟩
theorem TStep.refl (base : Nat) (w : World) : TStep base w w := .of_below (Below.refl _ _)
theorem TStep.trans {w1 w2 : World} (h : TStep base w w1) (k : TStep base w1 w2) : TStep base w w2 :=
  ⟨k.os.trans h.os, k.tape.trans h.tape, k.output.trans h.output, Nat.le_trans h.size k.size, fun i hi hs => (k.block i (Nat.lt_of_lt_of_le hi h.size) (hs.imp id fun ⟨cur, E, fr, h1, h2⟩ => ⟨cur, E, fr, (h.block i hi (.inr ⟨cur, E, fr, h1, h2⟩)).trans h1, h2⟩)).trans (h.block i hi hs)⟩
theorem TStep.below {w' : World} (h : TStep base w w') (hb : base ≤ w.heap.size) : Below base w w' := ⟨h.os, h.tape, h.output, h.size, fun i hi => h.block i (Nat.lt_of_lt_of_le hi hb) (.inl hi)⟩
theorem TStep.grown {w' : World} {row : Option Nat} (hg : w.grownBy w' row) (hr : ∀ g, row = some g → base ≤ g ∧ ((∃ es c, w.heap[g]? = some (.map es c)) ∨ ∃ cur fr, w.heap[g]? = some (.cells cur 162 fr))) : TStep base w w' :=
  ⟨hg.os, hg.tape, hg.output, hg.size, fun i hi hs => hg.block i hi fun e => by
    obtain ⟨h1, h2⟩ := hr i e.symm
    rcases hs with hs | ⟨cur, E, fr, h3, h4⟩
    · omega
    · rcases h2 with ⟨es, c, h2⟩ | ⟨cur', fr', h2⟩
      · rw [h3] at h2; cases h2
      · rw [h3] at h2
        injection h2 with h2
        injection h2 with _ h2
        exact h4 h2⟩

set_option maxHeartbeats 1000000 in
set_option maxRecDepth 100000 in
theorem tfree_calls (h : TabAt base w B M n D T) (who : Int) (hw : okU who) :
    Calls Tryz.prog 53 #[.pointer (some ⟨B, 0, none⟩), .int .u32 who] w
      fun e w' => e = .returned (.int .i64 ((T who).length : Int)) ∧ TabP base w' B n (putT T who []) ∧ TStep base w w' := by
  have c0 := h.c0
  obtain ⟨v, hrun, hat, ho⟩ := h.map.look keyU lmap_under (TabAt.zero w) hw
  obtain ⟨A, c, rfl, hlc, hcm⟩ := ho.shape
  obtain ⟨w2, hdel, hM2, hturn⟩ := h.map.drop keyU lmap_under hw 0
  go_enter Tryz.func53, Tryz.ntmps53
  go_wp2_with (go_at_call 141; refine (tthere_calls h).mono ?_; rintro e w1 ⟨rfl, rfl⟩)
  go_ret
  have hMB := h.neM
  have hlow := h.map.low
  obtain ⟨es, clock, hb, _⟩ := h.map.own
  refine ⟨rfl, ⟨M, _, (hturn.grown.block B h.lt (fun e => hMB (by injection e with e; exact e.symm))).trans h.obj, hM2, h.low, fun o ho => h.dom o (fun e => ho ?_)⟩, .grown hturn.grown (fun g e => ?_)⟩
  · unfold putT
    split
    · rfl
    · exact e
  · injection e with e
    subst e
    exact ⟨hlow, .inl ⟨_, _, hb⟩⟩
end

end Go.Proofs.YtanjgeacmpmjhaaGreatDoor

set_option linter.unusedVariables false
set_option linter.unusedSimpArgs false
namespace Go.Proofs.YtanjgeacmpmjhaaGreatDoor

theorem NF_single {x : Span} (h : sle x.f x.t = true) : NF [x] := ⟨fun y hy => by rw [List.mem_singleton.1 hy]; exact h, List.pairwise_singleton ..⟩
theorem NF_two {x y : Span} (hx : sle x.f x.t = true) (hy : sle y.f y.t = true) (h : slt x.t y.f = true) : NF [x, y] :=
  ⟨fun z hz => by rcases List.mem_cons.1 hz with rfl | hz; · exact hx
                  · rw [List.mem_singleton.1 hz]; exact hy, by simp [h]⟩
theorem cov_two (x y : Span) (k : Str) (b : Bool) : cov [x, y] k b ↔ x.has k b ∨ y.has k b := by rw [cov_cons, cov_single]
theorem no_has {x : Span} (h : slt x.t x.f = true) (k : Str) (b : Bool) : ¬ x.has k b := fun hh => slt_sle_absurd h (sle_trans (Span.has_sle hh).1 (Span.has_sle hh).2)

theorem meet_eq_false {a b : Span} (h : ¬ (sle a.f a.t = true ∧ sle b.f b.t = true ∧ sle a.f b.t = true ∧ sle b.f a.t = true)) : meet4 a.f a.t b.f b.t = false := by
  cases hm : meet4 a.f a.t b.f b.t with
  | false => rfl
  | true => exact (h (meet4_true.1 hm)).elim

/-! SpansInside -/
theorem inside_in {a b : Span} (ha : sle a.f a.t = true) (h1 : sin b.f a.f a.t = true) (h2 : sin b.t a.f a.t = true) (h3 : sle b.f b.t = true) : meet4 a.f a.t b.f b.t = true ∧ joinF [a, b] = [a] := by
  unfold sin at h1 h2
  rw [Bool.and_eq_true] at h1 h2
  refine ⟨meet4_true.2 ⟨ha, h3, h2.1, h1.2⟩, (joinF_of (NF_single ha) fun k b' => ?_).symm⟩
  rw [cov_single, cov_two]
  refine ⟨.inl, fun h => h.elim id fun hb => ⟨sle_trans h1.1 hb.1, ?_⟩⟩
  have := hb.2
  split
  · rename_i hq; rw [if_pos hq] at this; exact slt_of_slt_sle this h2.2
  · rename_i hq; rw [if_neg hq] at this; exact sle_trans this h2.2

theorem inside_none {a b : Span} (ha : sle a.f a.t = true) (h : sle b.f b.t = false) : meet4 a.f a.t b.f b.t = false ∧ joinF [a, b] = [a] := by
  refine ⟨meet_eq_false fun hh => by rw [h] at hh; exact absurd hh.2.1 Bool.false_ne_true, (joinF_of (NF_single ha) fun k b' => ?_).symm⟩
  rw [cov_single, cov_two]
  exact ⟨.inl, fun hh => hh.elim id fun hb => (no_has (not_sle.1 h) k b' hb).elim⟩

theorem inside_low {a b : Span} (ha : sle a.f a.t = true) (hb : sle b.f b.t = true) (h : slt b.t a.f = true) : meet4 a.f a.t b.f b.t = false ∧ joinF [a, b] = [b, a] := by
  refine ⟨meet_eq_false fun hh => slt_sle_absurd h hh.2.2.1, (joinF_of (NF_two hb ha h) fun k b' => ?_).symm⟩
  rw [cov_two, cov_two]; exact or_comm

theorem inside_high {a b : Span} (ha : sle a.f a.t = true) (hb : sle b.f b.t = true) (h : slt a.t b.f = true) : meet4 a.f a.t b.f b.t = false ∧ joinF [a, b] = [a, b] :=
  ⟨meet_eq_false fun hh => slt_sle_absurd h hh.2.2.2, (joinF_of (NF_two ha hb h) fun k b' => Iff.rfl).symm⟩

/-- What two that meet have together, in whichever order they begin. -/
def hull (a b : Span) : Span := ⟨smin a.f b.f, smax a.t b.t⟩
theorem smax_comm (a b : Str) : smax a b = smax b a := by
  unfold smax
  cases h : slt a b
  · cases h' : slt b a
    · simp [slt_total h h']
    · simp
  · simp [slt_asymm h]
theorem smin_le_left (a b : Str) : sle (smin a b) a = true := by
  unfold smin
  split
  · rename_i h; exact sle_of_slt h
  · exact sle_refl _
theorem has_hull2 {a b : Span} (h : meet4 a.f a.t b.f b.t = true) (k : Str) (c : Bool) : (hull a b).has k c ↔ a.has k c ∨ b.has k c := by
  obtain ⟨h1, h2, h3, h4⟩ := meet4_true.1 h
  unfold hull smin
  split
  · rename_i hlt
    rw [smax_comm a.t b.t, has_hull (x := a) (l := b) (sle_of_slt hlt) h3]
    exact or_comm
  · rename_i hlt
    exact has_hull (x := b) (l := a) (by simpa [sle] using hlt) h4 k c
theorem hull_full {a b : Span} (h : sle a.f a.t = true) : sle (hull a b).f (hull a b).t = true := sle_trans (smin_le_left _ _) (sle_trans h (smax_ge_left _ _))

theorem inside_meet {a b : Span} (ha : sle a.f a.t = true) (hb : sle b.f b.t = true) (h1 : slt b.t a.f = false) (h2 : slt a.t b.f = false) : meet4 a.f a.t b.f b.t = true ∧ (joinF [a, b]).length = 1 := by
  have hm : meet4 a.f a.t b.f b.t = true := meet4_true.2 ⟨ha, hb, not_slt.1 h1, not_slt.1 h2⟩
  refine ⟨hm, ?_⟩
  rw [← joinF_of (NF_single (hull_full (b := b) ha)) fun k c => by rw [cov_single, cov_two, has_hull2 hm]]
  rfl

/-! SpansCut -/
theorem cut_join {a : Span} {k : Str} (h1 : sle a.f k = true) (h2 : sle k a.t = true) : joinF [⟨k, a.t⟩, ⟨a.f, k⟩] = [a] := by
  refine (joinF_of (NF_single (sle_trans h1 h2)) fun p c => ?_).symm
  rw [cov_single, cov_two]
  unfold Span.has
  simp only
  constructor
  · rintro ⟨a1, a2⟩
    rcases sle_or_slt k p with hk | hk
    · exact .inl ⟨hk, a2⟩
    · refine .inr ⟨a1, ?_⟩
      split
      · exact hk
      · exact sle_of_slt hk
  · rintro (⟨a1, a2⟩ | ⟨a1, a2⟩)
    · exact ⟨sle_trans h1 a1, a2⟩
    · refine ⟨a1, ?_⟩
      split
      · rename_i hc; rw [if_pos hc] at a2; exact slt_of_slt_sle a2 h2
      · rename_i hc; rw [if_neg hc] at a2; exact sle_trans a2 h2

theorem cut_meet {a x : Span} {k : Str} (h1 : sle a.f k = true) (h2 : sle k a.t = true) : meet4 x.f x.t a.f a.t = (meet4 x.f x.t a.f k || meet4 x.f x.t k a.t) := by
  rw [Bool.eq_iff_iff, Bool.or_eq_true, meet4_true, meet4_true, meet4_true]
  constructor
  · rintro ⟨g1, g2, g3, g4⟩
    rcases sle_or_slt x.f k with hk | hk
    · exact .inl ⟨g1, h1, hk, g4⟩
    · exact .inr ⟨g1, h2, g3, sle_trans (sle_of_slt hk) g1⟩
  · rintro (⟨g1, g2, g3, g4⟩ | ⟨g1, g2, g3, g4⟩)
    · exact ⟨g1, sle_trans h1 h2, sle_trans g3 h2, g4⟩
    · exact ⟨g1, sle_trans h1 h2, g3, sle_trans h1 g4⟩
theorem cut_two {a : Span} {k : Str} (h1 : sle a.f k = true) (h2 : sle k a.t = true) : meet4 a.f k k a.t = true := meet4_true.2 ⟨h1, h2, sle_trans h1 h2, sle_refl _⟩

/-! SpansBoth -/
theorem meet_self (a : Span) : meet4 a.f a.t a.f a.t = sle a.f a.t := by
  rw [Bool.eq_iff_iff, meet4_true]
  exact ⟨fun h => h.1, fun h => ⟨h, h, h, h⟩⟩
theorem both_in {a b : Span} {k : Str} (h1 : sin k a.f a.t = true) (h2 : sin k b.f b.t = true) : meet4 a.f a.t b.f b.t = true := by
  unfold sin at h1 h2
  rw [Bool.and_eq_true] at h1 h2
  exact meet4_true.2 ⟨sle_trans h1.1 h1.2, sle_trans h2.1 h2.2, sle_trans h1.1 h2.2, sle_trans h2.1 h1.2⟩

/-! SpansOps -/
theorem sin_self (k a : Str) : sin k a a = decide (k = a) := by
  rw [Bool.eq_iff_iff]
  unfold sin
  rw [Bool.and_eq_true, decide_eq_true_eq]
  exact ⟨fun h => (sle_antisymm h.1 h.2).symm, fun h => by rw [h]; exact ⟨sle_refl _, sle_refl _⟩⟩

/-! SpansWhole -/
theorem NF.next {xs : List Span} (h : NF xs) {i : Nat} {x y : Span} (hx : xs[i]? = some x) (hy : xs[i + 1]? = some y) : slt x.t y.f = true := by
  obtain ⟨h1, e1⟩ := List.getElem?_eq_some_iff.1 hx
  obtain ⟨h2, e2⟩ := List.getElem?_eq_some_iff.1 hy
  have := List.pairwise_iff_getElem.1 h.2 i (i + 1) h1 h2 (by omega)
  rw [e1, e2] at this
  exact this

end Go.Proofs.YtanjgeacmpmjhaaGreatDoor

set_option linter.unusedVariables false
set_option linter.unusedSimpArgs false
set_option linter.unusedSectionVars false
namespace Go.Proofs.YtanjgeacmpmjhaaGreatDoor
open Go.RowKit

section
variable {base : Nat} {w : World} {B M n : Nat} {D : DataW Value} {T : Tab}

set_option maxHeartbeats 1000000 in
set_option maxRecDepth 100000 in
theorem thas_calls (h : TabAt base w B M n D T) (who : Int) (hw : okU who) (hl : (T who).length ≤ 1000000) :
    Calls Tryz.prog 57 #[.pointer (some ⟨B, 0, none⟩), .int .u32 who] w
      fun e w' => ∃ v', e = .returned v' ∧ Own Span.enc 2 47 w.heap.size w' v' ((T who).map spOf) ∧ Below w.heap.size w w' := by
  have c0 := h.c0
  obtain ⟨v, hrun, hat, ho⟩ := h.map.look keyU lmap_under (TabAt.zero w) hw
  obtain ⟨A, c, rfl, hlc, hcm⟩ := ho.shape
  have hrd := ho.rd lock_len
  generalize hxs : T who = xs at *
  go_enter Tryz.func57, Tryz.ntmps57
  go_wp2_with (go_at_call 141; refine (tthere_calls h).mono ?_; rintro e w1 ⟨rfl, rfl⟩)
  clear hrun
  go_loopw [4, 17] (fun tv i wr => ∃ k : Nat, k ≤ xs.length ∧ i = .int .i64 k ∧ Own Span.enc 2 47 w.heap.size wr tv ((xs.take k).map spOf) ∧ Below w.heap.size w wr) (fun _ i _ => xs.length - (intOf i).toNat)
  case atStart => exact ⟨0, Nat.zero_le _, rfl, Own.nil _ _ _ _ _, Below.refl _ _⟩
  case round =>
    obtain ⟨k, hk, rfl, hown, hb⟩ := hrel
    obtain ⟨A', c', hsl, _⟩ := hown.slice
    rw [List.length_map, List.length_take_of_le hk] at hsl
    subst hsl
    by_cases hlt : k < xs.length
    · have HT := Lib.hid (List.take_succ_eq_append_getElem hlt)
      obtain ⟨b, o, rfl, hx1, hx2, hx3⟩ := (hrd.below hb).lock (List.getElem?_eq_getElem hlt)
      generalize xs[k] = x at *
      obtain ⟨xf, xt, xa⟩ := x
      simp only at hx1 hx2 hx3
      have hsz := hb.size
      have hba : Below wr.heap.size wr (wr.alloc (.cells #[.string xf, .string xt, .bool xa] 162)) := (Below.refl _ _).alloc (Nat.le_refl _) _
      have hownA := hown.below hba
      have hbA := Below.step hb hba
      have y0 : (wr.alloc (.cells #[.string xf, .string xt, .bool xa] 162)).cell? ⟨wr.heap.size, 0, none⟩ = some (.string xf) := World.cell?_alloc_at (w := wr) _ _ wr.heap.size 0 rfl
      have y1 : (wr.alloc (.cells #[.string xf, .string xt, .bool xa] 162)).cell? ⟨wr.heap.size, 1, none⟩ = some (.string xt) := World.cell?_alloc_at (w := wr) _ _ wr.heap.size 1 rfl
      go_wp2_with (at_builtin; refine append_oneH (W := wr.alloc (.cells #[.string xf, .string xt, .bool xa] 162)) (wr.heap.size + 1) (by simp) Span.enc 2 47 98 32 _ w.heap.size (.slice A' k c') ((xs.take k).map spOf) ⟨xf, xt⟩ rfl _ _ rfl Tryz.underlying98 info_span rfl (by decide) (by decide) span_len span_one rfl rfl hownA hbA (by simp; omega) (by rw [List.length_map, List.length_take_of_le hk]; omega) ?_; intro v' w' hown' hb' hgr hat2; clear hgr hat2 y0 y1 hx1 hx2 hx3 hownA hbA hba)
      go_roundw
      case rel =>
        refine ⟨k + 1, by omega, by go_num, ?_, hb'⟩
        rw [HT.out, List.map_append]
        exact hown'
      case measure => simp [intOf]; omega
    · have hkl : k = xs.length := by omega
      subst hkl
      rw [List.take_length] at hown
      go_wp2
      go_ret
      exact ⟨_, rfl, hown, hb⟩
end

end Go.Proofs.YtanjgeacmpmjhaaGreatDoor

set_option linter.unusedVariables false
set_option linter.unusedSimpArgs false
set_option linter.unusedSectionVars false
namespace Go.Proofs.YtanjgeacmpmjhaaGreatDoor
open Go.RowKit

/-! ### acts -/
structure LAct where
  q : Int
  who : Int
  f : ByteArray
  t : ByteArray
  a : Bool
abbrev LAct.enc (x : LAct) : List Value := [.int .u8 x.q, .int .u32 x.who, .string x.f, .string x.t, .bool x.a]
instance : Inhabited LAct := ⟨⟨0, 0, ByteArray.empty, ByteArray.empty, false⟩⟩
def LAct.ok (x : LAct) : Prop := (Lit.int .u8 x.q).wf = true ∧ okU x.who ∧ small x.f ∧ small x.t
theorem lact_len (x : LAct) : x.enc.length = 5 := rfl
theorem lact_one (x : LAct) : ∀ u ∈ x.enc, u.oneCell' = true := fun u hu => by
  simp only [List.mem_cons, List.not_mem_nil, or_false] at hu
  rcases hu with rfl | rfl | rfl | rfl | rfl <;> rfl
theorem lact_of {w : World} {cs : List Value} (h : Sh.holds w (.struct [.int .u8, .int .u32, .struct [.str, .str], .bool]) cs) : ∃ x : LAct, cs = x.enc ∧ x.ok := by
  rw [Sh.holds] at h
  simp only [Sh.holdsAll] at h
  obtain ⟨_, _, rfl, ⟨v0, rfl, h0⟩, _, _, rfl, ⟨v1, rfl, h1⟩, _, _, rfl, h2, _, _, rfl, ⟨v3, rfl⟩, rfl⟩ := h
  obtain ⟨s, rfl, h2a, h2b⟩ := span_of h2
  exact ⟨⟨v0, v1, s.f, s.t, v3⟩, rfl, h0, h1, h2a, h2b⟩
theorem lacts_of {w : World} {v : Value} (h : Sh.holds w (.slice (.struct [.int .u8, .int .u32, .struct [.str, .str], .bool]) 48) [v]) :
    ∃ xs : List LAct, Rd LAct.enc 5 w v xs ∧ xs.length * 48 ≤ 140737488351232 ∧ ∀ x ∈ xs, x.ok := rd_of (fun _ h => lact_of h) h
theorem Rd.lact {w : World} {A : Option Addr} {n c : Nat} {xs : List LAct} (h : Rd LAct.enc 5 w (.slice A n c) xs) {i : Nat} {x : LAct} (hi : xs[i]? = some x) :
    ∃ b o, A = some ⟨b, o, none⟩ ∧ w.cell? ⟨b, o + i * 5, none⟩ = some (.int .u8 x.q) ∧ w.cell? ⟨b, o + i * 5 + 1, none⟩ = some (.int .u32 x.who) ∧ w.cell? ⟨b, o + i * 5 + 2, none⟩ = some (.string x.f) ∧
      w.cell? ⟨b, o + i * 5 + 3, none⟩ = some (.string x.t) ∧ w.cell? ⟨b, o + i * 5 + 4, none⟩ = some (.bool x.a) := by
  obtain ⟨b, o, hA, hc⟩ := h.at_ hi
  exact ⟨b, o, hA, hc 0 _ rfl, hc 1 _ rfl, hc 2 _ rfl, hc 3 _ rfl, hc 4 _ rfl⟩
theorem LAct.byte {x : LAct} (h : x.ok) : 0 ≤ x.q ∧ x.q ≤ 255 := by
  have h := h.1
  simp [Lit.wf, IntKind.min, IntKind.max, IntKind.signed, IntKind.bits] at h
  omega

/-! ### what was told that all have -/
structure Held where
  who : Int
  f : ByteArray
  t : ByteArray
  a : Bool
abbrev Held.enc (x : Held) : List Value := [.int .u32 x.who, .string x.f, .string x.t, .bool x.a]
instance : Inhabited Held := ⟨⟨0, ByteArray.empty, ByteArray.empty, false⟩⟩
theorem held_len (x : Held) : x.enc.length = 4 := rfl
theorem held_one (x : Held) : ∀ u ∈ x.enc, u.oneCell' = true := fun u hu => by
  simp only [List.mem_cons, List.not_mem_nil, or_false] at hu
  rcases hu with rfl | rfl | rfl | rfl <;> rfl
theorem Rd.held {w : World} {A : Option Addr} {n c : Nat} {xs : List Held} (h : Rd Held.enc 4 w (.slice A n c) xs) {i : Nat} {x : Held} (hi : xs[i]? = some x) :
    ∃ b o, A = some ⟨b, o, none⟩ ∧ w.cell? ⟨b, o + i * 4, none⟩ = some (.int .u32 x.who) ∧ w.cell? ⟨b, o + i * 4 + 1, none⟩ = some (.string x.f) ∧
      w.cell? ⟨b, o + i * 4 + 2, none⟩ = some (.string x.t) ∧ w.cell? ⟨b, o + i * 4 + 3, none⟩ = some (.bool x.a) := by
  obtain ⟨b, o, hA, hc⟩ := h.at_ hi
  exact ⟨b, o, hA, hc 0 _ rfl, hc 1 _ rfl, hc 2 _ rfl, hc 3 _ rfl⟩

set_option maxHeartbeats 400000 in
theorem lgreat_calls (v : Value) (xs : List LAct) (w : World) (hv : Rd LAct.enc 5 w v xs) :
    Calls Tryz.prog 47 #[v] w fun e w' => (e = .returned (.bool true) ∨ (e = .returned (.bool false) ∧ xs.length ≤ 200)) ∧ Below w.heap.size w w' := by
  obtain ⟨A, c, rfl, hlc, hc⟩ := hv.shape
  go_enter Tryz.func47, Tryz.ntmps47
  go_wp2
  go_loopw [3, 4] (fun nv iv wr => ∃ (k : Nat) (n : Int), k ≤ xs.length ∧ iv = .int .i64 k ∧ nv = .int .i64 n ∧ Below w.heap.size w wr) (fun _ iv _ => xs.length - (intOf iv).toNat)
  case atStart => exact ⟨0, 0, Nat.zero_le _, rfl, rfl, Below.refl _ _⟩
  case round =>
    obtain ⟨k, n, hk, rfl, rfl, hb⟩ := hrel
    by_cases hlt : k < xs.length
    · have hxk := List.getElem?_eq_getElem hlt
      obtain ⟨b, o, rfl, hx1, hx2, hx3, hx4, hx5⟩ := (hv.below hb).lact hxk
      generalize xs[k] = x at *
      clear hx1 hx2 hx5
      go_wp2
      go_region
      all_goals go_wp2
      all_goals first
        | (go_ret
           exact ⟨.inl rfl, hb.drew⟩)
        | (go_roundw
           case rel => exact ⟨k + 1, _, by omega, by go_num, rfl, hb.drew⟩
           case measure => simp [intOf]; omega)
    · by_cases h2 : 200 < xs.length
      · go_wp2
        go_ret
        exact ⟨.inl (ret_bool (decide_eq_true (by omega))), hb⟩
      · go_wp2
        go_ret
        exact ⟨.inr ⟨ret_bool (decide_eq_false (by omega)), by omega⟩, hb⟩

end Go.Proofs.YtanjgeacmpmjhaaGreatDoor

set_option linter.unusedVariables false
set_option linter.unusedSimpArgs false
namespace Go.Proofs.YtanjgeacmpmjhaaGreatDoor

/-- one pass over those that are there: each that meets is taken in. -/
def Pass (x0 : Span) (out0 : List Span) (k : Nat) (x : Span) (rest : List Span) (again : Bool) : Prop :=
  rest.Sublist (out0.take k) ∧ sle x.f x.t = true ∧ (∀ p c, x.has p c ∨ cov rest p c ↔ x0.has p c ∨ cov (out0.take k) p c) ∧
    (again = false → x = x0 ∧ rest = out0.take k ∧ ∀ o ∈ rest, meet4 x.f x.t o.f o.t = false) ∧ (again = true → rest.length < k)

theorem Pass.start {x : Span} (hx : sle x.f x.t = true) (out : List Span) : Pass x out 0 x [] false :=
  ⟨by simp, hx, fun p c => by simp, fun _ => ⟨rfl, by simp, by simp⟩, fun h => by cases h⟩

theorem Pass.take {x0 x o : Span} {out0 rest : List Span} {k : Nat} {again : Bool} (h : Pass x0 out0 k x rest again) (ho : out0[k]? = some o) (hm : meet4 x.f x.t o.f o.t = true) : Pass x0 out0 (k + 1) (hull x o) rest true := by
  obtain ⟨h1, h2, h3, h4, h5⟩ := h
  obtain ⟨hl, he⟩ := List.getElem?_eq_some_iff.1 ho
  have ht : out0.take (k + 1) = out0.take k ++ [o] := by rw [List.take_succ_eq_append_getElem hl, he]
  refine ⟨?_, hull_full h2, fun p c => ?_, (fun h => by cases h), fun _ => ?_⟩
  · rw [ht]; exact h1.trans (List.sublist_append_left _ _)
  · rw [has_hull2 hm, ht, cov_append, cov_single, ← or_assoc, ← h3 p c, or_right_comm]
  · cases again
    · rw [(h4 rfl).2.1, List.length_take]; omega
    · have := h5 rfl; omega

theorem Pass.keep {x0 x o : Span} {out0 rest : List Span} {k : Nat} {again : Bool} (h : Pass x0 out0 k x rest again) (ho : out0[k]? = some o) (hm : meet4 x.f x.t o.f o.t = false) : Pass x0 out0 (k + 1) x (rest ++ [o]) again := by
  obtain ⟨h1, h2, h3, h4, h5⟩ := h
  obtain ⟨hl, he⟩ := List.getElem?_eq_some_iff.1 ho
  have ht : out0.take (k + 1) = out0.take k ++ [o] := by rw [List.take_succ_eq_append_getElem hl, he]
  refine ⟨?_, h2, fun p c => ?_, fun ha => ?_, fun ha => ?_⟩
  · rw [ht]; exact h1.append (List.Sublist.refl _)
  · rw [ht, cov_append, cov_append, cov_single, ← or_assoc, h3 p c, or_assoc]
  · obtain ⟨e1, e2, e3⟩ := h4 ha
    refine ⟨e1, by rw [ht, e2], fun y hy => ?_⟩
    rcases List.mem_append.1 hy with hy | hy
    · exact e3 y hy
    · rw [List.mem_singleton.1 hy]; exact hm
  · have := h5 ha; simp; omega

/-- all passes: what is there, and the one that is put, have what they had. -/
def Mid (x0 : Span) (out0 : List Span) (x : Span) (out : List Span) : Prop := NF out ∧ sle x.f x.t = true ∧ ∀ p c, x.has p c ∨ cov out p c ↔ x0.has p c ∨ cov out0 p c
theorem Mid.start {x : Span} {out : List Span} (h : NF out) (hx : sle x.f x.t = true) : Mid x out x out := ⟨h, hx, fun _ _ => Iff.rfl⟩
theorem Mid.pass {X0 x0 x : Span} {OUT0 out0 rest : List Span} {again : Bool} (hm : Mid X0 OUT0 x0 out0) (h : Pass x0 out0 out0.length x rest again) : Mid X0 OUT0 x rest ∧ (again = true → rest.length < out0.length) ∧ (again = false → ∀ o ∈ rest, meet4 x.f x.t o.f o.t = false) := by
  obtain ⟨h1, h2, h3, h4, h5⟩ := h
  rw [List.take_length] at h1 h3 h4
  exact ⟨⟨hm.1.sub h1, h2, fun p c => (h3 p c).trans (hm.2.2 p c)⟩, h5, fun ha => (h4 ha).2.2⟩

theorem ins_spec {x : Span} {out : List Span} {k : Nat} (h : NF out) (hx : sle x.f x.t = true) (hno : ∀ o ∈ out, meet4 x.f x.t o.f o.t = false) (hlo : ∀ o ∈ out.take k, slt o.f x.f = true) (hhi : ∀ o, out[k]? = some o → slt o.f x.f = false) :
    NF (out.take k ++ [x] ++ out.drop k) ∧ ∀ p c, cov (out.take k ++ [x] ++ out.drop k) p c ↔ x.has p c ∨ cov out p c := by
  have hlo' : ∀ o ∈ out.take k, slt o.t x.f = true := fun o ho => by
    have hm := hno o (List.mem_of_mem_take ho)
    have hf := h.1 o (List.mem_of_mem_take ho)
    rcases sle_or_slt x.f o.t with hle | hlt
    · rw [meet4_true.2 ⟨hx, hf, hle, sle_trans (sle_of_slt (hlo o ho)) hx⟩] at hm; cases hm
    · exact hlt
  have hhi' : ∀ o ∈ out.drop k, slt x.t o.f = true := fun o ho => by
    have hm := hno o (List.mem_of_mem_drop ho)
    have hf := h.1 o (List.mem_of_mem_drop ho)
    have hge : sle x.f o.f = true := by
      cases hd : out.drop k with
      | nil => rw [hd] at ho; cases ho
      | cons y ys =>
        have hy : out[k]? = some y := by
          have := List.getElem?_drop (xs := out) (i := k) (j := 0)
          rw [hd] at this
          simpa using this.symm
        have hyx := hhi y hy
        rw [hd] at ho
        rcases List.mem_cons.1 ho with rfl | ho
        · exact not_slt.1 hyx
        · have hp : (y :: ys).Pairwise fun x y => slt x.t y.f = true := hd ▸ h.2.sublist (List.drop_sublist k out)
          have := (List.pairwise_cons.1 hp).1 o ho
          exact sle_trans (not_slt.1 hyx) (sle_trans (h.1 y (List.mem_of_mem_drop (hd ▸ List.mem_cons_self ..))) (sle_of_slt this))
    rcases sle_or_slt o.f x.t with hle | hlt
    · rw [meet4_true.2 ⟨hx, hf, sle_trans hge hf, hle⟩] at hm; cases hm
    · exact hlt
  constructor
  · refine ⟨fun y hy => ?_, ?_⟩
    · rcases List.mem_append.1 hy with hy | hy
      · rcases List.mem_append.1 hy with hy | hy
        · exact h.1 y (List.mem_of_mem_take hy)
        · rw [List.mem_singleton.1 hy]; exact hx
      · exact h.1 y (List.mem_of_mem_drop hy)
    · rw [List.pairwise_append, List.pairwise_append]
      refine ⟨⟨h.2.sublist (List.take_sublist k out), List.pairwise_singleton .., fun a ha b hb => by rw [List.mem_singleton.1 hb]; exact hlo' a ha⟩, h.2.sublist (List.drop_sublist k out), fun a ha b hb => ?_⟩
      rcases List.mem_append.1 ha with ha | ha
      · have := slt_of_slt_sle (hlo' a ha) hx
        exact slt_trans this (hhi' b hb)
      · rw [List.mem_singleton.1 ha]; exact hhi' b hb
  · intro p c
    rw [cov_append, cov_append, cov_single]
    have : cov out p c ↔ cov (out.take k) p c ∨ cov (out.drop k) p c := by rw [← cov_append, List.take_append_drop]
    rw [this]
    constructor
    · rintro ((h | h) | h)
      · exact .inr (.inl h)
      · exact .inl h
      · exact .inr (.inr h)
    · rintro (h | h | h)
      · exact .inl (.inr h)
      · exact .inl (.inl h)
      · exact .inr h

/-- what is there behind so many of them. -/
def Joined (l : List Span) (i : Nat) (out : List Span) : Prop := NF out ∧ ∀ p c, cov out p c ↔ cov (l.take i) p c
theorem Joined.start (l : List Span) : Joined l 0 [] := ⟨NF.nil, fun p c => by simp⟩
theorem Joined.skip {l out : List Span} {i : Nat} {x : Span} (h : Joined l i out) (hx : l[i]? = some x) (hn : sle x.f x.t = false) : Joined l (i + 1) out := by
  obtain ⟨hl, he⟩ := List.getElem?_eq_some_iff.1 hx
  refine ⟨h.1, fun p c => ?_⟩
  rw [h.2, List.take_succ_eq_append_getElem hl, he, cov_append, cov_single]
  exact ⟨.inl, fun hh => hh.elim id fun hb => (no_has (not_sle.1 hn) p c hb).elim⟩
theorem Joined.ins {l out0 out : List Span} {i k : Nat} {x0 x : Span} (h : Joined l i out0) (hx : l[i]? = some x0) (hm : Mid x0 out0 x out) (hno : ∀ o ∈ out, meet4 x.f x.t o.f o.t = false) (hlo : ∀ o ∈ out.take k, slt o.f x.f = true) (hhi : ∀ o, out[k]? = some o → slt o.f x.f = false) :
    Joined l (i + 1) (out.take k ++ [x] ++ out.drop k) := by
  obtain ⟨hl, he⟩ := List.getElem?_eq_some_iff.1 hx
  obtain ⟨n1, n2⟩ := ins_spec hm.1 hm.2.1 hno hlo hhi
  refine ⟨n1, fun p c => ?_⟩
  rw [n2, hm.2.2, h.2, List.take_succ_eq_append_getElem hl, he, cov_append, cov_single]
  exact or_comm
theorem Joined.done {l out : List Span} (h : Joined l l.length out) : out = joinF l := joinF_of h.1 fun p c => by rw [h.2, List.take_length]

end Go.Proofs.YtanjgeacmpmjhaaGreatDoor

set_option linter.unusedVariables false
set_option linter.unusedSimpArgs false
set_option linter.unusedSectionVars false
namespace Go.Proofs.YtanjgeacmpmjhaaGreatDoor
open Go.RowKit

abbrev okS2 (x : Span) : Prop := x.f.size ≤ 9223372036854775807 ∧ x.t.size ≤ 9223372036854775807
theorem hull_ok {x y : Span} (hx : okS2 x) (hy : okS2 y) : okS2 (hull x y) := by
  unfold hull smin smax
  refine ⟨?_, ?_⟩
  · simp only; split
    · exact hy.1
    · exact hx.1
  · simp only; split
    · exact hy.2
    · exact hx.2

set_option maxHeartbeats 400000 in
theorem rjoin_calls (a b c d : ByteArray) (w : World) (ha : a.size ≤ 9223372036854775807) (hb : b.size ≤ 9223372036854775807) (hc : c.size ≤ 9223372036854775807) (hd : d.size ≤ 9223372036854775807) :
    Calls Tryz.prog 225 #[.agg #[.string a, .string b], .agg #[.string c, .string d]] w fun e w' => e = .returned (.agg #[.string (hull ⟨a, b⟩ ⟨c, d⟩).f, .string (hull ⟨a, b⟩ ⟨c, d⟩).t]) ∧ Below w.heap.size w w' := by
  have b1 : Below w.heap.size w (w.alloc (.cells #[.string a, .string b] 47)) := (Below.refl _ w).alloc (Nat.le_refl _) _
  have b2 : Below (w.heap.size + 1) (w.alloc (.cells #[.string a, .string b] 47)) ((w.alloc (.cells #[.string a, .string b] 47)).alloc (.cells #[.string c, .string d] 47)) := (Below.refl _ _).alloc (by simp) _
  have b3 : Below (w.heap.size + 1 + 1) ((w.alloc (.cells #[.string a, .string b] 47)).alloc (.cells #[.string c, .string d] 47)) (((w.alloc (.cells #[.string a, .string b] 47)).alloc (.cells #[.string c, .string d] 47)).alloc (.cells #[.string ⟨#[]⟩, .string ⟨#[]⟩] 47)) := (Below.refl _ _).alloc (by simp) _
  have o0 := (b3.block w.heap.size (by omega)).trans ((b2.block w.heap.size (by omega)).trans (alloc_new w (.cells #[.string a, .string b] 47)))
  have o1 := (b3.block (w.heap.size + 1) (by omega)).trans (alloc_newH (w := w.alloc (.cells #[.string a, .string b] 47)) (by simp) (.cells #[.string c, .string d] 47))
  have o2 : (((w.alloc (.cells #[.string a, .string b] 47)).alloc (.cells #[.string c, .string d] 47)).alloc (.cells #[.string ⟨#[]⟩, .string ⟨#[]⟩] 47)).heap[w.heap.size + 1 + 1]? = some (.cells #[.string ⟨#[]⟩, .string ⟨#[]⟩] 47 (0, 0)) := alloc_newH (by simp) _
  have hB : Below w.heap.size w (((w.alloc (.cells #[.string a, .string b] 47)).alloc (.cells #[.string c, .string d] 47)).alloc (.cells #[.string ⟨#[]⟩, .string ⟨#[]⟩] 47)) := (b1.trans (b2.mono (by omega))).trans (b3.mono (by omega))
  have hS : (((w.alloc (.cells #[.string a, .string b] 47)).alloc (.cells #[.string c, .string d] 47)).alloc (.cells #[.string ⟨#[]⟩, .string ⟨#[]⟩] 47)).heap.size = w.heap.size + 3 := by simp
  clear b1 b2 b3
  generalize hW : (((w.alloc (.cells #[.string a, .string b] 47)).alloc (.cells #[.string c, .string d] 47)).alloc (.cells #[.string ⟨#[]⟩, .string ⟨#[]⟩] 47)) = W at *
  have HW := Lib.hid hW
  clear hW
  have hlast : ∀ (W' : World) (x y : ByteArray), Below w.heap.size w W' → W'.heap[w.heap.size + 1 + 1]? = some (.cells #[.string ⟨#[]⟩, .string ⟨#[]⟩] 47 (0, 0)) →
      ((W'.setCell ⟨w.heap.size + 1 + 1, 0, none⟩ (.string x)).setCell ⟨w.heap.size + 1 + 1, 1, none⟩ (.string y)).heap[w.heap.size + 1 + 1]? = some (.cells #[.string x, .string y] 47 (0, 0)) ∧
      Below w.heap.size w ((W'.setCell ⟨w.heap.size + 1 + 1, 0, none⟩ (.string x)).setCell ⟨w.heap.size + 1 + 1, 1, none⟩ (.string y)) := fun W' x y hb ho =>
    ⟨Joins.block_setCell (i := 1) (Joins.block_setCell (i := 0) ho (.string x)) (.string y), (hb.setCell (by simp; omega) _).setCell (by simp; omega) _⟩
  have HLAST := Lib.hid hlast
  clear hlast
  have l1 := fun W' => less_calls c a W' hc ha
  have l2 := fun W' => less_calls b d W' hb hd
  have n01 : ¬ w.heap.size = w.heap.size + 1 := by omega
  have n10 : ¬ w.heap.size + 1 = w.heap.size := by omega
  have n02 : ¬ w.heap.size = w.heap.size + 1 + 1 := by omega
  have n20 : ¬ w.heap.size + 1 + 1 = w.heap.size := by omega
  have n12 : ¬ w.heap.size + 1 = w.heap.size + 1 + 1 := by omega
  have n21 : ¬ w.heap.size + 1 + 1 = w.heap.size + 1 := by omega
  unfold hull smin smax
  simp only
  cases h1 : slt c a <;> cases h2 : slt b d
  all_goals
    simp only [h1, h2] at l1 l2
    go_enter Tryz.func225, Tryz.ntmps225
    go_wp2_with fail
    rw [HW.out]
    clear HW
    have a0 := heap_cell o0 0
    have a1 := heap_cell o0 1
    have a2 := heap_cell o1 0
    have a3 := heap_cell o1 1
    simp only [List.getElem?_toArray, List.getElem?_cons_zero, List.getElem?_cons_succ] at a0 a1 a2 a3
    go_wp2_with (first
      | (go_at_call 181; refine (l1 _).mono ?_; rintro e w1 ⟨rfl, hb1⟩; clear l1; replace o0 := (hb1.block _ (by omega)).trans o0; replace o1 := (hb1.block _ (by omega)).trans o1; replace o2 := (hb1.block _ (by omega)).trans o2; replace hB := Below.step hB hb1; have hs1 : w.heap.size + 3 ≤ w1.heap.size := (by have := hb1.size; omega)
         clear hb1 hS a0 a1 a2 a3; have a0 := heap_cell o0 0; have a1 := heap_cell o0 1; have a2 := heap_cell o1 0; have a3 := heap_cell o1 1; simp only [List.getElem?_toArray, List.getElem?_cons_zero, List.getElem?_cons_succ] at a0 a1 a2 a3; have f0 := heap_free o0 0; have f1 := heap_free o0 1)
      | (go_at_call 181; refine (l2 _).mono ?_; rintro e w2 ⟨rfl, hb2⟩; clear l2
         have p0 := (hb2.block w.heap.size (by first | omega | (simp; omega))).trans (by first | exact o0 | exact Joins.block_setCell (i := 0) o0 (.string c))
         have p1 := (hb2.block (w.heap.size + 1) (by first | omega | (simp; omega))).trans (by first | exact o1 | exact (Turn.setCell w1 w.heap.size 0 (.string c)).heap o1 (by omega))
         have p2 := (hb2.block (w.heap.size + 1 + 1) (by first | omega | (simp; omega))).trans (by first | exact o2 | exact (Turn.setCell w1 w.heap.size 0 (.string c)).heap o2 (by omega))
         have hB2 : Below w.heap.size w w2 := Below.step (by first | exact hB | exact hB.setCell (Nat.le_refl _) _) hb2
         clear hb2 o0 o1 o2 hB a0 a1 a2 a3 f0 f1
         try simp only [List.setIfInBounds_toArray, List.set_cons_zero] at p0
         have a0 := heap_cell p0 0; have a1 := heap_cell p0 1; have a2 := heap_cell p1 0; have a3 := heap_cell p1 1; simp only [List.getElem?_toArray, List.getElem?_cons_zero, List.getElem?_cons_succ] at a0 a1 a2 a3; have f1 := heap_free p0 1; have f2 := heap_free p2 0; have f3 := heap_free p2 1; have r0 := heap_cell p2 0; have r1 := heap_cell p2 1; simp only [List.getElem?_toArray, List.getElem?_cons_zero, List.getElem?_cons_succ] at r0 r1))
    first
      | (have h2' : slt b d = false := h2
         have hq := fun x y => HLAST.out _ x y hB2 p2
         exact bodyPost_ret (results_cell_row rfl _ _ (w.heap.size + 1 + 1) _ _ _ _ rfl (hq _ _).1 Tryz.underlying47 rfl (by kernel_rfl)) rfl ⟨rfl, (hq _ _).2⟩)
      | (have hq := fun x y => HLAST.out _ x y (hB2.setCell (Nat.le_refl _) (.string d) (p := ⟨w.heap.size, 1, none⟩)) ((Turn.setCell w2 w.heap.size 1 (.string d)).heap p2 (by omega))
         exact bodyPost_ret (results_cell_row rfl _ _ (w.heap.size + 1 + 1) _ _ _ _ rfl (hq _ _).1 Tryz.underlying47 rfl (by kernel_rfl)) rfl ⟨rfl, (hq _ _).2⟩)

end Go.Proofs.YtanjgeacmpmjhaaGreatDoor
