import Derived.Test.YtanjgeacmpmjhaaGreatDoorProg
import Derived.Test.YtanjgeacmpmjhaaGreatDoorKinds
import Derived.Test.YtanjgeacmpmjhaaGreatDoorVerP
import Derived.Test.YtanjgeacmpmjhaaGreatDoorSMap
import Derived.Test.YtanjgeacmpmjhaaGreatDoorMgVersionsPlay2
set_option linter.unusedVariables false
set_option linter.unusedSimpArgs false
namespace Go.Proofs.YtanjgeacmpmjhaaGreatDoor
open Go.RowKit

abbrev klS (s : ByteArray) : Lit := Lit.string s.data.toList
abbrev okS (s : ByteArray) : Prop := s.size ≤ maxLen
theorem keyS : KeyOk Tryz.prog 9 Value.string klS okS := keyOk_string (by kernel_rfl)

/-- A past of rows that lies at block B. -/
structure PastAt (base : Nat) (w : World) (B M n : Nat) (D : DataW Value) (hist : List (List Change)) (trim : Nat) (H : Hist) : Prop where
  obj : w.heap[B]? = some (.cells #[.map (some M), .int .u32 (hist.length : Int), .int .u32 (trim : Int)] 142 (0, 0))
  map : SMap Tryz.prog 9 klS okS Was.enc 3 149 base w M n D H
  past : Past hist trim H
  low : base ≤ B
  cnt : n ≤ hist.flatten.length
  len : ∀ k, (H k).length ≤ hist.flatten.length
def PastP (base : Nat) (w : World) (B : Nat) (hist : List (List Change)) (trim : Nat) : Prop := ∃ M n D H, PastAt base w B M n D hist trim H

/-- A block that no act on a past may turn. -/
def Safe (base : Nat) (w : World) (b : Nat) : Prop := b < base ∨ ∃ cur E fr, w.heap[b]? = some (.cells cur E fr) ∧ E ≠ 149 ∧ E ≠ 142
/-- What an act on a past may have turned. -/
structure PStep (base : Nat) (w w' : World) : Prop where
  os : w'.os = w.os
  tape : w'.tape = w.tape
  output : w'.output = w.output
  size : w.heap.size ≤ w'.heap.size
  block : ∀ i, i < w.heap.size → Safe base w i → w'.heap[i]? = w.heap[i]?

theorem PStep.of_below {base : Nat} {w w' : World} (h : Below w.heap.size w w') : PStep base w w' := ⟨h.os, h.tape, h.output, h.size, fun i hi _ => h.block i hi⟩
theorem Safe.step {base : Nat} {w w' : World} {b : Nat} (h : Safe base w b) (s : PStep base w w') (hb : b < w.heap.size) : Safe base w' b := by
  rcases h with h | ⟨cur, E, fr, h1, h2⟩
  · exact .inl h
  · exact .inr ⟨cur, E, fr, (s.block b hb (.inr ⟨cur, E, fr, h1, h2⟩)).trans h1, h2⟩
theorem PStep.trans {base : Nat} {w w1 w2 : World} (h : PStep base w w1) (k : PStep base w1 w2) : PStep base w w2 :=
  ⟨k.os.trans h.os, k.tape.trans h.tape, k.output.trans h.output, Nat.le_trans h.size k.size, fun i hi hs => (k.block i (Nat.lt_of_lt_of_le hi h.size) (hs.step h hi)).trans (h.block i hi hs)⟩
theorem PStep.refl (base : Nat) (w : World) : PStep base w w := .of_below (Below.refl _ _)
theorem PStep.below {base : Nat} {w w' : World} (h : PStep base w w') (hb : base ≤ w.heap.size) : Below base w w' := ⟨h.os, h.tape, h.output, h.size, fun i hi => h.block i (Nat.lt_of_lt_of_le hi hb) (.inl hi)⟩
theorem PStep.grown {base : Nat} {w w' : World} {row : Option Nat} (hg : w.grownBy w' row) (hr : ∀ g, row = some g → ¬ Safe base w g) : PStep base w w' :=
  ⟨hg.os, hg.tape, hg.output, hg.size, fun i hi hs => hg.block i hi fun e => hr i e.symm hs⟩

theorem safe_map {base : Nat} {w : World} {b : Nat} {es : Array MapEntry} {c : Nat} (h : w.heap[b]? = some (.map es c)) (hb : base ≤ b) : ¬ Safe base w b := by
  rintro (h1 | ⟨cur, E, fr, h1, _⟩)
  · omega
  · rw [h] at h1; cases h1
theorem safe_was {base : Nat} {w : World} {b : Nat} {cur : Array Value} {fr : Nat × Nat} (h : w.heap[b]? = some (.cells cur 149 fr)) (hb : base ≤ b) : ¬ Safe base w b := by
  rintro (h1 | ⟨cur', E, fr', h1, h2, _⟩)
  · omega
  · rw [h] at h1
    injection h1 with h1
    injection h1 with _ h1
    exact h2 h1.symm
theorem safe_past {base : Nat} {w : World} {b : Nat} {cur : Array Value} {fr : Nat × Nat} (h : w.heap[b]? = some (.cells cur 142 fr)) (hb : base ≤ b) : ¬ Safe base w b := by
  rintro (h1 | ⟨cur', E, fr', h1, _, h2⟩)
  · omega
  · rw [h] at h1
    injection h1 with h1
    injection h1 with _ h1
    exact h2 h1.symm

/-! ### whose blocks are turned -/
/-- What an act on a past may have turned, that has blocks of U alone. -/
structure PStepU (base : Nat) (U : Nat → Prop) (w w' : World) : Prop where
  os : w'.os = w.os
  tape : w'.tape = w.tape
  output : w'.output = w.output
  size : w.heap.size ≤ w'.heap.size
  block : ∀ i, i < w.heap.size → Safe base w i ∨ ¬ U i → w'.heap[i]? = w.heap[i]?
theorem PStepU.of_below {base : Nat} {U : Nat → Prop} {w w' : World} (h : Below w.heap.size w w') : PStepU base U w w' := ⟨h.os, h.tape, h.output, h.size, fun i hi _ => h.block i hi⟩
theorem PStepU.step {base : Nat} {U : Nat → Prop} {w w' : World} (h : PStepU base U w w') : PStep base w w' := ⟨h.os, h.tape, h.output, h.size, fun i hi hs => h.block i hi (.inl hs)⟩
theorem PStepU.trans {base : Nat} {U : Nat → Prop} {w w1 w2 : World} (h : PStepU base U w w1) (k : PStepU base U w1 w2) : PStepU base U w w2 :=
  ⟨k.os.trans h.os, k.tape.trans h.tape, k.output.trans h.output, Nat.le_trans h.size k.size, fun i hi hs => (k.block i (Nat.lt_of_lt_of_le hi h.size) (hs.imp (fun s => s.step h.step hi) id)).trans (h.block i hi hs)⟩
theorem PStepU.refl (base : Nat) (U : Nat → Prop) (w : World) : PStepU base U w w := .of_below (Below.refl _ _)
theorem PStepU.grown {base : Nat} {U : Nat → Prop} {w w' : World} {row : Option Nat} (hg : w.grownBy w' row) (hr : ∀ g, row = some g → ¬ Safe base w g ∧ U g) : PStepU base U w w' :=
  ⟨hg.os, hg.tape, hg.output, hg.size, fun i hi hs => hg.block i hi fun e => hs.elim (fun s => (hr i e.symm).1 s) fun s => s (hr i e.symm).2⟩

/-- the rows of a map lie in blocks of U. -/
def OwnD (U : Nat → Prop) (D : DataW Value) : Prop := ∀ (x : ByteArray) (v : Value) (g : Nat), okS x → D.atKey (klS x) nilD = .held v → v.ownBlock = some g → U g
def PastU (base : Nat) (U : Nat → Prop) (w : World) (B : Nat) (hist : List (List Change)) (trim : Nat) : Prop := ∃ M n D H, PastAt base w B M n D hist trim H ∧ U B ∧ U M ∧ OwnD U D
theorem PastU.past {base : Nat} {U : Nat → Prop} {w : World} {B : Nat} {hist : List (List Change)} {trim : Nat} (h : PastU base U w B hist trim) : PastP base w B hist trim := by
  obtain ⟨M, n, D, H, h, _⟩ := h
  exact ⟨M, n, D, H, h⟩
theorem OwnD.all (D : DataW Value) : OwnD (fun _ => True) D := fun _ _ _ _ _ _ => trivial
theorem OwnD.put {U : Nat → Prop} {D : DataW Value} (hM : Maps.IsMap D) {x : ByteArray} {v' : Value} (h : OwnD U D) (hx : okS x) (hv : ∀ g, v'.ownBlock = some g → U g) : OwnD U (D.put (klS x) (.held v')) := fun y v g hy hat hg => by
  by_cases e : x = y
  · subst e
    rw [Maps.atKey_put_same hM (keyS.law.key (keyS.of x hx))] at hat
    injection hat with hat
    subst hat
    exact hv g hg
  · rw [Maps.atKey_put_other (fun e' => e (keyS.inj _ _ e').symm)] at hat
    exact h y v g hy hat hg

/-- A slice that is read, whose cells no act on a past turns. -/
def RdS {α : Type} (enc : α → List Value) (k : Nat) (base : Nat) (w : World) (v : Value) (xs : List α) : Prop := Rd enc k w v xs ∧ ∀ b, v.ownBlock = some b → 0 < xs.length → Safe base w b
theorem RdS.step {α : Type} {enc : α → List Value} {k base : Nat} {w w' : World} {v : Value} {xs : List α} (hk : ∀ x, (enc x).length = k) (hk0 : 0 < k) (h : RdS enc k base w v xs) (s : PStep base w w') : RdS enc k base w' v xs := by
  obtain ⟨⟨A, c, hv, hl, hc, hr⟩, hs⟩ := h
  refine ⟨⟨A, c, hv, hl, hc, fun hp => ?_⟩, fun b hb hp => ?_⟩
  · obtain ⟨b, o, hA, hcell⟩ := hr hp
    have hsafe := hs b (by rw [hv, hA]; rfl) hp
    refine ⟨b, o, hA, fun i x hi j u hu => ?_⟩
    have h1 := hcell i x hi j u hu
    have hlt := World.block_lt_of_cell? w _ h1
    exact (World.cell?_of_block (w := w) (s.block b hlt hsafe)).trans h1
  · obtain ⟨b', o, hA, hcell⟩ := hr hp
    have e : b' = b := by
      rw [hv, hA] at hb
      simpa [Value.ownBlock] using hb
    subst e
    have hx := List.getElem?_eq_getElem hp
    have hn : 0 < (enc xs[0]).length := by rw [hk]; exact hk0
    have h1 := hcell 0 _ hx 0 _ (List.getElem?_eq_getElem hn)
    exact (hs b' (by rw [hv, hA]; rfl) hp).step s (World.block_lt_of_cell? w _ h1)

/-- what lay below stays readable. -/
theorem RdS.of_low {α : Type} {enc : α → List Value} {k : Nat} {w0 w : World} {v : Value} {xs : List α} (hk : ∀ x, (enc x).length = k) (hk0 : 0 < k) (h : Rd enc k w0 v xs) (hb : Below w0.heap.size w0 w) {base : Nat} (hbase : w0.heap.size ≤ base) : RdS enc k base w v xs := by
  refine ⟨h.below hb, fun b hv hp => .inl ?_⟩
  obtain ⟨A, c, e, _, _, hr⟩ := h
  obtain ⟨b', o, hA, hcell⟩ := hr hp
  have e' : b' = b := by
    rw [e, hA] at hv
    simpa [Value.ownBlock] using hv
  subst e'
  have hn : 0 < (enc xs[0]).length := by rw [hk]; exact hk0
  have h1 := hcell 0 _ (List.getElem?_eq_getElem hp) 0 _ (List.getElem?_eq_getElem hn)
  exact Nat.lt_of_lt_of_le (World.block_lt_of_cell? w0 _ h1) hbase

section
variable {base : Nat} {w : World} {B M n : Nat} {D : DataW Value} {hist : List (List Change)} {trim : Nat} {H : Hist}

theorem PastAt.lt (h : PastAt base w B M n D hist trim H) : B < w.heap.size := (Array.getElem?_eq_some_iff.1 h.obj).1
theorem PastAt.below {w' : World} (h : PastAt base w B M n D hist trim H) (hb : Below w.heap.size w w') : PastAt base w' B M n D hist trim H :=
  ⟨(hb.block B h.lt).trans h.obj, h.map.below hb, h.past, h.low, h.cnt, h.len⟩
theorem PastP.below {w' : World} (h : PastP base w B hist trim) (hb : Below w.heap.size w w') : PastP base w' B hist trim := by
  obtain ⟨M, n, D, H, h⟩ := h
  exact ⟨M, n, D, H, h.below hb⟩
theorem PastAt.c0 (h : PastAt base w B M n D hist trim H) : w.cell? ⟨B, 0, none⟩ = some (.map (some M)) := by simp [World.cell?, h.obj]
theorem PastAt.c1 (h : PastAt base w B M n D hist trim H) : w.cell? ⟨B, 1, none⟩ = some (.int .u32 (hist.length : Int)) := by simp [World.cell?, h.obj]
theorem PastAt.c2 (h : PastAt base w B M n D hist trim H) : w.cell? ⟨B, 2, none⟩ = some (.int .u32 (trim : Int)) := by simp [World.cell?, h.obj]
theorem PastAt.f (h : PastAt base w B M n D hist trim H) (i : Nat) : w.frozen? ⟨B, i, none⟩ = false := by simp [World.frozen?, h.obj]

/-- The past's own block is none of its rows'. -/
theorem PastAt.offB (h : PastAt base w B M n D hist trim H) {k : ByteArray} {v : Value} (hk : okS k) (hv : D.atKey (klS k) nilD = .held v) : v.ownBlock ≠ some B := fun e => by
  obtain ⟨v', hv', ho⟩ := h.map.elem k hk
  rw [hv] at hv'
  injection hv' with hv'
  subst hv'
  obtain ⟨_, _, cur, hc⟩ := ho.lt B e
  rw [h.obj] at hc
  injection hc with hc
  injection hc with _ hc
  exact absurd hc (by decide)
theorem PastAt.neM (h : PastAt base w B M n D hist trim H) : M ≠ B := fun e => by
  obtain ⟨es, clock, hb, _⟩ := h.map.own
  rw [e, h.obj] at hb
  cases hb
end

end Go.Proofs.YtanjgeacmpmjhaaGreatDoor
