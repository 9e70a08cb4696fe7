import Derived.Test.YtanjgeacmpmjhaaGreatDoorChange
set_option linter.unusedVariables false
set_option linter.unusedSimpArgs false
namespace Go.Proofs.YtanjgeacmpmjhaaGreatDoor
open Go.RowKit Go.Shelf

/-- Two maps have nothing in common. -/
structure Apart (B : Nat) (v : Value) (C : Nat) (u : Value) : Prop where
  ne : C ≠ B
  left : v.ownBlock ≠ some C
  right : u.ownBlock ≠ some B
  own : ∀ k, u.ownBlock = some k → v.ownBlock ≠ some k

theorem Apart.symm {B C : Nat} {v u : Value} (h : Apart B v C u) : Apart C u B v := ⟨h.ne.symm, h.right, h.left, fun k e e' => h.own k e' e⟩

theorem MapAt.lower {base base' : Nat} {w : World} {B : Nat} {v : Value} {xs : List Row} (h : MapAt base w B v xs) (hb : base' ≤ base) : MapAt base' w B v xs :=
  ⟨h.obj, ownsRow_lower h.own hb, h.rise, h.apart, Nat.le_trans hb h.low⟩

theorem Apart.step {b : Nat} {w w' : World} {B C : Nat} {v v' u : Value} {ys : List Row} (h : Apart B v C u) (hC : MapAt b w C u ys) (s : Step w w' B v v') : Apart B v' C u ∧ MapAt b w' C u ys := by
  have hlt := hC.lt
  refine ⟨⟨h.ne, fun e => ?_, h.right, fun k e e' => ?_⟩, ⟨(s.block C hlt h.ne h.left).trans hC.obj, ?_, hC.rise, hC.apart, hC.low⟩⟩
  · rcases s.new C e with e | e
    · exact h.left e
    · omega
  · have hk := hC.own.lt k e
    rcases s.new k e' with e'' | e''
    · exact h.own k e e''
    · omega
  · refine ⟨hC.own.1, ?_⟩
    rcases hC.own.2 with e | ⟨g, cap, cur, rfl, h2, h3, h4⟩
    · exact .inl e
    · refine .inr ⟨g, cap, cur, rfl, h2, (s.block g (Array.getElem?_eq_some_iff.1 h3).1 (fun e => h.right (by rw [e]; rfl)) (h.own g rfl)).trans h3, h4⟩

theorem Apart.new {b b' : Nat} {w w' : World} {B C : Nat} {v u : Value} {xs ys : List Row} (hB : MapAt b w B v xs) (hC : MapAt w.heap.size w' C u ys) : Apart B v C u := by
  have h1 := hB.lt
  have h2 := hC.low
  refine ⟨by omega, fun e => ?_, fun e => ?_, fun k e e' => ?_⟩
  · have := hB.own.lt C e; omega
  · have := hC.own.base_le B e; omega
  · have := hB.own.lt k e'; have := hC.own.base_le k e; omega

end Go.Proofs.YtanjgeacmpmjhaaGreatDoor
