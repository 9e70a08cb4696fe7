import Derived.Test.YtanjgeacmpmjhaaGreatDoorBkCRC
import Derived.Test.YtanjgeacmpmjhaaGreatDoorR13b
import Derived.Test.YtanjgeacmpmjhaaGreatDoorTwo0
import Derived.Test.YtanjgeacmpmjhaaGreatDoorScan2
import Derived.Test.YtanjgeacmpmjhaaGreatDoorChange
set_option linter.unusedVariables false
set_option linter.unusedSimpArgs false
set_option linter.unusedSectionVars false
namespace Go.Proofs.YtanjgeacmpmjhaaGreatDoor
open Go.RowKit

theorem Step.turn {w w' : World} {B : Nat} {v v' : Value} (s : Step w w' B v v') : Turn (fun g => g = B ∨ v.ownBlock = some g) w w' :=
  ⟨s.os, s.tape, s.output, s.size, fun i hi h => s.block i hi (fun e => h (.inl e)) (fun e => h (.inr e))⟩

/-- The play: the program's map, the reference's, and the Book. -/
structure PlayAt (base : Nat) (w : World) (B : Nat) (v : Value) (xs : List Row) (C : Nat) (u : Value) (ys : List Row) (K n : Nat) (vR : Value) (hsR : List Hd) (vC : Value) (hsC : List Hd) : Prop where
  m : MapAt base w B v xs
  r : RMap base w C u ys
  k : BookRC base w K n vR hsR vC hsC
  uv : ∀ g, v.ownBlock = some g → u.ownBlock ≠ some g
  kv : ∀ g, v.ownBlock = some g → ¬ Blk hsR g
section
variable {base : Nat} {w w' w'' : World} {B : Nat} {v v' : Value} {xs xs' : List Row} {C : Nat} {u u' : Value} {ys ys' : List Row} {K n : Nat} {vR : Value} {hsR : List Hd} {vC : Value} {hsC : List Hd}
theorem PlayAt.below (h : PlayAt base w B v xs C u ys K n vR hsR vC hsC) (hb : Below w.heap.size w w') : PlayAt base w' B v xs C u ys K n vR hsR vC hsC :=
  ⟨h.m.below hb, h.r.below hb, h.k.below hb, h.uv, h.kv⟩
/-- What an act on the program's map may turn, by types. -/
theorem PlayAt.stepT (h : MapAt base w B v xs) (s : Step w w' B v v') : TurnT base w w' [124, 44] :=
  ⟨_, s.turn, fun g hg => hg.elim (fun e => ⟨e ▸ h.low, _, _, e ▸ h.obj, by simp⟩) (fun e => ⟨(h.own.typed g e).1, _, _, (h.own.typed g e).2.choose_spec, by simp⟩)⟩
/-- An act on the program's map. -/
theorem PlayAt.step (h : PlayAt base w B v xs C u ys K n vR hsR vC hsC) (s : Step w w' B v v') (m' : MapAt base w' B v' xs') : PlayAt base w' B v' xs' C u ys K n vR hsR vC hsC := by
  have ht := s.turn
  have hty : ∀ g cur T, (g = B ∨ v.ownBlock = some g) → w.heap[g]? = some (.cells cur T (0, 0)) → T = 124 ∨ T = 44 := by
    intro g cur T hg e
    rcases hg with rfl | hg
    · have := h.m.obj.symm.trans e
      simp only [Option.some.injEq, Obj.cells.injEq] at this
      exact .inl this.2.1.symm
    · have := (h.m.own.typed g hg).2.choose_spec.symm.trans e
      simp only [Option.some.injEq, Obj.cells.injEq] at this
      exact .inr this.2.1.symm
  have hk := h.k.keepF ht (fun g cur T f e hm => by
    rcases hty g cur T f e with rfl | rfl
    · exact absurd hm (by decide)
    · exact absurd hm (by decide)) (fun g hb f => by
      rcases f with rfl | f
      · exact ne_typed h.m.obj (h.k.pRow.fil.typed hb).2.choose_spec (by decide) rfl
      · exact h.kv g f hb) (fun g hb f => by
      rcases f with rfl | f
      · exact ne_typed h.m.obj (h.k.pChange.fil.typed hb).2.choose_spec (by decide) rfl
      · exact ne_typed (h.m.own.typed g f).2.choose_spec (h.k.pChange.fil.typed hb).2.choose_spec (by decide) rfl)
  refine ⟨m', ⟨ht.heap h.r.obj ?_, h.r.own.turn ht ?_, h.r.rise, h.r.ok, h.r.low⟩, hk, fun g hg e => ?_, fun g hg hb => ?_⟩
  · rintro (e | e)
    · exact ne_typed h.r.obj h.m.obj (by decide) e
    · exact ne_typed h.r.obj (h.m.own.typed _ e).2.choose_spec (by decide) rfl
  · rintro g hg (e | e)
    · subst e; exact ne_typed h.m.obj (h.r.own.typed _ hg).2.choose_spec (by decide) rfl
    · exact h.uv g e hg
  · rcases s.new g hg with h1 | h1
    · exact h.uv g h1 e
    · have := h.r.own.lt g e; omega
  · rcases s.new g hg with h1 | h1
    · exact h.kv g h1 hb
    · have := (Array.getElem?_eq_some_iff.1 (h.k.pRow.fil.typed hb).2.choose_spec).1; omega
/-- An act on the reference's map. -/
theorem PlayAt.rstep (h : PlayAt base w B v xs C u ys K n vR hsR vC hsC) (t : Turn (fun g => g = C) w w') (r' : RMap base w' C u' ys') (hnew : ∀ g, u'.ownBlock = some g → u.ownBlock = some g ∨ w.heap.size ≤ g) : PlayAt base w' B v xs C u' ys' K n vR hsR vC hsC := by
  refine ⟨⟨t.heap h.m.obj (ne_typed h.m.obj h.r.obj (by decide)), h.m.own.turn t fun g hg e => ?_, h.m.rise, h.m.apart, h.m.low⟩, r', h.k.keepF t (fun g cur T f e hm => ?_) (fun g hb f => ?_) (fun g hb f => ?_), fun g hg e => ?_, h.kv⟩
  · subst e; exact ne_typed h.r.obj (h.m.own.typed _ hg).2.choose_spec (by decide) rfl
  · subst f
    have := h.r.obj.symm.trans e
    simp only [Option.some.injEq, Obj.cells.injEq] at this
    rw [← this.2.1] at hm
    exact absurd hm (by decide)
  · subst f; exact ne_typed h.r.obj (h.k.pRow.fil.typed hb).2.choose_spec (by decide) rfl
  · subst f; exact ne_typed h.r.obj (h.k.pChange.fil.typed hb).2.choose_spec (by decide) rfl
  · rcases hnew g e with h1 | h1
    · exact h.uv g hg h1
    · have := h.m.own.lt g hg; omega
/-- The play goes on with a twin; the old map is put to. -/
theorem PlayAt.twin (h : PlayAt base w B v xs C u ys K n vR hsR vC hsC) (hb : Below w.heap.size w w') (hw : base ≤ w.heap.size) {B' : Nat} {v1 : Value} {xs1 : List Row} (m' : MapAt w.heap.size w' B' v' xs') (s : Step w' w'' B v v1) (m1 : MapAt base w'' B v1 xs1) : PlayAt base w'' B' v' xs' C u ys K n vR hsR vC hsC := by
  have h2 := (h.below hb).step s m1
  have m2 := ((Apart.new (b' := base) h.m m').step m' s).2
  refine ⟨m2.lower hw, h2.r, h2.k, fun g hg e => ?_, fun g hg e => ?_⟩
  · have := h.r.own.lt g e; have := m'.own.base_le g hg; omega
  · have := (Array.getElem?_eq_some_iff.1 (h.k.pRow.fil.typed e).2.choose_spec).1; have := m'.own.base_le g hg; omega
theorem PlayAt.rtwin (h : PlayAt base w B v xs C u ys K n vR hsR vC hsC) (hb : Below w.heap.size w w') (hw : base ≤ w.heap.size) {C' : Nat} (r' : RMap w.heap.size w' C' u' ys') : PlayAt base w' B v xs C' u' ys' K n vR hsR vC hsC :=
  ⟨h.m.below hb, ⟨r'.obj, r'.own.lower hw, r'.rise, r'.ok, Nat.le_trans hw r'.low⟩, h.k.below hb, fun g hg e => by have := h.m.own.lt g hg; have := r'.own.base_le g e; omega, h.kv⟩
theorem PlayAt.tellRow (h : PlayAt base w B v xs C u ys K n vR hsR vC hsC) (hlen : hsR.length < 100000) (hn : n < 100000) (hbase : base ≤ w.heap.size) {A : Option Addr} {m c : Nat} {zs : List Row} (o : Own Row.enc 2 44 base w (.slice A m c) zs) (hz : zs.length ≤ 1000000)
    (hoff : ∀ g, (Value.slice A m c).ownBlock = some g → ¬ Blk hsR g ∧ v.ownBlock ≠ some g) :
    Calls Tryz.prog 22 #[.pointer (some ⟨K, 0, none⟩), .slice A m c] w fun e w' => e = .returned (.tuple #[]) ∧
      (∃ v', PlayAt base w' B v xs C u ys K (n + 1) v' (hsR ++ [⟨.slice A m c, nilV, n + 1⟩]) vC hsC) ∧ TurnT base w w' [bookT, 206] :=
  (h.k.tellRow hlen hn hbase o hz fun g hg => (hoff g hg).1).mono fun e w' ⟨he, ⟨v', k'⟩, t⟩ => ⟨he, ⟨v', ⟨t.heap h.m.obj (by decide), t.own h.m.own (by decide), h.m.rise, h.m.apart, h.m.low⟩, ⟨t.heap h.r.obj (by decide), t.own h.r.own (by decide), h.r.rise, h.r.ok, h.r.low⟩, k', h.uv, fun g hg hb => by
    obtain ⟨x, hx, hgx⟩ := hb
    rcases List.mem_append.1 hx with hx | hx
    · exact h.kv g hg ⟨x, hx, hgx⟩
    · rw [List.mem_singleton.1 hx] at hgx
      exact (hoff g hgx).2 hg⟩, t⟩
theorem PlayAt.tellChange (h : PlayAt base w B v xs C u ys K n vR hsR vC hsC) (hlen : hsC.length < 100000) (hn : n < 100000) (hbase : base ≤ w.heap.size) {A : Option Addr} {m c : Nat} {zs : List Change} (o : Own Change.enc 3 128 base w (.slice A m c) zs) (hz : zs.length ≤ 1000000)
    (hoff : ∀ g, (Value.slice A m c).ownBlock = some g → ¬ Blk hsC g) :
    Calls Tryz.prog 27 #[.pointer (some ⟨K, 0, none⟩), .slice A m c] w fun e w' => e = .returned (.tuple #[]) ∧
      (∃ v', PlayAt base w' B v xs C u ys K (n + 1) vR hsR v' (hsC ++ [⟨.slice A m c, nilV, n + 1⟩])) ∧ TurnT base w w' [bookT, 210] :=
  (h.k.tellChange hlen hn hbase o hz hoff).mono fun e w' ⟨he, ⟨v', k'⟩, t⟩ => ⟨he, ⟨v', ⟨t.heap h.m.obj (by decide), t.own h.m.own (by decide), h.m.rise, h.m.apart, h.m.low⟩, ⟨t.heap h.r.obj (by decide), t.own h.r.own (by decide), h.r.rise, h.r.ok, h.r.low⟩, k', h.uv, h.kv⟩, t⟩
/-- A list of changes that is new: it is nobody's. -/
theorem PlayAt.freshC (h : PlayAt base w B v xs C u ys K n vR hsR vC hsC) {a : Value} {zs : List Change} (o : Own Change.enc 3 128 w.heap.size w' a zs) : ∀ g, a.ownBlock = some g → ¬ Blk hsC g :=
  fun g hg hb => by have := (Array.getElem?_eq_some_iff.1 (h.k.pChange.fil.typed hb).2.choose_spec).1; have := o.base_le g hg; omega
/-- A list of one's own that is new: it is nobody's. -/
theorem PlayAt.fresh (h : PlayAt base w B v xs C u ys K n vR hsR vC hsC) {a : Value} {zs : List Row} (o : Own Row.enc 2 44 w.heap.size w' a zs) : ∀ g, a.ownBlock = some g → ¬ Blk hsR g ∧ v.ownBlock ≠ some g :=
  fun g hg => ⟨fun hb => by have := (Array.getElem?_eq_some_iff.1 (h.k.pRow.fil.typed hb).2.choose_spec).1; have := o.base_le g hg; omega, fun e => by have := h.m.own.lt g e; have := o.base_le g hg; omega⟩
end

end Go.Proofs.YtanjgeacmpmjhaaGreatDoor
