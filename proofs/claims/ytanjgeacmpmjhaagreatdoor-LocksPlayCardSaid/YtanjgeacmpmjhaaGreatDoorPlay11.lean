import Derived.Test.YtanjgeacmpmjhaaGreatDoorMgLocksPlay37
import Derived.Test.YtanjgeacmpmjhaaGreatDoorR11c
import Derived.Test.YtanjgeacmpmjhaaGreatDoorLAsk
import Derived.Test.YtanjgeacmpmjhaaGreatDoorMgLocksPlay22
set_option linter.unusedVariables false
set_option linter.unusedSimpArgs false
set_option linter.unusedSectionVars false
namespace Go.Proofs.YtanjgeacmpmjhaaGreatDoor
open Go.RowKit Go.Shelf

/-! ### what an act turned, and a table -/
theorem OwnO.turnF {α : Type} {enc : α → List Value} {k : Nat} {E : TypeId} {base : Nat} {w w' : World} {v : Value} {xs : List α} {F : Nat → Prop} (h : OwnO enc k E base w v xs) (t : Turn F w w') (hF : ∀ g, v.ownBlock = some g → ¬ F g) : OwnO enc k E base w' v xs := by
  rcases h with ⟨rfl, rfl⟩ | ⟨g, o, cap, cur, rfl, hb, hh, h1⟩
  · exact .inl ⟨rfl, rfl⟩
  · exact .inr ⟨g, o, cap, cur, rfl, hb, t.heap hh (hF g rfl), h1⟩
theorem TabP.turnF {base : Nat} {w w' : World} {B n : Nat} {T : Tab} {F : Nat → Prop} (h : TabP base w B n T) (t : Turn F w w') (hF : ∀ g, F g → ∃ cur E, w.heap[g]? = some (.cells cur E (0, 0)) ∧ E ≠ 162 ∧ E ≠ 158) : TabP base w' B n T := by
  obtain ⟨M, D, h⟩ := h
  have hm := h.map
  refine ⟨M, D, t.heap h.obj fun f => ?_, ⟨?_, hm.low, hm.has, fun x hx => ?_, hm.apart⟩, h.low, h.dom⟩
  · obtain ⟨cur, E, e, _, h2⟩ := hF _ f
    have := h.obj.symm.trans e
    simp only [Option.some.injEq, Obj.cells.injEq] at this
    exact h2 this.2.1.symm
  · obtain ⟨es, clock, h1, h2⟩ := hm.own
    refine ⟨es, clock, t.heap h1 fun f => ?_, h2⟩
    obtain ⟨cur, E, e, _⟩ := hF _ f
    rw [h1] at e; cases e
  · obtain ⟨v, hv, ho⟩ := hm.elem x hx
    refine ⟨v, hv, ho.turnF t fun g hg f => ?_⟩
    obtain ⟨cur, E, e, h1, _⟩ := hF _ f
    obtain ⟨_, _, cur', hc⟩ := ho.lt g hg
    have := hc.symm.trans e
    simp only [Option.some.injEq, Obj.cells.injEq] at this
    exact h1 this.2.1.symm
/-- An act on a table turns cells of locks alone, and what is no cells. -/
theorem TStep.turn {base : Nat} {w w' : World} (s : TStep base w w') : Turn (fun g => ¬ (g < base ∨ ∃ cur E fr, w.heap[g]? = some (.cells cur E fr) ∧ E ≠ 162)) w w' :=
  ⟨s.os, s.tape, s.output, s.size, fun i hi h => s.block i hi (Classical.not_not.1 h)⟩
theorem TStep.heapC {base : Nat} {w w' : World} (s : TStep base w w') {b : Nat} {cur : Array Value} {E : TypeId} {fr : Nat × Nat} (h : w.heap[b]? = some (.cells cur E fr)) (hE : E ≠ 162) : w'.heap[b]? = some (.cells cur E fr) :=
  (s.block b (Array.getElem?_eq_some_iff.1 h).1 (.inr ⟨_, _, _, h, hE⟩)).trans h
theorem Own.tstepC {α : Type} {enc : α → List Value} {k : Nat} {E : TypeId} {b base : Nat} {w w' : World} {v : Value} {xs : List α} (h : Own enc k E b w v xs) (s : TStep base w w') (hE : E ≠ 162) : Own enc k E b w' v xs :=
  h.turn s.turn fun g hg f => f (.inr ⟨_, _, _, (h.typed g hg).2.choose_spec, hE⟩)

/-- The play: the program's table, the reference's, and the Book. -/
structure PlayL (base : Nat) (w : World) (B nn : Nat) (T : Tab) (C : Nat) (hs : List Held) (K n : Nat) (vI : Value) (hsI : List Hd) (vS : Value) (hsS : List Hd) : Prop where
  t : TabP base w B nn T
  r : ∃ v, RTab base w C v hs
  k : BookIS base w K n vI hsI vS hsS
section
variable {base : Nat} {w w' : World} {B nn nn' : Nat} {T T' : Tab} {C : Nat} {hs hs' : List Held} {K n : Nat} {vI : Value} {hsI : List Hd} {vS : Value} {hsS : List Hd}
theorem PlayL.below (h : PlayL base w B nn T C hs K n vI hsI vS hsS) (hb : Below w.heap.size w w') : PlayL base w' B nn T C hs K n vI hsI vS hsS :=
  ⟨h.t.below hb, h.r.imp fun _ r => r.below hb, h.k.below hb⟩
theorem PlayL.tstep (h : PlayL base w B nn T C hs K n vI hsI vS hsS) (s : TStep base w w') (t' : TabP base w' B nn' T') : PlayL base w' B nn' T' C hs K n vI hsI vS hsS := by
  refine ⟨t', h.r.imp fun v r => ⟨s.heapC r.obj (by decide), r.own.tstepC s (by decide), r.small, r.low⟩, h.k.keepF s.turn (fun g cur E f e hm => f (.inr ⟨_, _, _, e, fun h2 => ?_⟩)) (fun g hb f => f (.inr ⟨_, _, _, (h.k.pId.fil.typed hb).2.choose_spec, by decide⟩)) (fun g hb f => f (.inr ⟨_, _, _, (h.k.pSpan.fil.typed hb).2.choose_spec, by decide⟩))⟩
  rw [h2] at hm
  exact absurd hm (by decide)
theorem PlayL.rstep (h : PlayL base w B nn T C hs K n vI hsI vS hsS) (t : TurnR base w w') (r' : ∃ v, RTab base w' C v hs') : PlayL base w' B nn T C hs' K n vI hsI vS hsS := by
  obtain ⟨F, t, hF⟩ := t
  refine ⟨h.t.turnF t fun g f => ?_, r', h.k.keepF t (fun g cur E f e hm => ?_) (fun g hb f => ?_) (fun g hb f => ?_)⟩
  · obtain ⟨_, cur, E, e, hE⟩ := hF g f
    exact ⟨cur, E, e, by rcases hE with rfl | rfl <;> decide, by rcases hE with rfl | rfl <;> decide⟩
  · obtain ⟨_, cur', E', e', hE⟩ := hF g f
    have := e.symm.trans e'
    simp only [Option.some.injEq, Obj.cells.injEq] at this
    rw [this.2.1] at hm
    rcases hE with rfl | rfl <;> exact absurd hm (by decide)
  · obtain ⟨_, cur', E', e', hE⟩ := hF g f
    have := (h.k.pId.fil.typed hb).2.choose_spec.symm.trans e'
    simp only [Option.some.injEq, Obj.cells.injEq] at this
    rcases hE with rfl | rfl <;> exact absurd this.2.1 (by decide)
  · obtain ⟨_, cur', E', e', hE⟩ := hF g f
    have := (h.k.pSpan.fil.typed hb).2.choose_spec.symm.trans e'
    simp only [Option.some.injEq, Obj.cells.injEq] at this
    rcases hE with rfl | rfl <;> exact absurd this.2.1 (by decide)
theorem TurnR.turnT (t : TurnR base w w') : TurnT base w w' [88, 166] := by
  obtain ⟨F, t, hF⟩ := t
  exact ⟨F, t, fun g f => by
    obtain ⟨h1, cur, E, e, hE⟩ := hF g f
    exact ⟨h1, cur, E, e, by rcases hE with rfl | rfl <;> simp⟩⟩
theorem PlayL.tabT (h : TabP base w B nn T) {ts : List TypeId} (t : TurnT base w w' ts) (hts : ∀ E ∈ ts, E ≠ 162 ∧ E ≠ 158) : TabP base w' B nn T := by
  obtain ⟨F, t, hF⟩ := t
  exact h.turnF t fun g f => by
    obtain ⟨_, cur, E, e, hE⟩ := hF g f
    exact ⟨cur, E, e, (hts E hE).1, (hts E hE).2⟩
theorem PlayL.tellId (h : PlayL base w B nn T C hs K n vI hsI vS hsS) (hlen : hsI.length < 100000) (hn : n < 100000) (hbase : base ≤ w.heap.size) {A : Option Addr} {m c : Nat} {xs : List Int} (o : Own encU 1 42 base w (.slice A m c) xs) (hx : xs.length ≤ 1000000)
    (hoff : ∀ g, (Value.slice A m c).ownBlock = some g → ¬ Blk hsI g) :
    Calls Tryz.prog 52 #[.pointer (some ⟨K, 0, none⟩), .slice A m c] w fun e w' => e = .returned (.tuple #[]) ∧
      (∃ v', PlayL base w' B nn T C hs K (n + 1) v' (hsI ++ [⟨.slice A m c, nilV, n + 1⟩]) vS hsS) ∧ TurnT base w w' [bookT, 216] :=
  (h.k.tellId hlen hn hbase o hx hoff).mono fun e w' ⟨he, ⟨v', k'⟩, t⟩ => ⟨he, ⟨v', PlayL.tabT h.t t (by decide), h.r.imp fun v r => ⟨t.heap r.obj (by decide), t.own r.own (by decide), r.small, r.low⟩, k'⟩, t⟩
theorem PlayL.tellSpan (h : PlayL base w B nn T C hs K n vI hsI vS hsS) (hlen : hsS.length < 100000) (hn : n < 100000) (hbase : base ≤ w.heap.size) {A : Option Addr} {m c : Nat} {xs : List Span} (o : Own Span.enc 2 47 base w (.slice A m c) xs) (hx : xs.length ≤ 1000000)
    (hoff : ∀ g, (Value.slice A m c).ownBlock = some g → ¬ Blk hsS g) :
    Calls Tryz.prog 60 #[.pointer (some ⟨K, 0, none⟩), .slice A m c] w fun e w' => e = .returned (.tuple #[]) ∧
      (∃ v', PlayL base w' B nn T C hs K (n + 1) vI hsI v' (hsS ++ [⟨.slice A m c, nilV, n + 1⟩])) ∧ TurnT base w w' [bookT, 231] :=
  (h.k.tellSpan hlen hn hbase o hx hoff).mono fun e w' ⟨he, ⟨v', k'⟩, t⟩ => ⟨he, ⟨v', PlayL.tabT h.t t (by decide), h.r.imp fun v r => ⟨t.heap r.obj (by decide), t.own r.own (by decide), r.small, r.low⟩, k'⟩, t⟩
theorem PlayL.freshI (h : PlayL base w B nn T C hs K n vI hsI vS hsS) {a : Value} {zs : List Int} (o : Own encU 1 42 w.heap.size w' a zs) : ∀ g, a.ownBlock = some g → ¬ Blk hsI g :=
  fun g hg hb => by have := (Array.getElem?_eq_some_iff.1 (h.k.pId.fil.typed hb).2.choose_spec).1; have := o.base_le g hg; omega
theorem PlayL.freshS (h : PlayL base w B nn T C hs K n vI hsI vS hsS) {a : Value} {zs : List Span} (o : Own Span.enc 2 47 w.heap.size w' a zs) : ∀ g, a.ownBlock = some g → ¬ Blk hsS g :=
  fun g hg hb => by have := (Array.getElem?_eq_some_iff.1 (h.k.pSpan.fil.typed hb).2.choose_spec).1; have := o.base_le g hg; omega

/-! ### the acts: the program's and the reference's tell the same -/
/-- What an asking comes to: the code, who is told, what is had then. -/
def codeL (who : Int) (f t : Str) (al : Bool) (hs : List Held) : Int := if mayL who f t then (if wayR who f t al hs = [] then 0 else 8) else 1
def toldL (who : Int) (f t : Str) (al : Bool) (hs : List Held) : List Int := if mayL who f t then wayR who f t al hs else []
def nextL (who : Int) (f t : Str) (al : Bool) (hs : List Held) : List Held := if mayL who f t then (if wayR who f t al hs = [] then addH who f t al hs else hs) else hs
theorem toldL_length (who : Int) (f t : Str) (al : Bool) (hs : List Held) : (toldL who f t al hs).length ≤ hs.length := by
  unfold toldL; split
  · exact wayR_length ..
  · simp
theorem nextL_length (who : Int) (f t : Str) (al : Bool) (hs : List Held) : (nextL who f t al hs).length ≤ hs.length + 1 := by
  unfold nextL; split
  · split
    · exact addH_length ..
    · omega
  · omega
theorem tell_id (w : World) (v : Value) (l : List Int) {b : Nat} (o : OwnU b w v l) : ∃ A c, v = .slice A l.length c := by
  obtain ⟨A, c, rfl, _, _⟩ := o.slice
  exact ⟨A, c, rfl⟩

theorem PlayL.ask (h : PlayL base w B nn (tabOf hs) C hs K n vI hsI vS hsS) (hbase : base ≤ w.heap.size) (hl : hs.length ≤ 400) (hnn : nn ≤ 400) (who : Int) (hw : okU who) (f t : ByteArray) (al : Bool) :
    Calls Tryz.prog 49 #[.pointer (some ⟨B, 0, none⟩), .int .u32 who, .agg #[.string f, .string t], .bool al] w fun e w' => ∃ A c, e = .returned (.tuple #[.slice A (toldL who f t al hs).length c, .int .i64 (codeL who f t al hs)]) ∧
      (∃ nn', nn' ≤ nn + 1 ∧ PlayL base w' B nn' (tabOf (nextL who f t al hs)) C hs K n vI hsI vS hsS) ∧ TStep base w w' ∧ OwnU w.heap.size w' (.slice A (toldL who f t al hs).length c) (toldL who f t al hs) := by
  obtain ⟨M, D, hT⟩ := h.t
  have hL : ∀ o, (tabOf hs o).length ≤ 400 := fun o => Nat.le_trans (tabOf_length hs o) hl
  refine (ask_calls hT hbase (L := 400) hL (by omega) (by omega) who hw f t al (c := 400) (fun o => Nat.le_trans (List.length_filter_le _ _) (hL o)) (by have : nn * 400 ≤ 400 * 400 := Nat.mul_le_mul_right _ hnn; unfold sortN; omega)).mono ?_
  rintro e w' (⟨hz, rfl, hT', s⟩ | ⟨hz, v', l, rfl, hne, hown, hway, hT', s⟩ | ⟨hz, hno, rfl, ⟨nn', hn', hT'⟩, s⟩)
  · have e1 : toldL who f t al hs = [] := by unfold toldL; rw [hz]; rfl
    have e2 : codeL who f t al hs = 1 := by unfold codeL; rw [hz]; rfl
    have e3 : nextL who f t al hs = hs := by unfold nextL; rw [hz]; rfl
    rw [e1, e2, e3]
    exact ⟨none, 0, rfl, ⟨nn, by omega, h.tstep s hT'⟩, s, .nil _ _ _ _ _⟩
  · have hl2 := hway.uniq (wayR_is who f t al hs)
    subst hl2
    have e1 : toldL who f t al hs = wayR who f t al hs := by unfold toldL; rw [hz]; rfl
    have e2 : codeL who f t al hs = 8 := by unfold codeL; rw [hz]; simp [hne]
    have e3 : nextL who f t al hs = hs := by unfold nextL; rw [hz]; simp [hne]
    rw [e1, e2, e3]
    obtain ⟨A, c, rfl⟩ := tell_id _ _ _ hown
    exact ⟨A, c, rfl, ⟨nn, by omega, h.tstep s hT'⟩, s, hown⟩
  · have hl2 : wayR who f t al hs = [] := (wayR_is who f t al hs).nil_iff.2 hno
    have e1 : toldL who f t al hs = [] := by unfold toldL; rw [hz, hl2]; rfl
    have e2 : codeL who f t al hs = 0 := by unfold codeL; rw [hz]; simp [hl2]
    have e3 : nextL who f t al hs = addH who f t al hs := by unfold nextL; rw [hz]; simp [hl2]
    rw [e1, e2, e3, tabOf_add]
    exact ⟨none, 0, rfl, ⟨nn', hn', h.tstep s hT'⟩, s, .nil _ _ _ _ _⟩
theorem PlayL.rask (h : PlayL base w B nn T C hs K n vI hsI vS hsS) (hbase : base ≤ w.heap.size) (hl : hs.length ≤ 400) (who : Int) (f t : ByteArray) (hf : f.size ≤ 9223372036854775807) (ht : t.size ≤ 9223372036854775807) (al : Bool) :
    Calls Tryz.prog 50 #[.pointer (some ⟨C, 0, none⟩), .int .u32 who, .agg #[.string f, .string t], .bool al] w fun e w' => ∃ A c, e = .returned (.tuple #[.slice A (toldL who f t al hs).length c, .int .i64 (codeL who f t al hs)]) ∧
      PlayL base w' B nn T C (nextL who f t al hs) K n vI hsI vS hsS ∧ TurnT base w w' [88, 166] ∧ OwnU w.heap.size w' (.slice A (toldL who f t al hs).length c) (toldL who f t al hs) := by
  obtain ⟨v, r⟩ := h.r
  refine (rask11_calls r hbase (by omega) who f t hf ht al).mono ?_
  rintro e w' (⟨hz, rfl, r', s⟩ | ⟨hz, hne, ⟨v', rfl, hown⟩, r', s⟩ | ⟨hz, hno, rfl, r', s⟩)
  · have e1 : toldL who f t al hs = [] := by unfold toldL; rw [hz]; rfl
    have e2 : codeL who f t al hs = 1 := by unfold codeL; rw [hz]; rfl
    have e3 : nextL who f t al hs = hs := by unfold nextL; rw [hz]; rfl
    rw [e1, e2, e3]
    exact ⟨none, 0, rfl, h.rstep s r', s.turnT, .nil _ _ _ _ _⟩
  · have e1 : toldL who f t al hs = wayR who f t al hs := by unfold toldL; rw [hz]; rfl
    have e2 : codeL who f t al hs = 8 := by unfold codeL; rw [hz]; simp [hne]
    have e3 : nextL who f t al hs = hs := by unfold nextL; rw [hz]; simp [hne]
    rw [e1, e2, e3]
    obtain ⟨A, c, rfl⟩ := tell_id _ _ _ hown
    exact ⟨A, c, rfl, h.rstep s r', s.turnT, hown⟩
  · have e1 : toldL who f t al hs = [] := by unfold toldL; rw [hz, hno]; rfl
    have e2 : codeL who f t al hs = 0 := by unfold codeL; rw [hz]; simp [hno]
    have e3 : nextL who f t al hs = addH who f t al hs := by unfold nextL; rw [hz]; simp [hno]
    rw [e1, e2, e3]
    exact ⟨none, 0, rfl, h.rstep s r', s.turnT, .nil _ _ _ _ _⟩
theorem PlayL.way (h : PlayL base w B nn (tabOf hs) C hs K n vI hsI vS hsS) (hl : hs.length ≤ 400) (hnn : nn ≤ 400) (who : Int) (f t : ByteArray) (al : Bool) :
    Calls Tryz.prog 55 #[.pointer (some ⟨B, 0, none⟩), .int .u32 who, .agg #[.string f, .string t], .bool al] w fun e w' => ∃ A c, e = .returned (.slice A (toldL who f t al hs).length c) ∧
      PlayL base w' B nn (tabOf hs) C hs K n vI hsI vS hsS ∧ Below w.heap.size w w' ∧ OwnU w.heap.size w' (.slice A (toldL who f t al hs).length c) (toldL who f t al hs) := by
  obtain ⟨M, D, hT⟩ := h.t
  have hL : ∀ o, (tabOf hs o).length ≤ 400 := fun o => Nat.le_trans (tabOf_length hs o) hl
  refine (way_calls hT (L := 400) hL (by omega) (by omega) who f t al (c := 400) (fun o => Nat.le_trans (List.length_filter_le _ _) (hL o)) (by have : nn * 400 ≤ 400 * 400 := Nat.mul_le_mul_right _ hnn; unfold sortN; omega)).mono ?_
  rintro e w' ⟨v', l, rfl, hown, hb, hway⟩
  have e1 : l = toldL who f t al hs := by
    unfold toldL
    cases hz : mayL who f t
    · rw [hz] at hway; simpa using hway
    · rw [hz] at hway
      simp only [if_true] at hway ⊢
      exact hway.uniq (wayR_is who f t al hs)
  subst e1
  obtain ⟨A, c, rfl⟩ := tell_id _ _ _ hown
  exact ⟨A, c, rfl, h.below hb, hb, hown⟩
theorem PlayL.rway (h : PlayL base w B nn T C hs K n vI hsI vS hsS) (hl : hs.length ≤ 400) (who : Int) (f t : ByteArray) (hf : f.size ≤ 9223372036854775807) (ht : t.size ≤ 9223372036854775807) (al : Bool) :
    Calls Tryz.prog 56 #[.pointer (some ⟨C, 0, none⟩), .int .u32 who, .agg #[.string f, .string t], .bool al] w fun e w' => ∃ v', e = .returned v' ∧ PlayL base w' B nn T C hs K n vI hsI vS hsS ∧ Below w.heap.size w w' ∧ OwnU w.heap.size w' v' (toldL who f t al hs) := by
  obtain ⟨v, r⟩ := h.r
  exact (rway11_calls r (by omega) who f t hf ht al).mono fun e w' ⟨v', he, o, hb⟩ => ⟨v', he, h.below hb, hb, o⟩
theorem PlayL.free (h : PlayL base w B nn (tabOf hs) C hs K n vI hsI vS hsS) (who : Int) (hw : okU who) :
    Calls Tryz.prog 53 #[.pointer (some ⟨B, 0, none⟩), .int .u32 who] w fun e w' => e = .returned (.int .i64 ((tabOf hs who).length : Int)) ∧ PlayL base w' B nn (tabOf (hs.filter fun h => decide (h.who ≠ who))) C hs K n vI hsI vS hsS ∧ TStep base w w' := by
  obtain ⟨M, D, hT⟩ := h.t
  exact (tfree_calls hT who hw).mono fun e w' ⟨he, hT', s⟩ => ⟨he, by rw [tabOf_free]; exact h.tstep s hT', s⟩
theorem PlayL.rfree (h : PlayL base w B nn T C hs K n vI hsI vS hsS) (hbase : base ≤ w.heap.size) (hl : hs.length ≤ 400) (who : Int) :
    Calls Tryz.prog 54 #[.pointer (some ⟨C, 0, none⟩), .int .u32 who] w fun e w' => e = .returned (.int .i64 ((tabOf hs who).length : Int)) ∧ PlayL base w' B nn T C (hs.filter fun h => decide (h.who ≠ who)) K n vI hsI vS hsS ∧ TurnT base w w' [88, 166] := by
  obtain ⟨v, r⟩ := h.r
  exact (rfree11_calls r hbase (by omega) who).mono fun e w' ⟨he, r', s⟩ => ⟨he, h.rstep s r', s.turnT⟩
theorem PlayL.has (h : PlayL base w B nn (tabOf hs) C hs K n vI hsI vS hsS) (hl : hs.length ≤ 400) (who : Int) (hw : okU who) :
    Calls Tryz.prog 57 #[.pointer (some ⟨B, 0, none⟩), .int .u32 who] w fun e w' => ∃ A c, e = .returned (.slice A ((tabOf hs who).map spOf).length c) ∧ PlayL base w' B nn (tabOf hs) C hs K n vI hsI vS hsS ∧ Below w.heap.size w w' ∧
      Own Span.enc 2 47 w.heap.size w' (.slice A ((tabOf hs who).map spOf).length c) ((tabOf hs who).map spOf) := by
  obtain ⟨M, D, hT⟩ := h.t
  refine (thas_calls hT who hw (by have := tabOf_length hs who; omega)).mono ?_
  rintro e w' ⟨v', rfl, o, hb⟩
  obtain ⟨A, c, rfl, _, _⟩ := o.slice
  exact ⟨A, c, rfl, h.below hb, hb, o⟩
theorem PlayL.rhas (h : PlayL base w B nn T C hs K n vI hsI vS hsS) (hl : hs.length ≤ 400) (who : Int) :
    Calls Tryz.prog 59 #[.pointer (some ⟨C, 0, none⟩), .int .u32 who] w fun e w' => ∃ v', e = .returned v' ∧ PlayL base w' B nn T C hs K n vI hsI vS hsS ∧ Below w.heap.size w w' ∧ Own Span.enc 2 47 w.heap.size w' v' ((tabOf hs who).map spOf) := by
  obtain ⟨v, r⟩ := h.r
  exact (rhas11_calls r (by omega) who).mono fun e w' ⟨v', he, hb, o⟩ => ⟨v', he, h.below hb, hb, o⟩
end

end Go.Proofs.YtanjgeacmpmjhaaGreatDoor
