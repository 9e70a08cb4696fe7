import Derived.Test.YtanjgeacmpmjhaaGreatDoorBkNil
import Derived.Test.YtanjgeacmpmjhaaGreatDoorBkRowK
import Derived.Test.YtanjgeacmpmjhaaGreatDoorBkChangeK
import Derived.Test.YtanjgeacmpmjhaaGreatDoorActs
import Derived.Test.YtanjgeacmpmjhaaGreatDoorMgVersionsPlay10
import Derived.Test.YtanjgeacmpmjhaaGreatDoorMgVersionsPlay21
set_option linter.unusedVariables false
set_option linter.unusedSimpArgs false
set_option linter.unusedSectionVars false
namespace Go.Proofs.YtanjgeacmpmjhaaGreatDoor
open Go.RowKit

set_option maxHeartbeats 2000000 in
set_option maxRecDepth 100000 in
/-- These kinds alone are kept: all of their lists are apart. -/
theorem apartRC_calls {base : Nat} {w : World} {B n : Nat} {vRow vChange : Value} {hsRow hsChange : List Hd} (hT : Tab10 w) (hobj : w.heap[B]? = some (.cells #[.int .i64 n, nilV, nilV, nilV, nilV, vRow, nilV, nilV, vChange, nilV, nilV, nilV, nilV] bookT (0, 0)))
    (pRow : PreRow base w vRow hsRow) (pChange : PreChange base w vChange hsChange) (hbase : 0 < base ∧ base ≤ w.heap.size) :
    Calls Tryz.prog 30 #[.pointer (some ⟨B, 0, none⟩)] w fun e w' => e = .returned (.bool true) ∧ Below base w w' := by
  have hb : Below base w w := Below.refl _ _
  go_enter Tryz.func30, Tryz.ntmps30
  go_wp2_with (first
    | (go_at_call 96; refine (fillByte_nil hobj rfl).mono ?_; rintro e _ ⟨rfl, rfl⟩)
    | (go_at_call 97; refine (fillId_nil hobj rfl).mono ?_; rintro e _ ⟨rfl, rfl⟩)
    | (go_at_call 98; refine (fillInt_nil hobj rfl).mono ?_; rintro e _ ⟨rfl, rfl⟩)
    | (go_at_call 99; refine (fillText_nil hobj rfl).mono ?_; rintro e _ ⟨rfl, rfl⟩)
    | (go_at_call 100; refine (pRow.fill hT hobj rfl hbase).mono ?_; rintro e wRow1 ⟨rfl, mRow, t⟩; clear pRow; have hbt := t.below hbase.2; replace hb := hb.trans hbt; replace hT := hT.keep hbt hbase.1; replace hobj := t.heap hobj (by decide); have hsz := Nat.le_trans hbase.2 t.size; replace hbase := And.intro hbase.1 hsz; replace pChange := pChange.keep t (by decide) (by decide); clear hbt hsz t)
    | (go_at_call 101; refine (fillOp_nil hobj rfl).mono ?_; rintro e _ ⟨rfl, rfl⟩)
    | (go_at_call 102; refine (fillSpan_nil hobj rfl).mono ?_; rintro e _ ⟨rfl, rfl⟩)
    | (go_at_call 103; refine (pChange.fill hT hobj rfl hbase).mono ?_; rintro e wChange1 ⟨rfl, mChange, t⟩; clear pChange; have hbt := t.below hbase.2; replace hb := hb.trans hbt; replace hT := hT.keep hbt hbase.1; replace hobj := t.heap hobj (by decide); have hsz := Nat.le_trans hbase.2 t.size; replace hbase := And.intro hbase.1 hsz; replace mRow := mRow.keep t (by decide) (by decide); clear hbt hsz t)
    | (go_at_call 104; refine (fillResult_nil hobj rfl).mono ?_; rintro e _ ⟨rfl, rfl⟩)
    | (go_at_call 105; refine (fillMsg_nil hobj rfl).mono ?_; rintro e _ ⟨rfl, rfl⟩)
    | (go_at_call 106; refine (fillPart_nil hobj rfl).mono ?_; rintro e _ ⟨rfl, rfl⟩)
    | (go_at_call 107; refine (fillDeed_nil hobj rfl).mono ?_; rintro e _ ⟨rfl, rfl⟩)
    | (go_at_call 108; refine (growByte_nil hobj rfl).mono ?_; rintro e _ ⟨rfl, rfl⟩)
    | (go_at_call 109; refine (growId_nil hobj rfl).mono ?_; rintro e _ ⟨rfl, rfl⟩)
    | (go_at_call 110; refine (growInt_nil hobj rfl).mono ?_; rintro e _ ⟨rfl, rfl⟩)
    | (go_at_call 111; refine (growText_nil hobj rfl).mono ?_; rintro e _ ⟨rfl, rfl⟩)
    | (go_at_call 112; refine (mRow.grow hT hobj rfl hbase).mono ?_; rintro e wRow2 ⟨rfl, ⟨hsRow2, eRow⟩, t⟩; clear mRow; have hbt := t.below hbase.2; replace hb := hb.trans hbt; replace hT := hT.keep hbt hbase.1; replace hobj := t.heap hobj (by decide); have hsz := Nat.le_trans hbase.2 t.size; replace hbase := And.intro hbase.1 hsz; replace mChange := mChange.keep t (by decide) (by decide); clear hbt hsz t)
    | (go_at_call 113; refine (growOp_nil hobj rfl).mono ?_; rintro e _ ⟨rfl, rfl⟩)
    | (go_at_call 114; refine (growSpan_nil hobj rfl).mono ?_; rintro e _ ⟨rfl, rfl⟩)
    | (go_at_call 115; refine (mChange.grow hT hobj rfl hbase).mono ?_; rintro e wChange2 ⟨rfl, ⟨hsChange2, eChange⟩, t⟩; clear mChange; have hbt := t.below hbase.2; replace hb := hb.trans hbt; replace hT := hT.keep hbt hbase.1; replace hobj := t.heap hobj (by decide); have hsz := Nat.le_trans hbase.2 t.size; replace hbase := And.intro hbase.1 hsz; replace eRow := eRow.keep t (by decide) (by decide); clear hbt hsz t)
    | (go_at_call 116; refine (growResult_nil hobj rfl).mono ?_; rintro e _ ⟨rfl, rfl⟩)
    | (go_at_call 117; refine (growMsg_nil hobj rfl).mono ?_; rintro e _ ⟨rfl, rfl⟩)
    | (go_at_call 118; refine (growPart_nil hobj rfl).mono ?_; rintro e _ ⟨rfl, rfl⟩)
    | (go_at_call 119; refine (growDeed_nil hobj rfl).mono ?_; rintro e _ ⟨rfl, rfl⟩)
    | (go_at_call 120; refine (lookByte_nil hobj rfl).mono ?_; rintro e _ ⟨rfl, rfl⟩)
    | (go_at_call 121; refine (lookId_nil hobj rfl).mono ?_; rintro e _ ⟨rfl, rfl⟩)
    | (go_at_call 122; refine (lookInt_nil hobj rfl).mono ?_; rintro e _ ⟨rfl, rfl⟩)
    | (go_at_call 123; refine (lookText_nil hobj rfl).mono ?_; rintro e _ ⟨rfl, rfl⟩)
    | (go_at_call 124; refine (eRow.look hT hobj rfl hbase).mono ?_; rintro e wRow3 ⟨rfl, t⟩; have hbt := t.below hbase.2; replace hb := hb.trans hbt; replace hT := hT.keep hbt hbase.1; replace hobj := t.heap hobj (by decide); have hsz := Nat.le_trans hbase.2 t.size; replace hbase := And.intro hbase.1 hsz; replace eRow := eRow.keep t (by decide) (by decide); replace eChange := eChange.keep t (by decide) (by decide); clear hbt hsz t)
    | (go_at_call 125; refine (lookOp_nil hobj rfl).mono ?_; rintro e _ ⟨rfl, rfl⟩)
    | (go_at_call 126; refine (lookSpan_nil hobj rfl).mono ?_; rintro e _ ⟨rfl, rfl⟩)
    | (go_at_call 127; refine (eChange.look hT hobj rfl hbase).mono ?_; rintro e wChange3 ⟨rfl, t⟩; have hbt := t.below hbase.2; replace hb := hb.trans hbt; replace hT := hT.keep hbt hbase.1; replace hobj := t.heap hobj (by decide); have hsz := Nat.le_trans hbase.2 t.size; replace hbase := And.intro hbase.1 hsz; replace eRow := eRow.keep t (by decide) (by decide); replace eChange := eChange.keep t (by decide) (by decide); clear hbt hsz t)
    | (go_at_call 128; refine (lookResult_nil hobj rfl).mono ?_; rintro e _ ⟨rfl, rfl⟩)
    | (go_at_call 129; refine (lookMsg_nil hobj rfl).mono ?_; rintro e _ ⟨rfl, rfl⟩)
    | (go_at_call 130; refine (lookPart_nil hobj rfl).mono ?_; rintro e _ ⟨rfl, rfl⟩)
    | (go_at_call 131; refine (lookDeed_nil hobj rfl).mono ?_; rintro e _ ⟨rfl, rfl⟩))
  go_ret
  exact ⟨rfl, hb⟩

end Go.Proofs.YtanjgeacmpmjhaaGreatDoor

set_option linter.unusedVariables false
set_option linter.unusedSimpArgs false
set_option linter.unusedSectionVars false
namespace Go.Proofs.YtanjgeacmpmjhaaGreatDoor
open Go.RowKit

theorem FilChange.nil (base : Nat) (w : World) : FilChange base w [] 0 := fun j h hj => by simp at hj
theorem FilChange.snoc {base : Nat} {w : World} {hs : List Hd} {x : Hd} {xs : List Change} (h : FilChange base w hs 0) (ho : Own Change.enc 3 128 base w x.l xs) (hl : xs.length ≤ 1000000) : FilChange base w (hs ++ [x]) 0 := fun j y hj => by
  by_cases hlt : j < hs.length
  · rw [List.getElem?_append_left hlt] at hj
    exact h j y hj
  · rw [List.getElem?_append_right (by omega)] at hj
    obtain ⟨_, e⟩ := List.getElem?_eq_some_iff.1 hj
    simp at e
    subst e
    exact ⟨xs, ho, hl, fun h => absurd h (Nat.not_lt_zero _)⟩
theorem PreChange.nil (base : Nat) (w : World) : PreChange base w nilV [] := ⟨.nil _ _ _ _ _, by simp, fun h hm => (by cases hm), .nil _ _, .nil⟩
theorem PreChange.keepF {base : Nat} {w w' : World} {v : Value} {hs : List Hd} {F : Nat → Prop} (h : PreChange base w v hs) (t : Turn F w w') (h1 : ∀ g cur, w.heap[g]? = some (.cells cur 210 (0, 0)) → ¬ F g) (h2 : ∀ g, Blk hs g → ¬ F g) : PreChange base w' v hs :=
  ⟨h.own.turn t fun g hg => h1 g _ (h.own.typed g hg).2.choose_spec, h.len, h.nn, h.fil.turn t h2, h.sep⟩
theorem PreChange.below {base : Nat} {w w' : World} {v : Value} {hs : List Hd} (h : PreChange base w v hs) (hb : Below w.heap.size w w') : PreChange base w' v hs :=
  h.keepF (F := fun _ => False) (.of_below hb) (fun _ _ _ => id) (fun _ _ => id)
set_option maxHeartbeats 400000 in
/-- A list is told. -/
theorem PreChange.tell {base : Nat} {w : World} {B n : Nat} {cs : Array Value} {v : Value} {hs : List Hd} (h : PreChange base w v hs) (hobj : w.heap[B]? = some (.cells cs bookT (0, 0))) (hc0 : cs[0]? = some (.int .i64 n)) (hcs : cs[8]? = some v)
    (hB : base ≤ B) (hlen : hs.length < 100000) (hn : n < 100000) (hbase : base ≤ w.heap.size) {A : Option Addr} {m c : Nat} {xs : List Change} (ho : Own Change.enc 3 128 base w (.slice A m c) xs) (hxl : xs.length ≤ 1000000)
    (hoff : ∀ g, (Value.slice A m c).ownBlock = some g → ¬ Blk hs g) :
    Calls Tryz.prog 27 #[.pointer (some ⟨B, 0, none⟩), .slice A m c] w fun e w' => e = .returned (.tuple #[]) ∧
      (∃ v', w'.heap[B]? = some (.cells ((cs.setIfInBounds 0 (.int .i64 ((n + 1 : Nat) : Int))).setIfInBounds 8 v') bookT (0, 0)) ∧ PreChange base w' v' (hs ++ [⟨.slice A m c, nilV, n + 1⟩])) ∧ TurnT base w w' [bookT, 210] := by
  have hk := keepChange_calls hobj hc0 hcs h.own (by omega) (by omega) hbase A m c
  have FIN : ∀ w' : World, (∃ v', w'.heap[B]? = some (.cells ((cs.setIfInBounds 0 (.int .i64 ((n : Int) + 1))).setIfInBounds 8 v') bookT (0, 0)) ∧
      Own Hd.enc 3 210 base w' v' (hs ++ [⟨.slice A m c, nilV, n + 1⟩]) ∧ Turn (fun g => g = B ∨ v.ownBlock = some g) w w' ∧ (∀ g, v'.ownBlock = some g → v.ownBlock = some g ∨ w.heap.size ≤ g)) →
      (∃ v', w'.heap[B]? = some (.cells ((cs.setIfInBounds 0 (.int .i64 ((n + 1 : Nat) : Int))).setIfInBounds 8 v') bookT (0, 0)) ∧ PreChange base w' v' (hs ++ [⟨.slice A m c, nilV, n + 1⟩])) ∧ TurnT base w w' [bookT, 210] := by
    rintro w' ⟨v', o', own', t, -⟩
    have hT : TurnT base w w' [bookT, 210] := ⟨_, t, fun g hg => hg.elim (fun e => ⟨by omega, cs, bookT, (by rw [e]; exact hobj), by simp⟩) (fun e => ⟨(h.own.typed g e).1, _, _, (h.own.typed g e).2.choose_spec, by simp⟩)⟩
    have hT2 : 128 ∉ [bookT, 210] := by decide
    refine ⟨⟨v', o', own', by simp; omega, fun x hx => ?_, ?_, ?_⟩, hT⟩
    · rcases List.mem_append.1 hx with hx | hx
      · exact h.nn x hx
      · rw [List.mem_singleton.1 hx]; exact ⟨by simp only; omega, _, _, _, rfl⟩
    · exact (h.fil.turn hT.choose_spec.1 fun g hg => hT.spare (h.fil.typed hg).2.choose_spec hT2).snoc (hT.own ho hT2) hxl
    · exact h.sep.snoc fun a ha g hg e => hoff g e ⟨a, ha, hg⟩
  have HF := Lib.hid FIN
  clear FIN h hobj hc0 hcs ho hoff
  go_enter Tryz.func27, Tryz.ntmps27
  go_wp2_with (go_at_call 94; refine hk.mono ?_; rintro e w1 ⟨rfl, hP⟩)
  go_end0
  exact ⟨rfl, HF.out _ hP⟩

end Go.Proofs.YtanjgeacmpmjhaaGreatDoor

set_option linter.unusedVariables false
set_option linter.unusedSimpArgs false
set_option linter.unusedSectionVars false
namespace Go.Proofs.YtanjgeacmpmjhaaGreatDoor
open Go.RowKit

theorem FilRow.nil (base : Nat) (w : World) : FilRow base w [] 0 := fun j h hj => by simp at hj
theorem FilRow.snoc {base : Nat} {w : World} {hs : List Hd} {x : Hd} {xs : List Row} (h : FilRow base w hs 0) (ho : Own Row.enc 2 44 base w x.l xs) (hl : xs.length ≤ 1000000) : FilRow base w (hs ++ [x]) 0 := fun j y hj => by
  by_cases hlt : j < hs.length
  · rw [List.getElem?_append_left hlt] at hj
    exact h j y hj
  · rw [List.getElem?_append_right (by omega)] at hj
    obtain ⟨_, e⟩ := List.getElem?_eq_some_iff.1 hj
    simp at e
    subst e
    exact ⟨xs, ho, hl, fun h => absurd h (Nat.not_lt_zero _)⟩
theorem PreRow.nil (base : Nat) (w : World) : PreRow base w nilV [] := ⟨.nil _ _ _ _ _, by simp, fun h hm => (by cases hm), .nil _ _, .nil⟩
theorem PreRow.keepF {base : Nat} {w w' : World} {v : Value} {hs : List Hd} {F : Nat → Prop} (h : PreRow base w v hs) (t : Turn F w w') (h1 : ∀ g cur, w.heap[g]? = some (.cells cur 206 (0, 0)) → ¬ F g) (h2 : ∀ g, Blk hs g → ¬ F g) : PreRow base w' v hs :=
  ⟨h.own.turn t fun g hg => h1 g _ (h.own.typed g hg).2.choose_spec, h.len, h.nn, h.fil.turn t h2, h.sep⟩
theorem PreRow.below {base : Nat} {w w' : World} {v : Value} {hs : List Hd} (h : PreRow base w v hs) (hb : Below w.heap.size w w') : PreRow base w' v hs :=
  h.keepF (F := fun _ => False) (.of_below hb) (fun _ _ _ => id) (fun _ _ => id)
set_option maxHeartbeats 400000 in
/-- A list is told. -/
theorem PreRow.tell {base : Nat} {w : World} {B n : Nat} {cs : Array Value} {v : Value} {hs : List Hd} (h : PreRow base w v hs) (hobj : w.heap[B]? = some (.cells cs bookT (0, 0))) (hc0 : cs[0]? = some (.int .i64 n)) (hcs : cs[5]? = some v)
    (hB : base ≤ B) (hlen : hs.length < 100000) (hn : n < 100000) (hbase : base ≤ w.heap.size) {A : Option Addr} {m c : Nat} {xs : List Row} (ho : Own Row.enc 2 44 base w (.slice A m c) xs) (hxl : xs.length ≤ 1000000)
    (hoff : ∀ g, (Value.slice A m c).ownBlock = some g → ¬ Blk hs g) :
    Calls Tryz.prog 22 #[.pointer (some ⟨B, 0, none⟩), .slice A m c] w fun e w' => e = .returned (.tuple #[]) ∧
      (∃ v', w'.heap[B]? = some (.cells ((cs.setIfInBounds 0 (.int .i64 ((n + 1 : Nat) : Int))).setIfInBounds 5 v') bookT (0, 0)) ∧ PreRow base w' v' (hs ++ [⟨.slice A m c, nilV, n + 1⟩])) ∧ TurnT base w w' [bookT, 206] := by
  have hk := keepRow_calls hobj hc0 hcs h.own (by omega) (by omega) hbase A m c
  have FIN : ∀ w' : World, (∃ v', w'.heap[B]? = some (.cells ((cs.setIfInBounds 0 (.int .i64 ((n : Int) + 1))).setIfInBounds 5 v') bookT (0, 0)) ∧
      Own Hd.enc 3 206 base w' v' (hs ++ [⟨.slice A m c, nilV, n + 1⟩]) ∧ Turn (fun g => g = B ∨ v.ownBlock = some g) w w' ∧ (∀ g, v'.ownBlock = some g → v.ownBlock = some g ∨ w.heap.size ≤ g)) →
      (∃ v', w'.heap[B]? = some (.cells ((cs.setIfInBounds 0 (.int .i64 ((n + 1 : Nat) : Int))).setIfInBounds 5 v') bookT (0, 0)) ∧ PreRow base w' v' (hs ++ [⟨.slice A m c, nilV, n + 1⟩])) ∧ TurnT base w w' [bookT, 206] := by
    rintro w' ⟨v', o', own', t, -⟩
    have hT : TurnT base w w' [bookT, 206] := ⟨_, t, fun g hg => hg.elim (fun e => ⟨by omega, cs, bookT, (by rw [e]; exact hobj), by simp⟩) (fun e => ⟨(h.own.typed g e).1, _, _, (h.own.typed g e).2.choose_spec, by simp⟩)⟩
    have hT2 : 44 ∉ [bookT, 206] := by decide
    refine ⟨⟨v', o', own', by simp; omega, fun x hx => ?_, ?_, ?_⟩, hT⟩
    · rcases List.mem_append.1 hx with hx | hx
      · exact h.nn x hx
      · rw [List.mem_singleton.1 hx]; exact ⟨by simp only; omega, _, _, _, rfl⟩
    · exact (h.fil.turn hT.choose_spec.1 fun g hg => hT.spare (h.fil.typed hg).2.choose_spec hT2).snoc (hT.own ho hT2) hxl
    · exact h.sep.snoc fun a ha g hg e => hoff g e ⟨a, ha, hg⟩
  have HF := Lib.hid FIN
  clear FIN h hobj hc0 hcs ho hoff
  go_enter Tryz.func22, Tryz.ntmps22
  go_wp2_with (go_at_call 92; refine hk.mono ?_; rintro e w1 ⟨rfl, hP⟩)
  go_end0
  exact ⟨rfl, HF.out _ hP⟩

end Go.Proofs.YtanjgeacmpmjhaaGreatDoor

set_option linter.unusedVariables false
set_option linter.unusedSimpArgs false
namespace Go.Proofs.YtanjgeacmpmjhaaGreatDoor
open Go.RowKit Go.Shelf

/-- Block k is none of the map's. -/
structure OffB (w : World) (B : Nat) (v : Value) (k : Nat) : Prop where
  ne : k ≠ B
  own : v.ownBlock ≠ some k
  lt : k < w.heap.size

theorem OffB.step {w w' : World} {B : Nat} {v v' : Value} {k : Nat} (h : OffB w B v k) (s : Step w w' B v v') : OffB w' B v' k :=
  ⟨h.ne, fun e => by
    rcases s.new k e with e | e
    · exact h.own e
    · have := h.lt; omega, Nat.lt_of_lt_of_le h.lt s.size⟩
theorem OffB.same {w w' : World} {B : Nat} {v v' : Value} {k : Nat} (h : OffB w B v k) (s : Step w w' B v v') : w'.heap[k]? = w.heap[k]? := s.block k h.lt h.ne h.own
theorem OffB.below {w w' : World} {B : Nat} {v : Value} {k : Nat} (h : OffB w B v k) (hb : Below w.heap.size w w') : OffB w' B v k := ⟨h.ne, h.own, Nat.lt_of_lt_of_le h.lt hb.size⟩
theorem MapAt.off {base : Nat} {w : World} {B : Nat} {v : Value} {xs : List Row} (h : MapAt base w B v xs) {k : Nat} (hk : k < base) : OffB w B v k :=
  ⟨by have := h.low; omega, fun e => by have := h.own.base_le k e; omega, by have := h.low; have := h.lt; omega⟩

/-- A slice that is read, none of whose cells are the map's. -/
def RdOff {α : Type} (enc : α → List Value) (k : Nat) (w : World) (B : Nat) (v : Value) (vc : Value) (xs : List α) : Prop :=
  Rd enc k w vc xs ∧ (xs = [] ∨ ∀ b, vc.ownBlock = some b → OffB w B v b)

theorem RdOff.step {α : Type} {enc : α → List Value} {k : Nat} {w w' : World} {B : Nat} {v v' vc : Value} {xs : List α} (h : RdOff enc k w B v vc xs) (s : Step w w' B v v') : RdOff enc k w' B v' vc xs := by
  obtain ⟨⟨A, c, rfl, hl, hc, hr⟩, hoff⟩ := h
  refine ⟨⟨A, c, rfl, hl, hc, fun hp => ?_⟩, ?_⟩
  · obtain ⟨b, o, rfl, hcell⟩ := hr hp
    have hb := (hoff.resolve_left (fun e => by rw [e] at hp; exact absurd hp (Nat.lt_irrefl _))) b rfl
    exact ⟨b, o, rfl, fun i x hi j u hu => by rw [World.cell?_of_block (hb.same s)]; exact hcell i x hi j u hu⟩
  · rcases hoff with h | h
    · exact .inl h
    · exact .inr fun b e => (h b e).step s

theorem RdOff.below {α : Type} {enc : α → List Value} {k : Nat} {w w' : World} {B : Nat} {v vc : Value} {xs : List α} (h : RdOff enc k w B v vc xs) (hb : Below w.heap.size w w') : RdOff enc k w' B v vc xs := h.step (Step.of_below hb B v)

/-- What came in is none of the map's. -/
theorem MapAt.rdOff {α : Type} {enc : α → List Value} {k : Nat} {w0 w : World} {B : Nat} {v vc : Value} {xs : List Row} {ys : List α} (h : MapAt w0.heap.size w B v xs) (hb : Below w0.heap.size w0 w) (hr : Rd enc k w0 vc ys) (hk : ∀ x, (enc x).length = k) (hk0 : 0 < k) : RdOff enc k w B v vc ys := by
  refine ⟨hr.below hb, ?_⟩
  obtain ⟨A, c, rfl, hl, hc, hcell⟩ := hr
  cases ys with
  | nil => exact .inl rfl
  | cons y ys =>
    obtain ⟨b, o, rfl, hcl⟩ := hcell (by simp)
    refine .inr fun b' e => ?_
    injection e with e
    subst e
    cases he : enc y with
    | nil => have := hk y; rw [he] at this; simp at this; omega
    | cons u us => exact h.off (World.block_lt_of_cell? w0 ⟨b, o + 0 * k + 0, none⟩ (hcl 0 y rfl 0 u (by rw [he]; rfl)))

set_option maxHeartbeats 400000 in
theorem change1_calls (x : Change) (hx : x.k.size ≤ 9223372036854775807) (w : World) :
    Calls Tryz.prog 88 #[.agg #[.string x.k, .int .u32 x.v, .bool x.g]] w fun e w' => e = .returned (.bool (!okChange x)) ∧ Below w.heap.size w w' := by
  obtain ⟨xk, xv, xg⟩ := x
  have hcheck := fun W => check_calls xk W hx
  unfold okChange
  simp only at hcheck ⊢
  generalize okKey xk = b at *
  by_cases hz : xv = 0
  · cases b <;> cases xg
    all_goals
      go_enter Tryz.func88, Tryz.ntmps88
      go_wp2_with (go_at_call 89; refine (hcheck _).mono ?_; rintro e w1 ⟨rfl, hb1⟩; have c1 := Below.cell_some hb1 (World.cell?_alloc_at (w := w) _ _ w.heap.size 1 rfl); have c2 := Below.cell_some hb1 (World.cell?_alloc_at (w := w) _ _ w.heap.size 2 rfl))
      go_ret
      exact ⟨ret_bool (by simp [hz]), Below.step ((Below.refl _ w).alloc (Nat.le_refl _) _) hb1⟩
  · cases b <;> cases xg
    all_goals
      go_enter Tryz.func88, Tryz.ntmps88
      go_wp2_with (go_at_call 89; refine (hcheck _).mono ?_; rintro e w1 ⟨rfl, hb1⟩; have c1 := Below.cell_some hb1 (World.cell?_alloc_at (w := w) _ _ w.heap.size 1 rfl); have c2 := Below.cell_some hb1 (World.cell?_alloc_at (w := w) _ _ w.heap.size 2 rfl))
      go_ret
      exact ⟨ret_bool (by simp [hz]), Below.step ((Below.refl _ w).alloc (Nat.le_refl _) _) hb1⟩

set_option maxHeartbeats 400000 in
theorem change_calls {base : Nat} {w : World} {B : Nat} {v vc : Value} {xs : List Row} {cs : List Change} (h : MapAt base w B v xs) (hc : RdOff Change.enc 3 w B v vc cs) (hl : xs.length + cs.length ≤ 1000000) (hk : ∀ c ∈ cs, c.k.size ≤ 9223372036854775807) :
    Calls Tryz.prog 16 #[.pointer (some ⟨B, 0, none⟩), vc] w
      fun e w' => ∃ v', e = .returned (.int .i64 (if cs.all okChange then 0 else 1)) ∧ MapAt base w' B v' (if cs.all okChange then doCs cs xs else xs) ∧ Step w w' B v v' := by
  have hany := containsFuncChange_calls (fun x => !okChange x) 88 #[] (enters_of Tryz.func88 (by kernel_rfl) rfl) vc cs w hc.1 (fun W x hx hb => change1_calls x (hk x hx) W)
  have hall : cs.any (fun x => !okChange x) = !cs.all okChange := by
    rw [List.all_eq_not_any_not, Bool.not_not]
  rw [hall] at hany
  clear hall
  obtain ⟨A, c, rfl, hlc, hcm⟩ := hc.1.shape
  generalize cs.all okChange = b at *
  cases b <;> simp only [↓reduceIte, Bool.false_eq_true, Bool.not_true, Bool.not_false] at hany ⊢
  · go_enter Tryz.func16, Tryz.ntmps16
    go_wp2_with (first
      | (go_at_call 86; refine (there_calls h).mono ?_; rintro e w1 ⟨rfl, rfl⟩)
      | (go_at_call 87; refine hany.mono ?_; rintro e w1 ⟨rfl, hb1⟩))
    go_ret
    exact ⟨v, rfl, h.below hb1, .of_below hb1 B v⟩
  · go_enter Tryz.func16, Tryz.ntmps16
    go_wp2_with (first
      | (go_at_call 86; refine (there_calls h).mono ?_; rintro e w1 ⟨rfl, rfl⟩)
      | (go_at_call 87; refine hany.mono ?_; rintro e w1 ⟨rfl, hb1⟩))
    go_loopw [14] (fun i wr => ∃ (k : Nat) (v' : Value), k ≤ cs.length ∧ i = .int .i64 k ∧ MapAt base wr B v' (doCs (cs.take k) xs) ∧ Step w wr B v v') (fun i _ => cs.length - (intOf i).toNat)
    case atStart => exact ⟨0, v, Nat.zero_le _, rfl, h.below hb1, .of_below hb1 B v⟩
    case round =>
      obtain ⟨k, v', hkl, rfl, hM, hS⟩ := hrel
      by_cases hlt : k < cs.length
      · obtain ⟨b, o, rfl, hx1, hx2, hx3⟩ := (hc.step hS).1.change (List.getElem?_eq_getElem hlt)
        have hsn := doCs_snoc cs k _ (List.getElem?_eq_getElem hlt) xs
        have hlen := doCs_length (cs.take k) xs
        rw [List.length_take] at hlen
        generalize cs[k] = x at *
        obtain ⟨xk, xv, xg⟩ := x
        have hW : ∀ o, Below wr.heap.size wr (wr.alloc o) := fun o => (Below.refl _ wr).alloc (Nat.le_refl _) o
        cases xg with
        | true =>
          have hdrop := fun o => drop_calls (hM.below (hW o)) (by omega) xk
          go_wp2_with (go_at_call 85; refine (hdrop _).mono ?_; rintro e w2 ⟨v2, rfl, h2, s2⟩; clear hx1 hx2 hx3)
          go_roundw
          case rel => exact ⟨k + 1, v2, by omega, by go_num, by rw [hsn]; exact h2, hS.trans ((Step.of_below (hW _) B v').trans s2)⟩
          case measure => simp [intOf]; omega
        | false =>
          have hset := fun o => set_calls (hM.below (hW o)) (by omega) xk xv
          go_wp2_with (go_at_call 82; refine (hset _).mono ?_; rintro e w2 ⟨v2, rfl, h2, s2⟩; clear hx1 hx2 hx3)
          go_roundw
          case rel => exact ⟨k + 1, v2, by omega, by go_num, by rw [hsn]; exact h2, hS.trans ((Step.of_below (hW _) B v').trans s2)⟩
          case measure => simp [intOf]; omega
      · go_wp2
        go_ret
        refine ⟨v', rfl, ?_, hS⟩
        rw [List.take_of_length_le (by omega)] at hM
        exact hM

end Go.Proofs.YtanjgeacmpmjhaaGreatDoor

set_option linter.unusedVariables false
set_option linter.unusedSimpArgs false
set_option linter.unusedSectionVars false
namespace Go.Proofs.YtanjgeacmpmjhaaGreatDoor
open Go.RowKit

/-- A Book in which these kinds are told, and no others. -/
structure BookRC (base : Nat) (w : World) (B n : Nat) (vRow : Value) (hsRow : List Hd) (vChange : Value) (hsChange : List Hd) : Prop where
  obj : w.heap[B]? = some (.cells #[.int .i64 n, nilV, nilV, nilV, nilV, vRow, nilV, nilV, vChange, nilV, nilV, nilV, nilV] bookT (0, 0))
  low : base ≤ B
  pRow : PreRow base w vRow hsRow
  pChange : PreChange base w vChange hsChange
section
variable {base : Nat} {w w' : World} {B n : Nat} {vRow vChange : Value} {hsRow hsChange : List Hd}
theorem BookRC.start (base : Nat) (w : World) (hb : base ≤ w.heap.size) : BookRC base (w.alloc (.cells #[.int .i64 0, nilV, nilV, nilV, nilV, nilV, nilV, nilV, nilV, nilV, nilV, nilV, nilV] bookT)) w.heap.size 0 nilV [] nilV [] := ⟨alloc_new w _, hb, .nil _ _, .nil _ _⟩
theorem BookRC.lt (h : BookRC base w B n vRow hsRow vChange hsChange) : B < w.heap.size := (Array.getElem?_eq_some_iff.1 h.obj).1
theorem BookRC.keepF {F : Nat → Prop} (h : BookRC base w B n vRow hsRow vChange hsChange) (t : Turn F w w') (hF : ∀ g cur T, F g → w.heap[g]? = some (.cells cur T (0, 0)) → T ∉ [bookT, 206, 210]) (hRow : ∀ g, Blk hsRow g → ¬ F g) (hChange : ∀ g, Blk hsChange g → ¬ F g) : BookRC base w' B n vRow hsRow vChange hsChange :=
  ⟨t.heap h.obj fun f => hF _ _ _ f h.obj (by simp), h.low, h.pRow.keepF t (fun g cur e f => hF _ _ _ f e (by simp)) hRow, h.pChange.keepF t (fun g cur e f => hF _ _ _ f e (by simp)) hChange⟩
theorem BookRC.below (h : BookRC base w B n vRow hsRow vChange hsChange) (hb : Below w.heap.size w w') : BookRC base w' B n vRow hsRow vChange hsChange :=
  h.keepF (F := fun _ => False) (.of_below hb) (fun _ _ _ f => f.elim) (fun _ _ => id) (fun _ _ => id)
theorem BookRC.tellRow (h : BookRC base w B n vRow hsRow vChange hsChange) (hlen : hsRow.length < 100000) (hn : n < 100000) (hbase : base ≤ w.heap.size) {A : Option Addr} {m c : Nat} {xs : List Row} (ho : Own Row.enc 2 44 base w (.slice A m c) xs) (hxl : xs.length ≤ 1000000)
    (hoff : ∀ g, (Value.slice A m c).ownBlock = some g → ¬ Blk hsRow g) :
    Calls Tryz.prog 22 #[.pointer (some ⟨B, 0, none⟩), .slice A m c] w fun e w' => e = .returned (.tuple #[]) ∧ (∃ v', BookRC base w' B (n + 1) v' (hsRow ++ [⟨.slice A m c, nilV, n + 1⟩]) vChange hsChange) ∧ TurnT base w w' [bookT, 206] :=
  (h.pRow.tell h.obj rfl rfl h.low hlen hn hbase ho hxl hoff).mono fun e w' ⟨he, ⟨v', o', p'⟩, t⟩ => ⟨he, ⟨v', o', h.low, p', h.pChange.keep t (by decide) (by decide)⟩, t⟩
theorem BookRC.tellChange (h : BookRC base w B n vRow hsRow vChange hsChange) (hlen : hsChange.length < 100000) (hn : n < 100000) (hbase : base ≤ w.heap.size) {A : Option Addr} {m c : Nat} {xs : List Change} (ho : Own Change.enc 3 128 base w (.slice A m c) xs) (hxl : xs.length ≤ 1000000)
    (hoff : ∀ g, (Value.slice A m c).ownBlock = some g → ¬ Blk hsChange g) :
    Calls Tryz.prog 27 #[.pointer (some ⟨B, 0, none⟩), .slice A m c] w fun e w' => e = .returned (.tuple #[]) ∧ (∃ v', BookRC base w' B (n + 1) vRow hsRow v' (hsChange ++ [⟨.slice A m c, nilV, n + 1⟩])) ∧ TurnT base w w' [bookT, 210] :=
  (h.pChange.tell h.obj rfl rfl h.low hlen hn hbase ho hxl hoff).mono fun e w' ⟨he, ⟨v', o', p'⟩, t⟩ => ⟨he, ⟨v', o', h.low, h.pRow.keep t (by decide) (by decide), p'⟩, t⟩
theorem BookRC.apart (h : BookRC base w B n vRow hsRow vChange hsChange) (hT : Tab10 w) (hbase : 0 < base ∧ base ≤ w.heap.size) :
    Calls Tryz.prog 30 #[.pointer (some ⟨B, 0, none⟩)] w fun e w' => e = .returned (.bool true) ∧ Below base w w' :=
  apartRC_calls hT h.obj h.pRow h.pChange hbase
end
end Go.Proofs.YtanjgeacmpmjhaaGreatDoor
