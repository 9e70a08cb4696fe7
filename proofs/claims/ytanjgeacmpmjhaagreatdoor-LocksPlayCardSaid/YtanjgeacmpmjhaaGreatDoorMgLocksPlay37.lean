import Derived.Test.YtanjgeacmpmjhaaGreatDoorBkNil
import Derived.Test.YtanjgeacmpmjhaaGreatDoorBkIdK
import Derived.Test.YtanjgeacmpmjhaaGreatDoorBkSpanK
import Derived.Test.YtanjgeacmpmjhaaGreatDoorR11F
import Derived.Test.YtanjgeacmpmjhaaGreatDoorR11T
import Derived.Test.YtanjgeacmpmjhaaGreatDoorMgLocksPlay28
set_option linter.unusedVariables false
set_option linter.unusedSimpArgs false
set_option linter.unusedSectionVars false
namespace Go.Proofs.YtanjgeacmpmjhaaGreatDoor
open Go.RowKit

set_option maxHeartbeats 2000000 in
set_option maxRecDepth 100000 in
/-- These kinds alone are kept: all of their lists are apart. -/
theorem apartIS_calls {base : Nat} {w : World} {B n : Nat} {vId vSpan : Value} {hsId hsSpan : List Hd} (hT : Tab10 w) (hobj : w.heap[B]? = some (.cells #[.int .i64 n, nilV, vId, nilV, nilV, nilV, nilV, vSpan, nilV, nilV, nilV, nilV, nilV] bookT (0, 0)))
    (pId : PreId base w vId hsId) (pSpan : PreSpan base w vSpan hsSpan) (hbase : 0 < base ∧ base ≤ w.heap.size) :
    Calls Tryz.prog 30 #[.pointer (some ⟨B, 0, none⟩)] w fun e w' => e = .returned (.bool true) ∧ Below base w w' := by
  have hb : Below base w w := Below.refl _ _
  go_enter Tryz.func30, Tryz.ntmps30
  go_wp2_with (first
    | (go_at_call 96; refine (fillByte_nil hobj rfl).mono ?_; rintro e _ ⟨rfl, rfl⟩)
    | (go_at_call 97; refine (pId.fill hT hobj rfl hbase).mono ?_; rintro e wId1 ⟨rfl, mId, t⟩; clear pId; have hbt := t.below hbase.2; replace hb := hb.trans hbt; replace hT := hT.keep hbt hbase.1; replace hobj := t.heap hobj (by decide); have hsz := Nat.le_trans hbase.2 t.size; replace hbase := And.intro hbase.1 hsz; replace pSpan := pSpan.keep t (by decide) (by decide); clear hbt hsz t)
    | (go_at_call 98; refine (fillInt_nil hobj rfl).mono ?_; rintro e _ ⟨rfl, rfl⟩)
    | (go_at_call 99; refine (fillText_nil hobj rfl).mono ?_; rintro e _ ⟨rfl, rfl⟩)
    | (go_at_call 100; refine (fillRow_nil hobj rfl).mono ?_; rintro e _ ⟨rfl, rfl⟩)
    | (go_at_call 101; refine (fillOp_nil hobj rfl).mono ?_; rintro e _ ⟨rfl, rfl⟩)
    | (go_at_call 102; refine (pSpan.fill hT hobj rfl hbase).mono ?_; rintro e wSpan1 ⟨rfl, mSpan, t⟩; clear pSpan; have hbt := t.below hbase.2; replace hb := hb.trans hbt; replace hT := hT.keep hbt hbase.1; replace hobj := t.heap hobj (by decide); have hsz := Nat.le_trans hbase.2 t.size; replace hbase := And.intro hbase.1 hsz; replace mId := mId.keep t (by decide) (by decide); clear hbt hsz t)
    | (go_at_call 103; refine (fillChange_nil hobj rfl).mono ?_; rintro e _ ⟨rfl, rfl⟩)
    | (go_at_call 104; refine (fillResult_nil hobj rfl).mono ?_; rintro e _ ⟨rfl, rfl⟩)
    | (go_at_call 105; refine (fillMsg_nil hobj rfl).mono ?_; rintro e _ ⟨rfl, rfl⟩)
    | (go_at_call 106; refine (fillPart_nil hobj rfl).mono ?_; rintro e _ ⟨rfl, rfl⟩)
    | (go_at_call 107; refine (fillDeed_nil hobj rfl).mono ?_; rintro e _ ⟨rfl, rfl⟩)
    | (go_at_call 108; refine (growByte_nil hobj rfl).mono ?_; rintro e _ ⟨rfl, rfl⟩)
    | (go_at_call 109; refine (mId.grow hT hobj rfl hbase).mono ?_; rintro e wId2 ⟨rfl, ⟨hsId2, eId⟩, t⟩; clear mId; have hbt := t.below hbase.2; replace hb := hb.trans hbt; replace hT := hT.keep hbt hbase.1; replace hobj := t.heap hobj (by decide); have hsz := Nat.le_trans hbase.2 t.size; replace hbase := And.intro hbase.1 hsz; replace mSpan := mSpan.keep t (by decide) (by decide); clear hbt hsz t)
    | (go_at_call 110; refine (growInt_nil hobj rfl).mono ?_; rintro e _ ⟨rfl, rfl⟩)
    | (go_at_call 111; refine (growText_nil hobj rfl).mono ?_; rintro e _ ⟨rfl, rfl⟩)
    | (go_at_call 112; refine (growRow_nil hobj rfl).mono ?_; rintro e _ ⟨rfl, rfl⟩)
    | (go_at_call 113; refine (growOp_nil hobj rfl).mono ?_; rintro e _ ⟨rfl, rfl⟩)
    | (go_at_call 114; refine (mSpan.grow hT hobj rfl hbase).mono ?_; rintro e wSpan2 ⟨rfl, ⟨hsSpan2, eSpan⟩, t⟩; clear mSpan; have hbt := t.below hbase.2; replace hb := hb.trans hbt; replace hT := hT.keep hbt hbase.1; replace hobj := t.heap hobj (by decide); have hsz := Nat.le_trans hbase.2 t.size; replace hbase := And.intro hbase.1 hsz; replace eId := eId.keep t (by decide) (by decide); clear hbt hsz t)
    | (go_at_call 115; refine (growChange_nil hobj rfl).mono ?_; rintro e _ ⟨rfl, rfl⟩)
    | (go_at_call 116; refine (growResult_nil hobj rfl).mono ?_; rintro e _ ⟨rfl, rfl⟩)
    | (go_at_call 117; refine (growMsg_nil hobj rfl).mono ?_; rintro e _ ⟨rfl, rfl⟩)
    | (go_at_call 118; refine (growPart_nil hobj rfl).mono ?_; rintro e _ ⟨rfl, rfl⟩)
    | (go_at_call 119; refine (growDeed_nil hobj rfl).mono ?_; rintro e _ ⟨rfl, rfl⟩)
    | (go_at_call 120; refine (lookByte_nil hobj rfl).mono ?_; rintro e _ ⟨rfl, rfl⟩)
    | (go_at_call 121; refine (eId.look hT hobj rfl hbase).mono ?_; rintro e wId3 ⟨rfl, t⟩; have hbt := t.below hbase.2; replace hb := hb.trans hbt; replace hT := hT.keep hbt hbase.1; replace hobj := t.heap hobj (by decide); have hsz := Nat.le_trans hbase.2 t.size; replace hbase := And.intro hbase.1 hsz; replace eId := eId.keep t (by decide) (by decide); replace eSpan := eSpan.keep t (by decide) (by decide); clear hbt hsz t)
    | (go_at_call 122; refine (lookInt_nil hobj rfl).mono ?_; rintro e _ ⟨rfl, rfl⟩)
    | (go_at_call 123; refine (lookText_nil hobj rfl).mono ?_; rintro e _ ⟨rfl, rfl⟩)
    | (go_at_call 124; refine (lookRow_nil hobj rfl).mono ?_; rintro e _ ⟨rfl, rfl⟩)
    | (go_at_call 125; refine (lookOp_nil hobj rfl).mono ?_; rintro e _ ⟨rfl, rfl⟩)
    | (go_at_call 126; refine (eSpan.look hT hobj rfl hbase).mono ?_; rintro e wSpan3 ⟨rfl, t⟩; have hbt := t.below hbase.2; replace hb := hb.trans hbt; replace hT := hT.keep hbt hbase.1; replace hobj := t.heap hobj (by decide); have hsz := Nat.le_trans hbase.2 t.size; replace hbase := And.intro hbase.1 hsz; replace eId := eId.keep t (by decide) (by decide); replace eSpan := eSpan.keep t (by decide) (by decide); clear hbt hsz t)
    | (go_at_call 127; refine (lookChange_nil hobj rfl).mono ?_; rintro e _ ⟨rfl, rfl⟩)
    | (go_at_call 128; refine (lookResult_nil hobj rfl).mono ?_; rintro e _ ⟨rfl, rfl⟩)
    | (go_at_call 129; refine (lookMsg_nil hobj rfl).mono ?_; rintro e _ ⟨rfl, rfl⟩)
    | (go_at_call 130; refine (lookPart_nil hobj rfl).mono ?_; rintro e _ ⟨rfl, rfl⟩)
    | (go_at_call 131; refine (lookDeed_nil hobj rfl).mono ?_; rintro e _ ⟨rfl, rfl⟩))
  go_ret
  exact ⟨rfl, hb⟩

end Go.Proofs.YtanjgeacmpmjhaaGreatDoor

set_option linter.unusedVariables false
set_option linter.unusedSimpArgs false
set_option linter.unusedSectionVars false
namespace Go.Proofs.YtanjgeacmpmjhaaGreatDoor
open Go.RowKit

theorem FilId.nil (base : Nat) (w : World) : FilId base w [] 0 := fun j h hj => by simp at hj
theorem FilId.snoc {base : Nat} {w : World} {hs : List Hd} {x : Hd} {xs : List Int} (h : FilId base w hs 0) (ho : Own encU 1 42 base w x.l xs) (hl : xs.length ≤ 1000000) : FilId base w (hs ++ [x]) 0 := fun j y hj => by
  by_cases hlt : j < hs.length
  · rw [List.getElem?_append_left hlt] at hj
    exact h j y hj
  · rw [List.getElem?_append_right (by omega)] at hj
    obtain ⟨_, e⟩ := List.getElem?_eq_some_iff.1 hj
    simp at e
    subst e
    exact ⟨xs, ho, hl, fun h => absurd h (Nat.not_lt_zero _)⟩
theorem PreId.nil (base : Nat) (w : World) : PreId base w nilV [] := ⟨.nil _ _ _ _ _, by simp, fun h hm => (by cases hm), .nil _ _, .nil⟩
theorem PreId.keepF {base : Nat} {w w' : World} {v : Value} {hs : List Hd} {F : Nat → Prop} (h : PreId base w v hs) (t : Turn F w w') (h1 : ∀ g cur, w.heap[g]? = some (.cells cur 216 (0, 0)) → ¬ F g) (h2 : ∀ g, Blk hs g → ¬ F g) : PreId base w' v hs :=
  ⟨h.own.turn t fun g hg => h1 g _ (h.own.typed g hg).2.choose_spec, h.len, h.nn, h.fil.turn t h2, h.sep⟩
theorem PreId.below {base : Nat} {w w' : World} {v : Value} {hs : List Hd} (h : PreId base w v hs) (hb : Below w.heap.size w w') : PreId base w' v hs :=
  h.keepF (F := fun _ => False) (.of_below hb) (fun _ _ _ => id) (fun _ _ => id)
set_option maxHeartbeats 400000 in
/-- A list is told. -/
theorem PreId.tell {base : Nat} {w : World} {B n : Nat} {cs : Array Value} {v : Value} {hs : List Hd} (h : PreId base w v hs) (hobj : w.heap[B]? = some (.cells cs bookT (0, 0))) (hc0 : cs[0]? = some (.int .i64 n)) (hcs : cs[2]? = some v)
    (hB : base ≤ B) (hlen : hs.length < 100000) (hn : n < 100000) (hbase : base ≤ w.heap.size) {A : Option Addr} {m c : Nat} {xs : List Int} (ho : Own encU 1 42 base w (.slice A m c) xs) (hxl : xs.length ≤ 1000000)
    (hoff : ∀ g, (Value.slice A m c).ownBlock = some g → ¬ Blk hs g) :
    Calls Tryz.prog 52 #[.pointer (some ⟨B, 0, none⟩), .slice A m c] w fun e w' => e = .returned (.tuple #[]) ∧
      (∃ v', w'.heap[B]? = some (.cells ((cs.setIfInBounds 0 (.int .i64 ((n + 1 : Nat) : Int))).setIfInBounds 2 v') bookT (0, 0)) ∧ PreId base w' v' (hs ++ [⟨.slice A m c, nilV, n + 1⟩])) ∧ TurnT base w w' [bookT, 216] := by
  have hk := keepId_calls hobj hc0 hcs h.own (by omega) (by omega) hbase A m c
  have FIN : ∀ w' : World, (∃ v', w'.heap[B]? = some (.cells ((cs.setIfInBounds 0 (.int .i64 ((n : Int) + 1))).setIfInBounds 2 v') bookT (0, 0)) ∧
      Own Hd.enc 3 216 base w' v' (hs ++ [⟨.slice A m c, nilV, n + 1⟩]) ∧ Turn (fun g => g = B ∨ v.ownBlock = some g) w w' ∧ (∀ g, v'.ownBlock = some g → v.ownBlock = some g ∨ w.heap.size ≤ g)) →
      (∃ v', w'.heap[B]? = some (.cells ((cs.setIfInBounds 0 (.int .i64 ((n + 1 : Nat) : Int))).setIfInBounds 2 v') bookT (0, 0)) ∧ PreId base w' v' (hs ++ [⟨.slice A m c, nilV, n + 1⟩])) ∧ TurnT base w w' [bookT, 216] := by
    rintro w' ⟨v', o', own', t, -⟩
    have hT : TurnT base w w' [bookT, 216] := ⟨_, t, fun g hg => hg.elim (fun e => ⟨by omega, cs, bookT, (by rw [e]; exact hobj), by simp⟩) (fun e => ⟨(h.own.typed g e).1, _, _, (h.own.typed g e).2.choose_spec, by simp⟩)⟩
    have hT2 : 42 ∉ [bookT, 216] := by decide
    refine ⟨⟨v', o', own', by simp; omega, fun x hx => ?_, ?_, ?_⟩, hT⟩
    · rcases List.mem_append.1 hx with hx | hx
      · exact h.nn x hx
      · rw [List.mem_singleton.1 hx]; exact ⟨by simp only; omega, _, _, _, rfl⟩
    · exact (h.fil.turn hT.choose_spec.1 fun g hg => hT.spare (h.fil.typed hg).2.choose_spec hT2).snoc (hT.own ho hT2) hxl
    · exact h.sep.snoc fun a ha g hg e => hoff g e ⟨a, ha, hg⟩
  have HF := Lib.hid FIN
  clear FIN h hobj hc0 hcs ho hoff
  go_enter Tryz.func52, Tryz.ntmps52
  go_wp2_with (go_at_call 146; refine hk.mono ?_; rintro e w1 ⟨rfl, hP⟩)
  go_end0
  exact ⟨rfl, HF.out _ hP⟩

end Go.Proofs.YtanjgeacmpmjhaaGreatDoor

set_option linter.unusedVariables false
set_option linter.unusedSimpArgs false
set_option linter.unusedSectionVars false
namespace Go.Proofs.YtanjgeacmpmjhaaGreatDoor
open Go.RowKit

theorem rway11_calls {base : Nat} {w : World} {C : Nat} {v : Value} {hs : List Held} (h : RTab base w C v hs) (hl : hs.length ≤ 100000) (who : Int) (f t : ByteArray) (hf : f.size ≤ 9223372036854775807) (ht : t.size ≤ 9223372036854775807) (al : Bool) :
    Calls Tryz.prog 56 #[.pointer (some ⟨C, 0, none⟩), .int .u32 who, .agg #[.string f, .string t], .bool al] w
      fun e w' => ∃ v', e = .returned v' ∧ OwnU w.heap.size w' v' (if mayL who f t = true then wayR who f t al hs else []) ∧ Below w.heap.size w w' := by
  cases al
  · exact rway11F h hl who f t hf ht
  · exact rway11T h hl who f t hf ht

end Go.Proofs.YtanjgeacmpmjhaaGreatDoor

set_option linter.unusedVariables false
set_option linter.unusedSimpArgs false
set_option linter.unusedSectionVars false
namespace Go.Proofs.YtanjgeacmpmjhaaGreatDoor
open Go.RowKit

/-- A Book in which these kinds are told, and no others. -/
structure BookIS (base : Nat) (w : World) (B n : Nat) (vId : Value) (hsId : List Hd) (vSpan : Value) (hsSpan : List Hd) : Prop where
  obj : w.heap[B]? = some (.cells #[.int .i64 n, nilV, vId, nilV, nilV, nilV, nilV, vSpan, nilV, nilV, nilV, nilV, nilV] bookT (0, 0))
  low : base ≤ B
  pId : PreId base w vId hsId
  pSpan : PreSpan base w vSpan hsSpan
section
variable {base : Nat} {w w' : World} {B n : Nat} {vId vSpan : Value} {hsId hsSpan : List Hd}
theorem BookIS.start (base : Nat) (w : World) (hb : base ≤ w.heap.size) : BookIS base (w.alloc (.cells #[.int .i64 0, nilV, nilV, nilV, nilV, nilV, nilV, nilV, nilV, nilV, nilV, nilV, nilV] bookT)) w.heap.size 0 nilV [] nilV [] := ⟨alloc_new w _, hb, .nil _ _, .nil _ _⟩
theorem BookIS.lt (h : BookIS base w B n vId hsId vSpan hsSpan) : B < w.heap.size := (Array.getElem?_eq_some_iff.1 h.obj).1
theorem BookIS.keepF {F : Nat → Prop} (h : BookIS base w B n vId hsId vSpan hsSpan) (t : Turn F w w') (hF : ∀ g cur T, F g → w.heap[g]? = some (.cells cur T (0, 0)) → T ∉ [bookT, 216, 231]) (hId : ∀ g, Blk hsId g → ¬ F g) (hSpan : ∀ g, Blk hsSpan g → ¬ F g) : BookIS base w' B n vId hsId vSpan hsSpan :=
  ⟨t.heap h.obj fun f => hF _ _ _ f h.obj (by simp), h.low, h.pId.keepF t (fun g cur e f => hF _ _ _ f e (by simp)) hId, h.pSpan.keepF t (fun g cur e f => hF _ _ _ f e (by simp)) hSpan⟩
theorem BookIS.below (h : BookIS base w B n vId hsId vSpan hsSpan) (hb : Below w.heap.size w w') : BookIS base w' B n vId hsId vSpan hsSpan :=
  h.keepF (F := fun _ => False) (.of_below hb) (fun _ _ _ f => f.elim) (fun _ _ => id) (fun _ _ => id)
theorem BookIS.tellId (h : BookIS base w B n vId hsId vSpan hsSpan) (hlen : hsId.length < 100000) (hn : n < 100000) (hbase : base ≤ w.heap.size) {A : Option Addr} {m c : Nat} {xs : List Int} (ho : Own encU 1 42 base w (.slice A m c) xs) (hxl : xs.length ≤ 1000000)
    (hoff : ∀ g, (Value.slice A m c).ownBlock = some g → ¬ Blk hsId g) :
    Calls Tryz.prog 52 #[.pointer (some ⟨B, 0, none⟩), .slice A m c] w fun e w' => e = .returned (.tuple #[]) ∧ (∃ v', BookIS base w' B (n + 1) v' (hsId ++ [⟨.slice A m c, nilV, n + 1⟩]) vSpan hsSpan) ∧ TurnT base w w' [bookT, 216] :=
  (h.pId.tell h.obj rfl rfl h.low hlen hn hbase ho hxl hoff).mono fun e w' ⟨he, ⟨v', o', p'⟩, t⟩ => ⟨he, ⟨v', o', h.low, p', h.pSpan.keep t (by decide) (by decide)⟩, t⟩
theorem BookIS.tellSpan (h : BookIS base w B n vId hsId vSpan hsSpan) (hlen : hsSpan.length < 100000) (hn : n < 100000) (hbase : base ≤ w.heap.size) {A : Option Addr} {m c : Nat} {xs : List Span} (ho : Own Span.enc 2 47 base w (.slice A m c) xs) (hxl : xs.length ≤ 1000000)
    (hoff : ∀ g, (Value.slice A m c).ownBlock = some g → ¬ Blk hsSpan g) :
    Calls Tryz.prog 60 #[.pointer (some ⟨B, 0, none⟩), .slice A m c] w fun e w' => e = .returned (.tuple #[]) ∧ (∃ v', BookIS base w' B (n + 1) vId hsId v' (hsSpan ++ [⟨.slice A m c, nilV, n + 1⟩])) ∧ TurnT base w w' [bookT, 231] :=
  (h.pSpan.tell h.obj rfl rfl h.low hlen hn hbase ho hxl hoff).mono fun e w' ⟨he, ⟨v', o', p'⟩, t⟩ => ⟨he, ⟨v', o', h.low, h.pId.keep t (by decide) (by decide), p'⟩, t⟩
theorem BookIS.apart (h : BookIS base w B n vId hsId vSpan hsSpan) (hT : Tab10 w) (hbase : 0 < base ∧ base ≤ w.heap.size) :
    Calls Tryz.prog 30 #[.pointer (some ⟨B, 0, none⟩)] w fun e w' => e = .returned (.bool true) ∧ Below base w w' :=
  apartIS_calls hT h.obj h.pId h.pSpan hbase
end
end Go.Proofs.YtanjgeacmpmjhaaGreatDoor
