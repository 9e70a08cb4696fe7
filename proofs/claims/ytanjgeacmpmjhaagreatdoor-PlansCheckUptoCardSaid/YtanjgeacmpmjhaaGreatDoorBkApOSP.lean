import Derived.Test.YtanjgeacmpmjhaaGreatDoorBkNil
import Derived.Test.YtanjgeacmpmjhaaGreatDoorBkOpK
import Derived.Test.YtanjgeacmpmjhaaGreatDoorBkSpanK
import Derived.Test.YtanjgeacmpmjhaaGreatDoorBkPartK
set_option linter.unusedVariables false
set_option linter.unusedSimpArgs false
set_option linter.unusedSectionVars false
namespace Go.Proofs.YtanjgeacmpmjhaaGreatDoor
open Go.RowKit

section
variable {base : Nat} {w : World} {v : Value} {hs : List Hd}
theorem MidOp.lts (h : MidOp base w v hs) : ∀ g, (Blk hs g ∨ v.ownBlock = some g) → g < w.heap.size := fun g hg => by
  rcases hg with hg | hg
  · exact (Array.getElem?_eq_some_iff.1 (h.fil.typed hg).2.choose_spec).1
  · exact h.own.lt g hg
theorem MidOp.growS {vN : Value} {hsN : List Hd} {SM : Nat} {B : Nat} {cs : Array Value} (h : MidOp base w v hs) (m : MidPart base w vN hsN SM) (hlt : ∀ g, (Blk hs g ∨ v.ownBlock = some g) → g < SM) (hT : Tab10 w) (hobj : w.heap[B]? = some (.cells cs bookT (0, 0))) (hcs : cs[6]? = some v) (hbase : 0 < base ∧ base ≤ w.heap.size) :
    Calls Tryz.prog 113 #[.pointer (some ⟨B, 0, none⟩)] w fun e w' => e = .returned (.tuple #[]) ∧ (∃ hs', EndOp base w' v hs') ∧ TurnT base w w' [172, 228] ∧ MidPart base w' vN hsN SM := by
  have hd := h.fil.don w.heap.size
  refine (growOp_calls hT hobj hcs h.own h.len h.nn hd h.sep hbase).mono ?_
  rintro e w2 ⟨rfl, ⟨hs2, hsame, hh2, hd2⟩, ht2⟩
  have hl2 := hsame.1
  refine ⟨rfl, ⟨hs2, hh2, by rw [hl2]; exact h.len, hsame.nn h.nn, ⟨w.heap.size, by rw [hl2]; exact hd2⟩⟩, ⟨_, ht2, fun g hg => ?_⟩, m.keepS ht2 fun g hg => ⟨hlt g hg, ?_⟩⟩
  · rcases hg with hg | hg
    · exact ⟨(hd.typed hg).1, _, _, (hd.typed hg).2.choose_spec, by simp⟩
    · exact ⟨(h.own.typed g hg).1, _, _, (h.own.typed g hg).2.choose_spec, by simp⟩
  · rcases hg with hg | hg
    · exact ⟨_, _, (hd.typed hg).2.choose_spec, by decide, by decide⟩
    · exact ⟨_, _, (h.own.typed g hg).2.choose_spec, by decide, by decide⟩
end

set_option maxHeartbeats 2000000 in
set_option maxRecDepth 100000 in
/-- These kinds alone are kept: all of their lists are apart. -/
theorem apartOSP_calls {base : Nat} {w : World} {B n : Nat} {vOp vSpan vPart : Value} {hsOp hsSpan hsPart : List Hd} (hT : Tab10 w) (hobj : w.heap[B]? = some (.cells #[.int .i64 n, nilV, nilV, nilV, nilV, nilV, vOp, vSpan, nilV, nilV, nilV, vPart, nilV] bookT (0, 0)))
    (pOp : PreOp base w vOp hsOp) (pSpan : PreSpan base w vSpan hsSpan) (pPart : PrePart base w vPart hsPart) (hbase : 0 < base ∧ base ≤ w.heap.size) :
    Calls Tryz.prog 30 #[.pointer (some ⟨B, 0, none⟩)] w fun e w' => e = .returned (.bool true) ∧ Below base w w' := by
  have hb : Below base w w := Below.refl _ _
  go_enter Tryz.func30, Tryz.ntmps30
  go_wp2_with (first
    | (go_at_call 96; refine (fillByte_nil hobj rfl).mono ?_; rintro e _ ⟨rfl, rfl⟩)
    | (go_at_call 97; refine (fillId_nil hobj rfl).mono ?_; rintro e _ ⟨rfl, rfl⟩)
    | (go_at_call 98; refine (fillInt_nil hobj rfl).mono ?_; rintro e _ ⟨rfl, rfl⟩)
    | (go_at_call 99; refine (fillText_nil hobj rfl).mono ?_; rintro e _ ⟨rfl, rfl⟩)
    | (go_at_call 100; refine (fillRow_nil hobj rfl).mono ?_; rintro e _ ⟨rfl, rfl⟩)
    | (go_at_call 101; refine (pOp.fill hT hobj rfl hbase).mono ?_; rintro e wOp1 ⟨rfl, mOp, t⟩; clear pOp; have hbt := t.below hbase.2; replace hb := hb.trans hbt; replace hT := hT.keep hbt hbase.1; replace hobj := t.heap hobj (by decide); have hsz := Nat.le_trans hbase.2 t.size; replace hbase := And.intro hbase.1 hsz; replace pSpan := pSpan.keep t (by decide) (by decide); replace pPart := pPart.keep t (by decide) (by decide); clear hbt hsz t)
    | (go_at_call 102; refine (pSpan.fill hT hobj rfl hbase).mono ?_; rintro e wSpan1 ⟨rfl, mSpan, t⟩; clear pSpan; have hbt := t.below hbase.2; replace hb := hb.trans hbt; replace hT := hT.keep hbt hbase.1; replace hobj := t.heap hobj (by decide); have hsz := Nat.le_trans hbase.2 t.size; replace hbase := And.intro hbase.1 hsz; replace mOp := mOp.keep t (by decide) (by decide); replace pPart := pPart.keep t (by decide) (by decide); clear hbt hsz t)
    | (go_at_call 103; refine (fillChange_nil hobj rfl).mono ?_; rintro e _ ⟨rfl, rfl⟩)
    | (go_at_call 104; refine (fillResult_nil hobj rfl).mono ?_; rintro e _ ⟨rfl, rfl⟩)
    | (go_at_call 105; refine (fillMsg_nil hobj rfl).mono ?_; rintro e _ ⟨rfl, rfl⟩)
    | (go_at_call 106; have hltN := mOp.lts; refine (pPart.fill hT hobj rfl hbase).mono ?_; rintro e wPart1 ⟨rfl, mPart, t⟩; clear pPart; have hbt := t.below hbase.2; replace hb := hb.trans hbt; replace hT := hT.keep hbt hbase.1; replace hobj := t.heap hobj (by decide); have hsz := Nat.le_trans hbase.2 t.size; replace hbase := And.intro hbase.1 hsz; replace mOp := mOp.keep t (by decide) (by decide); replace mSpan := mSpan.keep t (by decide) (by decide); clear hbt hsz t)
    | (go_at_call 107; refine (fillDeed_nil hobj rfl).mono ?_; rintro e _ ⟨rfl, rfl⟩)
    | (go_at_call 108; refine (growByte_nil hobj rfl).mono ?_; rintro e _ ⟨rfl, rfl⟩)
    | (go_at_call 109; refine (growId_nil hobj rfl).mono ?_; rintro e _ ⟨rfl, rfl⟩)
    | (go_at_call 110; refine (growInt_nil hobj rfl).mono ?_; rintro e _ ⟨rfl, rfl⟩)
    | (go_at_call 111; refine (growText_nil hobj rfl).mono ?_; rintro e _ ⟨rfl, rfl⟩)
    | (go_at_call 112; refine (growRow_nil hobj rfl).mono ?_; rintro e _ ⟨rfl, rfl⟩)
    | (go_at_call 113; refine (mOp.growS mPart hltN hT hobj rfl hbase).mono ?_; rintro e wOp2 ⟨rfl, ⟨hsOp2, eOp⟩, t, mN⟩; clear mOp mPart; have mPart := mN; clear mN; have hbt := t.below hbase.2; replace hb := hb.trans hbt; replace hT := hT.keep hbt hbase.1; replace hobj := t.heap hobj (by decide); have hsz := Nat.le_trans hbase.2 t.size; replace hbase := And.intro hbase.1 hsz; replace mSpan := mSpan.keep t (by decide) (by decide); clear hbt hsz t)
    | (go_at_call 114; refine (mSpan.grow hT hobj rfl hbase).mono ?_; rintro e wSpan2 ⟨rfl, ⟨hsSpan2, eSpan⟩, t⟩; clear mSpan; have hbt := t.below hbase.2; replace hb := hb.trans hbt; replace hT := hT.keep hbt hbase.1; replace hobj := t.heap hobj (by decide); have hsz := Nat.le_trans hbase.2 t.size; replace hbase := And.intro hbase.1 hsz; replace eOp := eOp.keep t (by decide) (by decide); replace mPart := mPart.keep t (by decide) (by decide) (by decide); clear hbt hsz t)
    | (go_at_call 115; refine (growChange_nil hobj rfl).mono ?_; rintro e _ ⟨rfl, rfl⟩)
    | (go_at_call 116; refine (growResult_nil hobj rfl).mono ?_; rintro e _ ⟨rfl, rfl⟩)
    | (go_at_call 117; refine (growMsg_nil hobj rfl).mono ?_; rintro e _ ⟨rfl, rfl⟩)
    | (go_at_call 118; refine (mPart.grow hT hobj rfl hbase).mono ?_; rintro e wPart2 ⟨rfl, ⟨hsPart2, ePart⟩, t⟩; clear mPart; have hbt := t.below hbase.2; replace hb := hb.trans hbt; replace hT := hT.keep hbt hbase.1; replace hobj := t.heap hobj (by decide); have hsz := Nat.le_trans hbase.2 t.size; replace hbase := And.intro hbase.1 hsz; replace eOp := eOp.keep t (by decide) (by decide); replace eSpan := eSpan.keep t (by decide) (by decide); clear hbt hsz t)
    | (go_at_call 119; refine (growDeed_nil hobj rfl).mono ?_; rintro e _ ⟨rfl, rfl⟩)
    | (go_at_call 120; refine (lookByte_nil hobj rfl).mono ?_; rintro e _ ⟨rfl, rfl⟩)
    | (go_at_call 121; refine (lookId_nil hobj rfl).mono ?_; rintro e _ ⟨rfl, rfl⟩)
    | (go_at_call 122; refine (lookInt_nil hobj rfl).mono ?_; rintro e _ ⟨rfl, rfl⟩)
    | (go_at_call 123; refine (lookText_nil hobj rfl).mono ?_; rintro e _ ⟨rfl, rfl⟩)
    | (go_at_call 124; refine (lookRow_nil hobj rfl).mono ?_; rintro e _ ⟨rfl, rfl⟩)
    | (go_at_call 125; refine (eOp.look hT hobj rfl hbase).mono ?_; rintro e wOp3 ⟨rfl, t⟩; have hbt := t.below hbase.2; replace hb := hb.trans hbt; replace hT := hT.keep hbt hbase.1; replace hobj := t.heap hobj (by decide); have hsz := Nat.le_trans hbase.2 t.size; replace hbase := And.intro hbase.1 hsz; replace eOp := eOp.keep t (by decide) (by decide); replace eSpan := eSpan.keep t (by decide) (by decide); replace ePart := ePart.keep t (by decide) (by decide) (by decide); clear hbt hsz t)
    | (go_at_call 126; refine (eSpan.look hT hobj rfl hbase).mono ?_; rintro e wSpan3 ⟨rfl, t⟩; have hbt := t.below hbase.2; replace hb := hb.trans hbt; replace hT := hT.keep hbt hbase.1; replace hobj := t.heap hobj (by decide); have hsz := Nat.le_trans hbase.2 t.size; replace hbase := And.intro hbase.1 hsz; replace eOp := eOp.keep t (by decide) (by decide); replace eSpan := eSpan.keep t (by decide) (by decide); replace ePart := ePart.keep t (by decide) (by decide) (by decide); clear hbt hsz t)
    | (go_at_call 127; refine (lookChange_nil hobj rfl).mono ?_; rintro e _ ⟨rfl, rfl⟩)
    | (go_at_call 128; refine (lookResult_nil hobj rfl).mono ?_; rintro e _ ⟨rfl, rfl⟩)
    | (go_at_call 129; refine (lookMsg_nil hobj rfl).mono ?_; rintro e _ ⟨rfl, rfl⟩)
    | (go_at_call 130; refine (ePart.look hT hobj rfl hbase).mono ?_; rintro e wPart3 ⟨rfl, t⟩; have hbt := t.below hbase.2; replace hb := hb.trans hbt; replace hT := hT.keep hbt hbase.1; replace hobj := t.heap hobj (by decide); have hsz := Nat.le_trans hbase.2 t.size; replace hbase := And.intro hbase.1 hsz; replace eOp := eOp.keep t (by decide) (by decide); replace eSpan := eSpan.keep t (by decide) (by decide); replace ePart := ePart.keep t (by decide) (by decide) (by decide); clear hbt hsz t)
    | (go_at_call 131; refine (lookDeed_nil hobj rfl).mono ?_; rintro e _ ⟨rfl, rfl⟩))
  go_ret
  exact ⟨rfl, hb⟩

end Go.Proofs.YtanjgeacmpmjhaaGreatDoor
