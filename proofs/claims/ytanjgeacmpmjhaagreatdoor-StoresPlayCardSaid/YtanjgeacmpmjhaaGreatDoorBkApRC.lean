import Derived.Test.YtanjgeacmpmjhaaGreatDoorBkNil
import Derived.Test.YtanjgeacmpmjhaaGreatDoorBkRowK
import Derived.Test.YtanjgeacmpmjhaaGreatDoorBkChangeK
set_option linter.unusedVariables false
set_option linter.unusedSimpArgs false
set_option linter.unusedSectionVars false
namespace Go.Proofs.YtanjgeacmpmjhaaGreatDoor
open Go.RowKit

set_option maxHeartbeats 2000000 in
set_option maxRecDepth 100000 in
/-- These kinds alone are kept: all of their lists are apart. -/
theorem apartRC_calls {base : Nat} {w : World} {B n : Nat} {vRow vChange : Value} {hsRow hsChange : List Hd} (hT : Tab10 w) (hobj : w.heap[B]? = some (.cells #[.int .i64 n, nilV, nilV, nilV, nilV, vRow, nilV, nilV, vChange, nilV, nilV, nilV, nilV] bookT (0, 0)))
    (pRow : PreRow base w vRow hsRow) (pChange : PreChange base w vChange hsChange) (hbase : 0 < base ∧ base ≤ w.heap.size) :
    Calls Tryz.prog 30 #[.pointer (some ⟨B, 0, none⟩)] w fun e w' => e = .returned (.bool true) ∧ Below base w w' := by
  have hb : Below base w w := Below.refl _ _
  go_enter Tryz.func30, Tryz.ntmps30
  go_wp2_with (first
    | (go_at_call 96; refine (fillByte_nil hobj rfl).mono ?_; rintro e _ ⟨rfl, rfl⟩)
    | (go_at_call 97; refine (fillId_nil hobj rfl).mono ?_; rintro e _ ⟨rfl, rfl⟩)
    | (go_at_call 98; refine (fillInt_nil hobj rfl).mono ?_; rintro e _ ⟨rfl, rfl⟩)
    | (go_at_call 99; refine (fillText_nil hobj rfl).mono ?_; rintro e _ ⟨rfl, rfl⟩)
    | (go_at_call 100; refine (pRow.fill hT hobj rfl hbase).mono ?_; rintro e wRow1 ⟨rfl, mRow, t⟩; clear pRow; have hbt := t.below hbase.2; replace hb := hb.trans hbt; replace hT := hT.keep hbt hbase.1; replace hobj := t.heap hobj (by decide); have hsz := Nat.le_trans hbase.2 t.size; replace hbase := And.intro hbase.1 hsz; replace pChange := pChange.keep t (by decide) (by decide); clear hbt hsz t)
    | (go_at_call 101; refine (fillOp_nil hobj rfl).mono ?_; rintro e _ ⟨rfl, rfl⟩)
    | (go_at_call 102; refine (fillSpan_nil hobj rfl).mono ?_; rintro e _ ⟨rfl, rfl⟩)
    | (go_at_call 103; refine (pChange.fill hT hobj rfl hbase).mono ?_; rintro e wChange1 ⟨rfl, mChange, t⟩; clear pChange; have hbt := t.below hbase.2; replace hb := hb.trans hbt; replace hT := hT.keep hbt hbase.1; replace hobj := t.heap hobj (by decide); have hsz := Nat.le_trans hbase.2 t.size; replace hbase := And.intro hbase.1 hsz; replace mRow := mRow.keep t (by decide) (by decide); clear hbt hsz t)
    | (go_at_call 104; refine (fillResult_nil hobj rfl).mono ?_; rintro e _ ⟨rfl, rfl⟩)
    | (go_at_call 105; refine (fillMsg_nil hobj rfl).mono ?_; rintro e _ ⟨rfl, rfl⟩)
    | (go_at_call 106; refine (fillPart_nil hobj rfl).mono ?_; rintro e _ ⟨rfl, rfl⟩)
    | (go_at_call 107; refine (fillDeed_nil hobj rfl).mono ?_; rintro e _ ⟨rfl, rfl⟩)
    | (go_at_call 108; refine (growByte_nil hobj rfl).mono ?_; rintro e _ ⟨rfl, rfl⟩)
    | (go_at_call 109; refine (growId_nil hobj rfl).mono ?_; rintro e _ ⟨rfl, rfl⟩)
    | (go_at_call 110; refine (growInt_nil hobj rfl).mono ?_; rintro e _ ⟨rfl, rfl⟩)
    | (go_at_call 111; refine (growText_nil hobj rfl).mono ?_; rintro e _ ⟨rfl, rfl⟩)
    | (go_at_call 112; refine (mRow.grow hT hobj rfl hbase).mono ?_; rintro e wRow2 ⟨rfl, ⟨hsRow2, eRow⟩, t⟩; clear mRow; have hbt := t.below hbase.2; replace hb := hb.trans hbt; replace hT := hT.keep hbt hbase.1; replace hobj := t.heap hobj (by decide); have hsz := Nat.le_trans hbase.2 t.size; replace hbase := And.intro hbase.1 hsz; replace mChange := mChange.keep t (by decide) (by decide); clear hbt hsz t)
    | (go_at_call 113; refine (growOp_nil hobj rfl).mono ?_; rintro e _ ⟨rfl, rfl⟩)
    | (go_at_call 114; refine (growSpan_nil hobj rfl).mono ?_; rintro e _ ⟨rfl, rfl⟩)
    | (go_at_call 115; refine (mChange.grow hT hobj rfl hbase).mono ?_; rintro e wChange2 ⟨rfl, ⟨hsChange2, eChange⟩, t⟩; clear mChange; have hbt := t.below hbase.2; replace hb := hb.trans hbt; replace hT := hT.keep hbt hbase.1; replace hobj := t.heap hobj (by decide); have hsz := Nat.le_trans hbase.2 t.size; replace hbase := And.intro hbase.1 hsz; replace eRow := eRow.keep t (by decide) (by decide); clear hbt hsz t)
    | (go_at_call 116; refine (growResult_nil hobj rfl).mono ?_; rintro e _ ⟨rfl, rfl⟩)
    | (go_at_call 117; refine (growMsg_nil hobj rfl).mono ?_; rintro e _ ⟨rfl, rfl⟩)
    | (go_at_call 118; refine (growPart_nil hobj rfl).mono ?_; rintro e _ ⟨rfl, rfl⟩)
    | (go_at_call 119; refine (growDeed_nil hobj rfl).mono ?_; rintro e _ ⟨rfl, rfl⟩)
    | (go_at_call 120; refine (lookByte_nil hobj rfl).mono ?_; rintro e _ ⟨rfl, rfl⟩)
    | (go_at_call 121; refine (lookId_nil hobj rfl).mono ?_; rintro e _ ⟨rfl, rfl⟩)
    | (go_at_call 122; refine (lookInt_nil hobj rfl).mono ?_; rintro e _ ⟨rfl, rfl⟩)
    | (go_at_call 123; refine (lookText_nil hobj rfl).mono ?_; rintro e _ ⟨rfl, rfl⟩)
    | (go_at_call 124; refine (eRow.look hT hobj rfl hbase).mono ?_; rintro e wRow3 ⟨rfl, t⟩; have hbt := t.below hbase.2; replace hb := hb.trans hbt; replace hT := hT.keep hbt hbase.1; replace hobj := t.heap hobj (by decide); have hsz := Nat.le_trans hbase.2 t.size; replace hbase := And.intro hbase.1 hsz; replace eRow := eRow.keep t (by decide) (by decide); replace eChange := eChange.keep t (by decide) (by decide); clear hbt hsz t)
    | (go_at_call 125; refine (lookOp_nil hobj rfl).mono ?_; rintro e _ ⟨rfl, rfl⟩)
    | (go_at_call 126; refine (lookSpan_nil hobj rfl).mono ?_; rintro e _ ⟨rfl, rfl⟩)
    | (go_at_call 127; refine (eChange.look hT hobj rfl hbase).mono ?_; rintro e wChange3 ⟨rfl, t⟩; have hbt := t.below hbase.2; replace hb := hb.trans hbt; replace hT := hT.keep hbt hbase.1; replace hobj := t.heap hobj (by decide); have hsz := Nat.le_trans hbase.2 t.size; replace hbase := And.intro hbase.1 hsz; replace eRow := eRow.keep t (by decide) (by decide); replace eChange := eChange.keep t (by decide) (by decide); clear hbt hsz t)
    | (go_at_call 128; refine (lookResult_nil hobj rfl).mono ?_; rintro e _ ⟨rfl, rfl⟩)
    | (go_at_call 129; refine (lookMsg_nil hobj rfl).mono ?_; rintro e _ ⟨rfl, rfl⟩)
    | (go_at_call 130; refine (lookPart_nil hobj rfl).mono ?_; rintro e _ ⟨rfl, rfl⟩)
    | (go_at_call 131; refine (lookDeed_nil hobj rfl).mono ?_; rintro e _ ⟨rfl, rfl⟩))
  go_ret
  exact ⟨rfl, hb⟩

end Go.Proofs.YtanjgeacmpmjhaaGreatDoor
