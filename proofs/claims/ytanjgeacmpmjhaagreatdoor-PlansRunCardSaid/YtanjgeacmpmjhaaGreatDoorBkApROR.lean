import Derived.Test.YtanjgeacmpmjhaaGreatDoorBkNil
import Derived.Test.YtanjgeacmpmjhaaGreatDoorBkRowK
import Derived.Test.YtanjgeacmpmjhaaGreatDoorBkOpK
import Derived.Test.YtanjgeacmpmjhaaGreatDoorBkResultK
set_option linter.unusedVariables false
set_option linter.unusedSimpArgs false
set_option linter.unusedSectionVars false
namespace Go.Proofs.YtanjgeacmpmjhaaGreatDoor
open Go.RowKit

section
variable {base : Nat} {w : World} {v : Value} {hs : List Hd}
theorem MidRow.lts (h : MidRow base w v hs) : ∀ g, (Blk hs g ∨ v.ownBlock = some g) → g < w.heap.size := fun g hg => by
  rcases hg with hg | hg
  · exact (Array.getElem?_eq_some_iff.1 (h.fil.typed hg).2.choose_spec).1
  · exact h.own.lt g hg
theorem MidRow.growS {vN : Value} {hsN : List Hd} {SM : Nat} {B : Nat} {cs : Array Value} (h : MidRow base w v hs) (m : MidResult base w vN hsN SM) (hlt : ∀ g, (Blk hs g ∨ v.ownBlock = some g) → g < SM) (hT : Tab10 w) (hobj : w.heap[B]? = some (.cells cs bookT (0, 0))) (hcs : cs[5]? = some v) (hbase : 0 < base ∧ base ≤ w.heap.size) :
    Calls Tryz.prog 112 #[.pointer (some ⟨B, 0, none⟩)] w fun e w' => e = .returned (.tuple #[]) ∧ (∃ hs', EndRow base w' v hs') ∧ TurnT base w w' [44, 206] ∧ MidResult base w' vN hsN SM := by
  have hd := h.fil.don w.heap.size
  refine (growRow_calls hT hobj hcs h.own h.len h.nn hd h.sep hbase).mono ?_
  rintro e w2 ⟨rfl, ⟨hs2, hsame, hh2, hd2⟩, ht2⟩
  have hl2 := hsame.1
  refine ⟨rfl, ⟨hs2, hh2, by rw [hl2]; exact h.len, hsame.nn h.nn, ⟨w.heap.size, by rw [hl2]; exact hd2⟩⟩, ⟨_, ht2, fun g hg => ?_⟩, m.keepS ht2 fun g hg => ⟨hlt g hg, ?_⟩⟩
  · rcases hg with hg | hg
    · exact ⟨(hd.typed hg).1, _, _, (hd.typed hg).2.choose_spec, by simp⟩
    · exact ⟨(h.own.typed g hg).1, _, _, (h.own.typed g hg).2.choose_spec, by simp⟩
  · rcases hg with hg | hg
    · exact ⟨_, _, (hd.typed hg).2.choose_spec, by decide, by decide⟩
    · exact ⟨_, _, (h.own.typed g hg).2.choose_spec, by decide, by decide⟩
end

set_option maxHeartbeats 2000000 in
set_option maxRecDepth 100000 in
/-- These kinds alone are kept: all of their lists are apart. -/
theorem apartROR_calls {base : Nat} {w : World} {B n : Nat} {vRow vOp vResult : Value} {hsRow hsOp hsResult : List Hd} (hT : Tab10 w) (hobj : w.heap[B]? = some (.cells #[.int .i64 n, nilV, nilV, nilV, nilV, vRow, vOp, nilV, nilV, vResult, nilV, nilV, nilV] bookT (0, 0)))
    (pRow : PreRow base w vRow hsRow) (pOp : PreOp base w vOp hsOp) (pResult : PreResult base w vResult hsResult) (hbase : 0 < base ∧ base ≤ w.heap.size) :
    Calls Tryz.prog 30 #[.pointer (some ⟨B, 0, none⟩)] w fun e w' => e = .returned (.bool true) ∧ Below base w w' := by
  have hb : Below base w w := Below.refl _ _
  go_enter Tryz.func30, Tryz.ntmps30
  go_wp2_with (first
    | (go_at_call 96; refine (fillByte_nil hobj rfl).mono ?_; rintro e _ ⟨rfl, rfl⟩)
    | (go_at_call 97; refine (fillId_nil hobj rfl).mono ?_; rintro e _ ⟨rfl, rfl⟩)
    | (go_at_call 98; refine (fillInt_nil hobj rfl).mono ?_; rintro e _ ⟨rfl, rfl⟩)
    | (go_at_call 99; refine (fillText_nil hobj rfl).mono ?_; rintro e _ ⟨rfl, rfl⟩)
    | (go_at_call 100; refine (pRow.fill hT hobj rfl hbase).mono ?_; rintro e wRow1 ⟨rfl, mRow, t⟩; clear pRow; have hbt := t.below hbase.2; replace hb := hb.trans hbt; replace hT := hT.keep hbt hbase.1; replace hobj := t.heap hobj (by decide); have hsz := Nat.le_trans hbase.2 t.size; replace hbase := And.intro hbase.1 hsz; replace pOp := pOp.keep t (by decide) (by decide); replace pResult := pResult.keep t (by decide) (by decide); clear hbt hsz t)
    | (go_at_call 101; refine (pOp.fill hT hobj rfl hbase).mono ?_; rintro e wOp1 ⟨rfl, mOp, t⟩; clear pOp; have hbt := t.below hbase.2; replace hb := hb.trans hbt; replace hT := hT.keep hbt hbase.1; replace hobj := t.heap hobj (by decide); have hsz := Nat.le_trans hbase.2 t.size; replace hbase := And.intro hbase.1 hsz; replace mRow := mRow.keep t (by decide) (by decide); replace pResult := pResult.keep t (by decide) (by decide); clear hbt hsz t)
    | (go_at_call 102; refine (fillSpan_nil hobj rfl).mono ?_; rintro e _ ⟨rfl, rfl⟩)
    | (go_at_call 103; refine (fillChange_nil hobj rfl).mono ?_; rintro e _ ⟨rfl, rfl⟩)
    | (go_at_call 104; have hltN := mRow.lts; refine (pResult.fill hT hobj rfl hbase).mono ?_; rintro e wResult1 ⟨rfl, mResult, t⟩; clear pResult; have hbt := t.below hbase.2; replace hb := hb.trans hbt; replace hT := hT.keep hbt hbase.1; replace hobj := t.heap hobj (by decide); have hsz := Nat.le_trans hbase.2 t.size; replace hbase := And.intro hbase.1 hsz; replace mRow := mRow.keep t (by decide) (by decide); replace mOp := mOp.keep t (by decide) (by decide); clear hbt hsz t)
    | (go_at_call 105; refine (fillMsg_nil hobj rfl).mono ?_; rintro e _ ⟨rfl, rfl⟩)
    | (go_at_call 106; refine (fillPart_nil hobj rfl).mono ?_; rintro e _ ⟨rfl, rfl⟩)
    | (go_at_call 107; refine (fillDeed_nil hobj rfl).mono ?_; rintro e _ ⟨rfl, rfl⟩)
    | (go_at_call 108; refine (growByte_nil hobj rfl).mono ?_; rintro e _ ⟨rfl, rfl⟩)
    | (go_at_call 109; refine (growId_nil hobj rfl).mono ?_; rintro e _ ⟨rfl, rfl⟩)
    | (go_at_call 110; refine (growInt_nil hobj rfl).mono ?_; rintro e _ ⟨rfl, rfl⟩)
    | (go_at_call 111; refine (growText_nil hobj rfl).mono ?_; rintro e _ ⟨rfl, rfl⟩)
    | (go_at_call 112; refine (mRow.growS mResult hltN hT hobj rfl hbase).mono ?_; rintro e wRow2 ⟨rfl, ⟨hsRow2, eRow⟩, t, mN⟩; clear mRow mResult; have mResult := mN; clear mN; have hbt := t.below hbase.2; replace hb := hb.trans hbt; replace hT := hT.keep hbt hbase.1; replace hobj := t.heap hobj (by decide); have hsz := Nat.le_trans hbase.2 t.size; replace hbase := And.intro hbase.1 hsz; replace mOp := mOp.keep t (by decide) (by decide); clear hbt hsz t)
    | (go_at_call 113; refine (mOp.grow hT hobj rfl hbase).mono ?_; rintro e wOp2 ⟨rfl, ⟨hsOp2, eOp⟩, t⟩; clear mOp; have hbt := t.below hbase.2; replace hb := hb.trans hbt; replace hT := hT.keep hbt hbase.1; replace hobj := t.heap hobj (by decide); have hsz := Nat.le_trans hbase.2 t.size; replace hbase := And.intro hbase.1 hsz; replace eRow := eRow.keep t (by decide) (by decide); replace mResult := mResult.keep t (by decide) (by decide) (by decide); clear hbt hsz t)
    | (go_at_call 114; refine (growSpan_nil hobj rfl).mono ?_; rintro e _ ⟨rfl, rfl⟩)
    | (go_at_call 115; refine (growChange_nil hobj rfl).mono ?_; rintro e _ ⟨rfl, rfl⟩)
    | (go_at_call 116; refine (mResult.grow hT hobj rfl hbase).mono ?_; rintro e wResult2 ⟨rfl, ⟨hsResult2, eResult⟩, t⟩; clear mResult; have hbt := t.below hbase.2; replace hb := hb.trans hbt; replace hT := hT.keep hbt hbase.1; replace hobj := t.heap hobj (by decide); have hsz := Nat.le_trans hbase.2 t.size; replace hbase := And.intro hbase.1 hsz; replace eRow := eRow.keep t (by decide) (by decide); replace eOp := eOp.keep t (by decide) (by decide); clear hbt hsz t)
    | (go_at_call 117; refine (growMsg_nil hobj rfl).mono ?_; rintro e _ ⟨rfl, rfl⟩)
    | (go_at_call 118; refine (growPart_nil hobj rfl).mono ?_; rintro e _ ⟨rfl, rfl⟩)
    | (go_at_call 119; refine (growDeed_nil hobj rfl).mono ?_; rintro e _ ⟨rfl, rfl⟩)
    | (go_at_call 120; refine (lookByte_nil hobj rfl).mono ?_; rintro e _ ⟨rfl, rfl⟩)
    | (go_at_call 121; refine (lookId_nil hobj rfl).mono ?_; rintro e _ ⟨rfl, rfl⟩)
    | (go_at_call 122; refine (lookInt_nil hobj rfl).mono ?_; rintro e _ ⟨rfl, rfl⟩)
    | (go_at_call 123; refine (lookText_nil hobj rfl).mono ?_; rintro e _ ⟨rfl, rfl⟩)
    | (go_at_call 124; refine (eRow.look hT hobj rfl hbase).mono ?_; rintro e wRow3 ⟨rfl, t⟩; have hbt := t.below hbase.2; replace hb := hb.trans hbt; replace hT := hT.keep hbt hbase.1; replace hobj := t.heap hobj (by decide); have hsz := Nat.le_trans hbase.2 t.size; replace hbase := And.intro hbase.1 hsz; replace eRow := eRow.keep t (by decide) (by decide); replace eOp := eOp.keep t (by decide) (by decide); replace eResult := eResult.keep t (by decide) (by decide) (by decide); clear hbt hsz t)
    | (go_at_call 125; refine (eOp.look hT hobj rfl hbase).mono ?_; rintro e wOp3 ⟨rfl, t⟩; have hbt := t.below hbase.2; replace hb := hb.trans hbt; replace hT := hT.keep hbt hbase.1; replace hobj := t.heap hobj (by decide); have hsz := Nat.le_trans hbase.2 t.size; replace hbase := And.intro hbase.1 hsz; replace eRow := eRow.keep t (by decide) (by decide); replace eOp := eOp.keep t (by decide) (by decide); replace eResult := eResult.keep t (by decide) (by decide) (by decide); clear hbt hsz t)
    | (go_at_call 126; refine (lookSpan_nil hobj rfl).mono ?_; rintro e _ ⟨rfl, rfl⟩)
    | (go_at_call 127; refine (lookChange_nil hobj rfl).mono ?_; rintro e _ ⟨rfl, rfl⟩)
    | (go_at_call 128; refine (eResult.look hT hobj rfl hbase).mono ?_; rintro e wResult3 ⟨rfl, t⟩; have hbt := t.below hbase.2; replace hb := hb.trans hbt; replace hT := hT.keep hbt hbase.1; replace hobj := t.heap hobj (by decide); have hsz := Nat.le_trans hbase.2 t.size; replace hbase := And.intro hbase.1 hsz; replace eRow := eRow.keep t (by decide) (by decide); replace eOp := eOp.keep t (by decide) (by decide); replace eResult := eResult.keep t (by decide) (by decide) (by decide); clear hbt hsz t)
    | (go_at_call 129; refine (lookMsg_nil hobj rfl).mono ?_; rintro e _ ⟨rfl, rfl⟩)
    | (go_at_call 130; refine (lookPart_nil hobj rfl).mono ?_; rintro e _ ⟨rfl, rfl⟩)
    | (go_at_call 131; refine (lookDeed_nil hobj rfl).mono ?_; rintro e _ ⟨rfl, rfl⟩))
  go_ret
  exact ⟨rfl, hb⟩

end Go.Proofs.YtanjgeacmpmjhaaGreatDoor
