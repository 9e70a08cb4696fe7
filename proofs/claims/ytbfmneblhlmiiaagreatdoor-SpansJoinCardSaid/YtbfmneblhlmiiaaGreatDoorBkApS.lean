import Derived.Test.YtbfmneblhlmiiaaGreatDoorBkNil
import Derived.Test.YtbfmneblhlmiiaaGreatDoorBkSpanK
set_option linter.unusedVariables false
set_option linter.unusedSimpArgs false
set_option linter.unusedSectionVars false
namespace Go.Proofs.YtbfmneblhlmiiaaGreatDoor
open Go.RowKit

theorem SameL.n {hs hs' : List Hd} (h : SameL hs hs') (hn : ∀ h ∈ hs, h.n ≤ 100000 ∧ ∃ A n c, h.long = .slice A n c) : ∀ h ∈ hs', h.n ≤ 100000 := fun x hx => by
  obtain ⟨j, hj⟩ := List.mem_iff_getElem?.1 hx
  obtain ⟨h0, h1, _, h3⟩ := h.2 j x hj
  rw [h3]
  exact (hn h0 (List.mem_of_getElem? h1)).1

set_option maxHeartbeats 2000000 in
set_option maxRecDepth 100000 in
/-- Spans alone are kept: all of them are apart. -/
theorem apartS_calls {base : Nat} {w : World} {B n : Nat} {v : Value} {hs : List Hd} (hT : Tab10 w) (hobj : w.heap[B]? = some (.cells #[.int .i64 n, nilV, nilV, nilV, nilV, nilV, nilV, v, nilV, nilV, nilV, nilV, nilV] bookT (0, 0)))
    (hh : Own Hd.enc 3 63 base w v hs) (hlen : hs.length ≤ 100000) (hn : ∀ h ∈ hs, h.n ≤ 100000 ∧ ∃ A n c, h.long = .slice A n c) (hf : FilSpan base w hs 0) (hsep : Sep hs) (hbase : 0 < base ∧ base ≤ w.heap.size) :
    Calls Tryz.prog 11 #[.pointer (some ⟨B, 0, none⟩)] w fun e w' => e = .returned (.bool true) ∧ Below base w w' := by
  go_enter Tryz.func11, Tryz.ntmps11
  go_wp2_with (first
    | (go_at_call 20; refine (fillByte_nil hobj rfl).mono ?_; rintro e _ ⟨rfl, rfl⟩)
    | (go_at_call 21; refine (fillId_nil hobj rfl).mono ?_; rintro e _ ⟨rfl, rfl⟩)
    | (go_at_call 22; refine (fillInt_nil hobj rfl).mono ?_; rintro e _ ⟨rfl, rfl⟩)
    | (go_at_call 23; refine (fillText_nil hobj rfl).mono ?_; rintro e _ ⟨rfl, rfl⟩)
    | (go_at_call 24; refine (fillRow_nil hobj rfl).mono ?_; rintro e _ ⟨rfl, rfl⟩)
    | (go_at_call 25; refine (fillOp_nil hobj rfl).mono ?_; rintro e _ ⟨rfl, rfl⟩)
    | (go_at_call 26; refine (fillSpan_calls hT hobj rfl hh hlen hn hf hsep hbase).mono ?_; rintro e w1 ⟨rfl, hf1, ht1⟩; have hb1 := ht1.below (fun g hg => (hf.typed hg).1) hbase.2; replace hT := hT.keep hb1 hbase.1; replace hobj := ht1.heap hobj (fun hg => ne_typed hobj (hf.typed hg).2.choose_spec (by decide) rfl); replace hh := hh.turn ht1 (fun g hg hg2 => ne_typed (hh.typed g hg).2.choose_spec (hf.typed hg2).2.choose_spec (by decide) rfl); have hs1 : base ≤ w1.heap.size := Nat.le_trans hbase.2 ht1.size; replace hbase := And.intro hbase.1 hs1; have hd := hf1.don w1.heap.size; clear hs1 hf1 hf ht1)
    | (go_at_call 27; refine (fillChange_nil hobj rfl).mono ?_; rintro e _ ⟨rfl, rfl⟩)
    | (go_at_call 28; refine (fillResult_nil hobj rfl).mono ?_; rintro e _ ⟨rfl, rfl⟩)
    | (go_at_call 29; refine (fillMsg_nil hobj rfl).mono ?_; rintro e _ ⟨rfl, rfl⟩)
    | (go_at_call 30; refine (fillPart_nil hobj rfl).mono ?_; rintro e _ ⟨rfl, rfl⟩)
    | (go_at_call 31; refine (fillDeed_nil hobj rfl).mono ?_; rintro e _ ⟨rfl, rfl⟩)
    | (go_at_call 32; refine (growByte_nil hobj rfl).mono ?_; rintro e _ ⟨rfl, rfl⟩)
    | (go_at_call 33; refine (growId_nil hobj rfl).mono ?_; rintro e _ ⟨rfl, rfl⟩)
    | (go_at_call 34; refine (growInt_nil hobj rfl).mono ?_; rintro e _ ⟨rfl, rfl⟩)
    | (go_at_call 35; refine (growText_nil hobj rfl).mono ?_; rintro e _ ⟨rfl, rfl⟩)
    | (go_at_call 36; refine (growRow_nil hobj rfl).mono ?_; rintro e _ ⟨rfl, rfl⟩)
    | (go_at_call 37; refine (growOp_nil hobj rfl).mono ?_; rintro e _ ⟨rfl, rfl⟩)
    | (go_at_call 38; refine (growSpan_calls hT hobj rfl hh hlen hn hd hsep hbase).mono ?_; rintro e w2 ⟨rfl, ⟨hs2, hsame, hh2, hd2⟩, ht2⟩; have hb2 := ht2.below (fun g hg => hg.elim (fun hg => (hd.typed hg).1) (fun hg => (hh.typed g hg).1)) hbase.2; replace hT := hT.keep hb2 hbase.1; replace hobj := ht2.heap hobj (fun hg => hg.elim (fun hg => ne_typed hobj (hd.typed hg).2.choose_spec (by decide) rfl) (fun hg => ne_typed hobj (hh.typed B hg).2.choose_spec (by decide) rfl)); have hs1 : base ≤ w2.heap.size := Nat.le_trans hbase.2 ht2.size; replace hbase := And.intro hbase.1 hs1; have hl2 := hsame.1; have hn2 := hsame.n hn; rw [← hl2] at hd2 hlen; replace hb1 := hb1.trans hb2; clear hs1 hb2 ht2 hd hh hn hsep hl2)
    | (go_at_call 39; refine (growChange_nil hobj rfl).mono ?_; rintro e _ ⟨rfl, rfl⟩)
    | (go_at_call 40; refine (growResult_nil hobj rfl).mono ?_; rintro e _ ⟨rfl, rfl⟩)
    | (go_at_call 41; refine (growMsg_nil hobj rfl).mono ?_; rintro e _ ⟨rfl, rfl⟩)
    | (go_at_call 42; refine (growPart_nil hobj rfl).mono ?_; rintro e _ ⟨rfl, rfl⟩)
    | (go_at_call 43; refine (growDeed_nil hobj rfl).mono ?_; rintro e _ ⟨rfl, rfl⟩)
    | (go_at_call 44; refine (lookByte_nil hobj rfl).mono ?_; rintro e _ ⟨rfl, rfl⟩)
    | (go_at_call 45; refine (lookId_nil hobj rfl).mono ?_; rintro e _ ⟨rfl, rfl⟩)
    | (go_at_call 46; refine (lookInt_nil hobj rfl).mono ?_; rintro e _ ⟨rfl, rfl⟩)
    | (go_at_call 47; refine (lookText_nil hobj rfl).mono ?_; rintro e _ ⟨rfl, rfl⟩)
    | (go_at_call 48; refine (lookRow_nil hobj rfl).mono ?_; rintro e _ ⟨rfl, rfl⟩)
    | (go_at_call 49; refine (lookOp_nil hobj rfl).mono ?_; rintro e _ ⟨rfl, rfl⟩)
    | (go_at_call 50; refine (lookSpan_calls hT hobj rfl hh2 hlen hn2 hd2 hbase).mono ?_; rintro e w3 ⟨rfl, hb3⟩; replace hb1 := hb1.trans (hb3.mono hbase.2); replace hobj := (hb3.block B (Array.getElem?_eq_some_iff.1 hobj).1).trans hobj; clear hb3)
    | (go_at_call 51; refine (lookChange_nil hobj rfl).mono ?_; rintro e _ ⟨rfl, rfl⟩)
    | (go_at_call 52; refine (lookResult_nil hobj rfl).mono ?_; rintro e _ ⟨rfl, rfl⟩)
    | (go_at_call 53; refine (lookMsg_nil hobj rfl).mono ?_; rintro e _ ⟨rfl, rfl⟩)
    | (go_at_call 54; refine (lookPart_nil hobj rfl).mono ?_; rintro e _ ⟨rfl, rfl⟩)
    | (go_at_call 55; refine (lookDeed_nil hobj rfl).mono ?_; rintro e _ ⟨rfl, rfl⟩))
  go_ret
  exact ⟨rfl, hb1⟩

end Go.Proofs.YtbfmneblhlmiiaaGreatDoor
