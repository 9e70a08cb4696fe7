import Derived.Test.YtanjgeacmpmjhaaGreatDoorBkApRC
import Derived.Test.YtanjgeacmpmjhaaGreatDoorBkLRow
import Derived.Test.YtanjgeacmpmjhaaGreatDoorBkLChange
set_option linter.unusedVariables false
set_option linter.unusedSimpArgs false
set_option linter.unusedSectionVars false
namespace Go.Proofs.YtanjgeacmpmjhaaGreatDoor
open Go.RowKit

/-- A Book in which these kinds are told, and no others. -/
structure BookRC (base : Nat) (w : World) (B n : Nat) (vRow : Value) (hsRow : List Hd) (vChange : Value) (hsChange : List Hd) : Prop where
  obj : w.heap[B]? = some (.cells #[.int .i64 n, nilV, nilV, nilV, nilV, vRow, nilV, nilV, vChange, nilV, nilV, nilV, nilV] bookT (0, 0))
  low : base ≤ B
  pRow : PreRow base w vRow hsRow
  pChange : PreChange base w vChange hsChange
section
variable {base : Nat} {w w' : World} {B n : Nat} {vRow vChange : Value} {hsRow hsChange : List Hd}
theorem BookRC.start (base : Nat) (w : World) (hb : base ≤ w.heap.size) : BookRC base (w.alloc (.cells #[.int .i64 0, nilV, nilV, nilV, nilV, nilV, nilV, nilV, nilV, nilV, nilV, nilV, nilV] bookT)) w.heap.size 0 nilV [] nilV [] := ⟨alloc_new w _, hb, .nil _ _, .nil _ _⟩
theorem BookRC.lt (h : BookRC base w B n vRow hsRow vChange hsChange) : B < w.heap.size := (Array.getElem?_eq_some_iff.1 h.obj).1
theorem BookRC.keepF {F : Nat → Prop} (h : BookRC base w B n vRow hsRow vChange hsChange) (t : Turn F w w') (hF : ∀ g cur T, F g → w.heap[g]? = some (.cells cur T (0, 0)) → T ∉ [bookT, 206, 210]) (hRow : ∀ g, Blk hsRow g → ¬ F g) (hChange : ∀ g, Blk hsChange g → ¬ F g) : BookRC base w' B n vRow hsRow vChange hsChange :=
  ⟨t.heap h.obj fun f => hF _ _ _ f h.obj (by simp), h.low, h.pRow.keepF t (fun g cur e f => hF _ _ _ f e (by simp)) hRow, h.pChange.keepF t (fun g cur e f => hF _ _ _ f e (by simp)) hChange⟩
theorem BookRC.below (h : BookRC base w B n vRow hsRow vChange hsChange) (hb : Below w.heap.size w w') : BookRC base w' B n vRow hsRow vChange hsChange :=
  h.keepF (F := fun _ => False) (.of_below hb) (fun _ _ _ f => f.elim) (fun _ _ => id) (fun _ _ => id)
theorem BookRC.tellRow (h : BookRC base w B n vRow hsRow vChange hsChange) (hlen : hsRow.length < 100000) (hn : n < 100000) (hbase : base ≤ w.heap.size) {A : Option Addr} {m c : Nat} {xs : List Row} (ho : Own Row.enc 2 44 base w (.slice A m c) xs) (hxl : xs.length ≤ 1000000)
    (hoff : ∀ g, (Value.slice A m c).ownBlock = some g → ¬ Blk hsRow g) :
    Calls Tryz.prog 22 #[.pointer (some ⟨B, 0, none⟩), .slice A m c] w fun e w' => e = .returned (.tuple #[]) ∧ (∃ v', BookRC base w' B (n + 1) v' (hsRow ++ [⟨.slice A m c, nilV, n + 1⟩]) vChange hsChange) ∧ TurnT base w w' [bookT, 206] :=
  (h.pRow.tell h.obj rfl rfl h.low hlen hn hbase ho hxl hoff).mono fun e w' ⟨he, ⟨v', o', p'⟩, t⟩ => ⟨he, ⟨v', o', h.low, p', h.pChange.keep t (by decide) (by decide)⟩, t⟩
theorem BookRC.tellChange (h : BookRC base w B n vRow hsRow vChange hsChange) (hlen : hsChange.length < 100000) (hn : n < 100000) (hbase : base ≤ w.heap.size) {A : Option Addr} {m c : Nat} {xs : List Change} (ho : Own Change.enc 3 128 base w (.slice A m c) xs) (hxl : xs.length ≤ 1000000)
    (hoff : ∀ g, (Value.slice A m c).ownBlock = some g → ¬ Blk hsChange g) :
    Calls Tryz.prog 27 #[.pointer (some ⟨B, 0, none⟩), .slice A m c] w fun e w' => e = .returned (.tuple #[]) ∧ (∃ v', BookRC base w' B (n + 1) vRow hsRow v' (hsChange ++ [⟨.slice A m c, nilV, n + 1⟩])) ∧ TurnT base w w' [bookT, 210] :=
  (h.pChange.tell h.obj rfl rfl h.low hlen hn hbase ho hxl hoff).mono fun e w' ⟨he, ⟨v', o', p'⟩, t⟩ => ⟨he, ⟨v', o', h.low, h.pRow.keep t (by decide) (by decide), p'⟩, t⟩
theorem BookRC.apart (h : BookRC base w B n vRow hsRow vChange hsChange) (hT : Tab10 w) (hbase : 0 < base ∧ base ≤ w.heap.size) :
    Calls Tryz.prog 30 #[.pointer (some ⟨B, 0, none⟩)] w fun e w' => e = .returned (.bool true) ∧ Below base w w' :=
  apartRC_calls hT h.obj h.pRow h.pChange hbase
end
end Go.Proofs.YtanjgeacmpmjhaaGreatDoor
