import Derived.Test.YtanjgeacmpmjhaaGreatDoorBkChangeK
set_option linter.unusedVariables false
set_option linter.unusedSimpArgs false
set_option linter.unusedSectionVars false
namespace Go.Proofs.YtanjgeacmpmjhaaGreatDoor
open Go.RowKit

theorem FilChange.nil (base : Nat) (w : World) : FilChange base w [] 0 := fun j h hj => by simp at hj
theorem FilChange.snoc {base : Nat} {w : World} {hs : List Hd} {x : Hd} {xs : List Change} (h : FilChange base w hs 0) (ho : Own Change.enc 3 128 base w x.l xs) (hl : xs.length ≤ 1000000) : FilChange base w (hs ++ [x]) 0 := fun j y hj => by
  by_cases hlt : j < hs.length
  · rw [List.getElem?_append_left hlt] at hj
    exact h j y hj
  · rw [List.getElem?_append_right (by omega)] at hj
    obtain ⟨_, e⟩ := List.getElem?_eq_some_iff.1 hj
    simp at e
    subst e
    exact ⟨xs, ho, hl, fun h => absurd h (Nat.not_lt_zero _)⟩
theorem PreChange.nil (base : Nat) (w : World) : PreChange base w nilV [] := ⟨.nil _ _ _ _ _, by simp, fun h hm => (by cases hm), .nil _ _, .nil⟩
theorem PreChange.keepF {base : Nat} {w w' : World} {v : Value} {hs : List Hd} {F : Nat → Prop} (h : PreChange base w v hs) (t : Turn F w w') (h1 : ∀ g cur, w.heap[g]? = some (.cells cur 210 (0, 0)) → ¬ F g) (h2 : ∀ g, Blk hs g → ¬ F g) : PreChange base w' v hs :=
  ⟨h.own.turn t fun g hg => h1 g _ (h.own.typed g hg).2.choose_spec, h.len, h.nn, h.fil.turn t h2, h.sep⟩
theorem PreChange.below {base : Nat} {w w' : World} {v : Value} {hs : List Hd} (h : PreChange base w v hs) (hb : Below w.heap.size w w') : PreChange base w' v hs :=
  h.keepF (F := fun _ => False) (.of_below hb) (fun _ _ _ => id) (fun _ _ => id)
set_option maxHeartbeats 400000 in
/-- A list is told. -/
theorem PreChange.tell {base : Nat} {w : World} {B n : Nat} {cs : Array Value} {v : Value} {hs : List Hd} (h : PreChange base w v hs) (hobj : w.heap[B]? = some (.cells cs bookT (0, 0))) (hc0 : cs[0]? = some (.int .i64 n)) (hcs : cs[8]? = some v)
    (hB : base ≤ B) (hlen : hs.length < 100000) (hn : n < 100000) (hbase : base ≤ w.heap.size) {A : Option Addr} {m c : Nat} {xs : List Change} (ho : Own Change.enc 3 128 base w (.slice A m c) xs) (hxl : xs.length ≤ 1000000)
    (hoff : ∀ g, (Value.slice A m c).ownBlock = some g → ¬ Blk hs g) :
    Calls Tryz.prog 27 #[.pointer (some ⟨B, 0, none⟩), .slice A m c] w fun e w' => e = .returned (.tuple #[]) ∧
      (∃ v', w'.heap[B]? = some (.cells ((cs.setIfInBounds 0 (.int .i64 ((n + 1 : Nat) : Int))).setIfInBounds 8 v') bookT (0, 0)) ∧ PreChange base w' v' (hs ++ [⟨.slice A m c, nilV, n + 1⟩])) ∧ TurnT base w w' [bookT, 210] := by
  have hk := keepChange_calls hobj hc0 hcs h.own (by omega) (by omega) hbase A m c
  have FIN : ∀ w' : World, (∃ v', w'.heap[B]? = some (.cells ((cs.setIfInBounds 0 (.int .i64 ((n : Int) + 1))).setIfInBounds 8 v') bookT (0, 0)) ∧
      Own Hd.enc 3 210 base w' v' (hs ++ [⟨.slice A m c, nilV, n + 1⟩]) ∧ Turn (fun g => g = B ∨ v.ownBlock = some g) w w' ∧ (∀ g, v'.ownBlock = some g → v.ownBlock = some g ∨ w.heap.size ≤ g)) →
      (∃ v', w'.heap[B]? = some (.cells ((cs.setIfInBounds 0 (.int .i64 ((n + 1 : Nat) : Int))).setIfInBounds 8 v') bookT (0, 0)) ∧ PreChange base w' v' (hs ++ [⟨.slice A m c, nilV, n + 1⟩])) ∧ TurnT base w w' [bookT, 210] := by
    rintro w' ⟨v', o', own', t, -⟩
    have hT : TurnT base w w' [bookT, 210] := ⟨_, t, fun g hg => hg.elim (fun e => ⟨by omega, cs, bookT, (by rw [e]; exact hobj), by simp⟩) (fun e => ⟨(h.own.typed g e).1, _, _, (h.own.typed g e).2.choose_spec, by simp⟩)⟩
    have hT2 : 128 ∉ [bookT, 210] := by decide
    refine ⟨⟨v', o', own', by simp; omega, fun x hx => ?_, ?_, ?_⟩, hT⟩
    · rcases List.mem_append.1 hx with hx | hx
      · exact h.nn x hx
      · rw [List.mem_singleton.1 hx]; exact ⟨by simp only; omega, _, _, _, rfl⟩
    · exact (h.fil.turn hT.choose_spec.1 fun g hg => hT.spare (h.fil.typed hg).2.choose_spec hT2).snoc (hT.own ho hT2) hxl
    · exact h.sep.snoc fun a ha g hg e => hoff g e ⟨a, ha, hg⟩
  have HF := Lib.hid FIN
  clear FIN h hobj hc0 hcs ho hoff
  go_enter Tryz.func27, Tryz.ntmps27
  go_wp2_with (go_at_call 94; refine hk.mono ?_; rintro e w1 ⟨rfl, hP⟩)
  go_end0
  exact ⟨rfl, HF.out _ hP⟩

end Go.Proofs.YtanjgeacmpmjhaaGreatDoor
