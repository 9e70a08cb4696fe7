import Derived.Test.YtanjgeacmpmjhaaGreatDoorBkSpan
import Derived.Test.YtanjgeacmpmjhaaGreatDoorBkNil
import Derived.Deep.RegionLaw
set_option linter.unusedVariables false
set_option linter.unusedSimpArgs false
set_option linter.unusedSectionVars false
namespace Go.Proofs.YtanjgeacmpmjhaaGreatDoor
open Go.RowKit

theorem heldSpans_under : Tryz.prog.underlying 34 = some (.slice 231) := by kernel_rfl
theorem info_heldSpan : (Tryz.prog.info? 231).map (fun i => (i.zero, i.size, i.bytes)) = some (some (.agg #[.slice none 0 0, .slice none 0 0, .int .i64 0]), 3, 56) := by kernel_rfl

set_option maxHeartbeats 1000000 in
set_option maxRecDepth 100000 in
theorem keepSpan_calls {base : Nat} {w : World} {B : Nat} {cs : Array Value} {v : Value} {hs : List Hd} {n : Nat} (hobj : w.heap[B]? = some (.cells cs bookT (0, 0))) (hc0 : cs[0]? = some (.int .i64 n)) (hcs : cs[7]? = some v)
    (hh : Own Hd.enc 3 231 base w v hs) (hlen : hs.length ≤ 100000) (hn : n ≤ 100000) (hbase : base ≤ w.heap.size) (A : Option Addr) (m c : Nat) :
    Calls Tryz.prog 150 #[.pointer (some ⟨B, 0, none⟩), .slice A m c] w fun e w' => e = .returned (.tuple #[]) ∧ ∃ v', w'.heap[B]? = some (.cells ((cs.setIfInBounds 0 (.int .i64 ((n : Int) + 1))).setIfInBounds 7 v') bookT (0, 0)) ∧
      Own Hd.enc 3 231 base w' v' (hs ++ [⟨.slice A m c, nilV, n + 1⟩]) ∧ Turn (fun g => g = B ∨ v.ownBlock = some g) w w' ∧ (∀ g, v'.ownBlock = some g → v.ownBlock = some g ∨ w.heap.size ≤ g) := by
  have d0 : w.cell? ⟨B, 0, none⟩ = some (.int .i64 n) := by rw [heap_cell hobj]; exact hc0
  have f0 := heap_free hobj 0
  have h1 := Joins.block_setCell (i := 0) hobj (.int .i64 ((n : Int) + 1))
  have t1 : Turn (fun g => g = B) w (w.setCell ⟨B, 0, none⟩ (.int .i64 ((n : Int) + 1))) := .setCell _ _ _ _
  have hBv : ∀ g, v.ownBlock = some g → ¬ g = B := fun g hg e => ne_typed hobj (hh.typed g hg).2.choose_spec (by decide) e.symm
  have hh1 := hh.turn t1 hBv
  have hw : IntKind.i64.wrap ((n : Int) + 1) = ((n : Int) + 1) := by rw [IntKind.wrap_i64]; omega
  have hB := (Array.getElem?_eq_some_iff.1 hobj).1
  have hcz : cs[0]?.isSome := by rw [hc0]; rfl
  go_enter Tryz.func150, Tryz.ntmps150
  go_wp2
  generalize hW1 : w.setCell ⟨B, 0, none⟩ (.int .i64 ((n : Int) + 1)) = W1 at *
  obtain ⟨A2, c2, rfl, hlc, hc⟩ := hh.slice
  have hc0B : (cs.setIfInBounds 0 (.int .i64 ((n : Int) + 1)))[0]? = some (.int .i64 ((n : Int) + 1)) := by
    have : 0 < cs.size := (Array.getElem?_eq_some_iff.1 hc0).1
    simp [this]
  have hc7B : (cs.setIfInBounds 0 (.int .i64 ((n : Int) + 1)))[7]? = some (.slice A2 hs.length c2) := by
    rw [Array.getElem?_setIfInBounds_ne (by decide)]; exact hcs
  have e0 : W1.cell? ⟨B, 0, none⟩ = some (.int .i64 ((n : Int) + 1)) := by rw [heap_cell h1]; exact hc0B
  have e7 : W1.cell? ⟨B, 7, none⟩ = some (.slice A2 hs.length c2) := by rw [heap_cell h1]; exact hc7B
  have hba : Below W1.heap.size W1 (W1.drew.alloc (.cells #[.slice A m c, .slice none 0 0, .int .i64 ((n : Int) + 1)] 231)) := (Below.refl _ W1).drew.alloc (Nat.le_refl _) _
  have hB1 : B < W1.heap.size := (Array.getElem?_eq_some_iff.1 h1).1
  have hb1 : base ≤ W1.heap.size := Nat.le_trans hbase t1.size
  obtain ⟨v', w2, hrun, hown2, hway⟩ := run_append_way (P := Tryz.prog) Hd.enc 3 231 34 34 56 _ base _ hs ⟨.slice A m c, nilV, n + 1⟩ heldSpans_under info_heldSpan rfl (by decide) (by decide) hd_len (hd_one rfl rfl)
    ⟨W1.drew.heap.size, 0, none⟩ (fun j u hu => by rw [Addr.add_lit, heap_cell (alloc_new W1.drew _), Nat.zero_add, List.getElem?_toArray]; exact hu) (hh1.below hba) (Nat.le_trans hb1 hba.size) (by omega)
  have hvs := hown2.slice
  obtain ⟨A3, c3, rfl, hlc3, hc3⟩ := hvs
  have hsz : hs.length + 1 = (hs ++ [(⟨.slice A m c, nilV, n + 1⟩ : Hd)]).length := by simp
  have ht2 : Turn (fun g => (Value.slice A2 hs.length c2).ownBlock = some g) W1 w2 := by
    rcases hway with ⟨g, c', e1, e2, tn⟩ | ⟨tb, _⟩
    · exact (Turn.of_below hba).step tn fun i _ e => by rw [e1, e]; rfl
    · exact .of_below (Below.step hba tb)
  have hB2 := ht2.heap h1 (fun e => hBv B e rfl)
  have e7' : w2.cell? ⟨B, 7, none⟩ = some (.slice A2 hs.length c2) := by rw [heap_cell hB2]; exact hc7B
  have f7' := heap_free hB2 7
  have hlen2 : (hs ++ [(⟨.slice A m c, nilV, n + 1⟩ : Hd)]).length = hs.length + 1 := by simp
  rw [hlen2] at hrun hown2 hway
  have FIN : ∃ v', (w2.setCell ⟨B, 7, none⟩ (.slice A3 (hs.length + 1) c3)).heap[B]? = some (.cells ((cs.setIfInBounds 0 (.int .i64 ((n : Int) + 1))).setIfInBounds 7 v') bookT (0, 0)) ∧
      Own Hd.enc 3 231 base (w2.setCell ⟨B, 7, none⟩ (.slice A3 (hs.length + 1) c3)) v' (hs ++ [⟨.slice A m c, nilV, n + 1⟩]) ∧ Turn (fun g => g = B ∨ (Value.slice A2 hs.length c2).ownBlock = some g) w (w2.setCell ⟨B, 7, none⟩ (.slice A3 (hs.length + 1) c3)) ∧
      (∀ g, v'.ownBlock = some g → (Value.slice A2 hs.length c2).ownBlock = some g ∨ w.heap.size ≤ g) := by
    refine ⟨_, Joins.block_setCell (i := 7) hB2 _, hown2.turn (.setCell _ _ _ _) (fun g hg e => ne_typed hB2 (hown2.typed g hg).2.choose_spec (by decide) e.symm),
      ((t1.mono fun _ _ e => .inl e).step ht2 fun _ _ e => .inr e).step (.setCell _ _ _ _) (fun _ _ e => .inl e), fun g hg => ?_⟩
    rcases hway with ⟨g', c', e1, e2, _⟩ | ⟨_, e⟩
    · rw [e2] at hg
      rw [e1]
      exact .inl hg
    · rw [e] at hg
      injection hg with hg
      refine .inr ?_
      have := hba.size
      have := t1.size
      omega
  have HFIN := Lib.hid FIN
  have HR := Lib.hid hrun
  clear FIN hown2 hway ht2 hB2 t1 hBv hh h1 hlen2 hsz hlc3 hc3 hc7B hc0B hh1 hW1 hba hrun hlc hc hobj hc0 hcs hcz hw d0 f0 hlen hn hbase hb1
  go_region_law (refine step_append_runB rfl (.tmp 15) (.tmp 22) 34 rfl rfl rfl HR.out ?_)
  all_goals
    go_end0
    exact ⟨rfl, HFIN.out⟩

/-! ### a kind of lists, ahead of and behind what Apart does with it -/
structure PreSpan (base : Nat) (w : World) (v : Value) (hs : List Hd) : Prop where
  own : Own Hd.enc 3 231 base w v hs
  len : hs.length ≤ 100000
  nn : ∀ h ∈ hs, h.n ≤ 100000 ∧ ∃ A n c, h.long = .slice A n c
  fil : FilSpan base w hs 0
  sep : Sep hs
structure MidSpan (base : Nat) (w : World) (v : Value) (hs : List Hd) : Prop where
  own : Own Hd.enc 3 231 base w v hs
  len : hs.length ≤ 100000
  nn : ∀ h ∈ hs, h.n ≤ 100000 ∧ ∃ A n c, h.long = .slice A n c
  fil : FilSpan base w hs hs.length
  sep : Sep hs
structure EndSpan (base : Nat) (w : World) (v : Value) (hs : List Hd) : Prop where
  own : Own Hd.enc 3 231 base w v hs
  len : hs.length ≤ 100000
  nn : ∀ h ∈ hs, h.n ≤ 100000
  don : ∃ S0, DonSpan base w hs hs.length S0
section
variable {base : Nat} {w w' : World} {v : Value} {hs : List Hd} {ts : List TypeId}
theorem PreSpan.keep (h : PreSpan base w v hs) (t : TurnT base w w' ts) (h1 : 231 ∉ ts) (h2 : 47 ∉ ts) : PreSpan base w' v hs :=
  ⟨t.own h.own h1, h.len, h.nn, h.fil.turn t.choose_spec.1 fun g hg => t.spare (h.fil.typed hg).2.choose_spec h2, h.sep⟩
theorem MidSpan.keep (h : MidSpan base w v hs) (t : TurnT base w w' ts) (h1 : 231 ∉ ts) (h2 : 47 ∉ ts) : MidSpan base w' v hs :=
  ⟨t.own h.own h1, h.len, h.nn, h.fil.turn t.choose_spec.1 fun g hg => t.spare (h.fil.typed hg).2.choose_spec h2, h.sep⟩
theorem EndSpan.keep (h : EndSpan base w v hs) (t : TurnT base w w' ts) (h1 : 231 ∉ ts) (h2 : 47 ∉ ts) : EndSpan base w' v hs :=
  ⟨t.own h.own h1, h.len, h.nn, h.don.imp fun S0 hd => hd.turn t.choose_spec.1 fun g cur hg => t.spare hg h2⟩
variable {B : Nat} {cs : Array Value}
theorem PreSpan.fill (h : PreSpan base w v hs) (hT : Tab10 w) (hobj : w.heap[B]? = some (.cells cs bookT (0, 0))) (hcs : cs[7]? = some v) (hbase : 0 < base ∧ base ≤ w.heap.size) :
    Calls Tryz.prog 102 #[.pointer (some ⟨B, 0, none⟩)] w fun e w' => e = .returned (.tuple #[]) ∧ MidSpan base w' v hs ∧ TurnT base w w' [47] := by
  refine (fillSpan_calls hT hobj hcs h.own h.len h.nn h.fil h.sep hbase).mono ?_
  rintro e w1 ⟨rfl, hf1, ht1⟩
  have t : TurnT base w w1 [47] := ⟨_, ht1, fun g hg => ⟨(h.fil.typed hg).1, _, _, (h.fil.typed hg).2.choose_spec, List.mem_singleton.2 rfl⟩⟩
  exact ⟨rfl, ⟨t.own h.own (by decide), h.len, h.nn, hf1, h.sep⟩, t⟩
theorem MidSpan.grow (h : MidSpan base w v hs) (hT : Tab10 w) (hobj : w.heap[B]? = some (.cells cs bookT (0, 0))) (hcs : cs[7]? = some v) (hbase : 0 < base ∧ base ≤ w.heap.size) :
    Calls Tryz.prog 114 #[.pointer (some ⟨B, 0, none⟩)] w fun e w' => e = .returned (.tuple #[]) ∧ (∃ hs', EndSpan base w' v hs') ∧ TurnT base w w' [47, 231] := by
  have hd := h.fil.don w.heap.size
  refine (growSpan_calls hT hobj hcs h.own h.len h.nn hd h.sep hbase).mono ?_
  rintro e w2 ⟨rfl, ⟨hs2, hsame, hh2, hd2⟩, ht2⟩
  have hl2 := hsame.1
  refine ⟨rfl, ⟨hs2, hh2, by rw [hl2]; exact h.len, hsame.nn h.nn, ⟨w.heap.size, by rw [hl2]; exact hd2⟩⟩, ⟨_, ht2, fun g hg => ?_⟩⟩
  rcases hg with hg | hg
  · exact ⟨(hd.typed hg).1, _, _, (hd.typed hg).2.choose_spec, by simp⟩
  · exact ⟨(h.own.typed g hg).1, _, _, (h.own.typed g hg).2.choose_spec, by simp⟩
theorem EndSpan.look (h : EndSpan base w v hs) (hT : Tab10 w) (hobj : w.heap[B]? = some (.cells cs bookT (0, 0))) (hcs : cs[7]? = some v) (hbase : 0 < base ∧ base ≤ w.heap.size) :
    Calls Tryz.prog 126 #[.pointer (some ⟨B, 0, none⟩)] w fun e w' => e = .returned (.bool true) ∧ TurnT base w w' [] := by
  obtain ⟨S0, hd⟩ := h.don
  refine (lookSpan_calls hT hobj hcs h.own h.len h.nn hd hbase).mono ?_
  rintro e w3 ⟨rfl, hb3⟩
  exact ⟨rfl, .of_below hb3⟩
end

end Go.Proofs.YtanjgeacmpmjhaaGreatDoor
