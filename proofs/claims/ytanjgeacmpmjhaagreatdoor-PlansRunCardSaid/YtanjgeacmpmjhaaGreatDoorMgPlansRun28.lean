import Derived.Test.YtanjgeacmpmjhaaGreatDoorBkOpK
import Derived.Test.YtanjgeacmpmjhaaGreatDoorBkRowK
import Derived.Test.YtanjgeacmpmjhaaGreatDoorMgPlansRun20
import Derived.Test.YtanjgeacmpmjhaaGreatDoorMgPlansRun2
import Derived.Test.YtanjgeacmpmjhaaGreatDoorJoinC
set_option linter.unusedVariables false
set_option linter.unusedSimpArgs false
set_option linter.unusedSectionVars false
namespace Go.Proofs.YtanjgeacmpmjhaaGreatDoor
open Go.RowKit

theorem FilOp.nil (base : Nat) (w : World) : FilOp base w [] 0 := fun j h hj => by simp at hj
theorem FilOp.snoc {base : Nat} {w : World} {hs : List Hd} {x : Hd} {xs : List Opn} (h : FilOp base w hs 0) (ho : Own Opn.enc 4 172 base w x.l xs) (hl : xs.length ≤ 1000000) : FilOp base w (hs ++ [x]) 0 := fun j y hj => by
  by_cases hlt : j < hs.length
  · rw [List.getElem?_append_left hlt] at hj
    exact h j y hj
  · rw [List.getElem?_append_right (by omega)] at hj
    obtain ⟨_, e⟩ := List.getElem?_eq_some_iff.1 hj
    simp at e
    subst e
    exact ⟨xs, ho, hl, fun h => absurd h (Nat.not_lt_zero _)⟩
theorem PreOp.nil (base : Nat) (w : World) : PreOp base w nilV [] := ⟨.nil _ _ _ _ _, by simp, fun h hm => (by cases hm), .nil _ _, .nil⟩
theorem PreOp.keepF {base : Nat} {w w' : World} {v : Value} {hs : List Hd} {F : Nat → Prop} (h : PreOp base w v hs) (t : Turn F w w') (h1 : ∀ g cur, w.heap[g]? = some (.cells cur 228 (0, 0)) → ¬ F g) (h2 : ∀ g, Blk hs g → ¬ F g) : PreOp base w' v hs :=
  ⟨h.own.turn t fun g hg => h1 g _ (h.own.typed g hg).2.choose_spec, h.len, h.nn, h.fil.turn t h2, h.sep⟩
theorem PreOp.below {base : Nat} {w w' : World} {v : Value} {hs : List Hd} (h : PreOp base w v hs) (hb : Below w.heap.size w w') : PreOp base w' v hs :=
  h.keepF (F := fun _ => False) (.of_below hb) (fun _ _ _ => id) (fun _ _ => id)
set_option maxHeartbeats 400000 in
/-- A list is told. -/
theorem PreOp.tell {base : Nat} {w : World} {B n : Nat} {cs : Array Value} {v : Value} {hs : List Hd} (h : PreOp base w v hs) (hobj : w.heap[B]? = some (.cells cs bookT (0, 0))) (hc0 : cs[0]? = some (.int .i64 n)) (hcs : cs[6]? = some v)
    (hB : base ≤ B) (hlen : hs.length < 100000) (hn : n < 100000) (hbase : base ≤ w.heap.size) {A : Option Addr} {m c : Nat} {xs : List Opn} (ho : Own Opn.enc 4 172 base w (.slice A m c) xs) (hxl : xs.length ≤ 1000000)
    (hoff : ∀ g, (Value.slice A m c).ownBlock = some g → ¬ Blk hs g) :
    Calls Tryz.prog 78 #[.pointer (some ⟨B, 0, none⟩), .slice A m c] w fun e w' => e = .returned (.tuple #[]) ∧
      (∃ v', w'.heap[B]? = some (.cells ((cs.setIfInBounds 0 (.int .i64 ((n + 1 : Nat) : Int))).setIfInBounds 6 v') bookT (0, 0)) ∧ PreOp base w' v' (hs ++ [⟨.slice A m c, nilV, n + 1⟩])) ∧ TurnT base w w' [bookT, 228] := by
  have hk := keepOp_calls hobj hc0 hcs h.own (by omega) (by omega) hbase A m c
  have FIN : ∀ w' : World, (∃ v', w'.heap[B]? = some (.cells ((cs.setIfInBounds 0 (.int .i64 ((n : Int) + 1))).setIfInBounds 6 v') bookT (0, 0)) ∧
      Own Hd.enc 3 228 base w' v' (hs ++ [⟨.slice A m c, nilV, n + 1⟩]) ∧ Turn (fun g => g = B ∨ v.ownBlock = some g) w w' ∧ (∀ g, v'.ownBlock = some g → v.ownBlock = some g ∨ w.heap.size ≤ g)) →
      (∃ v', w'.heap[B]? = some (.cells ((cs.setIfInBounds 0 (.int .i64 ((n + 1 : Nat) : Int))).setIfInBounds 6 v') bookT (0, 0)) ∧ PreOp base w' v' (hs ++ [⟨.slice A m c, nilV, n + 1⟩])) ∧ TurnT base w w' [bookT, 228] := by
    rintro w' ⟨v', o', own', t, -⟩
    have hT : TurnT base w w' [bookT, 228] := ⟨_, t, fun g hg => hg.elim (fun e => ⟨by omega, cs, bookT, (by rw [e]; exact hobj), by simp⟩) (fun e => ⟨(h.own.typed g e).1, _, _, (h.own.typed g e).2.choose_spec, by simp⟩)⟩
    have hT2 : 172 ∉ [bookT, 228] := by decide
    refine ⟨⟨v', o', own', by simp; omega, fun x hx => ?_, ?_, ?_⟩, hT⟩
    · rcases List.mem_append.1 hx with hx | hx
      · exact h.nn x hx
      · rw [List.mem_singleton.1 hx]; exact ⟨by simp only; omega, _, _, _, rfl⟩
    · exact (h.fil.turn hT.choose_spec.1 fun g hg => hT.spare (h.fil.typed hg).2.choose_spec hT2).snoc (hT.own ho hT2) hxl
    · exact h.sep.snoc fun a ha g hg e => hoff g e ⟨a, ha, hg⟩
  have HF := Lib.hid FIN
  clear FIN h hobj hc0 hcs ho hoff
  go_enter Tryz.func78, Tryz.ntmps78
  go_wp2_with (go_at_call 177; refine hk.mono ?_; rintro e w1 ⟨rfl, hP⟩)
  go_end0
  exact ⟨rfl, HF.out _ hP⟩

end Go.Proofs.YtanjgeacmpmjhaaGreatDoor

set_option linter.unusedVariables false
set_option linter.unusedSimpArgs false
set_option linter.unusedSectionVars false
namespace Go.Proofs.YtanjgeacmpmjhaaGreatDoor
open Go.RowKit

theorem FilRow.nil (base : Nat) (w : World) : FilRow base w [] 0 := fun j h hj => by simp at hj
theorem FilRow.snoc {base : Nat} {w : World} {hs : List Hd} {x : Hd} {xs : List Row} (h : FilRow base w hs 0) (ho : Own Row.enc 2 44 base w x.l xs) (hl : xs.length ≤ 1000000) : FilRow base w (hs ++ [x]) 0 := fun j y hj => by
  by_cases hlt : j < hs.length
  · rw [List.getElem?_append_left hlt] at hj
    exact h j y hj
  · rw [List.getElem?_append_right (by omega)] at hj
    obtain ⟨_, e⟩ := List.getElem?_eq_some_iff.1 hj
    simp at e
    subst e
    exact ⟨xs, ho, hl, fun h => absurd h (Nat.not_lt_zero _)⟩
theorem PreRow.nil (base : Nat) (w : World) : PreRow base w nilV [] := ⟨.nil _ _ _ _ _, by simp, fun h hm => (by cases hm), .nil _ _, .nil⟩
theorem PreRow.keepF {base : Nat} {w w' : World} {v : Value} {hs : List Hd} {F : Nat → Prop} (h : PreRow base w v hs) (t : Turn F w w') (h1 : ∀ g cur, w.heap[g]? = some (.cells cur 206 (0, 0)) → ¬ F g) (h2 : ∀ g, Blk hs g → ¬ F g) : PreRow base w' v hs :=
  ⟨h.own.turn t fun g hg => h1 g _ (h.own.typed g hg).2.choose_spec, h.len, h.nn, h.fil.turn t h2, h.sep⟩
theorem PreRow.below {base : Nat} {w w' : World} {v : Value} {hs : List Hd} (h : PreRow base w v hs) (hb : Below w.heap.size w w') : PreRow base w' v hs :=
  h.keepF (F := fun _ => False) (.of_below hb) (fun _ _ _ => id) (fun _ _ => id)
set_option maxHeartbeats 400000 in
/-- A list is told. -/
theorem PreRow.tell {base : Nat} {w : World} {B n : Nat} {cs : Array Value} {v : Value} {hs : List Hd} (h : PreRow base w v hs) (hobj : w.heap[B]? = some (.cells cs bookT (0, 0))) (hc0 : cs[0]? = some (.int .i64 n)) (hcs : cs[5]? = some v)
    (hB : base ≤ B) (hlen : hs.length < 100000) (hn : n < 100000) (hbase : base ≤ w.heap.size) {A : Option Addr} {m c : Nat} {xs : List Row} (ho : Own Row.enc 2 44 base w (.slice A m c) xs) (hxl : xs.length ≤ 1000000)
    (hoff : ∀ g, (Value.slice A m c).ownBlock = some g → ¬ Blk hs g) :
    Calls Tryz.prog 22 #[.pointer (some ⟨B, 0, none⟩), .slice A m c] w fun e w' => e = .returned (.tuple #[]) ∧
      (∃ v', w'.heap[B]? = some (.cells ((cs.setIfInBounds 0 (.int .i64 ((n + 1 : Nat) : Int))).setIfInBounds 5 v') bookT (0, 0)) ∧ PreRow base w' v' (hs ++ [⟨.slice A m c, nilV, n + 1⟩])) ∧ TurnT base w w' [bookT, 206] := by
  have hk := keepRow_calls hobj hc0 hcs h.own (by omega) (by omega) hbase A m c
  have FIN : ∀ w' : World, (∃ v', w'.heap[B]? = some (.cells ((cs.setIfInBounds 0 (.int .i64 ((n : Int) + 1))).setIfInBounds 5 v') bookT (0, 0)) ∧
      Own Hd.enc 3 206 base w' v' (hs ++ [⟨.slice A m c, nilV, n + 1⟩]) ∧ Turn (fun g => g = B ∨ v.ownBlock = some g) w w' ∧ (∀ g, v'.ownBlock = some g → v.ownBlock = some g ∨ w.heap.size ≤ g)) →
      (∃ v', w'.heap[B]? = some (.cells ((cs.setIfInBounds 0 (.int .i64 ((n + 1 : Nat) : Int))).setIfInBounds 5 v') bookT (0, 0)) ∧ PreRow base w' v' (hs ++ [⟨.slice A m c, nilV, n + 1⟩])) ∧ TurnT base w w' [bookT, 206] := by
    rintro w' ⟨v', o', own', t, -⟩
    have hT : TurnT base w w' [bookT, 206] := ⟨_, t, fun g hg => hg.elim (fun e => ⟨by omega, cs, bookT, (by rw [e]; exact hobj), by simp⟩) (fun e => ⟨(h.own.typed g e).1, _, _, (h.own.typed g e).2.choose_spec, by simp⟩)⟩
    have hT2 : 44 ∉ [bookT, 206] := by decide
    refine ⟨⟨v', o', own', by simp; omega, fun x hx => ?_, ?_, ?_⟩, hT⟩
    · rcases List.mem_append.1 hx with hx | hx
      · exact h.nn x hx
      · rw [List.mem_singleton.1 hx]; exact ⟨by simp only; omega, _, _, _, rfl⟩
    · exact (h.fil.turn hT.choose_spec.1 fun g hg => hT.spare (h.fil.typed hg).2.choose_spec hT2).snoc (hT.own ho hT2) hxl
    · exact h.sep.snoc fun a ha g hg e => hoff g e ⟨a, ha, hg⟩
  have HF := Lib.hid FIN
  clear FIN h hobj hc0 hcs ho hoff
  go_enter Tryz.func22, Tryz.ntmps22
  go_wp2_with (go_at_call 92; refine hk.mono ?_; rintro e w1 ⟨rfl, hP⟩)
  go_end0
  exact ⟨rfl, HF.out _ hP⟩

end Go.Proofs.YtanjgeacmpmjhaaGreatDoor

set_option linter.unusedVariables false
set_option linter.unusedSimpArgs false
namespace Go.Proofs.YtanjgeacmpmjhaaGreatDoor
open Go.RowKit Go.Shelf

attribute [local go_sem ↓] Go.wp_at_zero Go.wp_at_succ

theorem own_lit {α : Type} (enc : α → List Value) (k : Nat) (hk : ∀ x, (enc x).length = k) (E : TypeId) (xs : List α) (hl : xs.length ≤ maxLen) (base : Nat) (W : World) (hb : base ≤ W.heap.size) :
    Own enc k E base (W.alloc (.cells (xs.flatMap enc).toArray E)) (.slice (some ⟨W.heap.size, 0, none⟩) xs.length xs.length) xs :=
  ⟨flat_length hk xs, .inr ⟨W.heap.size, xs.length, (xs.flatMap enc).toArray, rfl, hb, alloc_at W _, Nat.le_refl _, hl, by rw [List.size_toArray, flat_length hk], by
    rw [List.toList_toArray]
    exact List.take_of_length_le (by rw [flat_length hk]; exact Nat.le_refl _)⟩⟩

/-- May an op be: as a test of its own. -/
def okO (x : Opn) : Bool := okOp x.q x.k x.t x.d
/-- An op's span. -/
def spanO (x : Opn) : Span := ⟨x.k, spanOf x.q x.k x.t⟩
/-- The spans of ops. -/
def spsO (xs : List Opn) : List Span := (xs.filter okO).map spanO
theorem spsO_snoc (xs : List Opn) (k : Nat) (x : Opn) (h : xs[k]? = some x) : spsO (xs.take (k + 1)) = spsO (xs.take k) ++ (if okO x then [spanO x] else []) := by
  have e : xs.take (k + 1) = xs.take k ++ [x] := by rw [List.take_add_one, h]; rfl
  unfold spsO
  rw [e, List.filter_append, List.map_append]
  congr 1
  cases hx : okO x <;> simp [hx]
theorem spsO_len (xs : List Opn) : (spsO xs).length ≤ xs.length := by
  unfold spsO
  rw [List.length_map]
  exact List.length_filter_le _ _
abbrev tT : ByteArray := ⟨#[95, 116]⟩
/-- All spans that ops, and what is reserved, have. -/
def allS (n : Nat) (xs : List Opn) : List Span := [⟨tT, tT⟩, ⟨markT n, markT n⟩] ++ spsO xs

set_option maxRecDepth 100000 in
set_option maxHeartbeats 800000 in
theorem plSpans_calls (n : Nat) (hn : n < 4294967296) (v : Value) (xs : List Opn) (w : World) (hT : Tab10 w) (hv : Rd Opn.enc 4 w v xs) (hl : xs.length ≤ 100000)
    (hs : ∀ x ∈ xs, x.k.size ≤ 9223372036854775807 ∧ x.t.size ≤ 9223372036854775807) :
    Calls Tryz.prog 65 #[.int .u32 n, v] w fun e w' => ∃ v', e = .returned v' ∧ Own Span.enc 2 47 w.heap.size w' v' (joinF (allS n xs)) ∧ Below w.heap.size w w' := by
  obtain ⟨A, c, rfl, hlc, hc⟩ := hv.shape
  have hmk := marker_calls n hn w hT
  unfold allS
  generalize markT n = mk at *
  go_enter Tryz.func65, Tryz.ntmps65
  go_wp2_with (go_at_call 158; refine hmk.mono ?_; rintro e wm ⟨rfl, hbm⟩)
  clear hmk
  have hownI : Own Span.enc 2 47 w.heap.size (wm.alloc (.cells #[.string tT, .string tT, .string mk, .string mk] 47)) (.slice (some ⟨wm.heap.size, 0, none⟩) 2 2) [⟨tT, tT⟩, ⟨mk, mk⟩] :=
    own_lit Span.enc 2 span_len _ [⟨tT, tT⟩, ⟨mk, mk⟩] (by simp [maxLen]) _ wm hbm.size
  have hbI : Below w.heap.size w (wm.alloc (.cells #[.string tT, .string tT, .string mk, .string mk] 47)) := hbm.alloc hbm.size _
  have hszI := hbI.size
  go_loopw [6, 18] (fun ov i wr => ∃ k : Nat, k ≤ xs.length ∧ i = .int .i64 k ∧ Own Span.enc 2 47 w.heap.size wr ov ([⟨tT, tT⟩, ⟨mk, mk⟩] ++ spsO (xs.take k)) ∧ Below w.heap.size w wr) (fun _ i _ => xs.length - (intOf i).toNat)
  case atStart => exact ⟨0, Nat.zero_le _, rfl, hownI, hbI⟩
  case round =>
    obtain ⟨k, hk, rfl, hown, hb⟩ := hrel
    clear hownI hbI hszI
    have hsl := spsO_len (xs.take k)
    have hkt : (xs.take k).length = k := by rw [List.length_take]; omega
    have hsl2 : (spsO (xs.take k)).length ≤ k := by omega
    clear hsl hkt
    by_cases hlt : k < xs.length
    · obtain ⟨b, o, rfl, hx1, hx2, hx3, hx4⟩ := (hv.below hb).opn (List.getElem?_eq_getElem hlt)
      have HF := Lib.hid (spsO_snoc xs k _ (List.getElem?_eq_getElem hlt))
      obtain ⟨hxk, hxt⟩ := hs xs[k] (List.getElem_mem hlt)
      generalize xs[k] = x at *
      obtain ⟨A1, c1, hsl, _⟩ := hown.slice
      subst hsl
      have hsz := hb.size
      generalize spsO (xs.take k) = fu at *
      have hck := fun W => opcheck_calls x.q x.k x.t x.d hxk hxt W
      have hof := fun W => of_calls x.q x.k x.t x.d W
      have hB0 := Lib.hid (OpB.alloc wr x.q x.k x.t x.d)
      have hbA : Below w.heap.size w (wr.alloc (.cells #[.int .u8 x.q, .string x.k, .string x.t, .int .u32 x.d] 172)) := hb.alloc hsz _
      have hownA := hown.below ((Below.refl _ wr).alloc (Nat.le_refl _) (.cells #[.int .u8 x.q, .string x.k, .string x.t, .int .u32 x.d] 172))
      clear hown
      cases hok : okO x
      · have hok2 : okOp x.q x.k x.t x.d = false := hok
        rw [hok] at HF
        rw [hok2] at hck
        go_wp2_with (go_at_call 153; refine (hck _).mono ?_; rintro e w1 ⟨rfl, hb1⟩; clear hx1 hx2 hx3 hx4)
        go_roundw
        case rel =>
          refine ⟨k + 1, by omega, by go_num, ?_, Below.step hbA hb1⟩
          rw [HF.out, if_neg Bool.false_ne_true, List.append_nil]
          exact hownA.below hb1
        case measure => simp [intOf]; omega
      · have hok2 : okOp x.q x.k x.t x.d = true := hok
        rw [hok] at HF
        rw [hok2] at hck
        go_wp2_with (first | (go_at_call 153; refine (hck _).mono ?_; rintro e w1 ⟨rfl, hb1⟩; clear hx1 hx2 hx3 hx4; have hB1 := Lib.hid (hB0.out.below hb1); obtain ⟨u0, u1, u2, u3⟩ := hB1.out.cells; have hown1 := hownA.below hb1; have hw1 := Below.step hbA hb1) | (go_at_call 154; refine (hof _).mono ?_; rintro e w2 ⟨rfl, hb2⟩; have hown2 := hown1.below hb2; have hw2 := Below.step hw1 hb2; have hsz2 := hw2.size) | (at_builtin; refine append_oneH w2.heap.size rfl Span.enc 2 47 98 32 _ w.heap.size _ _ ⟨x.k, spanOf x.q x.k x.t⟩ rfl _ _ rfl Tryz.underlying98 info_span rfl (by decide) (by decide) span_len span_one rfl rfl hown2 hw2 hsz2 (by simp; omega) ?_; intro v' w' hown' hb' hgr hat; clear hgr hat))
        go_roundw
        case rel =>
          refine ⟨k + 1, by omega, by go_num, ?_, hb'⟩
          rw [HF.out, if_pos trivial, ← List.append_assoc]
          exact hown'
        case measure => simp [intOf]; omega
    · have hkl : k = xs.length := by omega
      subst hkl
      rw [List.take_length] at *
      have hjn := join_calls
      obtain ⟨A1, c1, hsl, _⟩ := hown.slice
      subst hsl
      have hrd := hown.rd span_len
      have hlen : ([⟨tT, tT⟩, ⟨mk, mk⟩] ++ spsO xs : List Span).length ≤ 1000000 := by simp; omega
      have hjn := join_calls _ _ wr hrd hlen
      have hsz := hb.size
      go_wp2_with (go_at_call 159; refine hjn.mono ?_; rintro e w1 ⟨v', rfl, hown', hb1⟩)
      go_ret
      exact ⟨_, rfl, hown'.lower hsz, Below.step hb hb1⟩

end Go.Proofs.YtanjgeacmpmjhaaGreatDoor
