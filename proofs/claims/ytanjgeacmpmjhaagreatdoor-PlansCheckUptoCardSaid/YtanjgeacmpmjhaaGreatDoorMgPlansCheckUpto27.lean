import Derived.Test.YtanjgeacmpmjhaaGreatDoorBkOpK
import Derived.Test.YtanjgeacmpmjhaaGreatDoorBkSpanK
import Derived.Test.YtanjgeacmpmjhaaGreatDoorMgPlansCheckUpto19
import Derived.Test.YtanjgeacmpmjhaaGreatDoorMgPlansCheckUpto2
import Derived.Test.YtanjgeacmpmjhaaGreatDoorJoinC
import Derived.Test.YtanjgeacmpmjhaaGreatDoorMgPlansCheckUpto9
set_option linter.unusedVariables false
set_option linter.unusedSimpArgs false
set_option linter.unusedSectionVars false
namespace Go.Proofs.YtanjgeacmpmjhaaGreatDoor
open Go.RowKit

theorem FilOp.nil (base : Nat) (w : World) : FilOp base w [] 0 := fun j h hj => by simp at hj
theorem FilOp.snoc {base : Nat} {w : World} {hs : List Hd} {x : Hd} {xs : List Opn} (h : FilOp base w hs 0) (ho : Own Opn.enc 4 172 base w x.l xs) (hl : xs.length ≤ 1000000) : FilOp base w (hs ++ [x]) 0 := fun j y hj => by
  by_cases hlt : j < hs.length
  · rw [List.getElem?_append_left hlt] at hj
    exact h j y hj
  · rw [List.getElem?_append_right (by omega)] at hj
    obtain ⟨_, e⟩ := List.getElem?_eq_some_iff.1 hj
    simp at e
    subst e
    exact ⟨xs, ho, hl, fun h => absurd h (Nat.not_lt_zero _)⟩
theorem PreOp.nil (base : Nat) (w : World) : PreOp base w nilV [] := ⟨.nil _ _ _ _ _, by simp, fun h hm => (by cases hm), .nil _ _, .nil⟩
theorem PreOp.keepF {base : Nat} {w w' : World} {v : Value} {hs : List Hd} {F : Nat → Prop} (h : PreOp base w v hs) (t : Turn F w w') (h1 : ∀ g cur, w.heap[g]? = some (.cells cur 228 (0, 0)) → ¬ F g) (h2 : ∀ g, Blk hs g → ¬ F g) : PreOp base w' v hs :=
  ⟨h.own.turn t fun g hg => h1 g _ (h.own.typed g hg).2.choose_spec, h.len, h.nn, h.fil.turn t h2, h.sep⟩
theorem PreOp.below {base : Nat} {w w' : World} {v : Value} {hs : List Hd} (h : PreOp base w v hs) (hb : Below w.heap.size w w') : PreOp base w' v hs :=
  h.keepF (F := fun _ => False) (.of_below hb) (fun _ _ _ => id) (fun _ _ => id)
set_option maxHeartbeats 400000 in
/-- A list is told. -/
theorem PreOp.tell {base : Nat} {w : World} {B n : Nat} {cs : Array Value} {v : Value} {hs : List Hd} (h : PreOp base w v hs) (hobj : w.heap[B]? = some (.cells cs bookT (0, 0))) (hc0 : cs[0]? = some (.int .i64 n)) (hcs : cs[6]? = some v)
    (hB : base ≤ B) (hlen : hs.length < 100000) (hn : n < 100000) (hbase : base ≤ w.heap.size) {A : Option Addr} {m c : Nat} {xs : List Opn} (ho : Own Opn.enc 4 172 base w (.slice A m c) xs) (hxl : xs.length ≤ 1000000)
    (hoff : ∀ g, (Value.slice A m c).ownBlock = some g → ¬ Blk hs g) :
    Calls Tryz.prog 78 #[.pointer (some ⟨B, 0, none⟩), .slice A m c] w fun e w' => e = .returned (.tuple #[]) ∧
      (∃ v', w'.heap[B]? = some (.cells ((cs.setIfInBounds 0 (.int .i64 ((n + 1 : Nat) : Int))).setIfInBounds 6 v') bookT (0, 0)) ∧ PreOp base w' v' (hs ++ [⟨.slice A m c, nilV, n + 1⟩])) ∧ TurnT base w w' [bookT, 228] := by
  have hk := keepOp_calls hobj hc0 hcs h.own (by omega) (by omega) hbase A m c
  have FIN : ∀ w' : World, (∃ v', w'.heap[B]? = some (.cells ((cs.setIfInBounds 0 (.int .i64 ((n : Int) + 1))).setIfInBounds 6 v') bookT (0, 0)) ∧
      Own Hd.enc 3 228 base w' v' (hs ++ [⟨.slice A m c, nilV, n + 1⟩]) ∧ Turn (fun g => g = B ∨ v.ownBlock = some g) w w' ∧ (∀ g, v'.ownBlock = some g → v.ownBlock = some g ∨ w.heap.size ≤ g)) →
      (∃ v', w'.heap[B]? = some (.cells ((cs.setIfInBounds 0 (.int .i64 ((n + 1 : Nat) : Int))).setIfInBounds 6 v') bookT (0, 0)) ∧ PreOp base w' v' (hs ++ [⟨.slice A m c, nilV, n + 1⟩])) ∧ TurnT base w w' [bookT, 228] := by
    rintro w' ⟨v', o', own', t, -⟩
    have hT : TurnT base w w' [bookT, 228] := ⟨_, t, fun g hg => hg.elim (fun e => ⟨by omega, cs, bookT, (by rw [e]; exact hobj), by simp⟩) (fun e => ⟨(h.own.typed g e).1, _, _, (h.own.typed g e).2.choose_spec, by simp⟩)⟩
    have hT2 : 172 ∉ [bookT, 228] := by decide
    refine ⟨⟨v', o', own', by simp; omega, fun x hx => ?_, ?_, ?_⟩, hT⟩
    · rcases List.mem_append.1 hx with hx | hx
      · exact h.nn x hx
      · rw [List.mem_singleton.1 hx]; exact ⟨by simp only; omega, _, _, _, rfl⟩
    · exact (h.fil.turn hT.choose_spec.1 fun g hg => hT.spare (h.fil.typed hg).2.choose_spec hT2).snoc (hT.own ho hT2) hxl
    · exact h.sep.snoc fun a ha g hg e => hoff g e ⟨a, ha, hg⟩
  have HF := Lib.hid FIN
  clear FIN h hobj hc0 hcs ho hoff
  go_enter Tryz.func78, Tryz.ntmps78
  go_wp2_with (go_at_call 177; refine hk.mono ?_; rintro e w1 ⟨rfl, hP⟩)
  go_end0
  exact ⟨rfl, HF.out _ hP⟩

end Go.Proofs.YtanjgeacmpmjhaaGreatDoor

set_option linter.unusedVariables false
set_option linter.unusedSimpArgs false
set_option linter.unusedSectionVars false
namespace Go.Proofs.YtanjgeacmpmjhaaGreatDoor
open Go.RowKit

theorem FilSpan.nil (base : Nat) (w : World) : FilSpan base w [] 0 := fun j h hj => by simp at hj
theorem FilSpan.snoc {base : Nat} {w : World} {hs : List Hd} {x : Hd} {xs : List Span} (h : FilSpan base w hs 0) (ho : Own Span.enc 2 47 base w x.l xs) (hl : xs.length ≤ 1000000) : FilSpan base w (hs ++ [x]) 0 := fun j y hj => by
  by_cases hlt : j < hs.length
  · rw [List.getElem?_append_left hlt] at hj
    exact h j y hj
  · rw [List.getElem?_append_right (by omega)] at hj
    obtain ⟨_, e⟩ := List.getElem?_eq_some_iff.1 hj
    simp at e
    subst e
    exact ⟨xs, ho, hl, fun h => absurd h (Nat.not_lt_zero _)⟩
theorem PreSpan.nil (base : Nat) (w : World) : PreSpan base w nilV [] := ⟨.nil _ _ _ _ _, by simp, fun h hm => (by cases hm), .nil _ _, .nil⟩
theorem PreSpan.keepF {base : Nat} {w w' : World} {v : Value} {hs : List Hd} {F : Nat → Prop} (h : PreSpan base w v hs) (t : Turn F w w') (h1 : ∀ g cur, w.heap[g]? = some (.cells cur 231 (0, 0)) → ¬ F g) (h2 : ∀ g, Blk hs g → ¬ F g) : PreSpan base w' v hs :=
  ⟨h.own.turn t fun g hg => h1 g _ (h.own.typed g hg).2.choose_spec, h.len, h.nn, h.fil.turn t h2, h.sep⟩
theorem PreSpan.below {base : Nat} {w w' : World} {v : Value} {hs : List Hd} (h : PreSpan base w v hs) (hb : Below w.heap.size w w') : PreSpan base w' v hs :=
  h.keepF (F := fun _ => False) (.of_below hb) (fun _ _ _ => id) (fun _ _ => id)
set_option maxHeartbeats 400000 in
/-- A list is told. -/
theorem PreSpan.tell {base : Nat} {w : World} {B n : Nat} {cs : Array Value} {v : Value} {hs : List Hd} (h : PreSpan base w v hs) (hobj : w.heap[B]? = some (.cells cs bookT (0, 0))) (hc0 : cs[0]? = some (.int .i64 n)) (hcs : cs[7]? = some v)
    (hB : base ≤ B) (hlen : hs.length < 100000) (hn : n < 100000) (hbase : base ≤ w.heap.size) {A : Option Addr} {m c : Nat} {xs : List Span} (ho : Own Span.enc 2 47 base w (.slice A m c) xs) (hxl : xs.length ≤ 1000000)
    (hoff : ∀ g, (Value.slice A m c).ownBlock = some g → ¬ Blk hs g) :
    Calls Tryz.prog 60 #[.pointer (some ⟨B, 0, none⟩), .slice A m c] w fun e w' => e = .returned (.tuple #[]) ∧
      (∃ v', w'.heap[B]? = some (.cells ((cs.setIfInBounds 0 (.int .i64 ((n + 1 : Nat) : Int))).setIfInBounds 7 v') bookT (0, 0)) ∧ PreSpan base w' v' (hs ++ [⟨.slice A m c, nilV, n + 1⟩])) ∧ TurnT base w w' [bookT, 231] := by
  have hk := keepSpan_calls hobj hc0 hcs h.own (by omega) (by omega) hbase A m c
  have FIN : ∀ w' : World, (∃ v', w'.heap[B]? = some (.cells ((cs.setIfInBounds 0 (.int .i64 ((n : Int) + 1))).setIfInBounds 7 v') bookT (0, 0)) ∧
      Own Hd.enc 3 231 base w' v' (hs ++ [⟨.slice A m c, nilV, n + 1⟩]) ∧ Turn (fun g => g = B ∨ v.ownBlock = some g) w w' ∧ (∀ g, v'.ownBlock = some g → v.ownBlock = some g ∨ w.heap.size ≤ g)) →
      (∃ v', w'.heap[B]? = some (.cells ((cs.setIfInBounds 0 (.int .i64 ((n + 1 : Nat) : Int))).setIfInBounds 7 v') bookT (0, 0)) ∧ PreSpan base w' v' (hs ++ [⟨.slice A m c, nilV, n + 1⟩])) ∧ TurnT base w w' [bookT, 231] := by
    rintro w' ⟨v', o', own', t, -⟩
    have hT : TurnT base w w' [bookT, 231] := ⟨_, t, fun g hg => hg.elim (fun e => ⟨by omega, cs, bookT, (by rw [e]; exact hobj), by simp⟩) (fun e => ⟨(h.own.typed g e).1, _, _, (h.own.typed g e).2.choose_spec, by simp⟩)⟩
    have hT2 : 47 ∉ [bookT, 231] := by decide
    refine ⟨⟨v', o', own', by simp; omega, fun x hx => ?_, ?_, ?_⟩, hT⟩
    · rcases List.mem_append.1 hx with hx | hx
      · exact h.nn x hx
      · rw [List.mem_singleton.1 hx]; exact ⟨by simp only; omega, _, _, _, rfl⟩
    · exact (h.fil.turn hT.choose_spec.1 fun g hg => hT.spare (h.fil.typed hg).2.choose_spec hT2).snoc (hT.own ho hT2) hxl
    · exact h.sep.snoc fun a ha g hg e => hoff g e ⟨a, ha, hg⟩
  have HF := Lib.hid FIN
  clear FIN h hobj hc0 hcs ho hoff
  go_enter Tryz.func60, Tryz.ntmps60
  go_wp2_with (go_at_call 150; refine hk.mono ?_; rintro e w1 ⟨rfl, hP⟩)
  go_end0
  exact ⟨rfl, HF.out _ hP⟩

end Go.Proofs.YtanjgeacmpmjhaaGreatDoor

set_option linter.unusedVariables false
set_option linter.unusedSimpArgs false
namespace Go.Proofs.YtanjgeacmpmjhaaGreatDoor
open Go.RowKit Go.Shelf

attribute [local go_sem ↓] Go.wp_at_zero Go.wp_at_succ

theorem own_lit {α : Type} (enc : α → List Value) (k : Nat) (hk : ∀ x, (enc x).length = k) (E : TypeId) (xs : List α) (hl : xs.length ≤ maxLen) (base : Nat) (W : World) (hb : base ≤ W.heap.size) :
    Own enc k E base (W.alloc (.cells (xs.flatMap enc).toArray E)) (.slice (some ⟨W.heap.size, 0, none⟩) xs.length xs.length) xs :=
  ⟨flat_length hk xs, .inr ⟨W.heap.size, xs.length, (xs.flatMap enc).toArray, rfl, hb, alloc_at W _, Nat.le_refl _, hl, by rw [List.size_toArray, flat_length hk], by
    rw [List.toList_toArray]
    exact List.take_of_length_le (by rw [flat_length hk]; exact Nat.le_refl _)⟩⟩

/-- May an op be: as a test of its own. -/
def okO (x : Opn) : Bool := okOp x.q x.k x.t x.d
/-- An op's span. -/
def spanO (x : Opn) : Span := ⟨x.k, spanOf x.q x.k x.t⟩
/-- The spans of ops. -/
def spsO (xs : List Opn) : List Span := (xs.filter okO).map spanO
theorem spsO_snoc (xs : List Opn) (k : Nat) (x : Opn) (h : xs[k]? = some x) : spsO (xs.take (k + 1)) = spsO (xs.take k) ++ (if okO x then [spanO x] else []) := by
  have e : xs.take (k + 1) = xs.take k ++ [x] := by rw [List.take_add_one, h]; rfl
  unfold spsO
  rw [e, List.filter_append, List.map_append]
  congr 1
  cases hx : okO x <;> simp [hx]
theorem spsO_len (xs : List Opn) : (spsO xs).length ≤ xs.length := by
  unfold spsO
  rw [List.length_map]
  exact List.length_filter_le _ _
abbrev tT : ByteArray := ⟨#[95, 116]⟩
/-- All spans that ops, and what is reserved, have. -/
def allS (n : Nat) (xs : List Opn) : List Span := [⟨tT, tT⟩, ⟨markT n, markT n⟩] ++ spsO xs

set_option maxRecDepth 100000 in
set_option maxHeartbeats 800000 in
theorem plSpans_calls (n : Nat) (hn : n < 4294967296) (v : Value) (xs : List Opn) (w : World) (hT : Tab10 w) (hv : Rd Opn.enc 4 w v xs) (hl : xs.length ≤ 100000)
    (hs : ∀ x ∈ xs, x.k.size ≤ 9223372036854775807 ∧ x.t.size ≤ 9223372036854775807) :
    Calls Tryz.prog 65 #[.int .u32 n, v] w fun e w' => ∃ v', e = .returned v' ∧ Own Span.enc 2 47 w.heap.size w' v' (joinF (allS n xs)) ∧ Below w.heap.size w w' := by
  obtain ⟨A, c, rfl, hlc, hc⟩ := hv.shape
  have hmk := marker_calls n hn w hT
  unfold allS
  generalize markT n = mk at *
  go_enter Tryz.func65, Tryz.ntmps65
  go_wp2_with (go_at_call 158; refine hmk.mono ?_; rintro e wm ⟨rfl, hbm⟩)
  clear hmk
  have hownI : Own Span.enc 2 47 w.heap.size (wm.alloc (.cells #[.string tT, .string tT, .string mk, .string mk] 47)) (.slice (some ⟨wm.heap.size, 0, none⟩) 2 2) [⟨tT, tT⟩, ⟨mk, mk⟩] :=
    own_lit Span.enc 2 span_len _ [⟨tT, tT⟩, ⟨mk, mk⟩] (by simp [maxLen]) _ wm hbm.size
  have hbI : Below w.heap.size w (wm.alloc (.cells #[.string tT, .string tT, .string mk, .string mk] 47)) := hbm.alloc hbm.size _
  have hszI := hbI.size
  go_loopw [6, 18] (fun ov i wr => ∃ k : Nat, k ≤ xs.length ∧ i = .int .i64 k ∧ Own Span.enc 2 47 w.heap.size wr ov ([⟨tT, tT⟩, ⟨mk, mk⟩] ++ spsO (xs.take k)) ∧ Below w.heap.size w wr) (fun _ i _ => xs.length - (intOf i).toNat)
  case atStart => exact ⟨0, Nat.zero_le _, rfl, hownI, hbI⟩
  case round =>
    obtain ⟨k, hk, rfl, hown, hb⟩ := hrel
    clear hownI hbI hszI
    have hsl := spsO_len (xs.take k)
    have hkt : (xs.take k).length = k := by rw [List.length_take]; omega
    have hsl2 : (spsO (xs.take k)).length ≤ k := by omega
    clear hsl hkt
    by_cases hlt : k < xs.length
    · obtain ⟨b, o, rfl, hx1, hx2, hx3, hx4⟩ := (hv.below hb).opn (List.getElem?_eq_getElem hlt)
      have HF := Lib.hid (spsO_snoc xs k _ (List.getElem?_eq_getElem hlt))
      obtain ⟨hxk, hxt⟩ := hs xs[k] (List.getElem_mem hlt)
      generalize xs[k] = x at *
      obtain ⟨A1, c1, hsl, _⟩ := hown.slice
      subst hsl
      have hsz := hb.size
      generalize spsO (xs.take k) = fu at *
      have hck := fun W => opcheck_calls x.q x.k x.t x.d hxk hxt W
      have hof := fun W => of_calls x.q x.k x.t x.d W
      have hB0 := Lib.hid (OpB.alloc wr x.q x.k x.t x.d)
      have hbA : Below w.heap.size w (wr.alloc (.cells #[.int .u8 x.q, .string x.k, .string x.t, .int .u32 x.d] 172)) := hb.alloc hsz _
      have hownA := hown.below ((Below.refl _ wr).alloc (Nat.le_refl _) (.cells #[.int .u8 x.q, .string x.k, .string x.t, .int .u32 x.d] 172))
      clear hown
      cases hok : okO x
      · have hok2 : okOp x.q x.k x.t x.d = false := hok
        rw [hok] at HF
        rw [hok2] at hck
        go_wp2_with (go_at_call 153; refine (hck _).mono ?_; rintro e w1 ⟨rfl, hb1⟩; clear hx1 hx2 hx3 hx4)
        go_roundw
        case rel =>
          refine ⟨k + 1, by omega, by go_num, ?_, Below.step hbA hb1⟩
          rw [HF.out, if_neg Bool.false_ne_true, List.append_nil]
          exact hownA.below hb1
        case measure => simp [intOf]; omega
      · have hok2 : okOp x.q x.k x.t x.d = true := hok
        rw [hok] at HF
        rw [hok2] at hck
        go_wp2_with (first | (go_at_call 153; refine (hck _).mono ?_; rintro e w1 ⟨rfl, hb1⟩; clear hx1 hx2 hx3 hx4; have hB1 := Lib.hid (hB0.out.below hb1); obtain ⟨u0, u1, u2, u3⟩ := hB1.out.cells; have hown1 := hownA.below hb1; have hw1 := Below.step hbA hb1) | (go_at_call 154; refine (hof _).mono ?_; rintro e w2 ⟨rfl, hb2⟩; have hown2 := hown1.below hb2; have hw2 := Below.step hw1 hb2; have hsz2 := hw2.size) | (at_builtin; refine append_oneH w2.heap.size rfl Span.enc 2 47 98 32 _ w.heap.size _ _ ⟨x.k, spanOf x.q x.k x.t⟩ rfl _ _ rfl Tryz.underlying98 info_span rfl (by decide) (by decide) span_len span_one rfl rfl hown2 hw2 hsz2 (by simp; omega) ?_; intro v' w' hown' hb' hgr hat; clear hgr hat))
        go_roundw
        case rel =>
          refine ⟨k + 1, by omega, by go_num, ?_, hb'⟩
          rw [HF.out, if_pos trivial, ← List.append_assoc]
          exact hown'
        case measure => simp [intOf]; omega
    · have hkl : k = xs.length := by omega
      subst hkl
      rw [List.take_length] at *
      have hjn := join_calls
      obtain ⟨A1, c1, hsl, _⟩ := hown.slice
      subst hsl
      have hrd := hown.rd span_len
      have hlen : ([⟨tT, tT⟩, ⟨mk, mk⟩] ++ spsO xs : List Span).length ≤ 1000000 := by simp; omega
      have hjn := join_calls _ _ wr hrd hlen
      have hsz := hb.size
      go_wp2_with (go_at_call 159; refine hjn.mono ?_; rintro e w1 ⟨v', rfl, hown', hb1⟩)
      go_ret
      exact ⟨_, rfl, hown'.lower hsz, Below.step hb hb1⟩

end Go.Proofs.YtanjgeacmpmjhaaGreatDoor

set_option linter.unusedVariables false
set_option linter.unusedSimpArgs false
set_option linter.unusedSectionVars false
namespace Go.Proofs.YtanjgeacmpmjhaaGreatDoor
open Go.RowKit

attribute [local go_sem ↓] Go.wp_at_zero Go.wp_at_succ

abbrev tLo : ByteArray := ⟨#[95]⟩
abbrev tHi : ByteArray := ⟨#[95, 122, 122, 122, 122, 122, 122, 122, 122, 122, 122, 122, 122, 122, 122, 122]⟩
set_option maxHeartbeats 400000 in
theorem reserved_calls (w : World) : Calls Tryz.prog 155 #[] w fun e w' => e = .returned (.agg #[.string tLo, .string tHi]) ∧ Below w.heap.size w w' := by
  go_enter Tryz.func155, Tryz.ntmps155
  go_wp2
  exact bodyPost_ret (results_cell_row rfl _ _ w.heap.size _ #[.string tLo, .string tHi] _ _ rfl (alloc_at _ _) Tryz.underlying47 rfl (by kernel_rfl)) rfl ⟨rfl, (Below.refl _ w).alloc (Nat.le_refl _) _⟩

/-- May an op not be one of a global transaction? -/
def oddO (x : Opn) : Bool := !okO x || meet4 x.k (spanOf x.q x.k x.t) tLo tHi

set_option maxHeartbeats 800000 in
theorem odd_calls (x : Opn) (hk : x.k.size ≤ 9223372036854775807) (ht : x.t.size ≤ 9223372036854775807) (w : World) :
    Calls Tryz.prog 152 #[.agg #[.int .u8 x.q, .string x.k, .string x.t, .int .u32 x.d]] w fun e w' => e = .returned (.bool (oddO x)) ∧ Below w.heap.size w w' := by
  obtain ⟨q, k, t, d⟩ := x
  have hck := opcheck_calls q k t d hk ht (w.alloc (.cells #[.int .u8 q, .string k, .string t, .int .u32 d] 172))
  have hof := fun W => of_calls q k t d W
  have hB0 := Lib.hid (OpB.alloc w q k t d)
  have hbA : Below w.heap.size w (w.alloc (.cells #[.int .u8 q, .string k, .string t, .int .u32 d] 172)) := (Below.refl _ w).alloc (Nat.le_refl _) _
  have hodd : oddO ⟨q, k, t, d⟩ = (!okOp q k t d || meet4 k (spanOf q k t) tLo tHi) := rfl
  rw [hodd]
  clear hodd
  generalize spanOf q k t = t2 at *
  cases hb : okOp q k t d <;> rw [hb] at hck
  all_goals
    go_enter Tryz.func152, Tryz.ntmps152
    go_wp2_with (first | (go_at_call 153; refine hck.mono ?_; rintro e w1 ⟨rfl, hb1⟩; obtain ⟨u0, u1, u2, u3⟩ := (hB0.out.below hb1).cells; have hw1 := Below.step hbA hb1) | (go_at_call 154; refine (hof _).mono ?_; rintro e w2 ⟨rfl, hb2⟩; have hw2 := Below.step hw1 hb2) | (go_at_call 155; refine (reserved_calls _).mono ?_; rintro e w3 ⟨rfl, hb3⟩; have hw3 := Below.step hw2 hb3) | (go_at_call 139; refine (meet_calls _ _ _ _ _).mono ?_; rintro e w4 ⟨rfl, hb4⟩; have hw4 := Below.step hw3 hb4))
    go_ret
    first
      | exact ⟨ret_bool rfl, hw4⟩
      | exact ⟨ret_bool rfl, hw1⟩

/-- May parts be those of a global transaction, the last site being 'last'? -/
def chkGo : Int → List (Int × List Opn) → Bool
  | _, [] => true
  | last, (s, os) :: r => !(decide (s ≤ last) || (decide (3 < s) || (decide (os.length < 1) || (decide (16 < os.length) || os.any oddO)))) && chkGo s r
def chkP (l : List (Int × List Opn)) : Bool := chkGo 0 l && decide (0 < l.length)

/-- Parts that are read. -/
def RdP (w : World) (v : Value) (ps : List (Int × List Opn)) : Prop :=
  ∃ xs : List PaV, Rd PaV.enc 2 w v xs ∧ xs.length = ps.length ∧ ∀ (i : Nat) (x : PaV) (p : Int × List Opn), xs[i]? = some x → ps[i]? = some p → x.s = p.1 ∧ Rd Opn.enc 4 w (.slice x.A x.n x.c) p.2

set_option maxRecDepth 100000 in
set_option maxHeartbeats 1600000 in
theorem plCheck_calls (v : Value) (ps : List (Int × List Opn)) (w : World) (hv : RdP w v ps) (hs : ∀ p ∈ ps, ∀ x ∈ p.2, x.k.size ≤ 9223372036854775807 ∧ x.t.size ≤ 9223372036854775807) :
    Calls Tryz.prog 63 #[v] w fun e w' => e = .returned (.bool (chkP ps)) ∧ Below w.heap.size w w' := by
  obtain ⟨xs, hr, hlen, hrow⟩ := hv
  unfold chkP
  have HL := Lib.hid hlen
  rw [← hlen]
  clear hlen
  obtain ⟨A, c, rfl, hlc, hc⟩ := hr.shape
  go_enter Tryz.func63, Tryz.ntmps63
  go_wp2
  go_loopw [3, 9] (fun lv i wr => ∃ (k : Nat) (last : Int), k ≤ xs.length ∧ i = .int .i64 k ∧ lv = .int .u8 last ∧ Below w.heap.size w wr ∧ chkGo 0 ps = chkGo last (ps.drop k)) (fun _ i _ => xs.length - (intOf i).toNat)
  case atStart => exact ⟨0, 0, Nat.zero_le _, rfl, rfl, Below.refl _ _, rfl⟩
  case round =>
    obtain ⟨k, last, hk, rfl, rfl, hb, hgo⟩ := hrel
    have HGO := Lib.hid hgo
    clear hgo
    by_cases hlt : k < xs.length
    · have hlt2 : k < ps.length := by rw [← HL.out]; exact hlt
      obtain ⟨b, o, rfl, hx1, hx2⟩ := (hr.below hb).pav (List.getElem?_eq_getElem hlt)
      obtain ⟨hs1, hrd⟩ := hrow k _ _ (List.getElem?_eq_getElem hlt) (List.getElem?_eq_getElem hlt2)
      have hok := hs ps[k] (List.getElem_mem hlt2)
      have HD := Lib.hid (List.drop_eq_getElem_cons hlt2)
      generalize ps[k] = p at *
      generalize xs[k] = x at *
      obtain ⟨s, os⟩ := p
      obtain ⟨xsx, xa, xn, xc⟩ := x
      dsimp only at hs1 hrd hok hx1 hx2
      subst hs1
      obtain ⟨A3, c3, e3, hlo, hco⟩ := hrd.shape
      injection e3 with e31 e32 e33
      subst e31 e32 e33
      have hbA : Below w.heap.size w (wr.alloc (.cells #[.int .u8 xsx, .slice xa os.length xc] 105)) := hb.alloc hb.size _
      have hcf := containsFuncOpn_calls oddO 152 #[] (enters_of Tryz.func152 (by kernel_rfl) rfl) _ os (wr.alloc (.cells #[.int .u8 xsx, .slice xa os.length xc] 105)) (hrd.below hbA) (fun W x hx _ => odd_calls x (hok x hx).1 (hok x hx).2 W)
      have HNX := Lib.hid (show chkGo 0 ps = (!(decide (xsx ≤ last) || (decide (3 < xsx) || (decide (os.length < 1) || (decide (16 < os.length) || os.any oddO)))) && chkGo xsx (ps.drop (k + 1))) by rw [HGO.out, HD.out]; rfl)
      clear HGO HD hrow hs hok hrd hlt2
      have c0 : (wr.alloc (.cells #[.int .u8 xsx, .slice xa os.length xc] 105)).cell? ⟨wr.heap.size, 0, none⟩ = some (.int .u8 xsx) := by simp
      have C0 := Lib.hid c0
      clear c0
      by_cases h1 : xsx ≤ last
      · go_wp2_with (go_at_call 156; refine hcf.mono ?_; rintro e w1 ⟨rfl, hb1⟩; have u0 := Below.cell_some hb1 C0.out; have hw1 := Below.step hbA hb1)
        go_ret
        exact ⟨ret_bool (by rw [HNX.out]; simp [h1]), hbA⟩
      · by_cases h2 : 3 < xsx
        · go_wp2_with (go_at_call 156; refine hcf.mono ?_; rintro e w1 ⟨rfl, hb1⟩; have u0 := Below.cell_some hb1 C0.out; have hw1 := Below.step hbA hb1)
          go_ret
          exact ⟨ret_bool (by rw [HNX.out]; simp [h2]), hbA⟩
        · by_cases h3 : os.length < 1
          · go_wp2_with (go_at_call 156; refine hcf.mono ?_; rintro e w1 ⟨rfl, hb1⟩; have u0 := Below.cell_some hb1 C0.out; have hw1 := Below.step hbA hb1)
            go_ret
            exact ⟨ret_bool (by rw [HNX.out]; simp [h3]), hbA⟩
          · by_cases h4 : 16 < os.length
            · go_wp2_with (go_at_call 156; refine hcf.mono ?_; rintro e w1 ⟨rfl, hb1⟩; have u0 := Below.cell_some hb1 C0.out; have hw1 := Below.step hbA hb1)
              go_ret
              exact ⟨ret_bool (by rw [HNX.out]; simp [h4]), hbA⟩
            · cases hodd : os.any oddO with
              | true =>
                rw [hodd] at hcf
                have HF := Lib.hid (show chkGo 0 ps = false by rw [HNX.out, hodd]; simp)
                clear hodd
                go_wp2_with (go_at_call 156; refine hcf.mono ?_; rintro e w1 ⟨rfl, hb1⟩; have u0 := Below.cell_some hb1 C0.out; have hw1 := Below.step hbA hb1)
                go_ret
                exact ⟨ret_bool (by rw [HF.out]; rfl), hw1⟩
              | false =>
                rw [hodd] at hcf
                have HF := Lib.hid (show chkGo 0 ps = chkGo xsx (ps.drop (k + 1)) by rw [HNX.out, hodd, decide_eq_false h1, decide_eq_false h2, decide_eq_false h3, decide_eq_false h4]; rfl)
                clear hodd
                go_wp2_with (go_at_call 156; refine hcf.mono ?_; rintro e w1 ⟨rfl, hb1⟩; have u0 := Below.cell_some hb1 C0.out; have hw1 := Below.step hbA hb1)
                go_roundw
                case rel => exact ⟨k + 1, xsx, by omega, by go_num, rfl, hw1, HF.out⟩
                case measure => simp [intOf]; omega
    · have hkl : ps.length ≤ k := by rw [← HL.out]; omega
      have HE := Lib.hid (show chkGo 0 ps = true by rw [HGO.out, List.drop_eq_nil_of_le hkl]; rfl)
      clear HGO hkl
      go_wp2
      go_ret
      refine ⟨ret_bool ?_, hb⟩
      rw [HE.out]
      simp

end Go.Proofs.YtanjgeacmpmjhaaGreatDoor
