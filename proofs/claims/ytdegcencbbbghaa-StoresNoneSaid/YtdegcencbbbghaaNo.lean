import Derived.Test.YtdegcencbbbghaaScan2
import Derived.Test.YtdegcencbbbghaaActs
import Derived.Test.YtdegcencbbbghaaChange
set_option linter.unusedVariables false
set_option linter.unusedSimpArgs false
namespace Go.Proofs.Ytdegcencbbbghaa
open Go.RowKit Go.Shelf

attribute [local go_sem] Oper.semAt_some

/-- No map, or one that no call made. -/
def NoMap (w : World) (p : Option Addr) : Prop := p = none ∨ ∃ B, p = some ⟨B, 0, none⟩ ∧ w.cell? ⟨B, 1, none⟩ = some (.bool false)
theorem NoMap.below {w w' : World} {p : Option Addr} (h : NoMap w p) (hb : Below w.heap.size w w') : NoMap w' p := h.imp id fun ⟨B, e, c⟩ => ⟨B, e, Below.cell_some hb c⟩

theorem there_no {w : World} {p : Option Addr} (h : NoMap w p) : Calls Try.prog 33 #[.pointer p] w fun e w' => e = .returned (.bool false) ∧ w = w' := by
  rcases h with rfl | ⟨B, rfl, c⟩
  · exact there_nil
  · exact there_unmade c

theorem ask_no {w : World} {p : Option Addr} (h : NoMap w p) (key : ByteArray) : Calls Try.prog 41 #[.pointer p, .string key] w fun e w' => e = .returned (.int .i64 2) ∧ w = w' := by
  rcases h with rfl | ⟨B, rfl, c⟩
  · exact ask_nil key
  · exact ask_unmade c key

set_option maxHeartbeats 400000 in
theorem get_no {w : World} {p : Option Addr} (h : NoMap w p) (key : ByteArray) : Calls Try.prog 17 #[.pointer p, .string key] w fun e w' => e = .returned (.tuple #[.int .u32 0, .bool false]) ∧ w = w' := by
  go_enter Try.func17, Try.ntmps17
  go_wp2_with (go_at_call 33; refine (there_no h).mono ?_; rintro e w1 ⟨rfl, rfl⟩)
  go_ret2
  exact ⟨rfl, rfl⟩

set_option maxHeartbeats 400000 in
theorem put_no {w : World} {p : Option Addr} (h : NoMap w p) (key : ByteArray) (n : Int) : Calls Try.prog 26 #[.pointer p, .string key, .int .u32 n] w fun e w' => e = .returned (.int .i64 2) ∧ w = w' := by
  go_enter Try.func26, Try.ntmps26
  go_wp2_with (go_at_call 41; refine (ask_no h _).mono ?_; rintro e w1 ⟨rfl, rfl⟩)
  go_ret
  exact ⟨rfl, rfl⟩

set_option maxHeartbeats 400000 in
theorem del_no {w : World} {p : Option Addr} (h : NoMap w p) (key : ByteArray) : Calls Try.prog 25 #[.pointer p, .string key] w fun e w' => e = .returned (.int .i64 2) ∧ w = w' := by
  go_enter Try.func25, Try.ntmps25
  go_wp2_with (go_at_call 41; refine (ask_no h _).mono ?_; rintro e w1 ⟨rfl, rfl⟩)
  go_ret
  exact ⟨rfl, rfl⟩

set_option maxHeartbeats 400000 in
theorem change_no {w : World} {p : Option Addr} (h : NoMap w p) (A : Option Addr) (n c : Nat) : Calls Try.prog 24 #[.pointer p, .slice A n c] w fun e w' => e = .returned (.int .i64 2) ∧ w = w' := by
  go_enter Try.func24, Try.ntmps24
  go_wp2_with (go_at_call 33; refine (there_no h).mono ?_; rintro e w1 ⟨rfl, rfl⟩)
  go_ret
  exact ⟨rfl, rfl⟩

set_option maxHeartbeats 400000 in
theorem rows_no {w : World} {p : Option Addr} (h : NoMap w p) : Calls Try.prog 18 #[.pointer p] w fun e w' => e = .returned (.slice none 0 0) ∧ w = w' := by
  go_enter Try.func18, Try.ntmps18
  go_wp2_with (go_at_call 33; refine (there_no h).mono ?_; rintro e w1 ⟨rfl, rfl⟩)
  go_ret
  exact ⟨rfl, rfl⟩

set_option maxHeartbeats 400000 in
theorem twin_no {w : World} {p : Option Addr} (h : NoMap w p) : Calls Try.prog 27 #[.pointer p] w fun e w' => e = .returned (.pointer none) ∧ w = w' := by
  go_enter Try.func27, Try.ntmps27
  go_wp2_with (go_at_call 33; refine (there_no h).mono ?_; rintro e w1 ⟨rfl, rfl⟩)
  go_ret
  exact ⟨rfl, rfl⟩

set_option maxHeartbeats 400000 in
theorem in1_no (n : Nat) (hn : 1 ≤ n) (l bm bs : Nat) (p : Option Addr) (f t : ByteArray) (W : World) (h : NoMap W p) (hbm : W.cell? ⟨bm, 0, none⟩ = some (.pointer p)) :
    CallsIn Fence.wide n Try.prog 44 #[.func (.yield l) #[] #[], .pointer (some ⟨bm, 0, none⟩), .pointer (some ⟨bs, 0, none⟩)] W fun e W' => (∃ v, e = .returned v) ∧ W = W' := by
  refine callsIn_of_wp Try.func44 rfl trivial ?_ rfl
  simp only [Try.ntmps44, List.size_toArray, List.length_cons, List.length_nil, Nat.reduceAdd, Nat.reduceSub, Array.replicate_succ, Array.replicate_zero, List.push_toArray, List.append_toArray, List.nil_append, List.cons_append]
  gi_wp2_with (refine ⟨trivial, ?_⟩; gi_at_call 33; refine (callsIn_wide.2 (there_no h)).mono ?_; rintro e w1 ⟨rfl, rfl⟩)
  refine ⟨trivial, ?_⟩
  gi_wp2
  refine bodyPost_ret (results_none rfl _ _ _) rfl ?_
  exact ⟨⟨_, rfl⟩, rfl⟩

set_option maxHeartbeats 400000 in
theorem inf_no (p : Option Addr) (f t : ByteArray) (n : Nat) (w : World) :
    CallsIn Fence.wide n Try.prog 36 #[.pointer p, .agg #[.string f, .string t]] w fun e w' =>
      e = .returned (.func (.func 44) #[] #[.pointer (some ⟨w.heap.size, 0, none⟩), .pointer (some ⟨w.heap.size + 1, 0, none⟩)]) ∧ w' = (w.alloc (.cells #[.pointer p] 25)).alloc (.cells #[.string f, .string t] 37) := by
  refine callsIn_wide.2 ?_
  go_enter Try.func36, Try.ntmps36
  go_wp2
  go_ret
  exact ⟨rfl, rfl⟩

set_option maxHeartbeats 1000000 in
set_option maxRecDepth 100000 in
theorem scan_no {w : World} {p : Option Addr} (h : NoMap w p) (f t : ByteArray) (most : Int) :
    Calls Try.prog 22 #[.pointer p, .agg #[.string f, .string t], .int .i64 most] w
      fun e w' => e = .returned (.slice none 0 0) ∧ Below w.heap.size w w' := by
  refine (callsIn_wide (n := 3)).1 ?_
  refine callsIn_of_wp_marks Try.func22 rfl trivial ?_ rfl
  simp only [Try.ntmps22, List.size_toArray, List.length_cons, List.length_nil, Nat.reduceAdd, Nat.reduceSub, Array.replicate_succ, Array.replicate_zero, List.push_toArray, List.append_toArray, List.nil_append, List.cons_append]
  gi_wp2_with (refine ⟨trivial, ?_⟩; gi_at_call 36; refine (inf_no _ _ _ _ _).mono ?_; rintro e w' ⟨rfl, rfl⟩)
  generalize hW0 : ((((w.alloc (.cells #[.string f, .string t] 37)).alloc (.cells #[.int .i64 most] 3)).alloc (.cells #[.slice none 0 0] 22)).alloc (.cells #[.pointer p] 25)).alloc (.cells #[.string f, .string t] 37) = W0
  have hsz : W0.heap.size = w.heap.size + 5 := by rw [← hW0]; simp
  have hB0 : Below w.heap.size w W0 := by rw [← hW0]; exact (((((Below.refl _ w).alloc (Nat.le_refl _) _).alloc (by simp) _).alloc (by simp; omega) _).alloc (by simp; omega) _).alloc (by simp; omega) _
  have b2 : Boxed W0 (w.heap.size + 1 + 1) 22 (.slice none 0 0) := by
    rw [← hW0]
    exact ((boxed_new' _ _ (by simp)).alloc _).alloc _
  have b3 : Boxed W0 (w.heap.size + 1 + 1 + 1) 25 (.pointer p) := by
    rw [← hW0]
    exact (boxed_new' _ _ (by simp)).alloc _
  clear hW0
  have hstop : SeqStopsK Fence.wide 2 Try.prog 44 #[.pointer (some ⟨w.heap.size + 1 + 1 + 1, 0, none⟩), .pointer (some ⟨w.heap.size + 1 + 1 + 1 + 1, 0, none⟩)] (fun x : Row => #[.agg #[.string x.k, .int .u32 x.v]]) (fun _ _ => True) (fun ys => ys = []) (fun _ => False) 0 W0 :=
    fun l J Jx W hW hJ _ hY h0 => (in1_no 2 (by omega) l _ _ p f t W ((h.below hB0).below hW) (Below.cell_some hW b3.cell)).mono fun e W' ⟨hv, e'⟩ => ⟨hv, .inl ⟨[], rfl, by rw [← e']; exact h0⟩⟩
  refine wpIn_rangeFunc_ownH rfl (by omega) (gf := 44) (lb := #[.pointer (some ⟨w.heap.size + 1 + 1 + 1, 0, none⟩), .pointer (some ⟨w.heap.size + 1 + 1 + 1 + 1, 0, none⟩)]) rfl trivial (enters_of Try.func44 (by kernel_rfl) rfl)
    hstop (fun _ _ => trivial) (fun _ _ _ _ _ _ _ _ => trivial) (Below.refl _ _) (fun _ => rfl)
    (fun pre W => Boxed W (w.heap.size + 1 + 1) 22 (.slice none 0 0) ∧ Below w.heap.size W0 W)
    (fun _ _ _ => False)
    (OwnFrom.and (Own.from (boxed_own _ _ _) _) (ownFrom_below (by omega) (by omega)))
    (fun _ _ _ _ _ hs _ _ => hs)
    ⟨b2, Below.refl _ _⟩
    (fun _ _ _ => True) (fun _ _ _ _ _ _ _ _ _ => trivial) ?assign ?body ?done ?stop
  case assign =>
    rintro l pre x W K ⟨hv, hBe⟩ hK
    gi_wp2
    have hWs := hBe.size
    exact hK _ _ ((KeepsOthers.alloc _ _).from _) trivial ⟨hv.alloc _, hBe.alloc (by omega) _⟩ trivial
  case body =>
    rintro l pre x a' W _ _ _ _ hlt
    exact absurd hlt (Nat.not_lt_zero _)
  case done =>
    rintro D ys W hD rfl ⟨hv, hBe⟩ hK
    have hc := hv.cell
    have hf := hv.frozen
    gi_wp2
    have hW2 : Boxed (W.setCell ⟨w.heap.size + 1 + 1, 0, none⟩ (.slice none 0 0)) (w.heap.size + 1 + 1) 22 (.slice none 0 0) := hv.set _
    have hb2 : Below w.heap.size w (W.setCell ⟨w.heap.size + 1 + 1, 0, none⟩ (.slice none 0 0)) := hB0.trans (hBe.setCell (p := ⟨w.heap.size + 1 + 1, 0, none⟩) (by simp; omega) _)
    have hK' := (KeepsOthers.setCell W ⟨w.heap.size + 1 + 1, 0, none⟩ (.slice none 0 0)).same D _ hK rfl
    refine ⟨by simp, .inl ⟨_, _, rfl, run_takeDeferred hK', ?_⟩⟩
    have hc5 := cell_kept hW2.cell (grownBy_putObj' _ D (.deferred none)) (fun r e => by cases e; exact ⟨_, hK', rfl⟩)
    refine ⟨.slice none 0 0, ?_, rfl, hb2.trans (belowK_b (w := w) (Nat.le_refl _) _ D _ _ (by omega) hK' rfl rfl)⟩
    simp [results, Try.f22, go_sem, hc5]
  case stop =>
    rintro D c pre W _ _ h _
    exact h.elim

end Go.Proofs.Ytdegcencbbbghaa
