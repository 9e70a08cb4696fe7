import Derived.Test.YtanjgeacmpmjhaaGreatDoorScan
import Derived.Test.YtanjgeacmpmjhaaGreatDoorIns
set_option linter.unusedVariables false
set_option linter.unusedSimpArgs false
namespace Go.Proofs.YtanjgeacmpmjhaaGreatDoor
open Go.RowKit Go.Shelf

attribute [local go_sem] Oper.semAt_some

theorem boxed_new' {W : World} {n : Nat} (t : TypeId) (v : Value) (h : n = W.heap.size) : Boxed (W.alloc (.cells #[v] t)) n t v := by subst h; exact Boxed.new W t v
theorem alloc_at' {W : World} {n : Nat} (o : Obj) (h : n = W.heap.size) : (W.alloc o).heap[n]? = some o := by subst h; exact World.alloc_heap_new W o

set_option maxHeartbeats 400000 in
theorem inf_calls (B : Nat) (f t : ByteArray) (n : Nat) (w : World) :
    CallsIn Fence.wide n Tryz.prog 90 #[.pointer (some ⟨B, 0, none⟩), .agg #[.string f, .string t]] w fun e w' =>
      e = .returned (.func (.func 186) #[] #[.pointer (some ⟨w.heap.size, 0, none⟩), .pointer (some ⟨w.heap.size + 1, 0, none⟩)]) ∧ w' = (w.alloc (.cells #[.pointer (some ⟨B, 0, none⟩)] 24)).alloc (.cells #[.string f, .string t] 47) := by
  refine callsIn_wide.2 ?_
  go_enter Tryz.func90, Tryz.ntmps90
  go_wp2
  go_ret
  exact ⟨rfl, rfl⟩

theorem in_stops (n : Nat) (hn : 1 ≤ n) (bm bs B n₀ base : Nat) (v : Value) (xs : List Row) (f t : ByteArray) (hl : xs.length ≤ 1000000) (w : World) (hn₀ : n₀ ≤ w.heap.size) (hM : MapAt base w B v xs) (hB : B < n₀) (hbmlt : bm < w.heap.size)
    (hbm : w.cell? ⟨bm, 0, none⟩ = some (.pointer (some ⟨B, 0, none⟩))) (hbs : w.heap[bs]? = some (.cells #[.string f, .string t] 47 (0, 0))) (hown : ∀ g, v.ownBlock = some g → g < n₀) :
    SeqStopsK Fence.wide n Tryz.prog 186 #[.pointer (some ⟨bm, 0, none⟩), .pointer (some ⟨bs, 0, none⟩)] (fun x : Row => #[.agg #[.string x.k, .int .u32 x.v]]) (KpS n₀ bs) (fun ys => ys = rowsIn f t xs) (fun pre => pre <+: rowsIn f t xs) (rowsIn f t xs).length w :=
  fun l J Jx W hW hJ _ hY h0 => in1_in n hn l bm bs B n₀ base W.heap.size v xs f t hl (Nat.le_trans hn₀ hW.size) J Jx hJ hY W (Nat.le_refl _) (hM.below hW) hB (Below.cell_some hW hbm) ((hW.block bs (Array.getElem?_eq_some_iff.1 hbs).1).trans hbs) hown h0

theorem cells_own {β : Type} (B : Nat) (t : TypeId) (cs : Array Value) : _root_.Go.Own (fun (_ : β) W => W.heap[B]? = some (.cells cs t (0, 0))) := fun s X Y row hs hg hrow =>
  (hg.block B (Array.getElem?_eq_some_iff.1 hs).1 (fun e' => by obtain ⟨o, ho, hc⟩ := hrow B e'.symm; rw [show X.heap[B]? = _ from hs] at ho; cases ho; cases hc)).trans hs

set_option maxHeartbeats 2000000 in
set_option maxRecDepth 100000 in
theorem scan_calls {base : Nat} {w : World} {B : Nat} {v : Value} {xs : List Row} (hM : MapAt base w B v xs) (hl : xs.length ≤ 1000000) (f t : ByteArray) (most : Int) :
    Calls Tryz.prog 19 #[.pointer (some ⟨B, 0, none⟩), .agg #[.string f, .string t], .int .i64 most] w
      fun e w' => ∃ v', e = .returned v' ∧ Below w.heap.size w w' ∧ Own Row.enc 2 44 w.heap.size w' v' ((rowsIn f t xs).take most.toNat) := by
  obtain ⟨i0, hi0, hz0, hz1, hz2⟩ := info_parts info_rowi
  refine (callsIn_wide (n := 3)).1 ?_
  refine callsIn_of_wp_marks Tryz.func19 rfl trivial ?_ rfl
  simp only [Tryz.ntmps19, List.size_toArray, List.length_cons, List.length_nil, Nat.reduceAdd, Nat.reduceSub, Array.replicate_succ, Array.replicate_zero, List.push_toArray, List.append_toArray, List.nil_append, List.cons_append]
  gi_wp2_with (refine ⟨trivial, ?_⟩; gi_at_call 90; refine (inf_calls _ _ _ _ _).mono ?_; rintro e w' ⟨rfl, rfl⟩)
  generalize hW0 : ((((w.alloc (.cells #[.string f, .string t] 47)).alloc (.cells #[.int .i64 most] 3)).alloc (.cells #[.slice none 0 0] 56)).alloc (.cells #[.pointer (some ⟨B, 0, none⟩)] 24)).alloc (.cells #[.string f, .string t] 47) = W0
  have hsz : W0.heap.size = w.heap.size + 5 := by rw [← hW0]; simp
  have hB0 : Below w.heap.size w W0 := by rw [← hW0]; exact (((((Below.refl _ w).alloc (Nat.le_refl _) _).alloc (by simp) _).alloc (by simp; omega) _).alloc (by simp; omega) _).alloc (by simp; omega) _
  have b1 : Boxed W0 (w.heap.size + 1) 3 (.int .i64 most) := by
    rw [← hW0]
    exact (((boxed_new' _ _ (by simp)).alloc _).alloc _).alloc _
  have b2 : Boxed W0 (w.heap.size + 1 + 1) 56 (.slice none 0 0) := by
    rw [← hW0]
    exact ((boxed_new' _ _ (by simp)).alloc _).alloc _
  have b3 : Boxed W0 (w.heap.size + 1 + 1 + 1) 24 (.pointer (some ⟨B, 0, none⟩)) := by
    rw [← hW0]
    exact (boxed_new' _ _ (by simp)).alloc _
  have b4 : W0.heap[w.heap.size + 1 + 1 + 1 + 1]? = some (.cells #[.string f, .string t] 47 (0, 0)) := by
    rw [← hW0]
    exact alloc_at' _ (by simp)
  clear hW0
  have hlen : (rowsIn f t xs).length ≤ 1000000 := Nat.le_trans (List.length_filter_le _ _) hl
  refine wpIn_rangeFunc_ownH rfl (by omega) (gf := 186) (lb := #[.pointer (some ⟨w.heap.size + 1 + 1 + 1, 0, none⟩), .pointer (some ⟨w.heap.size + 1 + 1 + 1 + 1, 0, none⟩)]) rfl trivial (enters_of Tryz.func186 (by kernel_rfl) rfl)
    (in_stops 2 (by omega) (w.heap.size + 1 + 1 + 1) (w.heap.size + 1 + 1 + 1 + 1) B w.heap.size base v xs f t hl W0 (by omega) (hM.below hB0) hM.lt (by omega) b3.cell b4 (fun g hg => hM.own.lt g hg))
    kpS_t (kpS_b (by omega)) (Below.refl _ _) (fun _ => rfl)
    (fun pre W => ((∃ v', Boxed W (w.heap.size + 1 + 1) 56 v' ∧ W.ownsRow (w.heap.size + 5) 44 2 v' pre.length (pre.flatMap Row.enc) ∧ pre.length ≤ most.toNat) ∧ Boxed W (w.heap.size + 1) 3 (.int .i64 most)) ∧ Below w.heap.size W0 W)
    (fun c pre W => (∃ v', Boxed W (w.heap.size + 1 + 1) 56 v' ∧ W.ownsRow (w.heap.size + 5) 44 2 v' pre.dropLast.length (pre.dropLast.flatMap Row.enc) ∧ (c = .exit 0 ∧ pre.dropLast.length = most.toNat)) ∧ Below w.heap.size W0 W)
    (OwnFrom.and (OwnFrom.and (Own.from (holdsRow_own _ _ _ _ _ (fun pre : List Row => pre.length) (fun pre => pre.flatMap Row.enc) (fun pre _ => pre.length ≤ most.toNat)) _) (Own.from (boxed_own _ _ _) _)) (ownFrom_below (by omega) (by omega)))
    (fun c => OwnFrom.and (Own.from (holdsRow_own _ _ _ _ _ (fun pre : List Row => pre.dropLast.length) (fun pre => pre.dropLast.flatMap Row.enc) (fun pre _ => c = .exit 0 ∧ pre.dropLast.length = most.toNat)) _) (ownFrom_below (by omega) (by omega)))
    ⟨⟨⟨_, b2, World.ownsRow_nil _ _ _ _, Nat.zero_le _⟩, b1⟩, Below.refl _ _⟩
    (fun x a' W => ∃ Bx, (w.heap.size + 5 ≤ Bx ∧ W.heap[Bx]? = some (.cells #[.string x.k, .int .u32 x.v] 44 (0, 0))) ∧ a' = { tmps := #[.pointer (some ⟨B, 0, none⟩), .agg #[.string f, .string t], .int .i64 most, undef, .pointer (some ⟨w.heap.size, 0, none⟩), .pointer (some ⟨w.heap.size + 1, 0, none⟩), .pointer (some ⟨w.heap.size + 1 + 1, 0, none⟩), .pointer (some ⟨Bx, 0, none⟩), .pointer (some ⟨B, 0, none⟩), .agg #[.string f, .string t],
      .func (.func 186) #[] #[.pointer (some ⟨w.heap.size + 1 + 1 + 1, 0, none⟩), .pointer (some ⟨w.heap.size + 1 + 1 + 1 + 1, 0, none⟩)], .agg #[.string x.k, .int .u32 x.v], undef, undef, undef, undef, undef, undef, undef, undef, undef], defers := [] })
    ?hAx ?assign ?body ?done ?stop
  case hAx =>
    rintro x a' s A C row ⟨Bx, ⟨h1, h2⟩, h3⟩ hg hr
    exact ⟨Bx, ⟨h1, cells_own (β := Unit) Bx _ _ () A C row h2 hg (fun r e => (hr r e).2)⟩, h3⟩
  case assign =>
    rintro l pre x W K ⟨⟨⟨v', hv, hrow, hle⟩, hmost⟩, hBe⟩ hK
    gi_wp2
    have hWs := hBe.size
    exact hK _ _ ((KeepsOthers.alloc _ _).from _) ⟨(Below.refl _ W).alloc (by omega) _, fun c t fr e => (Below.heap_alloc W _ _ (Array.getElem?_eq_some_iff.1 e).1).trans e⟩
      ⟨⟨⟨v', hv.alloc _, hrow.alloc _, hle⟩, hmost.alloc _⟩, hBe.alloc (by omega) _⟩ ⟨W.heap.size, ⟨by omega, alloc_at' _ rfl⟩, rfl⟩
  case body =>
    rintro l pre x a' W hl' hr' ⟨⟨⟨v', hv, hrow, hle⟩, hmost⟩, hBe⟩ ⟨Bx, ⟨hBx, hX⟩, rfl⟩ hlt
    have hc := hv.cell
    have hcm := hmost.cell
    have hx0 : W.cell? ⟨Bx, 0, none⟩ = some (.string x.k) := by simp [World.cell?, hX]
    have hx1 : W.cell? ⟨Bx, 1, none⟩ = some (.int .u32 x.v) := by simp [World.cell?, hX]
    have hWs := hBe.size
    obtain ⟨A, cap, rfl⟩ : ∃ A cap, v' = .slice A pre.length cap := by
      rcases hrow.2 with ⟨rfl, h0⟩ | ⟨g, cap, cur, rfl, _⟩
      · exact ⟨none, 0, by rw [h0]⟩
      · exact ⟨_, cap, rfl⟩
    by_cases hq : most ≤ pre.length
    · gi_wp2
      exact ⟨KeepsFrom.refl _ _, ⟨_, hv, by simpa using hrow, rfl, by simp; omega⟩, hBe⟩
    · have hrow' := ownsRow_lower hrow (base' := w.heap.size) (by omega)
      gi_wp2_with (gi_at_builtin; refine wpListIn_append_own _ rfl _ _ 56 rfl (w.heap.size + 5) 44 i0 _ 2 24 under_rows hi0 hz0 hz1 hz2 rfl (by decide) (.slice A pre.length cap) _ _ rfl (hrow.alloc _) ⟨W.heap.size, 0, none⟩ 1 1 x.enc rfl rfl (fun j u hj => by rw [Addr.add_lit]; exact (World.cell?_alloc_at (w := W) _ _ W.heap.size _ rfl).trans (by simpa using hj)) (row_one x) (by unfold maxLen; omega) (by omega) (by simp; omega) ?_; intro v' w1 hown' hgrow _; obtain ⟨g', cap', rfl⟩ := ownsRow_succ hown'; obtain ⟨hv1, hv2, hr2, hk2, hb2⟩ := hv.appended (by decide) hrow' (by omega) (by omega) (ownsRow_lower hown' (by omega)) hgrow; have hc1 := hv1.cell; have hf1 := hv1.frozen)
      have hv0 : Boxed (W.alloc (.cells x.enc.toArray 44)) (w.heap.size + 1 + 1) 56 (.slice A pre.length cap) := hv.alloc _
      refine ⟨hk2.from _, ⟨hb2, fun c t fr e => ?_⟩, ⟨⟨_, hv2, ?_, by simp; omega⟩, ?_⟩, hBe.trans hb2⟩
      · have hlt := (Array.getElem?_eq_some_iff.1 e).1
        rw [Below.heap_setCell _ _ _ _ (by show _ ≠ w.heap.size + 1 + 1; omega), hgrow.block _ (by simp; omega) (fun e' => by
          rcases hrow.2 with ⟨h1, _⟩ | ⟨g, cap, cur, h1, h2, _⟩
          · rw [h1] at e'; simp [Value.ownBlock] at e'
          · rw [h1] at e'; simp [Value.ownBlock] at e'; omega), Below.heap_alloc W _ _ hlt]
        exact e
      · have := hown'.kept (grownBy_setCell' w1 (w.heap.size + 1 + 1) (.slice (some ⟨g', 0, none⟩) (pre.length + 1) cap')) (.inr (hv1.not_row (by decide) hown').symm)
        simpa using this
      · exact ((hmost.alloc _).kept hgrow (hmost.not_row (by decide) hrow)).other (by omega) _
  case done =>
    rintro D ys W hD rfl ⟨⟨⟨v', hv, hrow, hle⟩, hmost⟩, hBe⟩ hK
    have hc := hv.cell
    have hf := hv.frozen
    obtain ⟨A, cap, rfl⟩ : ∃ A cap, v' = .slice A (rowsIn f t xs).length cap := by
      rcases hrow.2 with ⟨rfl, h0⟩ | ⟨g, cap, cur, rfl, _⟩
      · exact ⟨none, 0, by rw [h0]⟩
      · exact ⟨_, cap, rfl⟩
    gi_wp2
    have hW2 : Boxed (W.setCell ⟨w.heap.size + 1 + 1, 0, none⟩ (.slice A (rowsIn f t xs).length cap)) (w.heap.size + 1 + 1) 56 (.slice A (rowsIn f t xs).length cap) := hv.set _
    have hr2 := hrow.kept (grownBy_setCell' W (w.heap.size + 1 + 1) (.slice A (rowsIn f t xs).length cap)) (.inr (hv.not_row (by decide) hrow).symm)
    have hb2 : Below w.heap.size w (W.setCell ⟨w.heap.size + 1 + 1, 0, none⟩ (.slice A (rowsIn f t xs).length cap)) := hB0.trans (hBe.setCell (p := ⟨w.heap.size + 1 + 1, 0, none⟩) (by simp; omega) _)
    have hK' := (KeepsOthers.setCell W ⟨w.heap.size + 1 + 1, 0, none⟩ (.slice A (rowsIn f t xs).length cap)).same D _ hK rfl
    refine ⟨by simp, .inl ⟨_, _, rfl, run_takeDeferred hK', ?_⟩⟩
    have hc5 := cell_kept hW2.cell (grownBy_putObj' _ D (.deferred none)) (fun r e => by cases e; exact ⟨_, hK', rfl⟩)
    refine ⟨.slice A (rowsIn f t xs).length cap, ?_, _, rfl, hb2.trans (belowK_b (w := w) (Nat.le_refl _) _ D _ _ (by omega) hK' rfl rfl), ?_⟩
    · simp [results, Tryz.f19, go_sem, hc5]
    · rw [List.take_of_length_le hle]
      exact ownsRow_lower (base := w.heap.size + 5) (ownsRow_putObj hr2 _ hK' rfl) (by omega)
  case stop =>
    rintro D c pre W hD hpre ⟨⟨v', hv, hrow, rfl, hn⟩, hBe⟩ hK
    have hc := hv.cell
    have hf := hv.frozen
    have hpt : pre.dropLast = (rowsIn f t xs).take most.toNat := by
      obtain ⟨rest, hrest⟩ := hpre
      rw [← hrest, ← hn, List.take_append_of_le_length (by simp)]
      rw [List.dropLast_eq_take, List.length_take]
      congr 1
      omega
    rw [hpt] at hrow
    clear hn hpt
    obtain ⟨ys, hys⟩ : ∃ ys, ys = (rowsIn f t xs).take most.toNat := ⟨_, rfl⟩
    rw [← hys] at hrow
    have HY := Lib.hid hys
    clear hys
    obtain ⟨A, cap, rfl⟩ : ∃ A cap, v' = .slice A ys.length cap := by
      rcases hrow.2 with ⟨rfl, h0⟩ | ⟨g, cap, cur, rfl, _⟩
      · exact ⟨none, 0, by rw [h0]⟩
      · exact ⟨_, cap, rfl⟩
    gi_wp2
    have hW2 : Boxed (W.setCell ⟨w.heap.size + 1 + 1, 0, none⟩ (.slice A ys.length cap)) (w.heap.size + 1 + 1) 56 (.slice A ys.length cap) := hv.set _
    have hr2 := hrow.kept (grownBy_setCell' W (w.heap.size + 1 + 1) (.slice A ys.length cap)) (.inr (hv.not_row (by decide) hrow).symm)
    have hb2 : Below w.heap.size w (W.setCell ⟨w.heap.size + 1 + 1, 0, none⟩ (.slice A ys.length cap)) := hB0.trans (hBe.setCell (p := ⟨w.heap.size + 1 + 1, 0, none⟩) (by simp; omega) _)
    have hK' := (KeepsOthers.setCell W ⟨w.heap.size + 1 + 1, 0, none⟩ (.slice A ys.length cap)).same D _ hK rfl
    refine ⟨by simp, .inl ⟨_, _, rfl, run_takeDeferred hK', ?_⟩⟩
    have hc5 := cell_kept hW2.cell (grownBy_putObj' _ D (.deferred none)) (fun r e => by cases e; exact ⟨_, hK', rfl⟩)
    refine ⟨.slice A ys.length cap, ?_, _, rfl, hb2.trans (belowK_b (w := w) (Nat.le_refl _) _ D _ _ (by omega) hK' rfl rfl), ?_⟩
    · simp [results, Tryz.f19, go_sem, hc5]
    · rw [← HY.out]
      exact ownsRow_lower (base := w.heap.size + 5) (ownsRow_putObj hr2 _ hK' rfl) (by omega)

end Go.Proofs.YtanjgeacmpmjhaaGreatDoor
