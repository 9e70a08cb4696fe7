import Derived.Test.YtanjgeacmpmjhaaGreatDoorMgLocksPlay28
set_option linter.unusedVariables false
set_option linter.unusedSimpArgs false
set_option linter.unusedSectionVars false
namespace Go.Proofs.YtanjgeacmpmjhaaGreatDoor
open Go.RowKit

attribute [local go_sem] Oper.semAt_some

theorem info_u32i : (Tryz.prog.info? 42).map (fun i => (i.zero, i.size, i.bytes)) = some (some (.int .u32 0), 1, 4) := by kernel_rfl
theorem u32s_under : Tryz.prog.underlying 91 = some (.slice 42) := by kernel_rfl
theorem ownsRow_low {w : World} {base base' : Nat} {e : TypeId} {size : Nat} {v : Value} {n : Nat} {xs : List Value} (h : w.ownsRow base e size v n xs) (hb : base' ≤ base) : w.ownsRow base' e size v n xs := by
  refine ⟨h.1, ?_⟩
  rcases h.2 with h2 | ⟨g, cap, cur, rfl, hb', hr⟩
  · exact .inl h2
  · exact .inr ⟨g, cap, cur, rfl, Nat.le_trans hb hb', hr⟩

theorem own_not_walk {base : Nat} {W : World} {v : Value} {l : List Int} (h : OwnU base W v l) (tmp : Obj) (j : Nat) (o : Obj) (ej : v.ownBlock = some j) (hj : (W.alloc tmp).heap[j]? = some o) : o.isWalk = false := by
  rcases (World.ownsRow.alloc h tmp).2 with ⟨rfl, _⟩ | ⟨g, cap, cur, rfl, _, hgb, _⟩
  · simp [Value.ownBlock] at ej
  · obtain rfl : g = j := by simpa [Value.ownBlock] using ej
    rw [hgb] at hj; cases hj; rfl

theorem rise_len : ∀ {l m : List Int}, l.Pairwise (· < ·) → (∀ x ∈ l, x ∈ m) → l.length ≤ m.length
  | [], _, _, _ => Nat.zero_le _
  | x :: l, m, h, hs => by
    rw [List.pairwise_cons] at h
    have hx := hs x (by simp)
    have ih := rise_len (l := l) (m := m.erase x) h.2 fun y hy => by
      have := h.1 y hy
      exact (List.mem_erase_of_ne (by omega)).2 (hs y (by simp [hy]))
    rw [List.length_erase_of_mem hx] at ih
    have := List.length_pos_of_mem hx
    simp only [List.length_cons]
    omega

set_option maxHeartbeats 2000000 in
set_option maxRecDepth 100000 in
theorem way_callsN {base : Nat} {w : World} {B M nn : Nat} {D : DataW Value} {T : Tab} (h : TabAt base w B M nn D T) {L c : Nat} (hL : ∀ o, (T o).length ≤ L) (hLb : L ≤ 1000) (hnn : nn ≤ 1000) (who : Int) (f t : ByteArray) (al : Bool)
    (hc : ∀ o, ((T o).filter (hitL al f t)).length ≤ c) (hN : nn * c ≤ sortN) :
    Calls Tryz.prog 55 #[.pointer (some ⟨B, 0, none⟩), .int .u32 who, .agg #[.string f, .string t], .bool al] w
      fun e w' => ∃ (v' : Value) (l : List Int), e = .returned v' ∧ OwnU w.heap.size w' v' l ∧ Below w.heap.size w w' ∧ (if mayL who f t then WayIs T who f t al l else l = []) ∧ l.length ≤ 1000000 := by
  obtain ⟨i0, hi0, hzz⟩ := Option.map_eq_some_iff.1 info_u32i
  simp only [Prod.mk.injEq] at hzz
  obtain ⟨hz0, hz1, hz2⟩ := hzz
  have hmc := fun W => callsIn_wide (n := 2) |>.2 (may_calls who f t W)
  refine (callsIn_wide (n := 3)).1 ?_
  refine callsIn_of_wp_marks Tryz.func55 rfl trivial ?_ rfl
  simp only [Tryz.ntmps55, List.size_toArray, List.length_cons, List.length_nil, Nat.reduceAdd, Nat.reduceSub, Array.replicate_succ, Array.replicate_zero, List.push_toArray, List.append_toArray, List.nil_append, List.cons_append]
  gi_wp2_with fail
  generalize hW0 : ((w.alloc (.cells #[.string f, .string t] 47)).alloc (.cells #[.bool al] 4)).alloc (.cells #[.slice none 0 0] 91) = W0
  have hsz : W0.heap.size = w.heap.size + 3 := by rw [← hW0]; simp
  have hB0 : Below w.heap.size w W0 := by rw [← hW0]; exact (((Below.refl _ w).alloc (Nat.le_refl _) _).alloc (by simp) _).alloc (by simp; omega) _
  have s0 : W0.heap[w.heap.size]? = some (.cells #[.string f, .string t] 47 (0, 0)) := by
    rw [← hW0]
    exact ((Below.heap_alloc _ _ _ (by simp; omega)).trans (Below.heap_alloc _ _ _ (by simp))).trans (lalloc_at _ rfl)
  have b1 : Boxed W0 (w.heap.size + 1) 4 (.bool al) := by rw [← hW0]; exact (lboxed_new _ _ (by simp)).alloc _
  have b2 : Boxed W0 (w.heap.size + 1 + 1) 91 (.slice none 0 0) := by rw [← hW0]; exact lboxed_new _ _ (by simp)
  have c0 : W0.cell? ⟨w.heap.size, 0, none⟩ = some (.string f) := by simp [World.cell?, s0]
  have c1 : W0.cell? ⟨w.heap.size, 1, none⟩ = some (.string t) := by simp [World.cell?, s0]
  have hT := h.below hB0
  clear hW0
  cases hm : mayL who f t with
  | false =>
    rw [hm] at hmc
    have b2c := b2.cell
    have b2f := b2.frozen
    gi_wp2_with (first
      | (refine ⟨trivial, ?_⟩; gi_at_call 141; refine (callsIn_wide.2 (tthere_calls hT)).mono ?_; rintro e w1 ⟨rfl, rfl⟩)
      | (refine ⟨trivial, ?_⟩; gi_at_call 142; refine (hmc _).mono ?_; rintro e w1 ⟨rfl, hb1⟩; have b3 := Below.cell_some hb1 b2c; have b3f : w1.frozen? ⟨w.heap.size + 1 + 1, 0, none⟩ = false := (by rw [World.frozen?, hb1.block _ b2.lt]; exact b2f)))
    all_goals
      have hc5 : (w1.setCell ⟨w.heap.size + 1 + 1, 0, none⟩ (.slice none 0 0)).cell? ⟨w.heap.size + 1 + 1, 0, none⟩ = some (.slice none 0 0) := by
        have b4 : Boxed w1 (w.heap.size + 1 + 1) 91 (.slice none 0 0) := (hb1.block _ b2.lt).trans b2
        exact (b4.set _).cell
      refine ⟨.slice none 0 0, by simp [results, Tryz.f55, go_sem, hc5], ?_⟩
      first
        | exact ⟨_, rfl, Own.nil _ _ _ _ _, (Below.step hB0 hb1).setCell (p := ⟨w.heap.size + 1 + 1, 0, none⟩) (by simp; omega) _⟩
        | exact ⟨_, rfl, Own.nil _ _ _ _ _, (Below.step hB0 hb1).setCell (p := ⟨w.heap.size + 1 + 1, 0, none⟩) (by simp; omega) _, by simp⟩
        | exact ⟨_, rfl, [], Own.nil _ _ _ _ _, (Below.step hB0 hb1).setCell (p := ⟨w.heap.size + 1 + 1, 0, none⟩) (by simp; omega) _, rfl, by simp⟩
        | exact ⟨_, by simp, rfl, Own.nil _ _ _ _ _, (Below.step hB0 hb1).setCell (p := ⟨w.heap.size + 1 + 1, 0, none⟩) (by simp; omega) _⟩
        | exact ⟨_, [], rfl, Own.nil _ _ _ _ _, (Below.step hB0 hb1).setCell (p := ⟨w.heap.size + 1 + 1, 0, none⟩) (by simp; omega) _, by simp⟩
  | true =>
    rw [hm] at hmc
    gi_wp2_with (first
      | (refine ⟨trivial, ?_⟩; gi_at_call 141; refine (callsIn_wide.2 (tthere_calls hT)).mono ?_; rintro e w1 ⟨rfl, rfl⟩)
      | (refine ⟨trivial, ?_⟩; gi_at_call 142; refine (hmc _).mono ?_; rintro e w1 ⟨rfl, hb1⟩)
      | (refine ⟨trivial, ?_⟩; gi_at_call 147; refine (othersf_calls _ _ _ _).mono ?_; rintro e w2 ⟨rfl, rfl⟩))
    replace s0 := (hb1.block _ (Array.getElem?_eq_some_iff.1 s0).1).trans s0
    replace b1 : Boxed w1 (w.heap.size + 1) 4 (.bool al) := (hb1.block _ b1.lt).trans b1
    replace b2 : Boxed w1 (w.heap.size + 1 + 1) 91 (.slice none 0 0) := (hb1.block _ b2.lt).trans b2
    replace hB0 := Below.step hB0 hb1
    have hsz1 : w.heap.size + 3 ≤ w1.heap.size := by have := hb1.size; omega
    clear hb1 hmc c0 c1 hsz
    generalize hS1 : w1.heap.size = S1 at *
    generalize hW2 : (w1.alloc (.cells #[.pointer (some ⟨B, 0, none⟩)] 83)).alloc (.cells #[.int .u32 who] 42) = W2
    have hsz2 : W2.heap.size = S1 + 2 := by rw [← hW2]; simp [hS1]
    have hB2 : Below w.heap.size w W2 := by rw [← hW2]; exact (hB0.alloc (by omega) _).alloc (by simp; omega) _
    have x0 : W2.heap[w.heap.size]? = some (.cells #[.string f, .string t] 47 (0, 0)) := by
      rw [← hW2]
      exact ((Below.heap_alloc _ _ _ (by simp; omega)).trans (Below.heap_alloc _ _ _ (by omega))).trans s0
    have x1 : Boxed W2 (w.heap.size + 1) 4 (.bool al) := by rw [← hW2]; exact (b1.alloc _).alloc _
    have x2 : Boxed W2 (w.heap.size + 1 + 1) 91 (.slice none 0 0) := by rw [← hW2]; exact (b2.alloc _).alloc _
    have x3 : Boxed W2 S1 83 (.pointer (some ⟨B, 0, none⟩)) := by rw [← hW2]; exact (lboxed_new _ _ hS1.symm).alloc _
    have x4 : W2.heap[S1 + 1]? = some (.cells #[.int .u32 who] 42 (0, 0)) := by rw [← hW2]; exact lalloc_at _ (by simp [hS1])
    clear hW2 s0 b1 b2
    have hLn : nn * L ≤ 1000000 := Nat.le_trans (Nat.mul_le_mul hnn hLb) (by omega)
    refine wpIn_rangeFunc_ownH rfl (by omega) (gf := 215) (lb := #[.pointer (some ⟨S1, 0, none⟩), .pointer (some ⟨S1 + 1, 0, none⟩)]) rfl trivial (enters_of Tryz.func215 (by kernel_rfl) rfl)
      (ot_stops 2 (by omega) S1 (S1 + 1) who h hL (by omega) hB2 (by omega) x3.cell x4)
      kpU_t (kpU_b (by omega)) (Below.refl _ _) (fun _ => rfl)
      (fun pre W => ((∃ v', Boxed W (w.heap.size + 1 + 1) 91 v' ∧ W.ownsRow (S1 + 2) 42 1 v' (hitsL f t al pre).length ((hitsL f t al pre).flatMap encU) ∧ True) ∧ (Boxed W (w.heap.size + 1) 4 (.bool al) ∧ W.heap[w.heap.size]? = some (.cells #[.string f, .string t] 47 (0, 0)))) ∧ Below w.heap.size W2 W)
      (fun c pre W => False)
      (OwnFrom.and (OwnFrom.and (Own.from (holdsRow_own _ _ _ _ _ (fun pre : List (Int × Lock) => (hitsL f t al pre).length) (fun pre => (hitsL f t al pre).flatMap encU) (fun _ _ => True)) _) (OwnFrom.and (Own.from (boxed_own _ _ _) _) (Own.from (lcells_own _ _ _) _))) (ownFrom_below (by omega) (by omega)))
      (fun c => fun s W W' row hs hg hr => hs.elim)
      ⟨⟨⟨_, x2, World.ownsRow_nil _ _ _ _, trivial⟩, x1, x0⟩, Below.refl _ _⟩
      (fun x a' W => ∃ Bx, (S1 + 2 ≤ Bx ∧ W.heap[Bx]? = some (.cells #[.string x.2.f, .string x.2.t, .bool x.2.a] 162 (0, 0))) ∧ a' = { tmps := #[.pointer (some ⟨B, 0, none⟩), .int .u32 who, .agg #[.string f, .string t], .bool al, undef, undef, .pointer (some ⟨w.heap.size, 0, none⟩), .pointer (some ⟨w.heap.size + 1, 0, none⟩), .pointer (some ⟨w.heap.size + 1 + 1, 0, none⟩), .int .u32 x.1, .pointer (some ⟨Bx, 0, none⟩), .pointer (some ⟨B, 0, none⟩), .bool true, .bool false, .bool false, .int .u32 who, .agg #[.string f, .string t], .bool true, .bool false, .bool false, .pointer (some ⟨B, 0, none⟩), .int .u32 who, .func (.func 215) #[] #[.pointer (some ⟨S1, 0, none⟩), .pointer (some ⟨S1 + 1, 0, none⟩)], .int .u32 x.1, .agg #[.string x.2.f, .string x.2.t, .bool x.2.a], undef, undef, undef, undef, undef, undef, undef, undef, undef, undef, undef, undef, undef, undef, undef, undef, undef, undef, undef], defers := [] })
      ?hAx ?assign ?body ?done ?stop
    case hAx =>
      rintro x a' s A C row ⟨Bx, ⟨h1, h2⟩, h3⟩ hg hr
      exact ⟨Bx, ⟨h1, lcells_own (β := Unit) Bx _ _ () A C row h2 hg (fun r e => (hr r e).2)⟩, h3⟩
    case assign =>
      rintro l pre x W K ⟨⟨⟨v', hv, hrow, _⟩, hbo, hsp⟩, hBe⟩ hK
      gi_wp2
      have hWs := hBe.size
      exact hK _ _ ((KeepsOthers.alloc _ _).from _) ⟨(Below.refl _ W).alloc (by omega) _, fun c t fr e => (Below.heap_alloc W _ _ (Array.getElem?_eq_some_iff.1 e).1).trans e, KeepsWalks.alloc _ _⟩
        ⟨⟨⟨v', hv.alloc _, hrow.alloc _, trivial⟩, hbo.alloc _, (Below.heap_alloc W _ _ (Array.getElem?_eq_some_iff.1 hsp).1).trans hsp⟩, hBe.alloc (by omega) _⟩ ⟨W.heap.size, ⟨by omega, lalloc_at _ rfl⟩, rfl⟩
    case body =>
      rintro l pre x a' W hl' hr' ⟨⟨⟨v', hv, hrow, _⟩, hbo, hsp⟩, hBe⟩ ⟨Bx, ⟨hBx, hX⟩, rfl⟩ hlt
      obtain ⟨xo, xf, xt, xa⟩ := x
      simp only at hX ⊢
      have hO : OwnU (S1 + 2) W v' (hitsL f t al pre) := hrow
      obtain ⟨A, cap, rfl, _, _⟩ := hO.slice
      have hWs := hBe.size
      have hb0 := hbo.cell
      have hx0 : W.cell? ⟨Bx, 0, none⟩ = some (.string xf) := by simp [World.cell?, hX]
      have hx1 : W.cell? ⟨Bx, 1, none⟩ = some (.string xt) := by simp [World.cell?, hX]
      have hx2 : W.cell? ⟨Bx, 2, none⟩ = some (.bool xa) := by simp [World.cell?, hX]
      have hp0 : W.cell? ⟨w.heap.size, 0, none⟩ = some (.string f) := by simp [World.cell?, hsp]
      have hp1 : W.cell? ⟨w.heap.size, 1, none⟩ = some (.string t) := by simp [World.cell?, hsp]
      have hsn := hitsL_snoc f t al pre (xo, ⟨xf, xt, xa⟩)
      have hlen : (hitsL f t al pre).length ≤ 1000000 := by
        have : (hitsL f t al pre).length ≤ pre.length := by unfold hitsL; rw [List.length_map]; exact List.length_filter_le _ _
        omega
      unfold hitL at hsn
      simp only at hsn
      have hme := fun W => callsIn_wide (n := 0) |>.2 (meet_calls xf xt f t W)
      -- what is kept when others make memory
      have keep : ∀ W', Below W.heap.size W W' → Boxed W' (w.heap.size + 1 + 1) 91 (.slice A (hitsL f t al pre).length cap) ∧ OwnU (S1 + 2) W' (.slice A (hitsL f t al pre).length cap) (hitsL f t al pre) ∧ Boxed W' (w.heap.size + 1) 4 (.bool al) ∧ W'.heap[w.heap.size]? = some (.cells #[.string f, .string t] 47 (0, 0)) ∧ Below w.heap.size W2 W' ∧ KeepsFrom W2.heap.size W W' ∧ KpU w.heap.size (S1 + 1) W W' := fun W' hb =>
        ⟨(hb.block _ hv.lt).trans hv, hO.below hb, (hb.block _ hbo.lt).trans hbo, (hb.block _ (Array.getElem?_eq_some_iff.1 hsp).1).trans hsp, hBe.trans (hb.mono (by omega)),
          (KeepsOthers.of_grownBy (row := none) ⟨hb.os, hb.tape, hb.output, hb.size, fun k hk _ => hb.block k hk⟩ (fun j o e => by cases e)).from _,
          ⟨hb.mono (by omega), fun c t fr e => (hb.block _ (Array.getElem?_eq_some_iff.1 e).1).trans e, ⟨hb.size, fun k o hk _ => (hb.block k (Array.getElem?_eq_some_iff.1 hk).1).trans hk⟩⟩⟩
      have HS := Lib.hid hsn
      clear hsn
      -- nobody, or who is not in the way
      have skip : ∀ W', Below W.heap.size W W' → ((al || xa) && meet4 xf xt f t) = false → KeepsFrom W2.heap.size W W' ∧ KpU w.heap.size (S1 + 1) W W' ∧ ((∃ v', Boxed W' (w.heap.size + 1 + 1) 91 v' ∧ W'.ownsRow (S1 + 2) 42 1 v' (hitsL f t al (pre ++ [(xo, ⟨xf, xt, xa⟩)])).length ((hitsL f t al (pre ++ [(xo, ⟨xf, xt, xa⟩)])).flatMap encU) ∧ True) ∧ (Boxed W' (w.heap.size + 1) 4 (.bool al) ∧ W'.heap[w.heap.size]? = some (.cells #[.string f, .string t] 47 (0, 0)))) ∧ Below w.heap.size W2 W' := fun W' hb hno => by
        obtain ⟨k1, k2, k3, k4, k5, k6, k7⟩ := keep W' hb
        rw [HS.out, hno]
        simp only [Bool.false_eq_true, ↓reduceIte, List.append_nil]
        exact ⟨k6, k7, ⟨⟨_, k1, k2, trivial⟩, k3, k4⟩, k5⟩
      have SK := Lib.hid skip
      have KE := Lib.hid keep
      clear skip keep
      cases hq : (al || xa) with
      | false =>
        obtain ⟨rfl, rfl⟩ : al = false ∧ xa = false := by cases al <;> cases xa <;> simp_all
        gi_wp2
        refine ⟨trivial, ?_⟩
        gi_wp2
        exact SK.out _ (Below.refl _ _) rfl
      | true =>
        have hal : al = true ∨ (al = false ∧ xa = true) := by cases al <;> simp_all
        cases hmt : meet4 xf xt f t with
        | false =>
          rw [hmt] at hme
          have hfin : ((al || xa) && meet4 xf xt f t) = false := by rw [hmt, Bool.and_false]
          have HF := Lib.hid hfin
          clear hfin hmt hq
          rcases hal with rfl | ⟨rfl, rfl⟩
          all_goals
            gi_wp2_with (refine ⟨trivial, ?_⟩; gi_at_call 139; refine (CallsIn.inRound _ (hme _)).mono ?_; rintro e W3 ⟨rfl, hb3⟩)
            exact SK.out _ hb3 HF.out
        | true =>
          rw [hmt] at hme
          have hfin : ((al || xa) && meet4 xf xt f t) = true := by rw [hmt, hq]; rfl
          have HF := Lib.hid hfin
          clear hfin hmt hq
          rcases hal with rfl | ⟨rfl, rfl⟩
          all_goals
            gi_wp2_with (first
              | (refine ⟨trivial, ?_⟩; gi_at_call 139; refine (CallsIn.inRound _ (hme _)).mono ?_; rintro e W3 ⟨rfl, hb3⟩; obtain ⟨k1, k2, k3, k4, k5, k6, k7⟩ := KE.out W3 hb3; have hk1 := k1.cell; have hWs3 := hb3.size)
              | (gi_at_builtin; refine wpListIn_append_own _ rfl _ _ 91 rfl (S1 + 2) 42 i0 _ 1 4 u32s_under hi0 hz0 hz1 hz2 rfl (by decide) (.slice A (hitsL f t _ pre).length cap) _ _ rfl (World.ownsRow.alloc k2 _) ⟨W3.heap.size, 0, none⟩ 1 1 (encU xo) rfl rfl (fun j u hj => by rw [Addr.add_lit]; exact (World.cell?_alloc_at (w := W3) _ _ W3.heap.size _ rfl).trans (by simpa using hj)) (encU_one xo) (by unfold maxLen; omega) (by omega) (by simp; omega) ?_; intro v' w1 hown' hgrow _; obtain ⟨g', cap', rfl⟩ := ownsRow_succ hown'; obtain ⟨hv1, hv2, hr2, hk2, hb2⟩ := k1.appended (by decide) (ownsRow_low k2 (base' := w.heap.size) (by omega)) (by omega) (by omega) (ownsRow_low hown' (by omega)) hgrow; have hc1 := hv1.cell; have hf1 := hv1.frozen))
            have far : ∀ (u : Value) (k : Nat), k < S1 + 2 → k < W3.heap.size → k ≠ w.heap.size + 1 + 1 → (w1.setCell ⟨w.heap.size + 1 + 1, 0, none⟩ u).heap[k]? = W3.heap[k]? := fun u k hk hk3 hne => by
              rw [Below.heap_setCell _ _ _ _ hne, hgrow.block k (by simp; omega) (fun e => by have := Own.base_le k2 k e.symm; omega), Below.heap_alloc _ _ _ hk3]
            refine ⟨k6.trans (hk2.from _), kpU_t k7 ⟨hb2, fun c t fr e => ?_, ((KeepsWalks.alloc _ _).trans (KeepsWalks.of_grownBy hgrow (own_not_walk k2 _))).trans (KeepsWalks.setCell _ _ _)⟩, ⟨⟨_, hv2, ?_, trivial⟩, ?_, ?_⟩, k5.trans hb2⟩
            · rw [far _ _ (by omega) (Array.getElem?_eq_some_iff.1 e).1 (by omega)]
              exact e
            · have hk9 := fun u => hown'.kept (grownBy_setCell' w1 (w.heap.size + 1 + 1) u) (.inr (hv1.not_row (by decide) hown').symm)
              rw [HS.out, HF.out]
              simpa using hk9 _
            · exact ((k3.alloc _).kept hgrow (k3.not_row (by decide) k2)).other (by omega) _
            · rw [far _ _ (by omega) (Array.getElem?_eq_some_iff.1 k4).1 (by omega)]
              exact k4
    case done =>
      rintro D' ys W hD hS ⟨⟨⟨v', hv, hrow, _⟩, hbo, hsp⟩, hBe⟩ hK
      have hO : OwnU (S1 + 2) W v' (hitsL f t al ys) := hrow
      have hall := fun o => hitsL_all (f := f) (t := t) (al := al) hS o
      have hle : (hitsL f t al ys).length ≤ sortN := by
        obtain ⟨ks, rfl, hks, _⟩ := hS
        exact Nat.le_trans (hitsL_oList hc ks) (Nat.le_trans (Nat.mul_le_mul_right _ hks) hN)
      have hc0 := hv.cell
      have hWs := hBe.size
      have hlen : (hitsL f t al ys).length ≤ 1000000 := Nat.le_trans hle (by unfold sortN; omega)
      have hus := usort_calls hO hle
      generalize hitsL f t al ys = hs at *
      have ocells : ∀ {b : Nat} {X : World} {u : Value} {m : List Int}, OwnU b X u m → ∀ (j : Nat) (o : Obj), u.ownBlock = some j → X.heap[j]? = some o → o.isCells = true := fun {b X u m} ho j o ej hj => by
        rcases ho.2 with ⟨rfl, _⟩ | ⟨g, cap, cur, rfl, _, hgb, _⟩
        · simp [Value.ownBlock] at ej
        · obtain rfl : g = j := by simpa [Value.ownBlock] using ej
          rw [hgb] at hj; cases hj; rfl
      gi_wp2_with (first
        | (refine ⟨trivial, ?_⟩; gi_at_call 148; refine (callsIn_wide.2 hus).mono ?_; rintro e W3 ⟨rfl, l3, ho3, hperm, hsorted, hg3⟩
           have hv3 := hv.kept hg3 (hv.not_row (by decide) hO)
           have hc3 := hv3.cell
           have hK3 := (KeepsOthers.of_grownBy hg3 (ocells hO)).same _ _ hK rfl
           have hB3 : Below w.heap.size w W3 := (hB2.trans hBe).grown hg3 (by omega) (fun k e => by have := Own.base_le hO k e; omega)
           have hcp := ucomp_calls ho3 hsorted (by rw [hperm.length_eq]; exact hlen))
        | (refine ⟨trivial, ?_⟩; gi_at_call 149; refine (callsIn_wide.2 hcp).mono ?_; rintro e W4 ⟨v4, l4, rfl, ho4, hlt4, hm4, hg4⟩
           have hv4 := hv3.kept hg4 (hv3.not_row (by decide) ho3)
           have hc4 := hv4.cell
           have hf4 := hv4.frozen
           have hK4 := (KeepsOthers.of_grownBy hg4 (ocells ho3)).same _ _ hK3 rfl
           have hB4 : Below w.heap.size w W4 := hB3.grown hg4 (by have := hB3.size; omega) (fun k e => by have := Own.base_le ho3 k e; omega)
           obtain ⟨A4, c4, rfl, _, _⟩ := ho4.slice))
      have hW5 : Boxed (W4.setCell ⟨w.heap.size + 1 + 1, 0, none⟩ (.slice A4 l4.length c4)) (w.heap.size + 1 + 1) 91 (.slice A4 l4.length c4) := hv4.set _
      have ho5 := World.ownsRow.kept ho4 (grownBy_setCell' W4 (w.heap.size + 1 + 1) (.slice A4 l4.length c4)) (.inr (hv4.not_row (by decide) ho4).symm)
      have hb5 : Below w.heap.size w (W4.setCell ⟨w.heap.size + 1 + 1, 0, none⟩ (.slice A4 l4.length c4)) := hB4.setCell (p := ⟨w.heap.size + 1 + 1, 0, none⟩) (by simp; omega) _
      have hK5 := (KeepsOthers.setCell W4 ⟨w.heap.size + 1 + 1, 0, none⟩ (.slice A4 l4.length c4)).same _ _ hK4 rfl
      refine ⟨by simp, .inl ⟨_, _, rfl, run_takeDeferred hK5, ?_⟩⟩
      have hc5 := cell_kept hW5.cell (grownBy_putObj' _ D' (.deferred none)) (fun r e => by cases e; exact ⟨_, hK5, rfl⟩)
      refine ⟨.slice A4 l4.length c4, by simp [results, Tryz.f55, go_sem, hc5], _, rfl, l4, ownsRow_low (base := S1 + 2) (ownsRow_putObj ho5 _ hK5 rfl) (by omega), hb5.trans (belowK_b (w := w) (Nat.le_refl _) _ D' _ _ (by omega) hK5 rfl rfl), ?_⟩
      have hway : WayIs T who f t al l4 := ⟨hlt4, fun o => (hm4 o).trans (hperm.mem_iff.trans (hall o))⟩
      refine ⟨?_, Nat.le_trans (rise_len hlt4 fun o ho => (hm4 o).1 ho) (by rw [hperm.length_eq]; exact hlen)⟩
      first | exact hway | simpa [hm] using hway
    case stop =>
      rintro D c pre W hD hpre hF hK
      exact hF.elim

theorem way_calls {base : Nat} {w : World} {B M nn : Nat} {D : DataW Value} {T : Tab} (h : TabAt base w B M nn D T) {L c : Nat} (hL : ∀ o, (T o).length ≤ L) (hLb : L ≤ 1000) (hnn : nn ≤ 1000) (who : Int) (f t : ByteArray) (al : Bool)
    (hc : ∀ o, ((T o).filter (hitL al f t)).length ≤ c) (hN : nn * c ≤ sortN) :
    Calls Tryz.prog 55 #[.pointer (some ⟨B, 0, none⟩), .int .u32 who, .agg #[.string f, .string t], .bool al] w
      fun e w' => ∃ (v' : Value) (l : List Int), e = .returned v' ∧ OwnU w.heap.size w' v' l ∧ Below w.heap.size w w' ∧ (if mayL who f t then WayIs T who f t al l else l = []) := by
  refine (way_callsN h hL hLb hnn who f t al hc hN).mono ?_
  rintro e w' ⟨v', l, h1, h2, h3, h4, _⟩
  exact ⟨v', l, h1, h2, h3, h4⟩

end Go.Proofs.YtanjgeacmpmjhaaGreatDoor
