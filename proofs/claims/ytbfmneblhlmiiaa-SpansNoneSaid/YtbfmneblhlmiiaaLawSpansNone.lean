import Derived.Test.YtbfmneblhlmiiaaLawSpansWhole
set_option linter.unusedVariables false
set_option linter.unusedSimpArgs false
namespace Go.Proofs.Ytbfmneblhlmiiaa
open Go.RowKit Go.Shelf

theorem sizeOne_calls (a : Span) (ha : a.ok) (w : World) (H : Nat) (hH : w.heap.size = H) :
    Calls Try.prog 17 #[.slice (some ⟨H, 0, none⟩) 1 1] (w.alloc (.cells #[.string a.f, .string a.t] 27)) fun e w' => e = .returned (.int .i64 (1 + a.f.size + a.t.size)) ∧ Below w.heap.size w w' := by
  subst hH
  obtain ⟨ha1, ha2⟩ := ha
  have e : sizeSpans [a] = 1 + a.f.size + a.t.size := by
    unfold sizeSpans
    show sizeSpansGo 1 [a] = _
    rw [sizeSpansGo, if_pos (by omega), sizeSpansGo]
  refine (sizeSpans_calls _ [a] _ (rd_lit Span.enc 2 span_len 27 [a] (by simp) w) (by simp) (fun x hx => by rw [List.mem_singleton.1 hx]; exact ⟨ha1, ha2⟩)).mono ?_
  rintro e' w' ⟨rfl, hb'⟩
  exact ⟨by rw [e], Below.step ((Below.refl _ w).alloc (Nat.le_refl _) _) hb'⟩

set_option maxHeartbeats 2000000 in
set_option maxRecDepth 100000 in
theorem spansNone_walk (a : Span) (v : Value) (xs : List Span) (w : World) (hv : Rd Span.enc 2 w v xs) (hlen : xs.length * 32 ≤ 140737488351232) (hs : ∀ x ∈ xs, x.ok) (ha : a.ok) :
    Calls Try.prog 8 #[.agg #[.string a.f, .string a.t], v] w fun e w' => e = .returned (.bool true) ∧ Below w.heap.size w w' := by
  have hsz1 := fun W H hH => sizeOne_calls a ha W H hH
  obtain ⟨ha1, ha2⟩ := ha
  unfold small at ha1 ha2
  obtain ⟨W, hW⟩ : ∃ W, W = w.alloc (.cells #[.string a.f, .string a.t] 27) := ⟨_, rfl⟩
  have hB : Below w.heap.size w W := by rw [hW]; exact (Below.refl _ _).alloc (Nat.le_refl _) _
  have c0 : W.cell? ⟨w.heap.size, 0, none⟩ = some (.string a.f) := by rw [hW]; simp
  have c1 : W.cell? ⟨w.heap.size, 1, none⟩ = some (.string a.t) := by rw [hW]; simp
  have HW := Lib.hid hW
  clear hW
  have g1 := fun (W : World) (hb : Below w.heap.size w W) => great_calls v xs W (hv.below hb) (by omega) (fun x hx => hs x hx)
  have j1 := fun (W : World) (hb : Below w.heap.size w W) (hl : xs.length ≤ 1000000) => join_own v xs W (hv.below hb) hl
  obtain ⟨A, c, rfl, hlc, hc⟩ := hv.shape
  clear hs
  have hbig : greatL xs = true ∨ (greatL xs = false ∧ a.f.size + a.t.size + 1 > 5000) ∨ (greatL xs = false ∧ ¬ a.f.size + a.t.size + 1 > 5000) := by
    cases greatL xs <;> by_cases h : a.f.size + a.t.size + 1 > 5000 <;> simp [h]
  rcases hbig with h1 | ⟨h1, h3⟩ | ⟨h1, h3⟩
  iterate 2
    · rw [h1] at g1
      clear j1 hv h1
      go_enter Try.func8, Try.ntmps8
      go_wp2_with fail
      rw [← HW.out]
      clear HW
      go_wp2_with (first
        | (go_at_call 26; (with_reducible refine (g1 _ hB).mono ?_); rintro e w1 ⟨rfl, hb1⟩; replace hB := Below.step hB hb1; replace c0 := Below.cell_some hb1 c0; replace c1 := Below.cell_some hb1 c1; clear hb1)
        | (go_at_call 17; refine (hsz1 _ _ (by simp)).mono ?_; rintro e w1 ⟨rfl, hb1⟩; replace hB := Below.step hB hb1; replace c0 := Below.cell_some hb1 c0; replace c1 := Below.cell_some hb1 c1; clear hb1)
        | (go_at_call 24; refine (aliveS_calls _).mono ?_; rintro e w1 ⟨rfl, hb1⟩; replace hB := Below.step hB hb1; replace c0 := Below.cell_some hb1 c0; replace c1 := Below.cell_some hb1 c1; clear hb1))
      go_ret
      exact ⟨rfl, hB⟩
  rw [h1] at g1
  have hl2 := greatL_false h1
  have hlx : xs.length ≤ 1000000 := by omega
  obtain ⟨_, _, hends, hjl⟩ := joinF_spec xs
  have hany := any_joinF a xs
  clear h1
  generalize joinF xs = J at *
  have HE := Lib.hid hends
  clear hends
  have a1 := fun (W : World) (hb : Below w.heap.size w W) => any_calls a.f a.t _ xs W (hv.below hb)
  have a2 := fun (A : Option Addr) (c : Nat) (W : World) (hr : Rd Span.enc 2 W (.slice A J.length c) J) => any_calls a.f a.t (.slice A J.length c) J W hr
  have a3 := fun (W : World) => any_calls a.f a.t (.slice none 0 0) [] W ⟨none, 0, rfl, Nat.le_refl _, by omega, fun h => absurd h (Nat.lt_irrefl _)⟩
  rw [hany] at a2
  simp only [List.any_nil] at a3
  clear hany
  generalize (xs.any fun x => meet4 a.f a.t x.f x.t) = an at *
  go_enter Try.func8, Try.ntmps8
  go_wp2_with fail
  rw [← HW.out]
  clear HW
  go_wp2_with (first
    | (go_at_call 26; (with_reducible refine (g1 _ hB).mono ?_); rintro e w1 ⟨rfl, hb1⟩; replace hB := Below.step hB hb1; replace c0 := Below.cell_some hb1 c0; replace c1 := Below.cell_some hb1 c1; clear hb1)
    | (go_at_call 17; refine (hsz1 _ _ (by simp)).mono ?_; rintro e w1 ⟨rfl, hb1⟩; replace hB := Below.step hB hb1; replace c0 := Below.cell_some hb1 c0; replace c1 := Below.cell_some hb1 c1; clear hb1)
    | (go_at_call 24; refine (aliveS_calls _).mono ?_; rintro e w1 ⟨rfl, hb1⟩; replace hB := Below.step hB hb1; replace c0 := Below.cell_some hb1 c0; replace c1 := Below.cell_some hb1 c1; clear hb1)
    | (go_at_call 27; (with_reducible refine (j1 _ hB hlx).mono ?_); rintro e w2 ⟨A2, c2, rfl, o2, hb1⟩; obtain ⟨_, _, _, hc2, hc2'⟩ := Own.slice o2; have r2 := Own.rd span_len o2; clear o2; replace hB := Below.step hB hb1; replace c0 := Below.cell_some hb1 c0; replace c1 := Below.cell_some hb1 c1; clear hb1))
  replace hv := hv.below hB
  replace c0 := fun p : Later w2 => Later.cell p c0
  replace c1 := fun p : Later w2 => Later.cell p c1
  replace a1 := fun p : Later w2 => a1 p.val (Below.step hB p.ok)
  replace a2 := fun p : Later w2 => a2 A2 c2 p.val (r2.below p.ok)
  clear j1 g1 hsz1
  refine wp_region_later (by kernel_rfl) (by kernel_rfl) ?_
  repeat (go_big_quiet_step ((first | (go_at_call 21; with_reducible exact Calls.later (a1 _)) | (go_at_call 21; with_reducible exact Calls.later (a2 _)) | (go_at_call 21; with_reducible exact Calls.later (a3 _)))))
  refine wpQuiet_nil ?_
  rintro _ ⟨p, rfl⟩
  clear c0 c1 a1 a2 a3
  replace hv := hv.below p.ok
  replace r2 := r2.below p.ok
  replace hB := Below.step hB p.ok
  generalize p.val = w3 at *
  go_wp2
  go_loopw [6] (fun i wr => ∃ n : Nat, n ≤ J.length ∧ i = .int .i64 n ∧ Below w3.heap.size w3 wr) (fun i _ => J.length - (intOf i).toNat)
  case atStart => exact ⟨0, Nat.zero_le _, rfl, Below.refl _ _⟩
  case round =>
    obtain ⟨n, hn, rfl, hb⟩ := hrel
    obtain ⟨wo, rfl⟩ : ∃ wo : World, wo = wr := ⟨_, rfl⟩
    by_cases hlt : n < J.length
    · obtain ⟨b, o, hA2, hy1, hy2⟩ := (r2.below hb).span (List.getElem?_eq_getElem hlt)
      have HY := Lib.hid (HE.out J[n] (List.getElem_mem hlt))
      generalize J[n] = y at *
      subst hA2
      replace hv := hv.below hb
      go_wp2
      go_loopw [7, 8, 9] (fun fv tv i wr => ∃ m : Nat, m ≤ xs.length ∧ i = .int .i64 m ∧ fv = .bool ((xs.take m).any fun z => decide (z.f = y.f)) ∧ tv = .bool ((xs.take m).any fun z => decide (z.t = y.t)) ∧ Below wo.heap.size wo wr) (fun _ _ i _ => xs.length - (intOf i).toNat)
      case atStart => exact ⟨0, Nat.zero_le _, rfl, rfl, rfl, Below.refl _ _⟩
      case round =>
        obtain ⟨m, hm, rfl, rfl, rfl, hbi⟩ := hrel
        by_cases hlm : m < xs.length
        · obtain ⟨b', o', rfl, hx1, hx2⟩ := (hv.below hbi).span (List.getElem?_eq_getElem hlm)
          have HT1 := Lib.hid (any_snoc (fun z : Span => decide (z.f = y.f)) xs m _ (List.getElem?_eq_getElem hlm))
          have HT2 := Lib.hid (any_snoc (fun z : Span => decide (z.t = y.t)) xs m _ (List.getElem?_eq_getElem hlm))
          generalize xs[m] = x at *
          generalize ((xs.take m).any fun z => decide (z.f = y.f)) = b1 at *
          generalize ((xs.take m).any fun z => decide (z.t = y.t)) = b2 at *
          have hy1' := Below.cell_some hbi hy1
          have hy2' := Below.cell_some hbi hy2
          cases b1 <;> cases b2
          all_goals
            have hx1p := fun p : Later wr => Later.cell p hx1
            have hx2p := fun p : Later wr => Later.cell p hx2
            have hy1p := fun p : Later wr => Later.cell p hy1'
            have hy2p := fun p : Later wr => Later.cell p hy2'
            clear hx1 hx2 hy1' hy2'
            go_wp2
            refine wp_region_later (by kernel_rfl) (by kernel_rfl) ?_
            repeat (go_big_quiet_step ((fail)))
            refine wpQuiet_nil ?_
            rintro _ ⟨p, rfl⟩
            replace hx1p := fun q : Later p.val => Later.cell q (hx1p p)
            replace hx2p := fun q : Later p.val => Later.cell q (hx2p p)
            replace hy1p := fun q : Later p.val => Later.cell q (hy1p p)
            replace hy2p := fun q : Later p.val => Later.cell q (hy2p p)
            go_wp2
            refine wp_region_later (by kernel_rfl) (by kernel_rfl) ?_
            repeat (go_big_quiet_step ((fail)))
            refine wpQuiet_nil ?_
            rintro _ ⟨q, rfl⟩
            clear hx1p hx2p hy1p hy2p
            go_wp2
            go_roundw
            case rel => exact ⟨m + 1, by omega, by go_num, by rw [HT1.out]; first | rfl | simp, by rw [HT2.out]; first | rfl | simp, Below.step hbi (Below.step p.ok q.ok)⟩
            case measure => simp [intOf]; omega
        · have e1 : ((xs.take m).any fun z => decide (z.f = y.f)) = true := by
            rw [List.take_of_length_le (by omega), List.any_eq_true]
            obtain ⟨⟨z, hz, e⟩, _⟩ := HY.out
            exact ⟨z, hz, decide_eq_true e⟩
          have e2 : ((xs.take m).any fun z => decide (z.t = y.t)) = true := by
            rw [List.take_of_length_le (by omega), List.any_eq_true]
            obtain ⟨_, z, hz, e⟩ := HY.out
            exact ⟨z, hz, decide_eq_true e⟩
          rw [e1, e2]
          clear e1 e2
          go_wp2
          go_roundw
          case rel => exact ⟨n + 1, by omega, by go_num, Below.step hb hbi⟩
          case measure => simp [intOf]; omega
    · go_wp2
      go_ret
      exact ⟨rfl, Below.step hB hb⟩

end Go.Proofs.Ytbfmneblhlmiiaa
