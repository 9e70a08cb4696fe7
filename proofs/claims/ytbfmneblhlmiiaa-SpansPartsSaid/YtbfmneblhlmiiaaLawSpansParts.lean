import Derived.Test.YtbfmneblhlmiiaaSpA
set_option linter.unusedVariables false
set_option linter.unusedSimpArgs false
namespace Go.Proofs.Ytbfmneblhlmiiaa
open Go.RowKit Go.Shelf

set_option maxHeartbeats 2000000 in
set_option maxRecDepth 100000 in
theorem spansParts_walk (v u : Value) (xs ys : List Span) (w : World) (hv : Rd Span.enc 2 w v xs) (hlen : xs.length * 32 ≤ 140737488351232) (hs : ∀ x ∈ xs, x.ok) (hu : Rd Span.enc 2 w u ys) (hlen2 : ys.length * 32 ≤ 140737488351232) (hs2 : ∀ x ∈ ys, x.ok) :
    Calls Try.prog 12 #[v, u] w fun e w' => e = .returned (.bool true) ∧ Below w.heap.size w w' := by
  have g1 := fun (W : World) (hb : Below w.heap.size w W) => great_calls v xs W (hv.below hb) (by omega) (fun x hx => hs x hx)
  have g2 := fun (W : World) (hb : Below w.heap.size w W) => great_calls u ys W (hu.below hb) (by omega) (fun x hx => hs2 x hx)
  have j1 := fun (W : World) (hb : Below w.heap.size w W) (hl : xs.length ≤ 1000000) => join_own v xs W (hv.below hb) hl
  have j2 := fun (W : World) (hb : Below w.heap.size w W) (hl : ys.length ≤ 1000000) => join_own u ys W (hu.below hb) hl
  have rv := fun (W : World) (hb : Below w.heap.size w W) => hv.below hb
  have ru := fun (W : World) (hb : Below w.heap.size w W) => hu.below hb
  obtain ⟨A, c, rfl, hlc, hc⟩ := hv.shape
  obtain ⟨B, d, rfl, hld, hd⟩ := hu.shape
  clear hs hs2
  have hB := Below.refl w.heap.size w
  have hsum : ∀ W : World, Calls Try.prog 24 #[] W fun e w' => e = .returned (.bool true) ∧ Below W.heap.size W w' := aliveS_calls
  have hbig : greatL xs = true ∨ (greatL xs = false ∧ greatL ys = true) ∨ (greatL xs = false ∧ greatL ys = false ∧ xs.length + ys.length > 200) ∨ (greatL xs = false ∧ greatL ys = false ∧ ¬ xs.length + ys.length > 200) := by
    cases greatL xs <;> cases greatL ys <;> by_cases h : xs.length + ys.length > 200 <;> simp [h]
  rcases hbig with h1 | ⟨h1, h2⟩ | ⟨h1, h2, h3⟩ | ⟨h1, h2, h3⟩
  iterate 3
    · (try rw [h1] at g1)
      (try rw [h2] at g2)
      clear j1 j2 rv ru hv hu
      (try clear h1)
      (try clear h2)
      go_enter Try.func12, Try.ntmps12
      go_wp2_with (first
        | (go_at_call 26; (with_reducible refine (g1 _ hB).mono ?_); rintro e w1 ⟨rfl, hb1⟩; replace hB := Below.step hB hb1; clear hb1)
        | (go_at_call 26; (with_reducible refine (g2 _ hB).mono ?_); rintro e w1 ⟨rfl, hb1⟩; replace hB := Below.step hB hb1; clear hb1)
        | (go_at_call 24; refine (hsum _).mono ?_; rintro e w1 ⟨rfl, hb1⟩; replace hB := Below.step hB hb1; clear hb1))
      go_ret
      exact ⟨rfl, hB⟩
  rw [h1] at g1
  rw [h2] at g2
  have hx1 := (joinF_spec xs).2.2.2
  have hy1 := (joinF_spec ys).2.2.2
  have HP := Lib.hid (joinF_parts xs ys)
  clear h1 h2 hv hu
  have hlx : xs.length ≤ 1000000 := by omega
  have hly : ys.length ≤ 1000000 := by omega
  generalize joinF xs = Jx at *
  generalize joinF ys = Jy at *
  go_enter Try.func12, Try.ntmps12
  go_wp2_with (first
    | (go_at_call 26; (with_reducible refine (g1 _ hB).mono ?_); rintro e w1 ⟨rfl, hb1⟩; replace hB := Below.step hB hb1; clear hb1)
    | (go_at_call 26; (with_reducible refine (g2 _ hB).mono ?_); rintro e w1 ⟨rfl, hb1⟩; replace hB := Below.step hB hb1; clear hb1)
    | (go_at_call 24; refine (hsum _).mono ?_; rintro e w1 ⟨rfl, hb1⟩; replace hB := Below.step hB hb1; clear hb1)
    | (go_at_call 27; (with_reducible refine (j1 _ hB hlx).mono ?_); rintro e w2 ⟨A2, c2, rfl, o2, hb1⟩; replace o2 := Own.lower o2 hB.size; replace hB := Below.step hB hb1; clear hb1)
    | (go_at_call 27; (with_reducible refine (j2 _ hB hly).mono ?_); rintro e w3 ⟨A3, c3, rfl, o3, hb1⟩; replace o2 := Own.below o2 hb1; have r3 := Own.rd span_len o3; clear o3; replace hB := Below.step hB hb1; clear hb1)
    | (at_builtin; refine append_all Span.enc 2 27 30 32 _ w.heap.size (.slice A2 Jx.length c2) Jx Jy A3 c3 rfl _ _ rfl Try.underlying30 info_span rfl (by decide) (by decide) span_len span_one rfl rfl r3 o2 hB hB.size (by omega) ?_; intro v4 w4 o4 hB4 hg4; clear hg4 r3 o2; obtain ⟨A4, c4, hv4, _, _⟩ := Own.slice o4; have q4 := Own.rd span_len o4; rw [List.length_append] at hv4; subst hv4; clear o4; replace hB := hB4; clear hB4)
    | (at_builtin; refine append_all Span.enc 2 27 30 32 _ w4.heap.size (.slice none 0 0) [] ys B d rfl _ _ rfl Try.underlying30 info_span rfl (by decide) (by decide) span_len span_one rfl rfl (ru _ hB) (Own.nil _ _ _ _ _) (Below.refl _ _) (Nat.le_refl _) (by simp; omega) ?_; intro v5 w5 o5 hB5 hg5; clear hg5; rw [List.nil_append] at o5; obtain ⟨A5, c5, hv5, _, _⟩ := Own.slice o5; skip; subst hv5)
    | (at_builtin; refine append_all Span.enc 2 27 30 32 _ w4.heap.size (.slice A5 ys.length c5) ys xs A c rfl _ _ rfl Try.underlying30 info_span rfl (by decide) (by decide) span_len span_one rfl rfl (rv _ (Below.step hB hB5)) o5 hB5 hB5.size (by omega) ?_; intro v6 w6 o6 hB6 hg6; clear hg6 o5 hB5; obtain ⟨A6, c6, hv6, _, _⟩ := Own.slice o6; have q6 := Own.rd span_len o6; rw [List.length_append] at hv6; subst hv6; clear o6; replace q4 := q4.below hB6; replace hB := Below.step hB hB6; clear hB6 j1 j2 g1 g2 rv ru))
  have k1 := fun (W : World) (hb : Below w6.heap.size w6 W) => join_own _ _ W (q4.below hb) (by rw [List.length_append]; omega)
  have k2 := fun (W : World) (hb : Below w6.heap.size w6 W) => join_own _ _ W (q6.below hb) (by rw [List.length_append]; omega)
  rw [HP.out] at k1
  clear q4 q6 HP
  generalize joinF (ys ++ xs) = J at *
  have hb6 := Below.refl w6.heap.size w6
  go_wp2_with (first
    | (go_at_call 27; (with_reducible refine (k1 _ hb6).mono ?_); rintro e w7 ⟨A7, c7, rfl, o7, hb1⟩; have r7 := Own.rd span_len o7; clear o7; replace hB := Below.step hB hb1; replace hb6 := Below.step hb6 hb1; clear hb1 k1)
    | (go_at_call 27; (with_reducible refine (k2 _ hb6).mono ?_); rintro e w8 ⟨A8, c8, rfl, o8, hb1⟩; have r8 := Own.rd span_len o8; clear o8; replace r7 := r7.below hb1; replace hB := Below.step hB hb1; clear hb1 k2; have hsame := sameSpans_calls _ _ J J _ r7 r8; rw [decide_eq_true rfl] at hsame)
    | (go_at_call 28; refine hsame.mono ?_; rintro e w9 ⟨rfl, hb1⟩; replace hB := Below.step hB hb1; clear hb1))
  go_ret
  exact ⟨rfl, hB⟩

end Go.Proofs.Ytbfmneblhlmiiaa
