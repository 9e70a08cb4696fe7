import Derived.Test.YtbfmneblhlmiiaaSpA
set_option linter.unusedVariables false
set_option linter.unusedSimpArgs false
namespace Go.Proofs.Ytbfmneblhlmiiaa
open Go.RowKit Go.Shelf

theorem same_to (J ys : List Span) (b : Bool) (hb : decide (J = ys) = b) (hx : ys.length ≤ 100) (A : Option Addr) (n c : Nat) (hn : n = J.length) (w : World) (hv : Rd Span.enc 2 w (.slice A n c) J) (H : Nat) (hH : w.heap.size = H) :
    Calls Try.prog 28 #[.slice A n c, .slice (some ⟨H, 0, none⟩) ys.length ys.length] (w.alloc (.cells (ys.flatMap Span.enc).toArray 27)) fun e w' => e = .returned (.bool b) ∧ Below w.heap.size w w' :=
  same_litS A n c J ys b hn hb hx hv H hH

/-- How two spans may stand, one of which has something: what the law asks. -/
theorem inside_all (a b : Span) (ha : sle a.f a.t = true) :
    (sin b.f a.f a.t = true ∧ sin b.t a.f a.t = true ∧ sle b.f b.t = true ∧ meet4 a.f a.t b.f b.t = true ∧ decide (joinF [a, b] = [a]) = true) ∨
    (sin b.f a.f a.t = false ∧ sle b.f b.t = false ∧ meet4 a.f a.t b.f b.t = false ∧ decide (joinF [a, b] = [a]) = true) ∨
    (sin b.f a.f a.t = true ∧ sin b.t a.f a.t = false ∧ sle b.f b.t = false ∧ meet4 a.f a.t b.f b.t = false ∧ decide (joinF [a, b] = [a]) = true) ∨
    (sin b.f a.f a.t = true ∧ sin b.t a.f a.t = true ∧ sle b.f b.t = false ∧ meet4 a.f a.t b.f b.t = false ∧ decide (joinF [a, b] = [a]) = true) ∨
    (sin b.f a.f a.t = false ∧ sle b.f b.t = true ∧ slt b.t a.f = true ∧ meet4 a.f a.t b.f b.t = false ∧ decide (joinF [a, b] = [b, a]) = true) ∨
    (sin b.f a.f a.t = false ∧ sle b.f b.t = true ∧ slt b.t a.f = false ∧ slt a.t b.f = true ∧ meet4 a.f a.t b.f b.t = false ∧ decide (joinF [a, b] = [a, b]) = true) ∨
    (sin b.f a.f a.t = false ∧ sle b.f b.t = true ∧ slt b.t a.f = false ∧ slt a.t b.f = false ∧ meet4 a.f a.t b.f b.t = true ∧ (joinF [a, b]).length = 1) ∨
    (sin b.f a.f a.t = true ∧ sin b.t a.f a.t = false ∧ sle b.f b.t = true ∧ slt b.t a.f = false ∧ slt a.t b.f = false ∧ meet4 a.f a.t b.f b.t = true ∧ (joinF [a, b]).length = 1) := by
  cases h3 : sle b.f b.t
  · obtain ⟨g1, g2⟩ := inside_none (b := b) ha h3
    rw [g1, g2]
    cases sin b.f a.f a.t <;> cases sin b.t a.f a.t <;> simp
  · cases h1 : sin b.f a.f a.t
    · cases h4 : slt b.t a.f
      · cases h5 : slt a.t b.f
        · obtain ⟨g1, g2⟩ := inside_meet ha h3 h4 h5
          rw [g1]; simp [g2]
        · obtain ⟨g1, g2⟩ := inside_high ha h3 h5
          rw [g1, g2]; simp
      · obtain ⟨g1, g2⟩ := inside_low ha h3 h4
        rw [g1, g2]; simp
    · cases h2 : sin b.t a.f a.t
      · have h1' := h1
        unfold sin at h1'
        rw [Bool.and_eq_true] at h1'
        have h4 : slt b.t a.f = false := not_slt.2 (sle_trans h1'.1 h3)
        have h5 : slt a.t b.f = false := not_slt.2 h1'.2
        obtain ⟨g1, g2⟩ := inside_meet ha h3 h4 h5
        rw [g1, h4, h5]; simp [g2]
      · obtain ⟨g1, g2⟩ := inside_in ha h1 h2 h3
        rw [g1, g2]; simp

set_option maxHeartbeats 4000000 in
set_option maxRecDepth 100000 in
theorem spansInside_walk (a b : Span) (w : World) (ha : a.ok) (hb : b.ok) :
    Calls Try.prog 10 #[.agg #[.string a.f, .string a.t], .agg #[.string b.f, .string b.t]] w fun e w' => e = .returned (.bool true) ∧ Below w.heap.size w w' := by
  obtain ⟨n, hn0, hn1, hsize⟩ := sizeTwo_calls a b ha hb
  obtain ⟨ha1, ha2⟩ := ha
  obtain ⟨hb1', hb2'⟩ := hb
  unfold small at ha1 ha2 hb1' hb2'
  obtain ⟨W, hW⟩ : ∃ W, W = (w.alloc (.cells #[.string a.f, .string a.t] 27)).alloc (.cells #[.string b.f, .string b.t] 27) := ⟨_, rfl⟩
  have hB : Below w.heap.size w W := by rw [hW]; exact ((Below.refl _ _).alloc (Nat.le_refl _) _).alloc (by simp) _
  have c0 : W.cell? ⟨w.heap.size, 0, none⟩ = some (.string a.f) := by rw [hW]; simp
  have c1 : W.cell? ⟨w.heap.size, 1, none⟩ = some (.string a.t) := by rw [hW]; simp
  have c2 : W.cell? ⟨w.heap.size + 1, 0, none⟩ = some (.string b.f) := by rw [hW]; simp
  have c3 : W.cell? ⟨w.heap.size + 1, 1, none⟩ = some (.string b.t) := by rw [hW]; simp
  have HW := Lib.hid hW
  clear hW
  go_enter Try.func10, Try.ntmps10
  go_wp2_with fail
  rw [← HW.out]
  clear HW
  refine (aliveS_calls _).mono ?_
  rintro e w1 ⟨rfl, hb1⟩
  replace hB := Below.step hB hb1; replace c0 := Below.cell_some hb1 c0; replace c1 := Below.cell_some hb1 c1; replace c2 := Below.cell_some hb1 c2; replace c3 := Below.cell_some hb1 c3; (try replace hr := hr.below hb1); clear hb1
  by_cases hbig : n > 5000
  · go_wp2_with (first
      | (go_at_call 17; refine (hsize _ _ (by simp)).mono ?_; rintro e w1 ⟨rfl, hb1⟩; replace hB := Below.step hB hb1; replace c0 := Below.cell_some hb1 c0; replace c1 := Below.cell_some hb1 c1; replace c2 := Below.cell_some hb1 c2; replace c3 := Below.cell_some hb1 c3; (try replace hr := hr.below hb1); clear hb1)
      | (go_at_call 24; refine (aliveS_calls _).mono ?_; rintro e w1 ⟨rfl, hb1⟩; replace hB := Below.step hB hb1; replace c0 := Below.cell_some hb1 c0; replace c1 := Below.cell_some hb1 c1; replace c2 := Below.cell_some hb1 c2; replace c3 := Below.cell_some hb1 c3; (try replace hr := hr.below hb1); clear hb1))
    go_ret
    exact ⟨rfl, hB⟩
  cases hfull : sle a.f a.t
  · go_wp2_with (first
      | (go_at_call 17; refine (hsize _ _ (by simp)).mono ?_; rintro e w1 ⟨rfl, hb1⟩; replace hB := Below.step hB hb1; replace c0 := Below.cell_some hb1 c0; replace c1 := Below.cell_some hb1 c1; replace c2 := Below.cell_some hb1 c2; replace c3 := Below.cell_some hb1 c3; (try replace hr := hr.below hb1); clear hb1)
      | (go_at_call 24; refine (aliveS_calls _).mono ?_; rintro e w1 ⟨rfl, hb1⟩; replace hB := Below.step hB hb1; replace c0 := Below.cell_some hb1 c0; replace c1 := Below.cell_some hb1 c1; replace c2 := Below.cell_some hb1 c2; replace c3 := Below.cell_some hb1 c3; (try replace hr := hr.below hb1); clear hb1))
    go_ret
    exact ⟨rfl, hB⟩
  have hall := inside_all a b hfull
  have i1 := fun W => in_calls b.f a.f a.t W
  have i2 := fun W => in_calls b.t a.f a.t W
  have m1 := fun W => meet_calls a.f a.t b.f b.t W
  have j1 := fun (w : World) (H : Nat) (hH : w.heap.size = H) => join_lit [a, b] _ (by simp) rfl w H hH
  have hjl : (joinF [a, b]).length ≤ 2 := (joinF_spec [a, b]).2.2.2
  generalize sin b.f a.f a.t = p1 at *
  generalize sin b.t a.f a.t = p2 at *
  generalize meet4 a.f a.t b.f b.t = m at *
  generalize joinF [a, b] = J at *
  rcases hall with ⟨rfl, rfl, h3, rfl, hs⟩ | ⟨rfl, h3, rfl, hs⟩ | ⟨rfl, rfl, h3, rfl, hs⟩ | ⟨rfl, rfl, h3, rfl, hs⟩ | ⟨rfl, h3, h4, rfl, hs⟩ | ⟨rfl, h3, h4, h5, rfl, hs⟩ | ⟨rfl, h3, h4, h5, rfl, hs⟩ | ⟨rfl, rfl, h3, h4, h5, rfl, hs⟩
  all_goals
    (try have ss := same_to _ _ _ hs (by simp))
    (try have hl1 : ((J.length : Int) == 1) = true := by rw [hs]; rfl)
    clear hs
    go_wp2_with (first
      | (go_at_call 17; refine (hsize _ _ (by simp)).mono ?_; rintro e w1 ⟨rfl, hb1⟩; replace hB := Below.step hB hb1; replace c0 := Below.cell_some hb1 c0; replace c1 := Below.cell_some hb1 c1; replace c2 := Below.cell_some hb1 c2; replace c3 := Below.cell_some hb1 c3; (try replace hr := hr.below hb1); clear hb1)
      | (go_at_call 27; refine (j1 _ _ (by simp)).mono ?_; rintro e w4 ⟨A4, k4, rfl, hb1, hr'⟩; replace hB := Below.step hB hb1; replace c0 := Below.cell_some hb1 c0; replace c1 := Below.cell_some hb1 c1; replace c2 := Below.cell_some hb1 c2; replace c3 := Below.cell_some hb1 c3; (try replace hr := hr.below hb1); clear hb1; have hr := hr'; clear hr')
      | (go_at_call 25; (with_reducible refine (i1 _).mono ?_); rintro e w5 ⟨rfl, rfl⟩)
      | (go_at_call 25; (with_reducible refine (i2 _).mono ?_); rintro e w5 ⟨rfl, rfl⟩)
      | (go_at_call 19; (with_reducible refine (m1 _).mono ?_); rintro e w5 ⟨rfl, hb1⟩; replace hB := Below.step hB hb1; replace c0 := Below.cell_some hb1 c0; replace c1 := Below.cell_some hb1 c1; replace c2 := Below.cell_some hb1 c2; replace c3 := Below.cell_some hb1 c3; (try replace hr := hr.below hb1); clear hb1)
      | (go_at_call 28; refine (ss _ _ _ rfl _ hr _ (by simp)).mono ?_; rintro e w6 ⟨rfl, hb1⟩; replace hB := Below.step hB hb1; replace c0 := Below.cell_some hb1 c0; replace c1 := Below.cell_some hb1 c1; replace c2 := Below.cell_some hb1 c2; replace c3 := Below.cell_some hb1 c3; (try replace hr := hr.below hb1); clear hb1))
    go_ret
    exact ⟨rfl, hB⟩

end Go.Proofs.Ytbfmneblhlmiiaa
