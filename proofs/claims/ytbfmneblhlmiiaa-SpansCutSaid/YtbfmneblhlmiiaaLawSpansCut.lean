import Derived.Test.YtbfmneblhlmiiaaSpA
set_option linter.unusedVariables false
set_option linter.unusedSimpArgs false
namespace Go.Proofs.Ytbfmneblhlmiiaa
open Go.RowKit Go.Shelf

set_option maxHeartbeats 1000000 in
set_option maxRecDepth 100000 in
theorem spansCut_walk (a : Span) (k : ByteArray) (b : Span) (w : World) (ha : a.ok) (hk : small k) (hb : b.ok) :
    Calls Try.prog 11 #[.agg #[.string a.f, .string a.t], .string k, .agg #[.string b.f, .string b.t]] w fun e w' => e = .returned (.bool true) ∧ Below w.heap.size w w' := by
  obtain ⟨ha1, ha2⟩ := ha
  obtain ⟨hb1', hb2'⟩ := hb
  unfold small at ha1 ha2 hb1' hb2' hk
  obtain ⟨W, hW⟩ : ∃ W, W = (w.alloc (.cells #[.string a.f, .string a.t] 27)).alloc (.cells #[.string b.f, .string b.t] 27) := ⟨_, rfl⟩
  have hB : Below w.heap.size w W := by rw [hW]; exact ((Below.refl _ _).alloc (Nat.le_refl _) _).alloc (by simp) _
  have c0 : W.cell? ⟨w.heap.size, 0, none⟩ = some (.string a.f) := by rw [hW]; simp
  have c1 : W.cell? ⟨w.heap.size, 1, none⟩ = some (.string a.t) := by rw [hW]; simp
  have c2 : W.cell? ⟨w.heap.size + 1, 0, none⟩ = some (.string b.f) := by rw [hW]; simp
  have c3 : W.cell? ⟨w.heap.size + 1, 1, none⟩ = some (.string b.t) := by rw [hW]; simp
  have HW := Lib.hid hW
  clear hW
  go_enter Try.func11, Try.ntmps11
  go_wp2_with fail
  rw [← HW.out]
  clear HW
  refine (aliveS_calls _).mono ?_
  rintro e w1 ⟨rfl, hb1⟩
  replace hB := Below.step hB hb1; replace c0 := Below.cell_some hb1 c0; replace c1 := Below.cell_some hb1 c1; replace c2 := Below.cell_some hb1 c2; replace c3 := Below.cell_some hb1 c3; (try replace e0 := Below.cell_some hb1 e0); (try replace e1 := Below.cell_some hb1 e1); (try replace f0 := Below.cell_some hb1 f0); (try replace f1 := Below.cell_some hb1 f1); (try replace hr := hr.below hb1); clear hb1
  by_cases hbig : a.f.size + a.t.size + k.size + b.f.size + b.t.size > 5000
  · go_wp2_with (go_at_call 24; refine (aliveS_calls _).mono ?_; rintro e w2 ⟨rfl, hb1⟩; replace hB := Below.step hB hb1; replace c0 := Below.cell_some hb1 c0; replace c1 := Below.cell_some hb1 c1; replace c2 := Below.cell_some hb1 c2; replace c3 := Below.cell_some hb1 c3; (try replace e0 := Below.cell_some hb1 e0); (try replace e1 := Below.cell_some hb1 e1); (try replace f0 := Below.cell_some hb1 f0); (try replace f1 := Below.cell_some hb1 f1); (try replace hr := hr.below hb1); clear hb1)
    go_ret
    exact ⟨rfl, hB⟩
  cases hk1 : slt k a.f
  · cases hk2 : sle k a.t
    · go_wp2_with (go_at_call 24; refine (aliveS_calls _).mono ?_; rintro e w2 ⟨rfl, hb1⟩; replace hB := Below.step hB hb1; replace c0 := Below.cell_some hb1 c0; replace c1 := Below.cell_some hb1 c1; replace c2 := Below.cell_some hb1 c2; replace c3 := Below.cell_some hb1 c3; (try replace e0 := Below.cell_some hb1 e0); (try replace e1 := Below.cell_some hb1 e1); (try replace f0 := Below.cell_some hb1 f0); (try replace f1 := Below.cell_some hb1 f1); (try replace hr := hr.below hb1); clear hb1)
      go_ret
      exact ⟨rfl, hB⟩
    · have l1 := not_slt.1 hk1
      have l2 := hk2
      have j1 := fun (w : World) (H : Nat) (hH : w.heap.size = H) => join_lit [⟨k, a.t⟩, ⟨a.f, k⟩] [a] (by simp) (cut_join l1 l2) w H hH
      have m0 := fun W => meet_calls b.f b.t a.f a.t W
      have m1 := fun W => meet_calls b.f b.t a.f k W
      have m2 := fun W => meet_calls b.f b.t k a.t W
      have m3 := fun W => meet_calls a.f k k a.t W
      rw [cut_meet (x := b) l1 l2] at m0
      rw [cut_two l1 l2] at m3
      have s1 := fun W => s_calls a.f k W
      have s2 := fun W => s_calls k a.t W
      have heqg := eqg_span
      have heql := eql_span
      clear l1 l2
      generalize meet4 b.f b.t k a.t = q at *
      generalize meet4 b.f b.t a.f k = p at *
      cases p
      all_goals
        simp only [Bool.false_or, Bool.true_or] at m0
        go_wp2_with (first
          | (go_at_call 29; (with_reducible refine (s1 _).mono ?_); rintro e w2 ⟨rfl, hb1⟩; replace hB := Below.step hB hb1; replace c0 := Below.cell_some hb1 c0; replace c1 := Below.cell_some hb1 c1; replace c2 := Below.cell_some hb1 c2; replace c3 := Below.cell_some hb1 c3; (try replace e0 := Below.cell_some hb1 e0); (try replace e1 := Below.cell_some hb1 e1); (try replace f0 := Below.cell_some hb1 f0); (try replace f1 := Below.cell_some hb1 f1); (try replace hr := hr.below hb1); clear hb1; have hb1 : Below w2.heap.size w2 (w2.alloc (.cells #[.string a.f, .string k] 27)) := (Below.refl _ _).alloc (Nat.le_refl _) _; replace hB := Below.step hB hb1; replace c0 := Below.cell_some hb1 c0; replace c1 := Below.cell_some hb1 c1; replace c2 := Below.cell_some hb1 c2; replace c3 := Below.cell_some hb1 c3; (try replace e0 := Below.cell_some hb1 e0); (try replace e1 := Below.cell_some hb1 e1); (try replace f0 := Below.cell_some hb1 f0); (try replace f1 := Below.cell_some hb1 f1); (try replace hr := hr.below hb1); clear hb1; have e0 : (w2.alloc (.cells #[.string a.f, .string k] 27)).cell? ⟨w2.heap.size, 0, none⟩ = some (.string a.f) := (by simp); have e1 : (w2.alloc (.cells #[.string a.f, .string k] 27)).cell? ⟨w2.heap.size, 1, none⟩ = some (.string k) := (by simp))
          | (go_at_call 29; (with_reducible refine (s2 _).mono ?_); rintro e w3 ⟨rfl, hb1⟩; replace hB := Below.step hB hb1; replace c0 := Below.cell_some hb1 c0; replace c1 := Below.cell_some hb1 c1; replace c2 := Below.cell_some hb1 c2; replace c3 := Below.cell_some hb1 c3; (try replace e0 := Below.cell_some hb1 e0); (try replace e1 := Below.cell_some hb1 e1); (try replace f0 := Below.cell_some hb1 f0); (try replace f1 := Below.cell_some hb1 f1); (try replace hr := hr.below hb1); clear hb1; have hb1 : Below w3.heap.size w3 (w3.alloc (.cells #[.string k, .string a.t] 27)) := (Below.refl _ _).alloc (Nat.le_refl _) _; replace hB := Below.step hB hb1; replace c0 := Below.cell_some hb1 c0; replace c1 := Below.cell_some hb1 c1; replace c2 := Below.cell_some hb1 c2; replace c3 := Below.cell_some hb1 c3; (try replace e0 := Below.cell_some hb1 e0); (try replace e1 := Below.cell_some hb1 e1); (try replace f0 := Below.cell_some hb1 f0); (try replace f1 := Below.cell_some hb1 f1); (try replace hr := hr.below hb1); clear hb1; have f0 : (w3.alloc (.cells #[.string k, .string a.t] 27)).cell? ⟨w3.heap.size, 0, none⟩ = some (.string k) := (by simp); have f1 : (w3.alloc (.cells #[.string k, .string a.t] 27)).cell? ⟨w3.heap.size, 1, none⟩ = some (.string a.t) := (by simp))
          | (go_at_call 27; refine (j1 _ _ (by simp)).mono ?_; rintro e w4 ⟨A4, k4, rfl, hb1, hr'⟩; replace hB := Below.step hB hb1; replace c0 := Below.cell_some hb1 c0; replace c1 := Below.cell_some hb1 c1; replace c2 := Below.cell_some hb1 c2; replace c3 := Below.cell_some hb1 c3; (try replace e0 := Below.cell_some hb1 e0); (try replace e1 := Below.cell_some hb1 e1); (try replace f0 := Below.cell_some hb1 f0); (try replace f1 := Below.cell_some hb1 f1); (try replace hr := hr.below hb1); clear hb1; have hr := hr'; clear hr'))
        obtain ⟨b', o', hA, hr1, hr2⟩ := hr.span (i := 0) (x := a) rfl
        skip
        subst hA
        rw [Nat.zero_mul, Nat.add_zero] at hr1 hr2
        replace c0 := fun p : Later w4 => Later.cell p c0; replace c1 := fun p : Later w4 => Later.cell p c1; replace c2 := fun p : Later w4 => Later.cell p c2; replace c3 := fun p : Later w4 => Later.cell p c3
        replace e0 := fun p : Later w4 => Later.cell p e0; replace e1 := fun p : Later w4 => Later.cell p e1; replace f0 := fun p : Later w4 => Later.cell p f0; replace f1 := fun p : Later w4 => Later.cell p f1
        replace hr1 := fun p : Later w4 => Later.cell p hr1; replace hr2 := fun p : Later w4 => Later.cell p hr2
        refine wp_region_later (by kernel_rfl) (by kernel_rfl) ?_
        repeat (go_big_quiet_step ((first | (go_at_call 19; with_reducible exact Calls.later (m0 _)) | (go_at_call 19; with_reducible exact Calls.later (m1 _)) | (go_at_call 19; with_reducible exact Calls.later (m2 _)) | (go_at_call 19; with_reducible exact Calls.later (m3 _)))))
        refine wpQuiet_nil ?_
        rintro _ ⟨p, rfl⟩
        go_wp2
        go_ret
        exact ⟨ret_bool (by simp), Below.step hB p.ok⟩
  · go_wp2_with (go_at_call 24; refine (aliveS_calls _).mono ?_; rintro e w2 ⟨rfl, hb1⟩; replace hB := Below.step hB hb1; replace c0 := Below.cell_some hb1 c0; replace c1 := Below.cell_some hb1 c1; replace c2 := Below.cell_some hb1 c2; replace c3 := Below.cell_some hb1 c3; (try replace e0 := Below.cell_some hb1 e0); (try replace e1 := Below.cell_some hb1 e1); (try replace f0 := Below.cell_some hb1 f0); (try replace f1 := Below.cell_some hb1 f1); (try replace hr := hr.below hb1); clear hb1)
    go_ret
    exact ⟨rfl, hB⟩

end Go.Proofs.Ytbfmneblhlmiiaa
