import Derived.Test.YtbfmneblhlmiiaaSpA
set_option linter.unusedVariables false
set_option linter.unusedSimpArgs false
namespace Go.Proofs.Ytbfmneblhlmiiaa
open Go.RowKit Go.Shelf

set_option maxHeartbeats 1000000 in
set_option maxRecDepth 100000 in
theorem spansOps_walk (x : Opn) (kk : ByteArray) (w : World) (hx : x.ok) (hk : small kk) :
    Calls Try.prog 9 #[.agg #[.int .u8 x.q, .string x.k, .string x.t, .int .u32 x.d], .string kk] w fun e w' => e = .returned (.bool true) ∧ Below w.heap.size w w' := by
  obtain ⟨q, k, t, d⟩ := x
  obtain ⟨hq, hk1, hk2, hd⟩ := hx
  unfold small at hk hk1 hk2
  simp only at hk1 hk2 ⊢
  clear hq hd
  obtain ⟨W, hW⟩ : ∃ W, W = w.alloc (.cells #[.int .u8 q, .string k, .string t, .int .u32 d] 25) := ⟨_, rfl⟩
  have hB : Below w.heap.size w W := by rw [hW]; exact (Below.refl _ _).alloc (Nat.le_refl _) _
  have c0 : W.cell? ⟨w.heap.size, 0, none⟩ = some (.int .u8 q) := by rw [hW]; simp
  have c1 : W.cell? ⟨w.heap.size, 1, none⟩ = some (.string k) := by rw [hW]; simp
  have c2 : W.cell? ⟨w.heap.size, 2, none⟩ = some (.string t) := by rw [hW]; simp
  have c3 : W.cell? ⟨w.heap.size, 3, none⟩ = some (.int .u32 d) := by rw [hW]; simp
  have HW := Lib.hid hW
  clear hW
  have i1 := fun W => in_calls kk k t W
  have i2 := fun W => in_calls kk k k W
  have wr := fun W => writes_calls q k t d W
  have of := fun W => of_calls q k t d W
  rw [sin_self] at i2
  go_enter Try.func9, Try.ntmps9
  go_wp2_with fail
  rw [← HW.out]
  clear HW
  refine (aliveS_calls _).mono ?_
  rintro e w1 ⟨rfl, hb1⟩
  replace hB := Below.step hB hb1; replace c0 := Below.cell_some hb1 c0; replace c1 := Below.cell_some hb1 c1; replace c2 := Below.cell_some hb1 c2; replace c3 := Below.cell_some hb1 c3; clear hb1
  by_cases hbig : k.size + t.size + kk.size > 5000
  · go_wp2_with (go_at_call 24; refine (aliveS_calls _).mono ?_; rintro e w2 ⟨rfl, hb1⟩; replace hB := Below.step hB hb1; replace c0 := Below.cell_some hb1 c0; replace c1 := Below.cell_some hb1 c1; replace c2 := Below.cell_some hb1 c2; replace c3 := Below.cell_some hb1 c3; clear hb1)
    go_ret
    exact ⟨rfl, hB⟩
  · by_cases hq : q = 4
    · subst hq
      rw [show spanOf 4 k t = t from rfl] at of
      rw [show writes 4 = false from rfl] at wr
      generalize sin kk k t = r at *
      go_wp2_with (go_at_call 13; refine (of _).mono ?_; rintro e w2 ⟨rfl, hb1⟩; replace hB := Below.step hB hb1; replace c0 := Below.cell_some hb1 c0; replace c1 := Below.cell_some hb1 c1; replace c2 := Below.cell_some hb1 c2; replace c3 := Below.cell_some hb1 c3; clear hb1; have hlt : w.heap.size < w2.heap.size := World.block_lt_of_cell? w2 _ c0; have hne : ¬ w2.heap.size = w.heap.size := (by omega); have hne2 : ¬ w.heap.size = w2.heap.size := (by omega))
      generalize hW3 : w2.alloc (.cells #[.string k, .string t] 27) = W3
      have hb1 : Below w2.heap.size w2 W3 := by rw [← hW3]; exact (Below.refl _ _).alloc (Nat.le_refl _) _
      have d0 : W3.cell? ⟨w2.heap.size, 0, none⟩ = some (.string k) := by rw [← hW3]; simp
      have d1 : W3.cell? ⟨w2.heap.size, 1, none⟩ = some (.string t) := by rw [← hW3]; simp
      clear hW3
      replace hB := Below.step hB hb1; replace c0 := Below.cell_some hb1 c0; replace c1 := Below.cell_some hb1 c1; replace c2 := Below.cell_some hb1 c2; replace c3 := Below.cell_some hb1 c3; clear hb1
      replace c0 := fun p : Later W3 => Later.cell p c0; replace c1 := fun p : Later W3 => Later.cell p c1; replace c2 := fun p : Later W3 => Later.cell p c2; replace c3 := fun p : Later W3 => Later.cell p c3; replace d0 := fun p : Later W3 => Later.cell p d0; replace d1 := fun p : Later W3 => Later.cell p d1
      refine wp_region_later (by kernel_rfl) (by kernel_rfl) ?_
      repeat (go_big_quiet_step ((first | (go_at_call 25; with_reducible exact Calls.later_same (i1 _)) | (go_at_call 15; with_reducible exact Calls.later (wr _)))))
      refine wpQuiet_nil ?_
      rintro _ ⟨p, rfl⟩
      go_wp2
      go_ret
      exact ⟨rfl, Below.step hB p.ok⟩
    · rw [show spanOf q k t = k from if_neg hq] at of
      have hqb : (q == 4) = false := by simpa using hq
      have hwr : writes q = (q == 2 || q == 3) := rfl
      rw [hwr] at wr
      have hkk : decide (kk = k) = decide (kk = k) := rfl
      clear hq hwr
      cases hq2 : q == 2
      all_goals
        simp only [hq2, Bool.false_or, Bool.true_or] at wr
        go_wp2_with (go_at_call 13; refine (of _).mono ?_; rintro e w2 ⟨rfl, hb1⟩; replace hB := Below.step hB hb1; replace c0 := Below.cell_some hb1 c0; replace c1 := Below.cell_some hb1 c1; replace c2 := Below.cell_some hb1 c2; replace c3 := Below.cell_some hb1 c3; clear hb1; have hlt : w.heap.size < w2.heap.size := World.block_lt_of_cell? w2 _ c0; have hne : ¬ w2.heap.size = w.heap.size := (by omega); have hne2 : ¬ w.heap.size = w2.heap.size := (by omega))
        generalize hW3 : w2.alloc (.cells #[.string k, .string k] 27) = W3
        have hb1 : Below w2.heap.size w2 W3 := by rw [← hW3]; exact (Below.refl _ _).alloc (Nat.le_refl _) _
        have d0 : W3.cell? ⟨w2.heap.size, 0, none⟩ = some (.string k) := by rw [← hW3]; simp
        have d1 : W3.cell? ⟨w2.heap.size, 1, none⟩ = some (.string k) := by rw [← hW3]; simp
        clear hW3
        replace hB := Below.step hB hb1; replace c0 := Below.cell_some hb1 c0; replace c1 := Below.cell_some hb1 c1; replace c2 := Below.cell_some hb1 c2; replace c3 := Below.cell_some hb1 c3; clear hb1
        replace c0 := fun p : Later W3 => Later.cell p c0; replace c1 := fun p : Later W3 => Later.cell p c1; replace c2 := fun p : Later W3 => Later.cell p c2; replace c3 := fun p : Later W3 => Later.cell p c3; replace d0 := fun p : Later W3 => Later.cell p d0; replace d1 := fun p : Later W3 => Later.cell p d1
        refine wp_region_later (by kernel_rfl) (by kernel_rfl) ?_
        repeat (go_big_quiet_step ((first | (go_at_call 25; with_reducible exact Calls.later_same (i2 _)) | (go_at_call 15; with_reducible exact Calls.later (wr _)))))
        refine wpQuiet_nil ?_
        rintro _ ⟨p, rfl⟩
        go_wp2
        go_ret
        exact ⟨ret_bool (by simp), Below.step hB p.ok⟩

end Go.Proofs.Ytbfmneblhlmiiaa
