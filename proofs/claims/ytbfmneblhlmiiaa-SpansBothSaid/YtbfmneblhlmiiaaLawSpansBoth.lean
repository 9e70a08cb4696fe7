import Derived.Test.YtbfmneblhlmiiaaSpA
set_option linter.unusedVariables false
set_option linter.unusedSimpArgs false
namespace Go.Proofs.Ytbfmneblhlmiiaa
open Go.RowKit Go.Shelf

set_option maxHeartbeats 1000000 in
set_option maxRecDepth 100000 in
theorem spansBoth_walk (a b : Span) (k : ByteArray) (w : World) (ha : a.ok) (hb : b.ok) (hk : small k) :
    Calls Try.prog 5 #[.agg #[.string a.f, .string a.t], .agg #[.string b.f, .string b.t], .string k] w fun e w' => e = .returned (.bool true) ∧ Below w.heap.size w w' := by
  obtain ⟨n, hn0, hn1, hsize⟩ := sizeTwo_calls a b ha hb
  obtain ⟨ha1, ha2⟩ := ha
  obtain ⟨hb1', hb2'⟩ := hb
  unfold small at ha1 ha2 hb1' hb2'
  obtain ⟨W, hW⟩ : ∃ W, W = (w.alloc (.cells #[.string a.f, .string a.t] 27)).alloc (.cells #[.string b.f, .string b.t] 27) := ⟨_, rfl⟩
  have hB : Below w.heap.size w W := by rw [hW]; exact ((Below.refl _ _).alloc (Nat.le_refl _) _).alloc (by simp) _
  have c0 : W.cell? ⟨w.heap.size, 0, none⟩ = some (.string a.f) := by rw [hW]; simp
  have c1 : W.cell? ⟨w.heap.size, 1, none⟩ = some (.string a.t) := by rw [hW]; simp
  have c2 : W.cell? ⟨w.heap.size + 1, 0, none⟩ = some (.string b.f) := by rw [hW]; simp
  have c3 : W.cell? ⟨w.heap.size + 1, 1, none⟩ = some (.string b.t) := by rw [hW]; simp
  have HW := Lib.hid hW
  clear hW
  unfold small at hk
  have hbo := both_in (a := a) (b := b) (k := k)
  have hself := meet_self a
  have hcomm := meet4_comm b.f b.t a.f a.t
  have hdef : meet4 a.f a.t b.f b.t = (sin (smax a.f b.f) a.f a.t && sin (smax a.f b.f) b.f b.t) := rfl
  have m1 := fun W => meet_calls a.f a.t b.f b.t W
  have m2 := fun W => meet_calls b.f b.t a.f a.t W
  have m3 := fun W => meet_calls a.f a.t a.f a.t W
  rw [hcomm] at m2
  rw [hself] at m3
  have i1 := fun W => in_calls (smax a.f b.f) a.f a.t W
  have i2 := fun W => in_calls (smax a.f b.f) b.f b.t W
  have i3 := fun W => in_calls k a.f a.t W
  have i4 := fun W => in_calls k b.f b.t W
  have hmx : smax a.f b.f = if slt a.f b.f then b.f else a.f := rfl
  generalize meet4 a.f a.t b.f b.t = bo at *
  clear hself hcomm
  generalize sin (smax a.f b.f) a.f a.t = p at *
  generalize sin (smax a.f b.f) b.f b.t = q at *
  generalize sin k a.f a.t = r1 at *
  generalize sin k b.f b.t = r2 at *
  have HD := Lib.hid hdef
  have HBO := Lib.hid hbo
  clear hdef hbo
  go_enter Try.func5, Try.ntmps5
  go_wp2_with fail
  rw [← HW.out]
  clear HW
  refine (aliveS_calls _).mono ?_
  rintro e w1 ⟨rfl, hb1⟩
  replace hB := Below.step hB hb1; replace c0 := Below.cell_some hb1 c0; replace c1 := Below.cell_some hb1 c1; replace c2 := Below.cell_some hb1 c2; replace c3 := Below.cell_some hb1 c3; clear hb1
  by_cases hbig : n + k.size > 5000
  · go_wp2_with (first
      | (go_at_call 17; refine (hsize _ _ (by simp)).mono ?_; rintro e w1 ⟨rfl, hb1⟩; replace hB := Below.step hB hb1; replace c0 := Below.cell_some hb1 c0; replace c1 := Below.cell_some hb1 c1; replace c2 := Below.cell_some hb1 c2; replace c3 := Below.cell_some hb1 c3; clear hb1)
      | (go_at_call 24; refine (aliveS_calls _).mono ?_; rintro e w1 ⟨rfl, hb1⟩; replace hB := Below.step hB hb1; replace c0 := Below.cell_some hb1 c0; replace c1 := Below.cell_some hb1 c1; replace c2 := Below.cell_some hb1 c2; replace c3 := Below.cell_some hb1 c3; clear hb1))
    go_ret
    exact ⟨rfl, hB⟩
  · cases hsl : slt a.f b.f
    all_goals
      simp only [hsl, Bool.false_eq_true, if_true, if_false] at hmx
      rw [hmx] at i1 i2
      clear hmx
      cases p
      all_goals
        simp only [Bool.false_and, Bool.true_and] at HD
        obtain rfl := HD.out
        go_wp2_with (first
          | (go_at_call 17; refine (hsize _ _ (by simp)).mono ?_; rintro e w1 ⟨rfl, hb1⟩; replace hB := Below.step hB hb1; replace c0 := Below.cell_some hb1 c0; replace c1 := Below.cell_some hb1 c1; replace c2 := Below.cell_some hb1 c2; replace c3 := Below.cell_some hb1 c3; clear hb1)
          | (go_at_call 25; refine (i1 _).mono ?_; rintro e w1 ⟨rfl, rfl⟩; clear i1)
          | (go_at_call 25; refine (i2 _).mono ?_; rintro e w1 ⟨rfl, rfl⟩; clear i2))
        replace c0 := fun p : Later w1 => Later.cell p c0; replace c1 := fun p : Later w1 => Later.cell p c1; replace c2 := fun p : Later w1 => Later.cell p c2; replace c3 := fun p : Later w1 => Later.cell p c3
        refine wp_region_later (by kernel_rfl) (by kernel_rfl) ?_
        repeat (go_big_quiet_step ((first | (go_at_call 19; with_reducible exact Calls.later (m1 _)) | (go_at_call 19; with_reducible exact Calls.later (m2 _)) | (go_at_call 19; with_reducible exact Calls.later (m3 _)))))
        refine wpQuiet_nil ?_
        rintro _ ⟨p, rfl⟩
        replace c0 := c0 p; replace c1 := c1 p; replace c2 := c2 p; replace c3 := c3 p
        replace hB := Below.step hB p.ok
        cases r1 <;> cases r2
        all_goals
          (try obtain rfl := HBO.out rfl rfl)
          (try exact absurd (HBO.out rfl rfl) Bool.false_ne_true)
        all_goals
          go_wp2_with (first
            | (go_at_call 25; refine (i3 _).mono ?_; rintro e w1 ⟨rfl, rfl⟩; clear i3)
            | (go_at_call 25; refine (i4 _).mono ?_; rintro e w1 ⟨rfl, rfl⟩; clear i4))
          go_ret
          exact ⟨ret_bool (by simp), hB⟩

end Go.Proofs.Ytbfmneblhlmiiaa
