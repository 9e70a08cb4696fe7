import Derived.Test.YtbfmneblhlmiiaaSp1
import Derived.Test.YtbfmneblhlmiiaaIfSpan
set_option linter.unusedVariables false
set_option linter.unusedSimpArgs false
namespace Go.Proofs.Ytbfmneblhlmiiaa
open Go.RowKit Go.Shelf

def big (s : ByteArray) : Prop := s.size ≤ 9223372036854775807

set_option maxHeartbeats 400000 in
theorem rhas_calls (a b : ByteArray) (w : World) (ha : a.size ≤ 9223372036854775807) (hb : b.size ≤ 9223372036854775807) :
    Calls Try.prog 30 #[.agg #[.string a, .string b]] w fun e w' => e = .returned (.bool (sle a b)) ∧ Below w.heap.size w w' := by
  unfold sle
  go_enter Try.func30, Try.ntmps30
  go_wp2_with (go_at_call 35; refine (less_calls _ _ _ (by assumption) (by assumption)).mono ?_; rintro e w1 ⟨rfl, hb1⟩)
  go_ret
  exact ⟨rfl, Below.step ((Below.refl _ _).alloc (Nat.le_refl _) _) hb1⟩

set_option maxHeartbeats 400000 in
theorem rmeet_calls (a b c d : ByteArray) (w : World) (ha : a.size ≤ 9223372036854775807) (hb : b.size ≤ 9223372036854775807) (hc : c.size ≤ 9223372036854775807) (hd : d.size ≤ 9223372036854775807) :
    Calls Try.prog 20 #[.agg #[.string a, .string b], .agg #[.string c, .string d]] w fun e w' => e = .returned (.bool (rmeet4 a b c d)) ∧ Below w.heap.size w w' := by
  unfold rmeet4
  obtain ⟨W, hW⟩ : ∃ W, W = (w.alloc (.cells #[.string a, .string b] 27)).alloc (.cells #[.string c, .string d] 27) := ⟨_, rfl⟩
  have hB : Below w.heap.size w W := by rw [hW]; exact ((Below.refl _ _).alloc (Nat.le_refl _) _).alloc (by simp) _
  have c0 : W.cell? ⟨w.heap.size, 0, none⟩ = some (.string a) := by rw [hW]; simp
  have c1 : W.cell? ⟨w.heap.size, 1, none⟩ = some (.string b) := by rw [hW]; simp
  have c2 : W.cell? ⟨w.heap.size + 1, 0, none⟩ = some (.string c) := by rw [hW]; simp
  have c3 : W.cell? ⟨w.heap.size + 1, 1, none⟩ = some (.string d) := by rw [hW]; simp
  have HW := Lib.hid hW
  clear hW
  cases h1 : sle a b <;> cases h2 : sle c d <;> cases h3 : sin a c d <;> cases h4 : sin c a b
  all_goals
    go_enter Try.func20, Try.ntmps20
    go_wp2_with fail
    rw [← HW.out]
    clear HW
    go_wp2_with (first | (go_at_call 30; refine (rhas_calls _ _ _ (by assumption) (by assumption)).mono ?_; rintro e w1 ⟨rfl, hb1⟩; replace c0 := Below.cell_some hb1 c0; replace c1 := Below.cell_some hb1 c1; replace c2 := Below.cell_some hb1 c2; replace c3 := Below.cell_some hb1 c3; replace hB := Below.step hB hb1; clear hb1) | (go_at_call 31; refine (rin_calls _ _ _ _ (by assumption) (by assumption) (by assumption)).mono ?_; rintro e w1 ⟨rfl, hb1⟩; replace c0 := Below.cell_some hb1 c0; replace c1 := Below.cell_some hb1 c1; replace c2 := Below.cell_some hb1 c2; replace c3 := Below.cell_some hb1 c3; replace hB := Below.step hB hb1; clear hb1))
    go_ret
    exact ⟨ret_bool (by simp), hB⟩

set_option maxHeartbeats 400000 in
theorem rany_calls (a b : ByteArray) (v : Value) (xs : List Span) (w : World) (hv : Rd Span.enc 2 w v xs) (ha : a.size ≤ 9223372036854775807) (hb : b.size ≤ 9223372036854775807)
    (hs : ∀ x ∈ xs, x.f.size ≤ 9223372036854775807 ∧ x.t.size ≤ 9223372036854775807) :
    Calls Try.prog 22 #[.agg #[.string a, .string b], v] w fun e w' => e = .returned (.bool (xs.any fun x => rmeet4 a b x.f x.t)) ∧ Below w.heap.size w w' := by
  obtain ⟨A, c, rfl, hlc, hc⟩ := hv.shape
  obtain ⟨W, hW⟩ : ∃ W, W = w.alloc (.cells #[.string a, .string b] 27) := ⟨_, rfl⟩
  have hB : Below w.heap.size w W := by rw [hW]; exact (Below.refl _ _).alloc (Nat.le_refl _) _
  have c0 : W.cell? ⟨w.heap.size, 0, none⟩ = some (.string a) := by rw [hW]; simp
  have c1 : W.cell? ⟨w.heap.size, 1, none⟩ = some (.string b) := by rw [hW]; simp
  have HW := Lib.hid hW
  clear hW
  go_enter Try.func22, Try.ntmps22
  go_wp2_with fail
  rw [← HW.out]
  clear HW
  replace hv := hv.below hB
  go_loopw [5] (fun i wr => ∃ k : Nat, k ≤ xs.length ∧ i = .int .i64 k ∧ (xs.take k).any (fun x => rmeet4 a b x.f x.t) = false ∧ Below W.heap.size W wr) (fun i _ => xs.length - (intOf i).toNat)
  case atStart => exact ⟨0, Nat.zero_le _, rfl, rfl, Below.refl _ _⟩
  case round =>
    obtain ⟨k, hk, rfl, hno, hb'⟩ := hrel
    have HNO := Lib.hid hno
    clear hno
    by_cases hlt : k < xs.length
    · obtain ⟨bb, o, rfl, hx1, hx2⟩ := (hv.below hb').span (List.getElem?_eq_getElem hlt)
      have hsx := hs xs[k] (List.getElem_mem _)
      have HT := Lib.hid (List.take_succ_eq_append_getElem hlt)
      have HX := Lib.hid (List.getElem_mem hlt)
      generalize xs[k] = x at *
      have hs1 := hsx.1
      have hs2 := hsx.2
      clear hsx
      replace hx1 := fun p : Later wr => Later.cell p hx1
      replace hx2 := fun p : Later wr => Later.cell p hx2
      have d0 := fun p : Later wr => Later.cell p (Below.cell_some hb' c0)
      have d1 := fun p : Later wr => Later.cell p (Below.cell_some hb' c1)
      cases hq : rmeet4 a b x.f x.t
      · have hcall := fun W => rmeet_calls a b x.f x.t W ha hb hs1 hs2
        rw [hq] at hcall
        go_wp2
        refine wp_region_later (by kernel_rfl) (by kernel_rfl) ?_
        repeat (quiet_step ((go_at_call 20; exact Calls.later (hcall _))))
        refine wpQuiet_nil ?_
        rintro _ ⟨p, rfl⟩
        clear hx1 hx2 d0 d1 hcall
        go_wp2
        go_roundw
        case rel => exact ⟨k + 1, by omega, by go_num, by rw [HT.out, List.any_append, HNO.out]; simp [hq], Below.step hb' p.ok⟩
        case measure => simp [intOf]; omega
      · have hcall := fun W => rmeet_calls a b x.f x.t W ha hb hs1 hs2
        rw [hq] at hcall
        go_wp2
        refine wp_region_later (by kernel_rfl) (by kernel_rfl) ?_
        repeat (quiet_step ((go_at_call 20; exact Calls.later (hcall _))))
        refine wpQuiet_nil ?_
        rintro _ ⟨p, rfl⟩
        clear hx1 hx2 d0 d1 hcall
        go_wp2
        go_ret
        exact ⟨ret_bool (List.any_eq_true.2 ⟨x, HX.out, hq⟩).symm, Below.step hB (Below.step hb' p.ok)⟩
    · go_wp2
      go_ret
      have := HNO.out
      rw [List.take_of_length_le (by omega)] at this
      exact ⟨ret_bool this.symm, Below.step hB hb'⟩

/-! the closure of meets -/
set_option maxHeartbeats 400000 in
theorem meets1_calls (a b c d : ByteArray) (B : Nat) (w : World) (c0 : w.cell? ⟨B, 0, none⟩ = some (.string a)) (c1 : w.cell? ⟨B, 1, none⟩ = some (.string b)) :
    Calls Try.prog 37 #[.agg #[.string c, .string d], .pointer (some ⟨B, 0, none⟩)] w fun e w' => e = .returned (.bool (meet4 a b c d)) ∧ Below w.heap.size w w' := by
  have hlt : B < w.heap.size := World.block_lt_of_cell? w _ c0
  have hne : ¬ w.heap.size = B := by omega
  go_enter Try.func37, Try.ntmps37
  go_wp2_with (go_at_call 19; refine (meet_calls _ _ _ _ _).mono ?_; rintro e w1 ⟨rfl, hb1⟩)
  go_ret
  exact ⟨rfl, Below.step ((Below.refl _ _).alloc (Nat.le_refl _) _) hb1⟩

set_option maxHeartbeats 400000 in
theorem meets_calls (a b : ByteArray) (v : Value) (xs : List Span) (w : World) (hv : Rd Span.enc 2 w v xs) :
    Calls Try.prog 32 #[.agg #[.string a, .string b], v] w fun e w' => e = .returned (.bool (xs.any fun x => meet4 a b x.f x.t)) ∧ Below w.heap.size w w' := by
  obtain ⟨W, hW⟩ : ∃ W, W = w.alloc (.cells #[.string a, .string b] 27) := ⟨_, rfl⟩
  have hB : Below w.heap.size w W := by rw [hW]; exact (Below.refl _ _).alloc (Nat.le_refl _) _
  have c0 : W.cell? ⟨w.heap.size, 0, none⟩ = some (.string a) := by rw [hW]; simp
  have c1 : W.cell? ⟨w.heap.size, 1, none⟩ = some (.string b) := by rw [hW]; simp
  have h := containsFuncSpan_calls (fun x => meet4 a b x.f x.t) 37 #[.pointer (some ⟨w.heap.size, 0, none⟩)] (enters_of Try.func37 (by kernel_rfl) rfl) v xs W (hv.below hB)
    (fun W' x _ hb => meets1_calls a b x.f x.t w.heap.size W' (Below.cell_some hb c0) (Below.cell_some hb c1))
  clear c0 c1
  rw [hW] at h
  obtain ⟨A, c, rfl, hlc, hc⟩ := hv.shape
  rw [hW] at hB
  go_enter Try.func32, Try.ntmps32
  go_wp2_with (go_at_call 36; refine h.mono ?_; rintro e w1 ⟨rfl, hb1⟩)
  go_ret
  exact ⟨rfl, Below.step hB hb1⟩

set_option maxHeartbeats 400000 in
theorem any_calls (a b : ByteArray) (v : Value) (xs : List Span) (w : World) (hv : Rd Span.enc 2 w v xs) :
    Calls Try.prog 21 #[.agg #[.string a, .string b], v] w fun e w' => e = .returned (.bool (xs.any fun x => meet4 a b x.f x.t)) ∧ Below w.heap.size w w' := by
  have hB : Below w.heap.size w (w.alloc (.cells #[.string a, .string b] 27)) := (Below.refl _ _).alloc (Nat.le_refl _) _
  have h := meets_calls a b v xs _ (hv.below hB)
  obtain ⟨A, c, rfl, hlc, hc⟩ := hv.shape
  go_enter Try.func21, Try.ntmps21
  go_wp2_with (go_at_call 32; refine h.mono ?_; rintro e w1 ⟨rfl, hb1⟩)
  go_ret
  exact ⟨rfl, Below.step hB hb1⟩

end Go.Proofs.Ytbfmneblhlmiiaa
