/-
  The law concordatlaw13.StoresParts: what is scanned ahead of a key, and from it on, is all that is scanned. No condition.
-/
import Derived.Test.YtdegcencbbbghaaPartsP
set_option linter.unusedVariables false
set_option linter.unusedSimpArgs false
namespace Go.Proofs.Ytdegcencbbbghaa
open Go.RowKit Go.Shelf

theorem Rd.take {α : Type} {enc : α → List Value} {k : Nat} {w : World} {A : Option Addr} {n c : Nat} {xs : List α} (h : Rd enc k w (.slice A n c) xs) (j : Nat) (hj : j ≤ xs.length) : Rd enc k w (.slice A j c) (xs.take j) := by
  have e : (xs.take j).length = j := by rw [List.length_take]; omega
  have h' : Rd enc k w (.slice A n c) (xs.take j ++ xs.drop j) := by rw [List.take_append_drop]; exact h
  have := h'.shorter
  rwa [e] at this

set_option maxHeartbeats 2000000 in
set_option maxRecDepth 100000 in
theorem storesParts_walk (v : Value) (xs : List Row) (s : Span) (key : ByteArray) (w : World) (hv : Rd Row.enc 2 w v xs) (hlen : xs.length * 24 ≤ 140737488351232) (hs : ∀ x ∈ xs, x.ok) (hk : s.ok) (hkk : small key) :
    Calls Try.prog 8 #[v, .agg #[.string s.f, .string s.t], .string key] w fun e w' => e = .returned (.bool true) ∧ Below w.heap.size w w' := by
  obtain ⟨f, t⟩ := s
  obtain ⟨hk1, hk2⟩ := hk
  unfold small at hk1 hk2 hkk
  simp only at hk1 hk2 ⊢
  have hs' : ∀ x ∈ xs, x.k.size ≤ 140737488351232 := fun x hx => (hs x hx).1
  obtain ⟨W, hW⟩ : ∃ W, W = w.alloc (.cells #[.string f, .string t] 37) := ⟨_, rfl⟩
  have hB0 : Below w.heap.size w W := by rw [hW]; exact (Below.refl _ _).alloc (Nat.le_refl _) _
  have c0 : W.cell? ⟨w.heap.size, 0, none⟩ = some (.string f) := by rw [hW]; simp
  have c1 : W.cell? ⟨w.heap.size, 1, none⟩ = some (.string t) := by rw [hW]; simp
  have HW := Lib.hid hW
  clear hW
  have hmany := fun (W : World) (hb : Below w.heap.size w W) => many_calls v xs W (hv.below hb) (by omega) hs'
  have hputs := fun (W : World) (hb : Below w.heap.size w W) (hl : xs.length ≤ 100) => puts_calls v xs W (hv.below hb) (by omega) hs'
  have hin := fun W => in_calls key f t W
  obtain ⟨A, c, rfl, hlc, hc⟩ := hv.shape
  generalize manyL xs = b at *
  generalize hsk : sin key f t = ok at *
  go_enter Try.func8, Try.ntmps8
  go_wp2_with fail
  rw [← HW.out]
  clear HW
  refine (alive_calls _).mono ?_
  rintro e w1 ⟨rfl, hb1⟩
  replace c0 := Below.cell_some hb1 c0; replace c1 := Below.cell_some hb1 c1
  replace hB0 := Below.step hB0 hb1
  clear hb1
  have hbig : b = true ∨ (b = false ∧ xs.length > 100) ∨ (b = false ∧ ¬ xs.length > 100 ∧ f.size + t.size + key.size > 1000) ∨ (b = false ∧ ¬ xs.length > 100 ∧ ¬ f.size + t.size + key.size > 1000 ∧ ok = false) ∨ (b = false ∧ ¬ xs.length > 100 ∧ ¬ f.size + t.size + key.size > 1000 ∧ ok = true) := by
    cases b
    · by_cases h0 : xs.length > 100
      · exact .inr (.inl ⟨rfl, h0⟩)
      · by_cases h1 : f.size + t.size + key.size > 1000
        · exact .inr (.inr (.inl ⟨rfl, h0, h1⟩))
        · cases ok
          · exact .inr (.inr (.inr (.inl ⟨rfl, h0, h1, rfl⟩)))
          · exact .inr (.inr (.inr (.inr ⟨rfl, h0, h1, rfl⟩)))
    · exact .inl rfl
  rcases hbig with rfl | ⟨rfl, h0⟩ | ⟨rfl, h0, h1⟩ | ⟨rfl, h0, h1, rfl⟩ | ⟨rfl, h0, h1, rfl⟩
  iterate 4
    · clear hputs
      go_wp2_with (first
        | (go_at_call 14; refine (hmany _ hB0).mono ?_; rintro e w2 ⟨rfl, hb1⟩; replace hB0 := Below.step hB0 hb1; replace c0 := Below.cell_some hb1 c0; replace c1 := Below.cell_some hb1 c1; clear hb1)
        | (go_at_call 20; refine (hin _).mono ?_; rintro e w2 ⟨rfl, rfl⟩)
        | (go_at_call 13; refine (alive_calls _).mono ?_; rintro e w3 ⟨rfl, hb1⟩; replace hB0 := Below.step hB0 hb1; clear hb1))
      go_ret
      exact ⟨rfl, hB0⟩
  have hl2 : xs.length ≤ 100 := by omega
  go_wp2_with (first
    | (go_at_call 14; refine (hmany _ hB0).mono ?_; rintro e w2 ⟨rfl, hb1⟩; replace hB0 := Below.step hB0 hb1; replace c0 := Below.cell_some hb1 c0; replace c1 := Below.cell_some hb1 c1; clear hb1)
    | (go_at_call 20; refine (hin _).mono ?_; rintro e w3 ⟨rfl, rfl⟩)
    | (go_at_call 15; refine (hputs _ hB0 hl2).mono ?_; rintro e w4 ⟨u1, rfl, hb1, hM⟩; replace hB0 := Below.step hB0 hb1; replace c0 := Below.cell_some hb1 c0; replace c1 := Below.cell_some hb1 c1; have hlm := putAll_length xs; generalize putAll xs = m at *; clear hb1 hmany hputs hin))
  obtain ⟨hparts, hn1⟩ := rowsIn_parts hM.rise hsk
  have hscan : ∀ (W : World) (hb : Below w4.heap.size w4 W) (f t : ByteArray), Calls Try.prog 22 #[.pointer (some ⟨w2.heap.size, 0, none⟩), .agg #[.string f, .string t], .int .i64 1000] W
      fun e w' => ∃ A c, e = .returned (.slice A (rowsIn f t m).length c) ∧ Below W.heap.size W w' ∧ (rowsIn f t m).length ≤ c ∧ c ≤ 9223372036854775807 ∧ Rd Row.enc 2 w' (.slice A (rowsIn f t m).length c) (rowsIn f t m) := fun W hb f t => by
    have h := scan_calls (hM.below hb) (by omega) f t 1000
    have hle : (rowsIn f t m).length ≤ m.length := List.length_filter_le _ _
    rw [List.take_of_length_le (by show _ ≤ 1000; omega)] at h
    refine h.mono ?_
    rintro e w' ⟨v', rfl, hb', own⟩
    have hrd := own.rd row_len
    obtain ⟨A, c, rfl, h1, h2⟩ := own.slice
    exact ⟨A, c, rfl, hb', h1, h2, hrd⟩
  have hget := fun (W : World) (hb : Below w4.heap.size w4 W) => get_calls (hM.below hb) (by omega) key
  have hll : (rowsIn f key m).length ≤ 100 := Nat.le_trans (List.length_filter_le _ _) (by omega)
  have hlh : (rowsIn key t m).length ≤ 100 := Nat.le_trans (List.length_filter_le _ _) (by omega)
  have s1 := fun W hb => hscan W hb f t
  have s2 := fun W hb => hscan W hb f key
  have s3 := fun W hb => hscan W hb key t
  clear hscan hM hv hs hs' hsk
  generalize rowsIn f t m = al at *
  generalize rowsIn f key m = lo at *
  generalize rowsIn key t m = hi at *
  generalize (getL key m).getD 0 = gv at *
  generalize (getL key m).isSome = th at *
  have hb4 : Below w4.heap.size w4 w4 := Below.refl _ _
  cases th
  · simp only [↓reduceIte, Bool.false_eq_true, Nat.sub_zero, List.take_length] at hparts hn1
    have HP := Lib.hid hparts
    have hsb : (lo.length : Int) - 1 = ((lo.length - 1 : Nat) : Int) ∨ True := .inr trivial
    clear hparts hsb
    go_wp2_with (first
      | (go_at_call 22; refine (s1 _ hb4).mono ?_; rintro e w5 ⟨A5, c5, rfl, hb5, hc5, hd5, hr5⟩; clear s1; replace hb4 := Below.step hb4 hb5; replace hB0 := Below.step hB0 hb5; replace c0 := Below.cell_some hb5 c0; replace c1 := Below.cell_some hb5 c1; clear hb5)
      | (go_at_call 22; refine (s2 _ hb4).mono ?_; rintro e w6 ⟨A6, c6, rfl, hb6, hc6, hd6, hr6⟩; clear s2; replace hb4 := Below.step hb4 hb6; replace hB0 := Below.step hB0 hb6; replace c0 := Below.cell_some hb6 c0; replace c1 := Below.cell_some hb6 c1; replace hr5 := hr5.below hb6; clear hb6)
      | (go_at_call 22; refine (s3 _ hb4).mono ?_; rintro e w7 ⟨A7, c7, rfl, hb7, hc7, hd7, hr7⟩; clear s3; replace hb4 := Below.step hb4 hb7; replace hB0 := Below.step hB0 hb7; replace hr5 := hr5.below hb7; replace hr6 := hr6.below hb7; clear hb7 c0 c1)
      | (go_at_call 17; refine (hget _ hb4).mono ?_; rintro e w8 ⟨rfl, hb8⟩; replace hB0 := Below.step hB0 hb8; replace hr5 := hr5.below hb8; replace hr6 := hr6.below hb8; replace hr7 := hr7.below hb8; have hq6 := hr6; clear hb8 hb4 hget)
      | (at_builtin; refine append_all Row.enc 2 29 22 24 _ w8.heap.size (.slice none 0 0) [] lo A6 c6 rfl _ _ rfl under_rows info_rowi rfl (by decide) (by decide) row_len row_one rfl rfl hq6 (Own.nil _ _ _ _ _) (Below.refl _ _) (Nat.le_refl _) (by simp; omega) ?_; intro v9 w9 hown9 hb9 hgr9; rw [List.nil_append] at hown9; obtain ⟨A9, c9, hv9, _, _⟩ := hown9.slice; skip; subst hv9; replace hr7 := hr7.below hb9; clear hgr9 hq6 hr6)
      | (at_builtin; refine append_all Row.enc 2 29 22 24 _ w8.heap.size (.slice A9 lo.length c9) lo hi A7 c7 rfl _ _ rfl under_rows info_rowi rfl (by decide) (by decide) row_len row_one rfl rfl hr7 hown9 hb9 hb9.size (by omega) ?_; intro v10 w10 hown10 hb10 hgr10; have hr10 := hown10.rd row_len; have hsame := sameRows_calls v10 _ al al w10 (by rw [HP.out]; exact hr10) (hr5.below hb10); rw [decide_eq_true rfl] at hsame; obtain ⟨A10, c10, hv10, _, _⟩ := hown10.slice; rw [← HP.out] at hv10; subst hv10; have hB10 := Below.step hB0 hb10; clear hgr10 hown9 hb9 hr7 hr5)
      | (go_at_call 21; refine hsame.mono ?_; rintro e w11 ⟨rfl, hb11⟩; have hB11 := Below.step hB10 hb11; clear hsame hb11))
    go_ret
    exact ⟨rfl, hB11⟩
  · simp only [↓reduceIte] at hparts hn1
    have HP := Lib.hid hparts
    have hlt1 : (lo.take (lo.length - 1)).length = lo.length - 1 := by rw [List.length_take]; omega
    have hsub : IntKind.i64.wrap ((lo.length : Int) - 1) = ((lo.length - 1 : Nat) : Int) := by rw [IntKind.wrap_i64]; omega
    have hsb2 : (lo.length : Int) - 1 = ((lo.length - 1 : Nat) : Int) := by omega
    have hle1 : (1 : Int) ≤ (lo.length : Int) := by omega
    have hle0 : ¬ (lo.length : Int) < 1 := by omega
    clear hparts
    go_wp2_with (first
      | (go_at_call 22; refine (s1 _ hb4).mono ?_; rintro e w5 ⟨A5, c5, rfl, hb5, hc5, hd5, hr5⟩; clear s1; replace hb4 := Below.step hb4 hb5; replace hB0 := Below.step hB0 hb5; replace c0 := Below.cell_some hb5 c0; replace c1 := Below.cell_some hb5 c1; clear hb5)
      | (go_at_call 22; refine (s2 _ hb4).mono ?_; rintro e w6 ⟨A6, c6, rfl, hb6, hc6, hd6, hr6⟩; clear s2; replace hb4 := Below.step hb4 hb6; replace hB0 := Below.step hB0 hb6; replace c0 := Below.cell_some hb6 c0; replace c1 := Below.cell_some hb6 c1; replace hr5 := hr5.below hb6; clear hb6)
      | (go_at_call 22; refine (s3 _ hb4).mono ?_; rintro e w7 ⟨A7, c7, rfl, hb7, hc7, hd7, hr7⟩; clear s3; replace hb4 := Below.step hb4 hb7; replace hB0 := Below.step hB0 hb7; replace hr5 := hr5.below hb7; replace hr6 := hr6.below hb7; clear hb7 c0 c1)
      | (go_at_call 17; refine (hget _ hb4).mono ?_; rintro e w8 ⟨rfl, hb8⟩; replace hB0 := Below.step hB0 hb8; replace hr5 := hr5.below hb8; replace hr6 := hr6.below hb8; replace hr7 := hr7.below hb8; have hq6 := hr6.take (lo.length - 1) (by omega); clear hb8 hb4 hget)
      | (at_builtin; refine append_all Row.enc 2 29 22 24 _ w8.heap.size (.slice none 0 0) [] (lo.take (lo.length - 1)) A6 c6 rfl _ _ rfl under_rows info_rowi rfl (by decide) (by decide) row_len row_one rfl (by rw [hlt1]; rfl) (by rw [hlt1]; exact hq6) (Own.nil _ _ _ _ _) (Below.refl _ _) (Nat.le_refl _) (by rw [hlt1]; simp; omega) ?_; intro v9 w9 hown9 hb9 hgr9; rw [List.nil_append] at hown9; obtain ⟨A9, c9, hv9, _, _⟩ := hown9.slice; rw [hlt1] at hv9; subst hv9; replace hr7 := hr7.below hb9; clear hgr9 hq6 hr6)
      | (at_builtin; refine append_all Row.enc 2 29 22 24 _ w8.heap.size (.slice A9 (lo.length - 1) c9) (lo.take (lo.length - 1)) hi A7 c7 rfl _ _ rfl under_rows info_rowi rfl (by decide) (by decide) row_len row_one rfl rfl hr7 hown9 hb9 hb9.size (by rw [hlt1]; omega) ?_; intro v10 w10 hown10 hb10 hgr10; have hr10 := hown10.rd row_len; have hsame := sameRows_calls v10 _ al al w10 (by rw [HP.out]; exact hr10) (hr5.below hb10); rw [decide_eq_true rfl] at hsame; obtain ⟨A10, c10, hv10, _, _⟩ := hown10.slice; rw [← HP.out] at hv10; subst hv10; have hB10 := Below.step hB0 hb10; clear hgr10 hown9 hb9 hr7 hr5)
      | (go_at_call 21; refine hsame.mono ?_; rintro e w11 ⟨rfl, hb11⟩; have hB11 := Below.step hB10 hb11; clear hsame hb11))
    go_ret
    exact ⟨rfl, hB11⟩

end Go.Proofs.Ytdegcencbbbghaa
