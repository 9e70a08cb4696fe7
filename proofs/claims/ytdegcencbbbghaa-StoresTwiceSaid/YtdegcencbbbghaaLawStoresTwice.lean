/-
  The law concordatlaw13.StoresTwice: changes that are made again change nothing more; in one list twice neither. No condition.
-/
import Derived.Test.YtdegcencbbbghaaChP
set_option linter.unusedVariables false
set_option linter.unusedSimpArgs false
namespace Go.Proofs.Ytdegcencbbbghaa
open Go.RowKit Go.Shelf

set_option maxHeartbeats 2000000 in
set_option maxRecDepth 100000 in
theorem storesTwice_walk (v vc : Value) (xs : List Row) (cs : List Change) (w : World) (hv : Rd Row.enc 2 w v xs) (hlen : xs.length * 24 ≤ 140737488351232) (hs : ∀ x ∈ xs, x.ok)
    (hvc : Rd Change.enc 3 w vc cs) (hclen : cs.length * 24 ≤ 140737488351232) (hcs : ∀ x ∈ cs, x.ok) :
    Calls Try.prog 9 #[v, vc] w fun e w' => e = .returned (.bool true) ∧ Below w.heap.size w w' := by
  have hs' : ∀ x ∈ xs, x.k.size ≤ 140737488351232 := fun x hx => (hs x hx).1
  have hcs' : ∀ x ∈ cs, x.k.size ≤ 140737488351232 := fun x hx => (hcs x hx).1
  have hmany := fun (W : World) (hb : Below w.heap.size w W) => many_calls v xs W (hv.below hb) (by omega) hs'
  have hsize := fun (W : World) (hb : Below w.heap.size w W) => sizeChanges_calls vc cs W (hvc.below hb) (by omega) hcs'
  have hputs := fun (W : World) (hb : Below w.heap.size w W) (hl : xs.length ≤ 100) => puts_calls v xs W (hv.below hb) (by omega) hs'
  obtain ⟨A, c, rfl, hlc, hc⟩ := hv.shape
  obtain ⟨A', c', rfl, hlc', hc'⟩ := hvc.shape
  generalize manyL xs = b at *
  generalize sizeChanges cs = n at *
  have hbig : b = true ∨ (b = false ∧ xs.length > 100) ∨ (b = false ∧ ¬ xs.length > 100 ∧ cs.length > 50) ∨ (b = false ∧ ¬ xs.length > 100 ∧ ¬ cs.length > 50 ∧ n > 3000) ∨ (b = false ∧ ¬ xs.length > 100 ∧ ¬ cs.length > 50 ∧ ¬ n > 3000) := by
    cases b
    · by_cases h0 : xs.length > 100
      · exact .inr (.inl ⟨rfl, h0⟩)
      · by_cases h1 : cs.length > 50
        · exact .inr (.inr (.inl ⟨rfl, h0, h1⟩))
        · by_cases h2 : n > 3000
          · exact .inr (.inr (.inr (.inl ⟨rfl, h0, h1, h2⟩)))
          · exact .inr (.inr (.inr (.inr ⟨rfl, h0, h1, h2⟩)))
    · exact .inl rfl
  rcases hbig with rfl | ⟨rfl, h0⟩ | ⟨rfl, h0, h1⟩ | ⟨rfl, h0, h1, h2⟩ | ⟨rfl, h0, h1, h2⟩
  iterate 4
    · clear hputs
      go_enter Try.func9, Try.ntmps9
      go_wp2_with (first
        | (go_at_call 13; refine (alive_calls _).mono ?_; rintro e w1 ⟨rfl, hb1⟩; (first | (replace hB0 := Below.step hB0 hb1; clear hb1) | (have hB0 := hb1; clear hb1)))
        | (go_at_call 14; refine (hmany _ hB0).mono ?_; rintro e w2 ⟨rfl, hb1⟩; replace hB0 := Below.step hB0 hb1; clear hb1)
        | (go_at_call 23; refine (hsize _ hB0).mono ?_; rintro e w3 ⟨rfl, hb1⟩; replace hB0 := Below.step hB0 hb1; clear hb1))
      go_ret
      exact ⟨rfl, hB0⟩
  have hl2 : xs.length ≤ 100 := by omega
  go_enter Try.func9, Try.ntmps9
  go_wp2_with (first
    | (go_at_call 13; refine (alive_calls _).mono ?_; rintro e w1 ⟨rfl, hb1⟩; have hB0 := hb1; clear hb1)
    | (go_at_call 15; have hMA0 := hMA; refine (hputs _ hB0 hl2).mono ?_; rintro e w5 ⟨u2, rfl, hb1, hM1⟩; have hMB := hM1.lower hB0.size; have hAp := Apart.new (b' := 0) hMA hM1; replace hMA := hMA.below hb1; clear hM1 hMA0; replace hB0 := Below.step hB0 hb1; clear hb1)
    | (go_at_call 15; refine (hputs _ hB0 hl2).mono ?_; rintro e w4 ⟨u1, rfl, hb1, hM1⟩; have hMA := hM1.lower hB0.size; clear hM1; replace hB0 := Below.step hB0 hb1; clear hb1)
    | (go_at_call 14; refine (hmany _ hB0).mono ?_; rintro e w2 ⟨rfl, hb1⟩; replace hB0 := Below.step hB0 hb1; clear hb1)
    | (go_at_call 23; refine (hsize _ hB0).mono ?_; rintro e w3 ⟨rfl, hb1⟩; replace hB0 := Below.step hB0 hb1; clear hb1))
  have hlm := putAll_length xs
  clear hmany hputs hsize hv hs hs'
  generalize putAll xs = m at *
  have hk9 : ∀ c ∈ cs, c.k.size ≤ 9223372036854775807 := fun c hc => by have := hcs' c hc; omega
  have hk99 : ∀ c ∈ cs ++ cs, c.k.size ≤ 9223372036854775807 := fun c hc => by
    rcases List.mem_append.1 hc with h | h
    · exact hk9 c h
    · exact hk9 c h
  have hdl := doCs_length cs m
  obtain ⟨m1, hm1⟩ : ∃ m1, m1 = if cs.all okChange then doCs cs m else m := ⟨_, rfl⟩
  obtain ⟨r, hr⟩ : ∃ r, r = if cs.all okChange then (0 : Int) else 1 := ⟨_, rfl⟩
  have hm1l : m1.length ≤ 150 := by rw [hm1]; split <;> omega
  have hm2 : (if cs.all okChange then doCs cs m1 else m1) = m1 := by
    rw [hm1]
    split
    · exact doCs_twice cs hMA.rise
    · rfl
  have hall2 : (cs ++ cs).all okChange = cs.all okChange := by rw [List.all_append, Bool.and_self]
  have hm3 : (if (cs ++ cs).all okChange then doCs (cs ++ cs) m else m) = m1 := by
    rw [hall2, hm1]
    split
    · rw [doCs_append, doCs_twice cs hMA.rise]
    · rfl
  have hch := change_calls hMA (hMA.rdOff hB0 hvc change_len (by decide)) (by omega) hk9
  rw [← hm1, ← hr] at hch
  have H2 := Lib.hid hm2
  have H3 := Lib.hid hm3
  have HA := Lib.hid hall2
  have HR := Lib.hid hr
  clear hm1 hr hm2 hm3 hall2 hcs hcs'
  refine hch.mono ?_
  rintro e w6 ⟨uA, rfl, hM6, s6⟩
  obtain ⟨hAp6, hMB6⟩ := hAp.step hMB s6
  have hB6 := hB0.trans (s6.below hMA)
  have hra := rows_calls hM6 (by omega)
  have heq : (r == r) = true := by simp
  clear hch hMA hMB hAp s6 hB0
  go_wp2_with (first
    | (go_at_call 18; refine hra.mono ?_; rintro e w7 ⟨v7, rfl, hb7, own7⟩; have hw7A := Own.rdOff row_len hM6 hb7 own7; have hw7B := Own.rdOff row_len hMB6 hb7 own7; obtain ⟨A7, c7, rfl, _, _⟩ := own7.slice; have hM7 := hM6.below hb7; have hMB7 := hMB6.below hb7; have hB7 := Below.step hB6 hb7; have hch2 := change_calls hM7 (hM7.rdOff hB7 hvc change_len (by decide)) (by omega) hk9; rw [H2.out, ← HR.out] at hch2; clear hra hb7 own7 hM6 hMB6 hB6)
    | (go_at_call 24; refine hch2.mono ?_; rintro e w8 ⟨uA8, rfl, hM8, s8⟩; obtain ⟨hAp8, hMB8⟩ := hAp6.step hMB7 s8; have hB8 := hB7.trans (s8.below hM7); have hw8A := hw7A.step s8; have hw8B := hw7B.rebase hw8A.1 s8.size; have hrd := hvc.below hB8; clear hch2 hM7 hMB7 hB7 hw7A hw7B s8 hAp6)
    | (at_builtin; refine append_all Change.enc 3 45 42 24 _ w8.heap.size (.slice none 0 0) [] cs A' c' rfl _ _ rfl Try.underlying42 info_change rfl (by decide) (by decide) change_len change_one rfl rfl hrd (Own.nil _ _ _ _ _) (Below.refl _ _) (Nat.le_refl _) (by simp; omega) ?_; intro v9 w9 hown9 hb9 hgr9; rw [List.nil_append] at hown9; obtain ⟨A9, c9, rfl, _, _⟩ := hown9.slice; have hrd9 := hrd.below hb9; clear hrd hgr9)
    | (at_builtin; refine append_all Change.enc 3 45 42 24 _ w8.heap.size (.slice A9 cs.length c9) cs cs A' c' rfl _ _ rfl Try.underlying42 info_change rfl (by decide) (by decide) change_len change_one rfl rfl hrd9 hown9 hb9 hb9.size (by omega) ?_; intro v10 w10 hown10 hb10 hgr10; have hch3 := change_calls (hMB8.below hb10) (Own.rdOff change_len hMB8 hb10 hown10) (by rw [List.length_append]; omega) hk99; rw [H3.out, HA.out, ← HR.out] at hch3; obtain ⟨A10, c10, hv10, _, _⟩ := hown10.slice; rw [List.length_append] at hv10; subst hv10; clear hrd9 hgr10 hown9 hb9 hown10)
    | (go_at_call 24; refine hch3.mono ?_; rintro e w11 ⟨uB, rfl, hM11, s11⟩; have hMB10 := hMB8.below hb10; obtain ⟨hAp11, hMA11⟩ := hAp8.symm.step (hM8.below hb10) s11; have hB11 := (Below.step hB8 hb10).trans (s11.below hMB10); have hw11 := ((hw8B.below hb10).step s11).1; have hra2 := rows_calls hMA11 (by omega); clear hch3 hMB8 hM8 hb10 hMB10 hAp8 hAp11 s11 hB8 hw8A hw8B)
    | (go_at_call 18; refine hra2.mono ?_; rintro e w12 ⟨v12, rfl, hb12, own12⟩; have hw12 := hw11.below hb12; have hMB12 := hM11.below hb12; have hsame := sameRows_calls v12 _ m1 m1 w12 (own12.rd row_len) hw12; rw [decide_eq_true rfl] at hsame; obtain ⟨A12, c12, rfl, _, _⟩ := own12.slice; have hB12 := Below.step hB11 hb12; clear hra2 hb12 own12 hw11 hM11 hMA11 hB11)
    | (go_at_call 21; refine hsame.mono ?_; rintro e w13 ⟨rfl, hb13⟩; clear hsame; (first | (have hw13 := hw12.below hb13; have hrb := rows_calls (hMB12.below hb13) (by omega); have hB13 := Below.step hB12 hb13; clear hw12 hMB12 hB12 hb13) | (have hB15 := Below.step hB14 hb13; clear hb13)))
    | (go_at_call 18; refine hrb.mono ?_; rintro e w14 ⟨v14, rfl, hb14, own14⟩; have hsame := sameRows_calls v14 _ m1 m1 w14 (own14.rd row_len) (hw13.below hb14); rw [decide_eq_true rfl] at hsame; obtain ⟨A14, c14, rfl, _, _⟩ := own14.slice; have hB14 := Below.step hB13 hb14; clear hrb hb14 own14))
  go_ret
  exact ⟨rfl, hB15⟩

end Go.Proofs.Ytdegcencbbbghaa
