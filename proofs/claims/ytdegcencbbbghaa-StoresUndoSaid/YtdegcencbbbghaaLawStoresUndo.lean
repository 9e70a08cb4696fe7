/-
  The law concordatlaw13.StoresUndo: what changes did is undone by those that put each of their rows that was there as it was, and take away each one that was not. No condition.
-/
import Derived.Test.YtdegcencbbbghaaChP
set_option linter.unusedVariables false
set_option linter.unusedSimpArgs false
namespace Go.Proofs.Ytdegcencbbbghaa
open Go.RowKit Go.Shelf

set_option maxHeartbeats 2000000 in
set_option maxRecDepth 100000 in
theorem storesUndo_walk (v vc : Value) (xs : List Row) (cs : List Change) (w : World) (hv : Rd Row.enc 2 w v xs) (hlen : xs.length * 24 ≤ 140737488351232) (hs : ∀ x ∈ xs, x.ok)
    (hvc : Rd Change.enc 3 w vc cs) (hclen : cs.length * 24 ≤ 140737488351232) (hcs : ∀ x ∈ cs, x.ok) :
    Calls Try.prog 10 #[v, vc] w fun e w' => e = .returned (.bool true) ∧ Below w.heap.size w w' := by
  have hs' : ∀ x ∈ xs, x.k.size ≤ 140737488351232 := fun x hx => (hs x hx).1
  have hcs' : ∀ x ∈ cs, x.k.size ≤ 140737488351232 := fun x hx => (hcs x hx).1
  have hmany := fun (W : World) (hb : Below w.heap.size w W) => many_calls v xs W (hv.below hb) (by omega) hs'
  have hsize := fun (W : World) (hb : Below w.heap.size w W) => sizeChanges_calls vc cs W (hvc.below hb) (by omega) hcs'
  have hputs := fun (W : World) (hb : Below w.heap.size w W) (hl : xs.length ≤ 100) => puts_calls v xs W (hv.below hb) (by omega) hs'
  obtain ⟨A, c, rfl, hlc, hc⟩ := hv.shape
  obtain ⟨A', c', rfl, hlc', hc'⟩ := hvc.shape
  generalize manyL xs = b at *
  generalize sizeChanges cs = n at *
  have hbig : b = true ∨ (b = false ∧ xs.length > 100) ∨ (b = false ∧ ¬ xs.length > 100 ∧ cs.length > 50) ∨ (b = false ∧ ¬ xs.length > 100 ∧ ¬ cs.length > 50 ∧ n > 3000) ∨ (b = false ∧ ¬ xs.length > 100 ∧ ¬ cs.length > 50 ∧ ¬ n > 3000) := by
    cases b
    · by_cases h0 : xs.length > 100
      · exact .inr (.inl ⟨rfl, h0⟩)
      · by_cases h1 : cs.length > 50
        · exact .inr (.inr (.inl ⟨rfl, h0, h1⟩))
        · by_cases h2 : n > 3000
          · exact .inr (.inr (.inr (.inl ⟨rfl, h0, h1, h2⟩)))
          · exact .inr (.inr (.inr (.inr ⟨rfl, h0, h1, h2⟩)))
    · exact .inl rfl
  rcases hbig with rfl | ⟨rfl, h0⟩ | ⟨rfl, h0, h1⟩ | ⟨rfl, h0, h1, h2⟩ | ⟨rfl, h0, h1, h2⟩
  iterate 4
    · clear hputs
      go_enter Try.func10, Try.ntmps10
      go_wp2_with (first
        | (go_at_call 13; refine (alive_calls _).mono ?_; rintro e w1 ⟨rfl, hb1⟩; (first | (replace hB0 := Below.step hB0 hb1; clear hb1) | (have hB0 := hb1; clear hb1)))
        | (go_at_call 14; refine (hmany _ hB0).mono ?_; rintro e w2 ⟨rfl, hb1⟩; replace hB0 := Below.step hB0 hb1; clear hb1)
        | (go_at_call 23; refine (hsize _ hB0).mono ?_; rintro e w3 ⟨rfl, hb1⟩; replace hB0 := Below.step hB0 hb1; clear hb1))
      go_ret
      exact ⟨rfl, hB0⟩
  have hl2 : xs.length ≤ 100 := by omega
  go_enter Try.func10, Try.ntmps10
  go_wp2_with (first
    | (go_at_call 13; refine (alive_calls _).mono ?_; rintro e w1 ⟨rfl, hb1⟩; have hB0 := hb1; clear hb1)
    | (go_at_call 15; refine (hputs _ hB0 hl2).mono ?_; rintro e w4 ⟨u1, rfl, hb1, hM1⟩; have hMA := hM1.lower hB0.size; clear hM1; replace hB0 := Below.step hB0 hb1; have hlm := putAll_length xs; generalize putAll xs = m at *; have hra := rows_calls hMA (by omega); clear hb1 hmany hputs hsize)
    | (go_at_call 18; refine hra.mono ?_; rintro e w6 ⟨v6, rfl, hb6, own6⟩; have hw6 := Own.rdOff row_len hMA hb6 own6; obtain ⟨A6, c6, rfl, _, _⟩ := own6.slice; have hM6 := hMA.below hb6; have hB6 := Below.step hB0 hb6; clear hra hb6 own6 hMA hB0)
    | (go_at_call 14; refine (hmany _ hB0).mono ?_; rintro e w2 ⟨rfl, hb1⟩; replace hB0 := Below.step hB0 hb1; clear hb1)
    | (go_at_call 23; refine (hsize _ hB0).mono ?_; rintro e w3 ⟨rfl, hb1⟩; replace hB0 := Below.step hB0 hb1; clear hb1))
  clear hv hs hs'
  have hk9 : ∀ c ∈ cs, c.k.size ≤ 9223372036854775807 := fun c hc => by have := hcs' c hc; omega
  have hkb : ∀ c ∈ cs.map (backC m), c.k.size ≤ 9223372036854775807 := fun c hc => by
    obtain ⟨d, hd, rfl⟩ := List.mem_map.1 hc
    exact hk9 d hd
  go_loopw [7, 8] (fun bv iv wr => ∃ k : Nat, k ≤ cs.length ∧ iv = .int .i64 k ∧ Own Change.enc 3 45 w6.heap.size wr bv ((cs.take k).map (backC m)) ∧ Below w6.heap.size w6 wr) (fun _ iv _ => cs.length - (intOf iv).toNat)
  case atStart => exact ⟨0, Nat.zero_le _, rfl, by simpa using _root_.Go.Proofs.Ytdegcencbbbghaa.Own.nil Change.enc 3 45 _ _, Below.refl _ _⟩
  case round =>
    obtain ⟨k, hkx, rfl, hown, hb⟩ := hrel
    by_cases hlt : k < cs.length
    · have hsn : (cs.take (k + 1)).map (backC m) = (cs.take k).map (backC m) ++ [⟨cs[k].k, (getL cs[k].k m).getD 0, !(getL cs[k].k m).isSome⟩] := by
        rw [List.take_add_one, List.getElem?_eq_getElem hlt, List.map_append]
        rfl
      have hFl : ((cs.take k).map (backC m)).length ≤ 50 := by rw [List.length_map, List.length_take]; omega
      obtain ⟨b, o, rfl, hx1, hx2, hx3⟩ := (hvc.below (hB6.trans (hb.mono hB6.size))).change (List.getElem?_eq_getElem hlt)
      have hget := get_calls (hM6.below hb) (by omega) cs[k].k
      generalize cs[k] = x at *
      generalize (cs.take k).map (backC m) = F at *
      generalize (getL x.k m).getD 0 = gv at *
      generalize (getL x.k m).isSome = gb at *
      obtain ⟨A8, c8, rfl, hlc8, hc8⟩ := hown.slice
      have HS := Lib.hid hsn
      clear hsn hkb hk9 hcs' hcs hvc
      cases gb
      · go_wp2_with (first
          | (go_at_call 17; refine hget.mono ?_; rintro e w7 ⟨rfl, hb7⟩; replace hx1 := Below.cell_some hb7 hx1; replace hown := hown.below hb7; replace hb := Below.step hb hb7; have hsz := hb.size; clear hget hb7 hx2 hx3)
          | (at_builtin; refine append_one Change.enc 3 45 42 24 _ w6.heap.size _ _ ⟨x.k, gv, true⟩ rfl _ _ rfl Try.underlying42 info_change rfl (by decide) (by decide) change_len change_one rfl rfl hown hb hsz (by omega) ?_; intro v' w' hown' hb' hgr hat; clear hgr hat hx1))
        go_roundw
        case rel => exact ⟨k + 1, by omega, by go_num, by rw [HS.out]; exact hown', hb'⟩
        case measure => simp [intOf]; omega
      · go_wp2_with (first
          | (go_at_call 17; refine hget.mono ?_; rintro e w7 ⟨rfl, hb7⟩; replace hx1 := Below.cell_some hb7 hx1; replace hown := hown.below hb7; replace hb := Below.step hb hb7; have hsz := hb.size; clear hget hb7 hx2 hx3)
          | (at_builtin; refine append_one Change.enc 3 45 42 24 _ w6.heap.size _ _ ⟨x.k, gv, false⟩ rfl _ _ rfl Try.underlying42 info_change rfl (by decide) (by decide) change_len change_one rfl rfl hown hb hsz (by omega) ?_; intro v' w' hown' hb' hgr hat; clear hgr hat hx1))
        go_roundw
        case rel => exact ⟨k + 1, by omega, by go_num, by rw [HS.out]; exact hown', hb'⟩
        case measure => simp [intOf]; omega
    · have hck : cs.take k = cs := List.take_of_length_le (by omega)
      rw [hck] at hown
      have hMr := hM6.below hb
      have hwr := hw6.below hb
      have hBr := hB6.trans (hb.mono hB6.size)
      have hback := Own.rdOff change_len hM6 hb hown
      have hdl := doCs_length cs m
      have hch := change_calls hMr (hMr.rdOff hBr hvc change_len (by decide)) (by omega) hk9
      have hbo := fun h => back_ok (m := m) (cs := cs) h
      have hundo := doCs_back cs hM6.rise
      have hbl : (cs.map (backC m)).length = cs.length := List.length_map _
      obtain ⟨A8, c8, hv8, hlc8, hc8⟩ := hown.slice
      rw [hbl] at hv8
      subst hv8
      clear hM6 hw6 hb hB6 hown hvc
      cases hall : cs.all okChange with
      | false =>
        rw [hall] at hch
        simp only [Bool.false_eq_true, ↓reduceIte] at hch
        clear hbo hundo hback hkb hk9 hcs hcs' hall
        go_wp2_with (first
          | (go_at_call 24; refine hch.mono ?_; rintro e w9 ⟨u9, rfl, hM9, s9⟩; have hw9 := (hwr.step s9).1; have hB9 := hBr.trans (s9.below hMr); have hrb := rows_calls hM9 (by omega); clear hch hMr hwr s9 hBr)
          | (go_at_call 18; refine hrb.mono ?_; rintro e w10 ⟨v10, rfl, hb10, own10⟩; have hsame := sameRows_calls v10 _ m m w10 (own10.rd row_len) (hw9.below hb10); rw [decide_eq_true rfl] at hsame; obtain ⟨A10, c10, rfl, _, _⟩ := own10.slice; have hB10 := Below.step hB9 hb10; clear hrb hb10 own10)
          | (go_at_call 21; refine hsame.mono ?_; rintro e w11 ⟨rfl, hb11⟩; have hB11 := Below.step hB10 hb11; clear hsame hb11))
        go_ret
        exact ⟨rfl, hB11⟩
      | true =>
        rw [hall] at hch
        simp only [↓reduceIte] at hch
        have hbt := hbo hall
        have hch2 : ∀ (W : World) (u : Value), MapAt w.heap.size W w3.heap.size u (doCs cs m) → RdOff Change.enc 3 W w3.heap.size u (.slice A8 cs.length c8) (cs.map (backC m)) → _ := fun W u h1 h2 => change_calls h1 h2 (by rw [hbl]; omega) hkb
        rw [hbt, hundo] at hch2
        simp only [↓reduceIte] at hch2
        clear hbo hundo hkb hk9 hcs hcs' hall hbt hbl
        go_wp2_with (first
          | (go_at_call 24; refine hch.mono ?_; rintro e w9 ⟨u9, rfl, hM9, s9⟩; have hw9 := hwr.step s9; have hB9 := hBr.trans (s9.below hMr); have hback9 := hback.step s9; clear hch hMr hwr s9 hBr hback)
          | (go_at_call 24; refine (hch2 _ _ hM9 hback9).mono ?_; rintro e w10 ⟨u10, rfl, hM10, s10⟩; have hw10 := (hw9.step s10).1; have hB10 := hB9.trans (s10.below hM9); have hrb := rows_calls hM10 (by omega); clear hch2 hM9 hback9 hw9 s10 hB9)
          | (go_at_call 18; refine hrb.mono ?_; rintro e w11 ⟨v11, rfl, hb11, own11⟩; have hsame := sameRows_calls v11 _ m m w11 (own11.rd row_len) (hw10.below hb11); rw [decide_eq_true rfl] at hsame; obtain ⟨A11, c11, rfl, _, _⟩ := own11.slice; have hB11 := Below.step hB10 hb11; clear hrb hb11 own11)
          | (go_at_call 21; refine hsame.mono ?_; rintro e w12 ⟨rfl, hb12⟩; have hB12 := Below.step hB11 hb12; clear hsame hb12))
        go_ret
        exact ⟨rfl, hB12⟩

end Go.Proofs.Ytdegcencbbbghaa
