/-
  The law concordatlaw13.StoresChange: changes do what puts and takings away, one by one, do; if one of them may not be, nothing is done. No condition.
-/
import Derived.Test.YtdegcencbbbghaaTwo
set_option linter.unusedVariables false
set_option linter.unusedSimpArgs false
namespace Go.Proofs.Ytdegcencbbbghaa
open Go.RowKit Go.Shelf

set_option maxHeartbeats 4000000 in
set_option maxRecDepth 100000 in
theorem storesChange_walk (v vc : Value) (xs : List Row) (cs : List Change) (w : World) (hv : Rd Row.enc 2 w v xs) (hlen : xs.length * 24 ≤ 140737488351232) (hs : ∀ x ∈ xs, x.ok)
    (hvc : Rd Change.enc 3 w vc cs) (hclen : cs.length * 24 ≤ 140737488351232) (hcs : ∀ x ∈ cs, x.ok) :
    Calls Try.prog 5 #[v, vc] w fun e w' => e = .returned (.bool true) ∧ Below w.heap.size w w' := by
  have hs' : ∀ x ∈ xs, x.k.size ≤ 140737488351232 := fun x hx => (hs x hx).1
  have hcs' : ∀ x ∈ cs, x.k.size ≤ 140737488351232 := fun x hx => (hcs x hx).1
  have hmany := fun (W : World) (hb : Below w.heap.size w W) => many_calls v xs W (hv.below hb) (by omega) hs'
  have hsize := fun (W : World) (hb : Below w.heap.size w W) => sizeChanges_calls vc cs W (hvc.below hb) (by omega) hcs'
  have hputs := fun (W : World) (hb : Below w.heap.size w W) (hl : xs.length ≤ 200) => puts_calls v xs W (hv.below hb) (by omega) hs'
  obtain ⟨A, c, rfl, hlc, hc⟩ := hv.shape
  obtain ⟨A', c', rfl, hlc', hc'⟩ := hvc.shape
  have hm1 : manyL xs = false → xs.length ≤ 200 := fun h => by
    unfold manyL at h
    simp only [Bool.or_eq_false_iff, decide_eq_false_iff_not] at h
    omega
  have HM := Lib.hid hm1
  clear hm1
  generalize manyL xs = b at *
  generalize sizeChanges cs = n at *
  have hbig : b = true ∨ (b = false ∧ cs.length > 100) ∨ (b = false ∧ ¬ cs.length > 100 ∧ n > 5000) ∨ (b = false ∧ ¬ cs.length > 100 ∧ ¬ n > 5000) := by
    cases b
    · by_cases h1 : cs.length > 100
      · exact .inr (.inl ⟨rfl, h1⟩)
      · by_cases h2 : n > 5000
        · exact .inr (.inr (.inl ⟨rfl, h1, h2⟩))
        · exact .inr (.inr (.inr ⟨rfl, h1, h2⟩))
    · exact .inl rfl
  rcases hbig with rfl | ⟨rfl, h1⟩ | ⟨rfl, h1, h2⟩ | ⟨rfl, h1, h2⟩
  iterate 3
    · clear hputs
      go_enter Try.func5, Try.ntmps5
      go_wp2_with (first
        | (go_at_call 13; refine (alive_calls _).mono ?_; rintro e w1 ⟨rfl, hb1⟩; (first | (replace hB0 := Below.step hB0 hb1; clear hb1) | (have hB0 := hb1; clear hb1)))
        | (go_at_call 14; refine (hmany _ hB0).mono ?_; rintro e w2 ⟨rfl, hb1⟩; replace hB0 := Below.step hB0 hb1; clear hb1)
        | (go_at_call 23; refine (hsize _ hB0).mono ?_; rintro e w3 ⟨rfl, hb1⟩; replace hB0 := Below.step hB0 hb1; clear hb1))
      go_ret
      exact ⟨rfl, hB0⟩
  have hl2 := HM.out rfl
  clear HM
  go_enter Try.func5, Try.ntmps5
  go_wp2_with (first
    | (go_at_call 13; refine (alive_calls _).mono ?_; rintro e w1 ⟨rfl, hb1⟩; (first | (replace hB0 := Below.step hB0 hb1; clear hb1) | (have hB0 := hb1; clear hb1)))
    | (go_at_call 15; have hMA0 := hMA; refine (hputs _ hB0 hl2).mono ?_; rintro e w5 ⟨u2, rfl, hb1, hM1⟩; have hMB := hM1.lower hB0.size; have hAp := Apart.new (b' := 0) hMA hM1; replace hMA := hMA.below hb1; clear hM1 hMA0; replace hB0 := Below.step hB0 hb1; clear hb1)
    | (go_at_call 15; refine (hputs _ hB0 hl2).mono ?_; rintro e w4 ⟨u1, rfl, hb1, hM1⟩; have hMA := hM1.lower hB0.size; clear hM1; replace hB0 := Below.step hB0 hb1; clear hb1)
    | (go_at_call 14; refine (hmany _ hB0).mono ?_; rintro e w2 ⟨rfl, hb1⟩; replace hB0 := Below.step hB0 hb1; clear hb1)
    | (go_at_call 23; refine (hsize _ hB0).mono ?_; rintro e w3 ⟨rfl, hb1⟩; replace hB0 := Below.step hB0 hb1; clear hb1))
  have hlm := putAll_length xs
  clear hmany hputs hsize hv hs hs'
  generalize putAll xs = m at *
  have hvo := fun (W : World) (hb : Below w.heap.size w W) => hvc.below hb
  go_loopw [7, 8] (fun mv iv wr => ∃ k : Nat, k ≤ cs.length ∧ iv = .int .i64 k ∧ mv = .bool ((cs.take k).all okChange) ∧ Below w5.heap.size w5 wr) (fun _ iv _ => cs.length - (intOf iv).toNat)
  case atStart => exact ⟨0, Nat.zero_le _, rfl, by simp, Below.refl _ _⟩
  case round =>
    obtain ⟨k, hkx, rfl, rfl, hb⟩ := hrel
    by_cases hlt : k < cs.length
    · have hsn := all_snoc cs k _ (List.getElem?_eq_getElem hlt) okChange
      have hsx := hcs' cs[k] (List.getElem_mem _)
      obtain ⟨b, o, rfl, hx1, hx2, hx3⟩ := (hvo _ (hB0.trans (hb.mono hB0.size))).change (List.getElem?_eq_getElem hlt)
      generalize cs[k] = x at *
      have hck := fun W => check_calls x.k W (by omega)
      unfold okChange at hsn
      have HS := Lib.hid hsn
      clear hsn hMA hMB hAp hvo
      obtain ⟨xk, xv, xg⟩ := x
      simp only at hck hx1 hx2 hx3 HS
      change Hid (((cs.take (k + 1)).all okChange) = ((cs.take k).all okChange && _)) at HS
      generalize (cs.take k).all okChange = fm at *
      generalize okKey xk = ok at *
      have hz : ∀ W2, Below wr.heap.size wr W2 → W2.cell? ⟨b, o + k * 3 + 1, none⟩ = some (.int .u32 xv) ∧ W2.cell? ⟨b, o + k * 3 + 2, none⟩ = some (.bool xg) := fun W2 h => ⟨Below.cell_some h hx2, Below.cell_some h hx3⟩
      by_cases hv0 : xv = 0
      · subst hv0
        cases fm <;> cases ok <;> cases xg
        all_goals
          go_wp2_with (go_at_call 16; refine (hck _).mono ?_; rintro e w9 ⟨rfl, hb5⟩; obtain ⟨hz1, hz2⟩ := hz _ hb5; replace hb := Below.step hb hb5; clear hb5 hx2 hx3 hz)
          go_roundw
          case rel => exact ⟨k + 1, by omega, by go_num, by rw [HS.out]; rfl, hb⟩
          case measure => simp [intOf]; omega
      · cases fm <;> cases ok <;> cases xg
        all_goals
          go_wp2_with (go_at_call 16; refine (hck _).mono ?_; rintro e w9 ⟨rfl, hb5⟩; obtain ⟨hz1, hz2⟩ := hz _ hb5; replace hb := Below.step hb hb5; clear hb5 hx2 hx3 hz)
          go_roundw
          case rel => exact ⟨k + 1, by omega, by go_num, by rw [HS.out]; simp [hv0], hb⟩
          case measure => simp [intOf]; omega
    · have hck : cs.take k = cs := List.take_of_length_le (by omega)
      rw [hck]
      replace hMA := hMA.below hb
      replace hMB := hMB.below hb
      replace hB0 := hB0.trans (hb.mono hB0.size)
      have hch := change_calls hMA (hMA.rdOff hB0 hvc change_len (by decide)) (by omega) (fun c hc => by have := hcs' c hc; omega)
      generalize hall : cs.all okChange = ba at *
      cases ba with
      | false =>
        simp only [Bool.false_eq_true, ↓reduceIte] at hch
        clear hb hvo hvc hcs hcs'
        go_wp2_with (first
          | (go_at_call 24; refine hch.mono ?_; rintro e w9 ⟨u5, rfl, hM5, s5⟩; obtain ⟨hAp5, hMB5⟩ := hAp.step hMB s5; have hB5 := hB0.trans (s5.below hMA); have hra := rows_calls hM5 (by omega); clear hch hMA hMB hAp s5 hAp5)
          | (go_at_call 18; refine hra.mono ?_; rintro e w6 ⟨v6, rfl, hb6, own6⟩; have hrb := rows_calls (hMB5.below hb6) (by omega); have hr6 := own6.rd row_len; obtain ⟨A6, c6, rfl, _, _⟩ := own6.slice; replace hB5 := Below.step hB5 hb6; clear hra hb6 own6)
          | (go_at_call 18; refine hrb.mono ?_; rintro e w7 ⟨v7, rfl, hb7, own7⟩; have hsame := sameRows_calls _ v7 m m w7 (hr6.below hb7) (own7.rd row_len); rw [decide_eq_true rfl] at hsame; obtain ⟨A7, c7, rfl, _, _⟩ := own7.slice; replace hB5 := Below.step hB5 hb7; clear hrb hb7 own7 hr6)
          | (go_at_call 21; refine hsame.mono ?_; rintro e w8 ⟨rfl, hb8⟩; replace hB5 := Below.step hB5 hb8; clear hsame hb8))
        go_ret
        exact ⟨rfl, hB5⟩
      | true =>
        simp only [↓reduceIte] at hch
        go_wp2_with (go_at_call 24; refine hch.mono ?_; rintro e w9 ⟨u5, rfl, hM5, s5⟩; obtain ⟨hAp5, hMB5⟩ := hAp.step hMB s5; have hB5 := hB0.trans (s5.below hMA); clear hch hMA hMB hAp s5)
        clear hb hB0
        go_loopw [10] (fun iv wr => ∃ (k : Nat) (uB : Value), k ≤ cs.length ∧ iv = .int .i64 k ∧ MapAt w.heap.size wr w3.heap.size u5 (doCs cs m) ∧ MapAt w.heap.size wr w4.heap.size uB (doCs (cs.take k) m) ∧ Apart w3.heap.size u5 w4.heap.size uB ∧ Below w.heap.size w wr) (fun iv _ => cs.length - (intOf iv).toNat)
        case atStart => exact ⟨0, _, Nat.zero_le _, rfl, hM5, hMB5, hAp5, hB5⟩
        case round =>
          clear hM5 hMB5 hAp5 hB5
          obtain ⟨k, uB, hkx, rfl, hMA, hMB, hAp, hB⟩ := hrel
          by_cases hlt : k < cs.length
          · have hsn := doCs_snoc cs k _ (List.getElem?_eq_getElem hlt) m
            have hsx := hcs' cs[k] (List.getElem_mem _)
            have hokx := List.all_eq_true.1 hall cs[k] (List.getElem_mem _)
            have hlen := doCs_length (cs.take k) m
            rw [List.length_take] at hlen
            obtain ⟨b, o, rfl, hx1, hx2, hx3⟩ := (hvo _ hB).change (List.getElem?_eq_getElem hlt)
            generalize cs[k] = x at *
            obtain ⟨xk, xv, xg⟩ := x
            unfold okChange at hokx
            simp only [Bool.and_eq_true] at hokx
            have hok := hokx.1
            simp only at hsx hx1 hx2 hx3
            unfold doC at hsn
            simp only at hsn
            clear hvo hall hcs hcs' hvc hokx
            cases xg with
            | true =>
              simp only [↓reduceIte] at hsn
              have hdel := del_calls hMB (by omega) xk (by omega)
              rw [hok] at hdel
              simp only [↓reduceIte] at hdel
              have HS := Lib.hid hsn
              clear hsn hok
              generalize (getL xk (doCs (cs.take k) m)).isSome = fd at *
              cases fd
              all_goals
                simp only [↓reduceIte, Bool.false_eq_true] at hdel
                go_wp2_with (go_at_call 25; refine hdel.mono ?_; rintro e w6 ⟨u6, rfl, hM6, s6⟩; clear hdel hx1 hx2 hx3)
                go_roundw
                case rel =>
                  obtain ⟨hA6, hMA6⟩ := hAp.symm.step hMA s6
                  exact ⟨k + 1, u6, by omega, by go_num, hMA6, by rw [HS.out]; exact hM6, hA6.symm, hB.trans (s6.below hMB)⟩
                case measure => simp [intOf]; omega
            | false =>
              simp only [Bool.false_eq_true, ↓reduceIte] at hsn
              have hput := fun W (h : Below wr.heap.size wr W) => put_calls (hMB.below h) (by omega) xk xv (by omega)
              rw [hok] at hput
              simp only [↓reduceIte] at hput
              have HS := Lib.hid hsn
              clear hsn hok
              go_wp2
              go_still_tail 11, (by kernel_rfl)
              change wpList _ _ _ _ _ wr.drew
              generalize hw2 : wr.drew = w2d
              have hbd : Below wr.heap.size wr w2d := by rw [← hw2]; exact (Below.refl _ wr).drew
              clear hw2 hx1 hx2 hx3
              go_wp2_with (go_at_call 26; refine (hput _ hbd).mono ?_; rintro e w6 ⟨u6, rfl, hM6, s6⟩; clear hput)
              go_roundw
              case rel =>
                have s6' := (Step.of_below hbd w4.heap.size uB).trans s6
                obtain ⟨hA6, hMA6⟩ := hAp.symm.step hMA s6'
                exact ⟨k + 1, u6, by omega, by go_num, hMA6, by rw [HS.out]; exact hM6, hA6.symm, hB.trans (s6'.below hMB)⟩
              case measure => simp [intOf]; omega
          · have hck : cs.take k = cs := List.take_of_length_le (by omega)
            rw [hck] at hMB
            have hlen := doCs_length cs m
            have hra := rows_calls hMA (by omega)
            generalize doCs cs m = mm at *
            clear hvo hvc hcs hcs' hall hck
            go_wp2_with (first
              | (go_at_call 18; refine hra.mono ?_; rintro e w6 ⟨v6, rfl, hb6, own6⟩; have hrb := rows_calls (hMB.below hb6) (by omega); have hr6 := own6.rd row_len; obtain ⟨A6, c6, rfl, _, _⟩ := own6.slice; replace hB := Below.step hB hb6; clear hra hb6 own6)
              | (go_at_call 18; refine hrb.mono ?_; rintro e w7 ⟨v7, rfl, hb7, own7⟩; have hsame := sameRows_calls _ v7 mm mm w7 (hr6.below hb7) (own7.rd row_len); rw [decide_eq_true rfl] at hsame; obtain ⟨A7, c7, rfl, _, _⟩ := own7.slice; replace hB := Below.step hB hb7; clear hrb hb7 own7 hr6)
              | (go_at_call 21; refine hsame.mono ?_; rintro e w8 ⟨rfl, hb8⟩; replace hB := Below.step hB hb8; clear hsame hb8))
            go_ret
            exact ⟨rfl, hB⟩

end Go.Proofs.Ytdegcencbbbghaa
