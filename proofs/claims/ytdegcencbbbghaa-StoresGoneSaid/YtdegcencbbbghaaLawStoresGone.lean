/-
  The law concordatlaw13.StoresGone: a row that is taken away is not there, all others are; taken away again it is none; put again it is there. No condition.
-/
import Derived.Test.YtdegcencbbbghaaGoneP
set_option linter.unusedVariables false
set_option linter.unusedSimpArgs false
namespace Go.Proofs.Ytdegcencbbbghaa
open Go.RowKit Go.Shelf

set_option maxHeartbeats 2000000 in
set_option maxRecDepth 100000 in
theorem storesGone_walk (v : Value) (xs : List Row) (x : Row) (w : World) (hv : Rd Row.enc 2 w v xs) (hlen : xs.length * 24 ≤ 140737488351232) (hs : ∀ x ∈ xs, x.ok) (hx : x.ok) :
    Calls Try.prog 6 #[v, .agg #[.string x.k, .int .u32 x.v]] w fun e w' => e = .returned (.bool true) ∧ Below w.heap.size w w' := by
  obtain ⟨xk, xv⟩ := x
  have hk := hx.1
  unfold small at hk
  simp only at hk ⊢
  clear hx
  have hs' : ∀ x ∈ xs, x.k.size ≤ 140737488351232 := fun x hx => (hs x hx).1
  obtain ⟨W, hW⟩ : ∃ W, W = w.alloc (.cells #[.string xk, .int .u32 xv] 29) := ⟨_, rfl⟩
  have hB0 : Below w.heap.size w W := by rw [hW]; exact (Below.refl _ _).alloc (Nat.le_refl _) _
  have c0 : W.cell? ⟨w.heap.size, 0, none⟩ = some (.string xk) := by rw [hW]; simp
  have c1 : W.cell? ⟨w.heap.size, 1, none⟩ = some (.int .u32 xv) := by rw [hW]; simp
  have hWs : W.heap.size = w.heap.size + 1 := by rw [hW]; simp
  have HW := Lib.hid hW
  clear hW
  have hmany := fun (W : World) (hb : Below w.heap.size w W) => many_calls v xs W (hv.below hb) (by omega) hs'
  have hputs := fun (W : World) (hb : Below w.heap.size w W) (hl : xs.length ≤ 200) => puts_calls v xs W (hv.below hb) (by omega) hs'
  have hcheck := fun W => check_calls xk W (by omega)
  obtain ⟨A, c, rfl, hlc, hc⟩ := hv.shape
  have hm1 : manyL xs = false → xs.length ≤ 200 := fun h => by
    unfold manyL at h
    simp only [Bool.or_eq_false_iff, decide_eq_false_iff_not] at h
    omega
  have HM := Lib.hid hm1
  clear hm1
  generalize manyL xs = b at *
  generalize hokk : okKey xk = ok at *
  go_enter Try.func6, Try.ntmps6
  go_wp2_with fail
  rw [← HW.out]
  clear HW
  refine (alive_calls _).mono ?_
  rintro e w1 ⟨rfl, hb1⟩
  replace c0 := Below.cell_some hb1 c0; replace c1 := Below.cell_some hb1 c1
  replace hB0 := Below.step hB0 hb1
  have hsz1 : w.heap.size < w1.heap.size := by have := hb1.size; omega
  clear hb1 hWs
  have hbig : b = true ∨ (b = false ∧ ok = false) ∨ (b = false ∧ ok = true) := by cases b <;> cases ok <;> simp
  rcases hbig with rfl | ⟨rfl, rfl⟩ | ⟨rfl, rfl⟩
  iterate 2
    · clear hputs
      go_wp2_with (first | (go_at_call 14; refine (hmany _ hB0).mono ?_; rintro e w2 ⟨rfl, hb1⟩; replace hB0 := Below.step hB0 hb1; replace c0 := Below.cell_some hb1 c0; clear hb1) | (go_at_call 16; refine (hcheck _).mono ?_; rintro e w2 ⟨rfl, hb1⟩; replace hB0 := Below.step hB0 hb1; clear hb1) | (go_at_call 13; refine (alive_calls _).mono ?_; rintro e w3 ⟨rfl, hb1⟩; replace hB0 := Below.step hB0 hb1; clear hb1))
      go_ret
      exact ⟨rfl, hB0⟩
  have hl2 := HM.out rfl
  clear HM
  go_wp2_with (first
    | (go_at_call 14; refine (hmany _ hB0).mono ?_; rintro e w2 ⟨rfl, hb1⟩; replace hB0 := Below.step hB0 hb1; replace c0 := Below.cell_some hb1 c0; replace c1 := Below.cell_some hb1 c1; replace hsz1 := Nat.lt_of_lt_of_le hsz1 hb1.size; clear hb1)
    | (go_at_call 16; refine (hcheck _).mono ?_; rintro e w3 ⟨rfl, hb1⟩; replace hB0 := Below.step hB0 hb1; replace c0 := Below.cell_some hb1 c0; replace c1 := Below.cell_some hb1 c1; replace hsz1 := Nat.lt_of_lt_of_le hsz1 hb1.size; clear hb1)
    | (go_at_call 15; refine (hputs _ hB0 hl2).mono ?_; rintro e w4 ⟨u, rfl, hb1, hM⟩; replace hB0 := Below.step hB0 hb1; replace c0 := Below.cell_some hb1 c0; replace c1 := Below.cell_some hb1 c1; have hlm := putAll_length xs; generalize putAll xs = m at *; have hrowsc := rows_calls hM (by omega); clear hb1 hputs hmany)
    | (go_at_call 18; refine hrowsc.mono ?_; rintro e w5 ⟨v5, rfl, hb5, own5⟩; have hr5 := Own.rdOff row_len hM hb5 own5; obtain ⟨A5, c5, rfl, hlc5, hc5⟩ := own5.slice; replace hM := hM.below hb5; replace hB0 := Below.step hB0 hb5; replace c0 := Below.cell_some hb5 c0; replace c1 := Below.cell_some hb5 c1; have hg1 := get_calls hM (by omega) xk; clear hb5 own5 hrowsc)
    | (go_at_call 17; refine hg1.mono ?_; rintro e w6 ⟨rfl, hb6⟩; replace hM := hM.below hb6; replace hr5 := hr5.below hb6; replace hB0 := Below.step hB0 hb6; replace c0 := Below.cell_some hb6 c0; replace c1 := Below.cell_some hb6 c1; have hd1 := del_calls hM (by omega) xk (by omega); clear hb6 hg1))
  have hnone : getL xk (delL xk m) = none := by rw [getL_del xk xk hM.rise, if_pos rfl]
  have hdn := del_none xk _ hnone
  have hbut := delL_but xk m hM.rise
  have hdl := delL_length xk m
  simp only [hokk, ↓reduceIte] at hd1
  generalize delL xk m = m1 at *
  generalize (getL xk m).isSome = th at *
  generalize (getL xk m).getD 0 = wn at *
  refine hd1.mono ?_
  rintro e w7 ⟨u7, rfl, hM7, s7⟩
  have hb7 := s7.below hM
  replace c0 := (hb7.cell (p := ⟨w.heap.size, 0, none⟩) hsz1).trans c0
  replace c1 := (hb7.cell (p := ⟨w.heap.size, 1, none⟩) hsz1).trans c1
  replace hB0 := hB0.trans (hb7.mono (Nat.le_of_lt hsz1))
  replace hr5 := hr5.step s7
  have hg7 := get_calls hM7 (by omega) xk
  rw [hnone] at hg7
  have HN := Lib.hid hnone
  have HD := Lib.hid hdn
  have HBT := Lib.hid hbut
  clear hd1 hM s7 hb7 hnone hdn hbut hs hs' hv hcheck
  have hdel := fun W (h : Below w7.heap.size w7 W) => del_calls (hM7.below h) (by omega) xk (by omega)
  rw [HN.out, HD.out, hokk] at hdel
  simp only [↓reduceIte, Option.isSome_none, Bool.false_eq_true] at hdel
  have hend : ∀ (w8 : World) (u8 : Value), MapAt w3.heap.size w8 w3.heap.size u8 m1 → RdOff Row.enc 2 w8 w3.heap.size u8 (.slice A5 m.length c5) m → True := fun _ _ _ _ => trivial
  cases th
  all_goals
    simp only [↓reduceIte, Bool.false_eq_true]
    go_wp2_with (first
      | (go_at_call 17; refine hg7.mono ?_; rintro e w8 ⟨rfl, hb8⟩; have hbk := hb8; replace hB0 := Below.step hB0 hb8; replace c0 := Below.cell_some hb8 c0; replace c1 := Below.cell_some hb8 c1; clear hb8 hg7)
      | (go_at_call 25; refine (hdel _ hbk).mono ?_; rintro e w9 ⟨u9, rfl, hM9, s9⟩; have hb9 := s9.below (hM7.below hbk); replace c0 := (hb9.cell (p := ⟨w.heap.size, 0, none⟩) hsz1).trans c0; replace c1 := (hb9.cell (p := ⟨w.heap.size, 1, none⟩) hsz1).trans c1; replace hB0 := hB0.trans (hb9.mono (Nat.le_of_lt hsz1)); have hr9 := ((hr5.below hbk).step s9).1; clear hdel hM7 hr5 s9 hbk hb9))
    go_loopw [12, 13] (fun wv iv wr => ∃ k : Nat, k ≤ m.length ∧ iv = .int .i64 k ∧ Own Row.enc 2 29 w9.heap.size wr wv (butL xk (m.take k)) ∧ Below w9.heap.size w9 wr) (fun _ iv _ => m.length - (intOf iv).toNat)
    case atStart => exact ⟨0, Nat.zero_le _, rfl, by simpa [butL] using _root_.Go.Proofs.Ytdegcencbbbghaa.Own.nil Row.enc 2 29 _ _, Below.refl _ _⟩
    case round =>
      obtain ⟨k, hkx, rfl, hown, hb⟩ := hrel
      have c0' := Below.cell_some hb c0; have c1' := Below.cell_some hb c1
      by_cases hlt : k < m.length
      · have hsn := but_snoc xk m k _ (List.getElem?_eq_getElem hlt)
        have hFl : (butL xk (m.take k)).length ≤ 200 := by
          have h1 : (butL xk (m.take k)).length ≤ (m.take k).length := List.length_filter_le _ _
          rw [List.length_take] at h1
          omega
        obtain ⟨b, o, rfl, hx1, hx2⟩ := (hr9.below hb).row (List.getElem?_eq_getElem hlt)
        generalize m[k] = x at *
        generalize butL xk (m.take k) = F at *
        obtain ⟨A8, c8, rfl, hlc8, hc8⟩ := hown.slice
        have hz : ∀ W2, Below wr.heap.size wr W2 → W2.cell? ⟨b, o + k * 2, none⟩ = some (.string x.k) ∧ W2.cell? ⟨b, o + k * 2 + 1, none⟩ = some (.int .u32 x.v) := fun W2 h => ⟨Below.cell_some h hx1, Below.cell_some h hx2⟩
        replace hx1 := fun p : Later wr => Later.cell p hx1; replace hx2 := fun p : Later wr => Later.cell p hx2
        replace c0' := fun p : Later wr => Later.cell p c0'; replace c1' := fun p : Later wr => Later.cell p c1'
        by_cases hxk : x.k = xk
        · rw [if_pos hxk] at hsn
          have HS := Lib.hid hsn
          have hxd : decide (x.k = xk) = true := decide_eq_true hxk
          have HX := Lib.hid hxk
          clear hsn hxk
          go_wp2
          refine wp_region_later (by kernel_rfl) (by kernel_rfl) ?_
          repeat (go_big_quiet_step (fail))
          refine wpQuiet_nil ?_
          rintro W2 ⟨⟨_, hb2⟩, rfl⟩
          clear hx1 hx2 c0' c1' hz
          go_wp2
          go_roundw
          case rel => exact ⟨k + 1, by omega, by go_num, by rw [HS.out]; exact hown.below hb2, Below.step hb hb2⟩
          case measure => simp [intOf]; omega
        · rw [if_neg hxk] at hsn
          have HS := Lib.hid hsn
          have hxd : decide (x.k = xk) = false := decide_eq_false hxk
          have HX := Lib.hid hxk
          clear hsn hxk
          go_wp2
          refine wp_region_later (by kernel_rfl) (by kernel_rfl) ?_
          repeat (go_big_quiet_step (fail))
          refine wpQuiet_nil ?_
          rintro W2 ⟨⟨_, hb2⟩, rfl⟩
          obtain ⟨hz1, hz2⟩ := hz W2 hb2
          have hown2 := hown.below hb2
          have hbb := Below.step hb hb2
          have hsz := hbb.size
          clear hx1 hx2 c0' c1' hz
          go_wp2_with (at_builtin; refine append_one Row.enc 2 29 22 24 _ w9.heap.size _ _ x rfl _ _ rfl under_rows info_rowi rfl (by decide) (by decide) row_len row_one rfl rfl hown2 hbb hsz (by omega) ?_; intro v' w' hown' hb' hgr hat; clear hgr hat hz1 hz2)
          go_roundw
          case rel => exact ⟨k + 1, by omega, by go_num, by rw [HS.out]; exact hown', hb'⟩
          case measure => simp [intOf]; omega
      · have hmk : m.take k = m := List.take_of_length_le (by omega)
        rw [hmk, ← HBT.out] at hown
        have hMr := hM9.below hb
        have hF := hown.rd row_len
        obtain ⟨A8, c8, rfl, hlc8, hc8⟩ := hown.slice
        have hrows := rows_calls hMr (by omega)
        have hB1 := hB0.trans (hb.mono hB0.size)
        have hpl := putL_new_length (v := xv) hMr.rise HN.out
        have hgp := getL_put xk xv xk m1
        rw [if_pos rfl] at hgp
        clear hr9 hown hM9 hb
        go_wp2_with (first
          | (go_at_call 18; refine hrows.mono ?_; rintro e wa ⟨va, rfl, hba, owna⟩; clear hrows; have hsame := sameRows_calls va _ m1 m1 wa (owna.rd row_len) (hF.below hba); rw [decide_eq_true rfl] at hsame; obtain ⟨Aa, ca, rfl, _, _⟩ := owna.slice; replace hB1 := Below.step hB1 hba; replace hMr := hMr.below hba; replace c0' := Below.cell_some hba c0'; replace c1' := Below.cell_some hba c1'; clear hba owna hF)
          | (go_at_call 21; refine hsame.mono ?_; rintro e wb ⟨rfl, hbb⟩; replace hB1 := Below.step hB1 hbb; replace hMr := hMr.below hbb; replace c0' := Below.cell_some hbb c0'; replace c1' := Below.cell_some hbb c1'; have hput := put_calls hMr (by omega) xk xv (by omega); rw [hokk] at hput; simp only [↓reduceIte] at hput; clear hsame hbb)
          | (go_at_call 26; refine hput.mono ?_; rintro e wc ⟨uc, rfl, hMc, sc⟩; have hbc := sc.below hMr; replace c0' := (hbc.cell (p := ⟨w.heap.size, 0, none⟩) hsz1).trans c0'; replace c1' := (hbc.cell (p := ⟨w.heap.size, 1, none⟩) hsz1).trans c1'; replace hB1 := hB1.trans (hbc.mono (Nat.le_of_lt hsz1)); have hgc := get_calls hMc (by omega) xk; rw [hgp] at hgc; clear hput hMr sc hbc)
          | (go_at_call 17; refine hgc.mono ?_; rintro e wd ⟨rfl, hbd⟩; replace hB1 := Below.step hB1 hbd; replace c1' := Below.cell_some hbd c1'; have hrows2 := rows_calls (hMc.below hbd) (by omega); clear hgc hbd hMc)
          | (go_at_call 18; refine hrows2.mono ?_; rintro e we ⟨ve, rfl, hbe, owne⟩; obtain ⟨Ae, ce, rfl, _, _⟩ := owne.slice; replace hB1 := Below.step hB1 hbe; clear hrows2 hbe owne))
        go_ret
        exact ⟨ret_bool (by simp [hpl]), hB1⟩

end Go.Proofs.Ytdegcencbbbghaa
