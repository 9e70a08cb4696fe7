/-
  The law concordatlaw13.StoresScan: what is scanned are those of all rows that are in the span, in order, the first ones, as many as there may be. No condition.
-/
import Derived.Test.YtdegcencbbbghaaAlive
set_option linter.unusedVariables false
set_option linter.unusedSimpArgs false
namespace Go.Proofs.Ytdegcencbbbghaa
open Go.RowKit Go.Shelf

set_option maxHeartbeats 4000000 in
set_option maxRecDepth 100000 in
theorem storesScan_walk (v : Value) (xs : List Row) (s : Span) (most : Int) (w : World) (hv : Rd Row.enc 2 w v xs) (hlen : xs.length * 24 ≤ 140737488351232) (hs : ∀ x ∈ xs, x.ok) (hk : s.ok) :
    Calls Try.prog 4 #[v, .agg #[.string s.f, .string s.t], .int .i64 most] w fun e w' => e = .returned (.bool true) ∧ Below w.heap.size w w' := by
  obtain ⟨f, t⟩ := s
  obtain ⟨hk1, hk2⟩ := hk
  unfold small at hk1 hk2
  simp only at hk1 hk2 ⊢
  have hs' : ∀ x ∈ xs, x.k.size ≤ 140737488351232 := fun x hx => (hs x hx).1
  obtain ⟨W, hW⟩ : ∃ W, W = w.alloc (.cells #[.string f, .string t] 37) := ⟨_, rfl⟩
  have hB0 : Below w.heap.size w W := by rw [hW]; exact (Below.refl _ _).alloc (Nat.le_refl _) _
  have c0 : W.cell? ⟨w.heap.size, 0, none⟩ = some (.string f) := by rw [hW]; simp
  have c1 : W.cell? ⟨w.heap.size, 1, none⟩ = some (.string t) := by rw [hW]; simp
  have HW := Lib.hid hW
  clear hW
  have hmany := fun (W : World) (hb : Below w.heap.size w W) => many_calls v xs W (hv.below hb) (by omega) hs'
  have hputs := fun (W : World) (hb : Below w.heap.size w W) (hl : xs.length ≤ 200) => puts_calls v xs W (hv.below hb) (by omega) hs'
  obtain ⟨A, c, rfl, hlc, hc⟩ := hv.shape
  have hm1 : manyL xs = false → xs.length ≤ 200 := fun h => by
    unfold manyL at h
    simp only [Bool.or_eq_false_iff, decide_eq_false_iff_not] at h
    omega
  have HM := Lib.hid hm1
  clear hm1
  generalize manyL xs = b at *
  go_enter Try.func4, Try.ntmps4
  go_wp2_with fail
  rw [← HW.out]
  clear HW
  refine (alive_calls _).mono ?_
  rintro e w1 ⟨rfl, hb1⟩
  replace c0 := Below.cell_some hb1 c0; replace c1 := Below.cell_some hb1 c1
  replace hB0 := Below.step hB0 hb1
  clear hb1
  cases b with
  | true =>
    clear hputs
    go_wp2_with (first | (go_at_call 14; refine (hmany _ hB0).mono ?_; rintro e w2 ⟨rfl, hb1⟩; replace hB0 := Below.step hB0 hb1; clear hb1) | (go_at_call 13; refine (alive_calls _).mono ?_; rintro e w3 ⟨rfl, hb1⟩; replace hB0 := Below.step hB0 hb1; clear hb1))
    go_ret
    exact ⟨rfl, hB0⟩
  | false =>
    have hl2 := HM.out rfl
    clear HM
    by_cases hkl : f.size + t.size > 1000
    · clear hputs
      go_wp2_with (first | (go_at_call 14; refine (hmany _ hB0).mono ?_; rintro e w2 ⟨rfl, hb1⟩; replace hB0 := Below.step hB0 hb1; replace c0 := Below.cell_some hb1 c0; replace c1 := Below.cell_some hb1 c1; clear hb1) | (go_at_call 13; refine (alive_calls _).mono ?_; rintro e w3 ⟨rfl, hb1⟩; replace hB0 := Below.step hB0 hb1; clear hb1))
      go_ret
      exact ⟨rfl, hB0⟩
    · go_wp2_with (first
        | (go_at_call 14; refine (hmany _ hB0).mono ?_; rintro e w2 ⟨rfl, hb1⟩; replace hB0 := Below.step hB0 hb1; replace c0 := Below.cell_some hb1 c0; replace c1 := Below.cell_some hb1 c1; clear hb1)
        | (go_at_call 15; refine (hputs _ hB0 hl2).mono ?_; rintro e w3 ⟨u, rfl, hb1, hM⟩; replace hB0 := Below.step hB0 hb1; replace c0 := Below.cell_some hb1 c0; replace c1 := Below.cell_some hb1 c1; clear hb1; have hrowsc := rows_calls hM (Nat.le_trans (putAll_length xs) (by omega)))
        | (go_at_call 18; refine hrowsc.mono ?_; rintro e w5 ⟨v5, rfl, hb5, own5⟩; have hr5 := own5.rd row_len; obtain ⟨A5, c5, rfl, hlc5, hc5⟩ := own5.slice; replace hB0 := Below.step hB0 hb5; replace c0 := Below.cell_some hb5 c0; replace c1 := Below.cell_some hb5 c1; replace hM := hM.below hb5; clear hb5 own5 hrowsc))
      have hal := putAll_ok xs
      have hlm := putAll_length xs
      have hscan := fun (W : World) (hb : Below w5.heap.size w5 W) (n : Int) (f t : ByteArray) => scan_calls (hM.below hb) (by omega) f t n
      have hall := rowsIn_all hal
      have hsnoc := fun k x (h : (putAll xs)[k]? = some x) => rowsIn_snoc f t most.toNat (putAll xs) k x h
      clear hmany hputs hv hs hs' hal hM
      generalize putAll xs = m at *
      have HS := Lib.hid hsnoc
      have HL := Lib.hid hall
      clear hsnoc hall
      have hlm2 : m.length ≤ 200 := by omega
      go_loopw [8, 10] (fun wv iv wr => ∃ k : Nat, k ≤ m.length ∧ iv = .int .i64 k ∧ Own Row.enc 2 29 w5.heap.size wr wv ((rowsIn f t (m.take k)).take most.toNat) ∧ Below w5.heap.size w5 wr) (fun _ iv _ => m.length - (intOf iv).toNat)
      case atStart => exact ⟨0, Nat.zero_le _, rfl, by simpa [rowsIn] using Own.nil Row.enc 2 29 _ _, Below.refl _ _⟩
      case round =>
        obtain ⟨k, hkx, rfl, hown, hb⟩ := hrel
        have c0' := Below.cell_some hb c0; have c1' := Below.cell_some hb c1
        by_cases hlt : k < m.length
        · have hsn := HS.out k _ (List.getElem?_eq_getElem hlt)
          have hFl : ((rowsIn f t (m.take k)).take most.toNat).length ≤ 200 := by
            rw [List.length_take]
            have h1 : (rowsIn f t (m.take k)).length ≤ (m.take k).length := List.length_filter_le _ _
            rw [List.length_take] at h1
            omega
          obtain ⟨b, o, rfl, hx1, hx2⟩ := (hr5.below hb).row (List.getElem?_eq_getElem hlt)
          generalize m[k] = x at *
          generalize (rowsIn f t (m.take k)).take most.toNat = F at *
          obtain ⟨A8, c8, rfl, hlc8, hc8⟩ := hown.slice
          have hz : ∀ W2, Below wr.heap.size wr W2 → W2.cell? ⟨b, o + k * 2, none⟩ = some (.string x.k) ∧ W2.cell? ⟨b, o + k * 2 + 1, none⟩ = some (.int .u32 x.v) := fun W2 h => ⟨Below.cell_some h hx1, Below.cell_some h hx2⟩
          replace hx1 := fun p : Later wr => Later.cell p hx1; replace hx2 := fun p : Later wr => Later.cell p hx2
          replace c0' := fun p : Later wr => Later.cell p c0'; replace c1' := fun p : Later wr => Later.cell p c1'
          have hin := fun (p : Later wr) => in_calls x.k f t p.val
          cases hsin : sin x.k f t with
          | true =>
            rw [hsin] at hin hsn
            by_cases hn : F.length < most.toNat
            · rw [if_pos ⟨rfl, hn⟩] at hsn
              have hnd : (F.length : Int) < most := by omega
              have hnt : decide ((F.length : Int) < most) = true := decide_eq_true hnd
              have HN := Lib.hid hsn
              clear hsn
              go_wp2
              refine wp_region_later (by kernel_rfl) (by kernel_rfl) ?_
              repeat (go_big_quiet_step ((go_at_call 20; exact Calls.later_same (hin _))))
              refine wpQuiet_nil ?_
              rintro W2 ⟨⟨_, hb2⟩, rfl⟩
              obtain ⟨hz1, hz2⟩ := hz W2 hb2
              have hown2 := hown.below hb2
              have hbb := Below.step hb hb2
              have hsz := hbb.size
              clear hx1 hx2 c0' c1' hin hz
              go_wp2_with (at_builtin; refine append_one Row.enc 2 29 22 24 _ w5.heap.size _ _ x rfl _ _ rfl under_rows info_rowi rfl (by decide) (by decide) row_len row_one rfl rfl hown2 hbb hsz (by omega) ?_; intro v' w' hown' hb' hgr hat; clear hgr hat hz1 hz2)
              go_roundw
              case rel => exact ⟨k + 1, by omega, by go_num, by rw [HN.out]; exact hown', hb'⟩
              case measure => simp [intOf]; omega
            · rw [if_neg (fun h => hn h.2)] at hsn
              have hnt : decide ((F.length : Int) < most) = false := decide_eq_false (by omega)
              have HN := Lib.hid hsn
              clear hsn
              go_wp2
              refine wp_region_later (by kernel_rfl) (by kernel_rfl) ?_
              repeat (go_big_quiet_step ((go_at_call 20; exact Calls.later_same (hin _))))
              refine wpQuiet_nil ?_
              rintro W2 ⟨⟨_, hb2⟩, rfl⟩
              clear hx1 hx2 c0' c1' hin hz
              go_wp2
              go_roundw
              case rel => exact ⟨k + 1, by omega, by go_num, by rw [HN.out]; exact hown.below hb2, Below.step hb hb2⟩
              case measure => simp [intOf]; omega
          | false =>
            rw [hsin] at hin hsn
            rw [if_neg (fun h => by cases h.1)] at hsn
            have HN := Lib.hid hsn
            clear hsn
            go_wp2
            refine wp_region_later (by kernel_rfl) (by kernel_rfl) ?_
            repeat (go_big_quiet_step ((go_at_call 20; exact Calls.later_same (hin _))))
            refine wpQuiet_nil ?_
            rintro W2 ⟨⟨_, hb2⟩, rfl⟩
            clear hx1 hx2 c0' c1' hin hz
            go_wp2
            go_roundw
            case rel => exact ⟨k + 1, by omega, by go_num, by rw [HN.out]; exact hown.below hb2, Below.step hb hb2⟩
            case measure => simp [intOf]; omega
        · have hmk : m.take k = m := List.take_of_length_le (by omega)
          rw [hmk] at hown
          have hs1 := hscan _ hb most f t
          have hs2 := fun W (h : Below w5.heap.size w5 W) => hscan _ h m.length ⟨#[]⟩ z17
          simp only [Int.toNat_natCast, HL.out, List.take_length] at hs2
          generalize (rowsIn f t m).take most.toNat = F at *
          have hF := hown.rd row_len
          have hm5 := hr5.below hb
          obtain ⟨A8, c8, rfl, hlc8, hc8⟩ := hown.slice
          clear hown hscan HS HL
          go_wp2_with (first
            | (go_at_call 22; refine hs1.mono ?_; rintro e w6 ⟨v6, rfl, hb6, own6⟩; clear hs1; have hsame := sameRows_calls v6 _ F F w6 (own6.rd row_len) (hF.below hb6); rw [decide_eq_true rfl] at hsame; obtain ⟨A6, c6, rfl, _, _⟩ := own6.slice; replace hb := Below.step hb hb6; replace hm5 := hm5.below hb6; clear hb6 own6 hF)
            | (go_at_call 21; refine hsame.mono ?_; rintro e w7 ⟨rfl, hb7⟩; clear hsame; replace hb := Below.step hb hb7; (try replace hm5 := hm5.below hb7); clear hb7)
            | (go_at_call 22; refine (hs2 _ hb).mono ?_; rintro e w8 ⟨v8, rfl, hb8, own8⟩; clear hs2; have hsame := sameRows_calls v8 _ m m w8 (own8.rd row_len) (hm5.below hb8); rw [decide_eq_true rfl] at hsame; obtain ⟨A9, c9, rfl, _, _⟩ := own8.slice; replace hb := Below.step hb hb8; clear hb8 own8))
          go_ret
          exact ⟨rfl, hB0.trans (hb.mono hB0.size)⟩

end Go.Proofs.Ytdegcencbbbghaa
