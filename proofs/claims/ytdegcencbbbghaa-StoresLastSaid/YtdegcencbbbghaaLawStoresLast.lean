/-
  The law concordatlaw13.StoresLast: what was put last of a key is got, and is among the rows, which rise, one of each key; what was not put is not there. No condition.
-/
import Derived.Test.YtdegcencbbbghaaAlive
set_option linter.unusedVariables false
set_option linter.unusedSimpArgs false
namespace Go.Proofs.Ytdegcencbbbghaa
open Go.RowKit Go.Shelf

theorem rising_at {m : List Row} (hr : Rising m) {j : Nat} {x y : Row} (hx : m[j]? = some x) (hy : m[j + 1]? = some y) : slt x.k y.k = true := by
  obtain ⟨h1, e1⟩ := List.getElem?_eq_some_iff.1 hx
  obtain ⟨h2, e2⟩ := List.getElem?_eq_some_iff.1 hy
  have := List.pairwise_iff_getElem.1 hr j (j + 1) h1 h2 (by omega)
  rwa [e1, e2] at this

theorem any_row {m : List Row} (hr : Rising m) (key : Str) : (m.any fun x => decide (x = ⟨key, (getL key m).getD 0⟩)) = (getL key m).isSome := by
  cases h : getL key m with
  | none =>
    rw [Option.getD_none, Option.isSome_none, Bool.eq_false_iff, Ne, List.any_eq_true]
    rintro ⟨x, hx, he⟩
    have he := of_decide_eq_true he
    exact getL_none.1 h x hx (by rw [he])
  | some u =>
    simp only [Option.getD_some, Option.isSome_some, List.any_eq_true]
    exact ⟨_, getL_mem h, by simp⟩

theorem any_snoc (m : List Row) (k : Nat) (x : Row) (h : m[k]? = some x) (p : Row → Bool) : (m.take (k + 1)).any p = ((m.take k).any p || p x) := by
  rw [List.take_add_one, h, List.any_append]
  simp

theorem okKey_size {s : Str} (h : okKey s = true) : s.size ≤ 16 := by
  unfold okKey at h
  simp only [Bool.and_eq_true, decide_eq_true_eq] at h
  exact h.1.2

set_option maxHeartbeats 4000000 in
set_option maxRecDepth 100000 in
theorem storesLast_walk (v : Value) (xs : List Row) (key : ByteArray) (w : World) (hv : Rd Row.enc 2 w v xs) (hlen : xs.length * 24 ≤ 140737488351232) (hs : ∀ x ∈ xs, x.ok) (hk : small key) :
    Calls Try.prog 3 #[v, .string key] w fun e w' => e = .returned (.bool true) ∧ Below w.heap.size w w' := by
  unfold small at hk
  have hs' : ∀ x ∈ xs, x.k.size ≤ 140737488351232 := fun x hx => (hs x hx).1
  have hmany := fun (W : World) (hb : Below w.heap.size w W) => many_calls v xs W (hv.below hb) (by omega) hs'
  have hputs := fun (W : World) (hb : Below w.heap.size w W) (hl : xs.length ≤ 200) => puts_calls v xs W (hv.below hb) (by omega) hs'
  have hcheck := fun W => check_calls key W (by omega)
  obtain ⟨A, c, rfl, hlc, hc⟩ := hv.shape
  have hm1 : manyL xs = false → xs.length ≤ 200 := fun h => by
    unfold manyL at h
    simp only [Bool.or_eq_false_iff, decide_eq_false_iff_not] at h
    omega
  have HM := Lib.hid hm1
  clear hm1
  generalize manyL xs = b at *
  cases b with
  | true =>
    clear hputs hcheck
    go_enter Try.func3, Try.ntmps3
    go_wp2_with (first | (go_at_call 13; refine (alive_calls _).mono ?_; rintro e w1 ⟨rfl, hb1⟩; (first | (have hB := Below.step hB0 hb1) | (have hB0 := hb1))) | (go_at_call 14; refine (hmany _ hB0).mono ?_; rintro e w1 ⟨rfl, hb1⟩; replace hB0 := Below.step hB0 hb1))
    go_ret
    exact ⟨rfl, hB⟩
  | false =>
    have hl2 := HM.out rfl
    clear HM
    by_cases hkl : key.size > 1000
    · clear hputs hcheck
      go_enter Try.func3, Try.ntmps3
      go_wp2_with (first | (go_at_call 13; refine (alive_calls _).mono ?_; rintro e w1 ⟨rfl, hb1⟩; (first | (have hB := Below.step hB0 hb1) | (have hB0 := hb1))) | (go_at_call 14; refine (hmany _ hB0).mono ?_; rintro e w1 ⟨rfl, hb1⟩; replace hB0 := Below.step hB0 hb1))
      go_ret
      exact ⟨rfl, hB⟩
    · go_enter Try.func3, Try.ntmps3
      go_wp2_with (first | (go_at_call 13; refine (alive_calls _).mono ?_; rintro e w1 ⟨rfl, hb1⟩; have hB0 := hb1; clear hb1) | (go_at_call 14; refine (hmany _ hB0).mono ?_; rintro e w2 ⟨rfl, hb1⟩; replace hB0 := Below.step hB0 hb1; clear hb1) | (go_at_call 15; refine (hputs _ hB0 hl2).mono ?_; rintro e w3 ⟨u, rfl, hb1, hM⟩; replace hB0 := Below.step hB0 hb1; clear hb1))
      have hal := putAll_ok xs
      have hany := any_row hM.rise key
      have hlm := putAll_length xs
      have hrs := hM.rise
      have hgetc := fun W (hb : Below w3.heap.size w3 W) => get_calls (hM.below hb) (by omega) key
      have hrowsc := fun W (hb : Below w3.heap.size w3 W) => rows_calls (hM.below hb) (by omega)
      clear hmany hputs
      go_loopw [6, 7, 8] (fun wv tv iv wr => ∃ k : Nat, k ≤ xs.length ∧ iv = .int .i64 k ∧ wv = .int .u32 ((getL key (putAll (xs.take k))).getD 0) ∧ tv = .bool (getL key (putAll (xs.take k))).isSome ∧ Below w3.heap.size w3 wr) (fun _ _ iv _ => xs.length - (intOf iv).toNat)
      case atStart => exact ⟨0, Nat.zero_le _, rfl, rfl, rfl, Below.refl _ _⟩
      case round =>
        obtain ⟨k, hkx, rfl, rfl, rfl, hb⟩ := hrel
        by_cases hlt : k < xs.length
        · have hsn := putAll_snoc xs k _ (List.getElem?_eq_getElem hlt)
          obtain ⟨b, o, rfl, hx1, hx2⟩ := (hv.below (hB0.trans (hb.mono hB0.size))).row (List.getElem?_eq_getElem hlt)
          generalize xs[k] = x at *
          have hg := getL_putR key (putAll (xs.take k)) x
          rw [← hsn] at hg
          clear hsn
          by_cases hxk : x.k = key
          · cases hok : okKey key with
            | true =>
              rw [if_pos ⟨by rw [hxk]; exact hok, hxk⟩] at hg
              have HG := Lib.hid hg
              rw [hok] at hcheck
              clear hg hal hany hrs
              go_wp2_with (go_at_call 16; refine (hcheck _).mono ?_; rintro e w4 ⟨rfl, hb4⟩; replace hx2 := Below.cell_some hb4 hx2)
              go_roundw
              case rel => exact ⟨k + 1, by omega, by go_num, by rw [HG.out]; rfl, by rw [HG.out]; rfl, Below.step hb hb4⟩
              case measure => simp [intOf]; omega
            | false =>
              rw [if_neg (fun h => by rw [hxk, hok] at h; cases h.1)] at hg
              have HG := Lib.hid hg
              rw [hok] at hcheck
              clear hg hal hany hrs
              go_wp2_with (go_at_call 16; refine (hcheck _).mono ?_; rintro e w4 ⟨rfl, hb4⟩)
              go_roundw
              case rel => exact ⟨k + 1, by omega, by go_num, by rw [HG.out], by rw [HG.out], Below.step hb hb4⟩
              case measure => simp [intOf]; omega
          · have hxd : decide (x.k = key) = false := by simp [hxk]
            rw [if_neg (fun h => hxk h.2)] at hg
            have HG := Lib.hid hg
            clear hg hal hany hrs
            go_wp2
            go_roundw
            case rel => exact ⟨k + 1, by omega, by go_num, by rw [HG.out], by rw [HG.out], hb⟩
            case measure => simp [intOf]; omega
        · rw [List.take_of_length_le (by omega)]
          generalize putAll xs = m at *
          generalize (getL key m).getD 0 = wn at *
          generalize (getL key m).isSome = tn at *
          have HA := Lib.hid hany
          clear hany hcheck hv hs hs'
          go_wp2_with (first
            | (go_at_call 17; refine (hgetc _ hb).mono ?_; rintro e w4 ⟨rfl, hb4⟩; replace hb := Below.step hb hb4; clear hb4)
            | (go_at_call 18; refine (hrowsc _ hb).mono ?_; rintro e w5 ⟨v5, rfl, hb5, own5⟩; have hr5 := own5.rd row_len; obtain ⟨A5, c5, rfl, hlc5, hc5⟩ := own5.slice; replace hb := Below.step hb hb5; clear hb5 own5))
          have hBw : Below w.heap.size w w5 := hB0.trans (hb.mono hB0.size)
          have heqg := eqg_row
          have heql := eql_row
          clear hb hB0 hM hgetc hrowsc
          go_loopw [12, 13] (fun fv iv wr => ∃ k : Nat, k ≤ m.length ∧ iv = .int .i64 k ∧ fv = .bool ((m.take k).any fun x => decide (x = ⟨key, wn⟩)) ∧ Below w5.heap.size w5 wr) (fun _ iv _ => m.length - (intOf iv).toNat)
          case atStart => exact ⟨0, Nat.zero_le _, rfl, by simp, Below.refl _ _⟩
          case round =>
            obtain ⟨k, hkx, rfl, rfl, hb⟩ := hrel
            by_cases hlt : k < m.length
            · have hsn := any_snoc m k _ (List.getElem?_eq_getElem hlt) (fun x => decide (x = ⟨key, wn⟩))
              have hrk : ∀ y, m[k]? = some y → okKey y.k = true := fun y hy => hal y (List.mem_of_getElem? hy)
              have hok := hrk _ (List.getElem?_eq_getElem hlt)
              obtain ⟨b, o, rfl, hx1, hx2⟩ := (hr5.below hb).row (List.getElem?_eq_getElem hlt)
              have hpv : ∀ j, k = j + 1 → ∃ y, wr.cell? ⟨b, o + j * 2, none⟩ = some (.string y) ∧ slt y m[k].k = true := fun j hj => by
                obtain ⟨b', o', e, h1, h2⟩ := (hr5.below hb).row (List.getElem?_eq_getElem (l := m) (i := j) (by omega))
                injection e with e
                injection e with e1 e2
                subst e1 e2
                exact ⟨_, h1, rising_at hrs (List.getElem?_eq_getElem (by omega)) (by subst hj; exact List.getElem?_eq_getElem hlt)⟩
              have hsz := okKey_size hok
              generalize m[k] = x at *
              have hck := fun W => check_calls x.k W (by omega)
              rw [hok] at hck
              rw [← row_eq_b] at hsn
              have HS := Lib.hid hsn
              clear hsn hrk hok hal hrs hr5
              have hy1 := hx1; have hy2 := hx2
              replace hx1 := fun p : Later wr => Later.cell p hx1; replace hx2 := fun p : Later wr => Later.cell p hx2
              generalize (m.take k).any (fun x => decide (x = ⟨key, wn⟩)) = fd at *
              have h2 : ∀ W2, Below wr.heap.size wr W2 → W2.cell? ⟨b, o + k * 2, none⟩ = some (.string x.k) ∧ W2.cell? ⟨b, o + k * 2 + 1, none⟩ = some (.int .u32 x.v) := fun W2 h => ⟨Below.cell_some h hy1, Below.cell_some h hy2⟩
              clear hy1 hy2
              rcases Nat.eq_zero_or_pos k with hk0 | hk0
              · have hgt : ¬ (0 : Int) < (k : Int) := by omega
                have hgd : decide ((0 : Int) < (k : Int)) = false := decide_eq_false hgt
                have hgn : decide (0 < k) = false := decide_eq_false (by omega)
                have HK := Lib.hid hk0
                clear hpv hk0 hgt
                cases fd
                · go_wp2
                  refine wp_region_later (by kernel_rfl) (by kernel_rfl) ?_
                  repeat (go_big_quiet_step ((go_at_call 16; exact Calls.later (hck _))))
                  refine wpQuiet_nil ?_
                  rintro W2 ⟨⟨_, hb2⟩, rfl⟩
                  obtain ⟨hz1, hz2⟩ := h2 W2 hb2
                  clear hx1 hx2
                  replace hz1 := fun p : Later W2 => Later.cell p hz1; replace hz2 := fun p : Later W2 => Later.cell p hz2
                  go_wp2
                  refine wp_region_later (by kernel_rfl) (by kernel_rfl) ?_
                  repeat (go_big_quiet_step ((go_at_call 19; exact Calls.later (row_calls _ _ _))))
                  refine wpQuiet_nil ?_
                  rintro W3 ⟨⟨_, hb3⟩, rfl⟩
                  clear hz1 hz2
                  go_wp2
                  go_roundw
                  case rel => exact ⟨k + 1, by omega, by go_num, by rw [HS.out]; rfl, Below.step (Below.step hb hb2) hb3⟩
                  case measure => simp [intOf]; omega
                · go_wp2
                  refine wp_region_later (by kernel_rfl) (by kernel_rfl) ?_
                  repeat (go_big_quiet_step ((go_at_call 16; exact Calls.later (hck _))))
                  refine wpQuiet_nil ?_
                  rintro W2 ⟨⟨_, hb2⟩, rfl⟩
                  clear hx1 hx2
                  go_wp2
                  refine wp_region_later (by kernel_rfl) (by kernel_rfl) ?_
                  repeat (go_big_quiet_step (fail))
                  refine wpQuiet_nil ?_
                  rintro W3 ⟨⟨_, hb3⟩, rfl⟩
                  go_wp2
                  go_roundw
                  case rel => exact ⟨k + 1, by omega, by go_num, by rw [HS.out]; rfl, Below.step (Below.step hb hb2) hb3⟩
                  case measure => simp [intOf]; omega
              · obtain ⟨j, hj⟩ : ∃ j, k = j + 1 := ⟨k - 1, by omega⟩
                obtain ⟨y, hp1, hlty⟩ := hpv j hj
                have hgd : decide ((0 : Int) < (k : Int)) = true := decide_eq_true (by omega)
                have hgn : decide (0 < k) = true := decide_eq_true hk0
                have hsub : IntKind.i64.wrap ((k : Int) - 1) = (j : Int) := by rw [IntKind.wrap_i64]; omega
                have hsb2 : (k : Int) - 1 = (j : Int) := by omega
                have hjm : j < m.length := by omega
                have HK := Lib.hid hj
                clear hpv hk0 hj
                replace hp1 := fun p : Later wr => Later.cell p hp1
                cases fd
                · go_wp2
                  refine wp_region_later (by kernel_rfl) (by kernel_rfl) ?_
                  repeat (go_big_quiet_step ((go_at_call 16; exact Calls.later (hck _))))
                  refine wpQuiet_nil ?_
                  rintro W2 ⟨⟨_, hb2⟩, rfl⟩
                  obtain ⟨hz1, hz2⟩ := h2 W2 hb2
                  clear hx1 hx2 hp1
                  replace hz1 := fun p : Later W2 => Later.cell p hz1; replace hz2 := fun p : Later W2 => Later.cell p hz2
                  go_wp2
                  refine wp_region_later (by kernel_rfl) (by kernel_rfl) ?_
                  repeat (go_big_quiet_step ((go_at_call 19; exact Calls.later (row_calls _ _ _))))
                  refine wpQuiet_nil ?_
                  rintro W3 ⟨⟨_, hb3⟩, rfl⟩
                  clear hz1 hz2
                  go_wp2
                  go_roundw
                  case rel => exact ⟨k + 1, by omega, by go_num, by rw [HS.out]; rfl, Below.step (Below.step hb hb2) hb3⟩
                  case measure => simp [intOf]; omega
                · go_wp2
                  refine wp_region_later (by kernel_rfl) (by kernel_rfl) ?_
                  repeat (go_big_quiet_step ((go_at_call 16; exact Calls.later (hck _))))
                  refine wpQuiet_nil ?_
                  rintro W2 ⟨⟨_, hb2⟩, rfl⟩
                  clear hx1 hx2 hp1
                  go_wp2
                  refine wp_region_later (by kernel_rfl) (by kernel_rfl) ?_
                  repeat (go_big_quiet_step (fail))
                  refine wpQuiet_nil ?_
                  rintro W3 ⟨⟨_, hb3⟩, rfl⟩
                  go_wp2
                  go_roundw
                  case rel => exact ⟨k + 1, by omega, by go_num, by rw [HS.out]; rfl, Below.step (Below.step hb hb2) hb3⟩
                  case measure => simp [intOf]; omega
            · rw [List.take_of_length_le (by omega), HA.out]
              go_wp2
              go_ret
              exact ⟨ret_bool (by simp), hBw.trans (hb.mono hBw.size)⟩

end Go.Proofs.Ytdegcencbbbghaa
