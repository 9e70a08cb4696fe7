/-
  The law concordatlaw13.StoresOrder: rows of unlike keys make one map, in whatever order they are put; those of one key as it is put last. No condition.
-/
import Derived.Test.YtdegcencbbbghaaOrderQ
set_option linter.unusedVariables false
set_option linter.unusedSimpArgs false
namespace Go.Proofs.Ytdegcencbbbghaa
open Go.RowKit Go.Shelf

set_option maxHeartbeats 4000000 in
set_option maxRecDepth 100000 in
theorem storesOrder_walk (v : Value) (xs : List Row) (fr : Int) (w : World) (hv : Rd Row.enc 2 w v xs) (hlen : xs.length * 24 ≤ 140737488351232) (hs : ∀ x ∈ xs, x.ok) (hfr : (Lit.int .u8 fr).wf = true) :
    Calls Try.prog 7 #[v, .int .u8 fr] w fun e w' => e = .returned (.bool true) ∧ Below w.heap.size w w' := by
  have hs' : ∀ x ∈ xs, x.k.size ≤ 140737488351232 := fun x hx => (hs x hx).1
  have hmany := fun (W : World) (hb : Below w.heap.size w W) => many_calls v xs W (hv.below hb) (by omega) hs'
  have hputs := fun (W : World) (hb : Below w.heap.size w W) (hl : xs.length ≤ 100) => puts_calls v xs W (hv.below hb) (by omega) hs'
  obtain ⟨A, c, rfl, hlc, hc⟩ := hv.shape
  generalize manyL xs = b at *
  have hbig : b = true ∨ (b = false ∧ xs.length > 100) ∨ (b = false ∧ ¬ xs.length > 100 ∧ xs.length = 0) ∨ (b = false ∧ ¬ xs.length > 100 ∧ ¬ xs.length = 0) := by
    cases b
    · by_cases h0 : xs.length > 100
      · exact .inr (.inl ⟨rfl, h0⟩)
      · by_cases h1 : xs.length = 0
        · exact .inr (.inr (.inl ⟨rfl, h0, h1⟩))
        · exact .inr (.inr (.inr ⟨rfl, h0, h1⟩))
    · exact .inl rfl
  rcases hbig with rfl | ⟨rfl, h0⟩ | ⟨rfl, h0, h1⟩ | ⟨rfl, h0, h1⟩
  iterate 2
    · clear hputs
      go_enter Try.func7, Try.ntmps7
      go_wp2_with (first
        | (go_at_call 13; refine (alive_calls _).mono ?_; rintro e w1 ⟨rfl, hb1⟩; (first | (replace hB0 := Below.step hB0 hb1; clear hb1) | (have hB0 := hb1; clear hb1)))
        | (go_at_call 14; refine (hmany _ hB0).mono ?_; rintro e w2 ⟨rfl, hb1⟩; replace hB0 := Below.step hB0 hb1; clear hb1))
      go_ret
      exact ⟨rfl, hB0⟩
  · have hzz : ((xs.length : Int) == 0) = true := by rw [h1]; rfl
    clear h1 hputs
    go_enter Try.func7, Try.ntmps7
    go_wp2_with (first
      | (go_at_call 13; refine (alive_calls _).mono ?_; rintro e w1 ⟨rfl, hb1⟩; (first | (replace hB0 := Below.step hB0 hb1; clear hb1) | (have hB0 := hb1; clear hb1)))
      | (go_at_call 14; refine (hmany _ hB0).mono ?_; rintro e w2 ⟨rfl, hb1⟩; replace hB0 := Below.step hB0 hb1; clear hb1))
    go_ret
    exact ⟨rfl, hB0⟩
  have hl2 : xs.length ≤ 100 := by omega
  have hf0 : 0 ≤ fr ∧ fr < 256 := by
    have e1 : IntKind.u8.min = 0 := by decide +kernel
    have e2 : IntKind.u8.max = 255 := by decide +kernel
    simp [Lit.wf] at hfr
    omega
  obtain ⟨k, hk, hkl⟩ : ∃ k : Nat, fr.tmod xs.length = (k : Int) ∧ k < xs.length := by
    refine ⟨(fr.toNat % xs.length), ?_, Nat.mod_lt _ (by omega)⟩
    obtain ⟨m, rfl⟩ := Int.eq_ofNat_of_zero_le hf0.1
    rw [Int.tmod_eq_emod_of_nonneg hf0.1]
    simp
  have hk2 : fr % (xs.length : Int) = (k : Int) := by rw [← hk, Int.tmod_eq_emod_of_nonneg hf0.1]
  have hz0 : ((xs.length : Int) == 0) = false := by rw [beq_eq_false_iff_ne]; omega
  obtain ⟨bb, oo, rfl, _, _⟩ := hv.row (List.getElem?_eq_getElem (i := 0) (by omega))
  have hf1 := hf0.1
  have hf2 := hf0.2
  go_enter Try.func7, Try.ntmps7
  go_wp2_with (first
    | (go_at_call 13; refine (alive_calls _).mono ?_; rintro e w1 ⟨rfl, hb1⟩; have hB0 := hb1; clear hb1)
    | (go_at_call 14; refine (hmany _ hB0).mono ?_; rintro e w2 ⟨rfl, hb1⟩; replace hB0 := Below.step hB0 hb1; clear hb1)
    | (go_at_call 15; refine (hputs _ hB0 hl2).mono ?_; rintro e w4 ⟨u1, rfl, hb1, hM1⟩; have hMA := hM1.lower hB0.size; clear hM1; replace hB0 := Below.step hB0 hb1; clear hb1))
  have hv4 := hv.below hB0
  have hd4 := hv4.drop k (by omega) (oo + k * 2) rfl
  have ht4 := hv4.takeQ k (by omega)
  have hck : ¬ c = k := by omega
  have hkx : k ≤ xs.length := by omega
  have hkc : k ≤ c := by omega
  have hki : (k : Int) ≤ (xs.length : Int) := by omega
  have hki2 : (k : Int) ≤ (c : Int) := by omega
  have hbd : Below w4.heap.size w4 w4.drew := (Below.refl _ w4).drew
  have hd4' := hd4.below hbd
  have ht9 := fun W (h : Below w4.heap.size w4 W) => ht4.below h
  have hrot : (xs.drop k ++ xs.take k).length ≤ 100 := by rw [List.length_append, List.length_drop, List.length_take]; omega
  have hsr : ∀ x ∈ xs.drop k ++ xs.take k, x.k.size ≤ 140737488351232 := fun x hx => by
    rcases List.mem_append.1 hx with h | h
    · exact hs' x (List.mem_of_mem_drop h)
    · exact hs' x (List.mem_of_mem_take h)
  go_region_law (first
    | (refine step_append_all (w0 := w4) Row.enc 2 29 22 24 _ w4.heap.size (.slice none 0 0) [] (xs.drop k) (some ⟨bb, oo + k * 2, none⟩) (c - k) rfl (.const (.slice none 0 0)) (.tmp 40) rfl under_rows info_rowi rfl (by decide) (by decide) row_len row_one rfl (by simp [Act.eval, Act.put]) (by rw [List.length_drop]; exact hd4') (Own.nil _ _ _ _ _) hbd (Nat.le_refl _) (by simp; omega) ?_; intro v9 w9 hown9 hb9; rw [List.nil_append] at hown9; clear hd4')
    | (refine step_append_all (w0 := w4) Row.enc 2 29 22 24 _ w4.heap.size v9 (xs.drop k) (xs.take k) (some ⟨bb, oo, none⟩) c rfl (.tmp 41) (.tmp 44) rfl under_rows info_rowi rfl (by decide) (by decide) row_len row_one (by simp [Act.eval, Act.put]) (by simp [Act.eval, Act.put]; omega) (by rw [List.length_take, Nat.min_eq_left hkx]; exact ht9 _ hb9) hown9 hb9 hb9.size (by rw [List.length_drop, List.length_take]; omega) ?_; intro v10 w10 hown10 hb10; clear hown9)
    | (go_simp; go_at_call 15; refine (puts_calls v10 _ w10 (hown10.rd row_len) (by omega) hsr).mono ?_; rintro e w11 ⟨u2, rfl, hb11, hM11⟩))
  have hMA2 := hMA.below hb10
  have hMB := hM11.lower (Nat.le_trans hB0.size hb10.size)
  have hAp := Apart.new (b' := 0) hMA2 hM11
  have hMA3 := hMA2.below hb11
  have hB11 := (Below.step hB0 hb10).trans (hb11.mono (Nat.le_trans hB0.size hb10.size))
  clear hM11 hMA hMA2 hown10 hb10 hb11 hb9 hB0 hAp
  have hbt := bare_turn xs k
  have hot := fun key => once_turn key xs k
  have hlb : (putAll (xs.drop k ++ xs.take k)).length = (putAll xs).length := by
    have := congrArg List.length hbt
    simpa [bare] using this
  have hlm := putAll_length xs
  have hal := putAll_ok xs
  have hra := rows_calls hMA3 (by omega)
  have HLB := Lib.hid hlb
  go_wp2_with (first
    | (go_at_call 18; refine hra.mono ?_; rintro e w12 ⟨v12, rfl, hb12, own12⟩; have hrb := rows_calls (hMB.below hb12) (by have := HLB.out; omega); have hx12 := own12.rd row_len; obtain ⟨A12, c12, rfl, _, _⟩ := own12.slice; have hB12 := Below.step hB11 hb12; clear hra hb12 own12 hMB hMA3 hB11)
    | (go_at_call 18; refine hrb.mono ?_; rintro e w13 ⟨v13, rfl, hb13, own13⟩; have hy13 := own13.rd row_len; have hx13 := hx12.below hb13; obtain ⟨A13, c13, hv13, _, _⟩ := own13.slice; rw [HLB.out] at hv13; subst hv13; have hB13 := Below.step hB12 hb13; clear hrb hb13 own13 hx12 hB12))
  have hra3 := putAll_rising xs
  have hrb3 := putAll_rising (xs.drop k ++ xs.take k)
  have hsame := putAll_same hra3 hal
  have hpt : ∀ (j : Nat) (x y : Row), (putAll xs)[j]? = some x → (putAll (xs.drop k ++ xs.take k))[j]? = some y → y.k = x.k ∧ 1 ≤ (xs.filter fun z => decide (z.k = x.k)).length ∧ ((xs.filter fun z => decide (z.k = x.k)).length = 1 → y = x) := fun j x y hx hy => by
    have hb := congrArg (fun l : List Row => l[j]?) hbt
    simp only [bare, List.getElem?_map, hx, hy, Option.map_some, Option.some.injEq, Row.mk.injEq, and_true] at hb
    refine ⟨hb, ?_, fun h1 => ?_⟩
    · have hg := getL_of_mem hra3 (List.mem_of_getElem? hx)
      have hs1 := stepR_some x.k xs none
      rw [← getL_putAll, hg] at hs1
      simp only [Option.isSome_some, Option.isSome_none, Bool.false_or] at hs1
      have hs2 := (Bool.and_eq_true _ _ ▸ hs1.symm : okKey x.k = true ∧ (xs.any fun z => decide (z.k = x.k)) = true).2
      obtain ⟨z, hz, hzk⟩ := List.any_eq_true.1 hs2
      exact List.length_pos_iff.2 (List.ne_nil_of_mem (List.mem_filter.2 ⟨hz, hzk⟩))
    · have hg := getL_of_mem hra3 (List.mem_of_getElem? hx)
      have hg2 := getL_of_mem hrb3 (List.mem_of_getElem? hy)
      rw [hb, hot x.k h1, hg] at hg2
      injection hg2 with hg2
      cases x; cases y
      simp only at hb hg2
      rw [hb, hg2]
  have hmk : ∀ x ∈ putAll xs, x.k.size ≤ 140737488351232 := fun x hx => by
    have h := hal x hx
    unfold okKey at h
    simp only [Bool.and_eq_true, decide_eq_true_eq] at h
    omega
  have HP := Lib.hid hpt
  have HSM := Lib.hid hsame
  have hv13 := hv.below hB13
  clear hpt hsame hbt hot hra3 hrb3 hal hputs hmany hd4 ht4 ht9 hsr hv4 hbd hs hs' hfr hrot
  generalize putAll (xs.drop k ++ xs.take k) = mb at *
  generalize putAll xs = m at *
  have heqg := eqg_row
  have hneq := neq_row
  go_loopw [10] (fun iv wr => ∃ j : Nat, j ≤ m.length ∧ iv = .int .i64 j ∧ Below w13.heap.size w13 wr) (fun iv _ => m.length - (intOf iv).toNat)
  case atStart => exact ⟨0, Nat.zero_le _, rfl, Below.refl _ _⟩
  case round =>
    obtain ⟨j, hj, rfl, hb⟩ := hrel
    by_cases hlt : j < m.length
    · have hlt2 : j < mb.length := by omega
      obtain ⟨hyk, hc1, hc2⟩ := HP.out j _ _ (List.getElem?_eq_getElem hlt) (List.getElem?_eq_getElem hlt2)
      have hX := List.getElem?_eq_getElem hlt
      have hY := List.getElem?_eq_getElem hlt2
      generalize m[j] = x at *
      generalize mb[j] = y at *
      go_wp2
      go_loopw [11, 12] (fun ov nv wr => ∃ n : Nat, n ≤ xs.length ∧ nv = .int .i64 n ∧ ov = .int .i64 (((xs.take n).filter fun z => decide (z.k = x.k)).length : Nat) ∧ Below w13.heap.size w13 wr) (fun _ nv _ => xs.length - (intOf nv).toNat)
      case atStart => exact ⟨0, Nat.zero_le _, rfl, rfl, hb⟩
      case round =>
        clear hb
        obtain ⟨n, hn, rfl, rfl, hb⟩ := hrel
        have hxr := (hx13.below hb).row hX
        by_cases hln : n < xs.length
        · have hsn : ((xs.take (n + 1)).filter fun z => decide (z.k = x.k)) = ((xs.take n).filter fun z => decide (z.k = x.k)) ++ (if xs[n].k = x.k then [xs[n]] else []) := by
            rw [List.take_add_one, List.getElem?_eq_getElem hln, List.filter_append]
            by_cases h : xs[n].k = x.k <;> simp [h]
          have hfl : ((xs.take n).filter fun z => decide (z.k = x.k)).length ≤ 100 := Nat.le_trans (List.length_filter_le _ _) (by rw [List.length_take]; omega)
          obtain ⟨b1, o1, e1, hz1, _⟩ := (hv13.below hb).row (List.getElem?_eq_getElem hln)
          injection e1 with e1
          injection e1 with e1 e2
          subst e1 e2
          obtain ⟨b2, o2, rfl, hx1, _⟩ := hxr
          generalize xs[n] = z at *
          replace hz1 := fun p : Later wr => Later.cell p hz1; replace hx1 := fun p : Later wr => Later.cell p hx1
          generalize ((xs.take n).filter fun z => decide (z.k = x.k)) = F at *
          by_cases hzk : z.k = x.k
          · rw [if_pos hzk] at hsn
            have hd : decide (z.k = x.k) = true := decide_eq_true hzk
            have HS := Lib.hid hsn
            clear hsn hzk hc2
            go_wp2
            refine wp_region_later (by kernel_rfl) (by kernel_rfl) ?_
            repeat (go_big_quiet_step (fail))
            refine wpQuiet_nil ?_
            rintro W2 ⟨⟨_, hb2⟩, rfl⟩
            clear hz1 hx1
            go_wp2
            go_roundw
            case rel => exact ⟨n + 1, by omega, by go_num, by rw [HS.out, List.length_append]; go_num, Below.step hb hb2⟩
            case measure => simp [intOf]; omega
          · rw [if_neg hzk] at hsn
            have hd : decide (z.k = x.k) = false := decide_eq_false hzk
            have HS := Lib.hid hsn
            clear hsn hzk hc2
            go_wp2
            refine wp_region_later (by kernel_rfl) (by kernel_rfl) ?_
            repeat (go_big_quiet_step (fail))
            refine wpQuiet_nil ?_
            rintro W2 ⟨⟨_, hb2⟩, rfl⟩
            clear hz1 hx1
            go_wp2
            go_roundw
            case rel => exact ⟨n + 1, by omega, by go_num, by rw [HS.out, List.append_nil], Below.step hb hb2⟩
            case measure => simp [intOf]; omega
        · have hck : xs.take n = xs := List.take_of_length_le (by omega)
          rw [hck]
          obtain ⟨b2, o2, rfl, hx1, hx2⟩ := hxr
          obtain ⟨b3, o3, rfl, hy1, hy2⟩ := (hy13.below hb).row hY
          have hcl : (xs.filter fun z => decide (z.k = x.k)).length ≤ 100 := Nat.le_trans (List.length_filter_le _ _) hl2
          generalize (xs.filter fun z => decide (z.k = x.k)).length = cnt at *
          obtain ⟨xk, xv⟩ := x
          obtain ⟨yk, yv⟩ := y
          simp only at hyk hx1 hx2 hy1 hy2
          subst hyk
          replace hx1 := fun p : Later wr => Later.cell p hx1; replace hx2 := fun p : Later wr => Later.cell p hx2
          replace hy1 := fun p : Later wr => Later.cell p hy1; replace hy2 := fun p : Later wr => Later.cell p hy2
          have hlt1 : decide ((cnt : Int) < 1) = false := decide_eq_false (by omega)
          have hlt0 : (cnt == 0) = false := by rw [beq_eq_false_iff_ne]; omega
          have hlt3 : decide (cnt = 0) = false := decide_eq_false (by omega)
          by_cases h1c : cnt = 1
          · have he := hc2 h1c
            injection he with _ he
            subst he
            have hb1 : ((cnt : Int) == 1) = true := by rw [h1c]; rfl
            have HC := Lib.hid h1c
            clear hc2 h1c hX hY
            go_wp2
            refine wp_region_later (by kernel_rfl) (by kernel_rfl) ?_
            repeat (go_big_quiet_step (fail))
            refine wpQuiet_nil ?_
            rintro W2 ⟨⟨_, hb2⟩, rfl⟩
            clear hx1 hx2 hy1 hy2
            go_wp2
            go_roundw
            case rel => exact ⟨j + 1, by omega, by go_num, Below.step hb hb2⟩
            case measure => simp [intOf]; omega
          · have hb1 : ((cnt : Int) == 1) = false := by rw [beq_eq_false_iff_ne]; omega
            have HC := Lib.hid h1c
            clear hc2 h1c hX hY
            go_wp2
            refine wp_region_later (by kernel_rfl) (by kernel_rfl) ?_
            repeat (go_big_quiet_step (fail))
            refine wpQuiet_nil ?_
            rintro W2 ⟨⟨_, hb2⟩, rfl⟩
            clear hx1 hx2 hy1 hy2
            go_wp2
            go_roundw
            case rel => exact ⟨j + 1, by omega, by go_num, Below.step hb hb2⟩
            case measure => simp [intOf]; omega
    · have hpx := puts_calls _ m wr (hx13.below hb) (by omega) hmk
      rw [HSM.out] at hpx
      have hxr := hx13.below hb
      have hBr := hB13.trans (hb.mono hB13.size)
      go_wp2_with (first
        | (go_at_call 15; refine hpx.mono ?_; rintro e w14 ⟨u14, rfl, hb14, hM14⟩; have hrc := rows_calls hM14 (by omega); replace hxr := hxr.below hb14; replace hBr := Below.step hBr hb14; clear hpx hb14)
        | (go_at_call 18; refine hrc.mono ?_; rintro e w15 ⟨v15, rfl, hb15, own15⟩; have hsm := sameRows_calls v15 _ m m w15 (own15.rd row_len) (hxr.below hb15); rw [decide_eq_true rfl] at hsm; obtain ⟨A15, c15, rfl, _, _⟩ := own15.slice; replace hBr := Below.step hBr hb15; clear hrc hb15 own15 hxr)
        | (go_at_call 21; refine hsm.mono ?_; rintro e w16 ⟨rfl, hb16⟩; replace hBr := Below.step hBr hb16; clear hsm hb16))
      go_ret
      exact ⟨rfl, hBr⟩

end Go.Proofs.Ytdegcencbbbghaa
