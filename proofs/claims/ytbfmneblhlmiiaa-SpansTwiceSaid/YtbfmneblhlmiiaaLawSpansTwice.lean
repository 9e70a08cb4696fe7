import Derived.Test.YtbfmneblhlmiiaaSpA
import Derived.Test.YtbfmneblhlmiiaaLawSpansWhole
import Derived.Deep.RegionLaw
set_option linter.unusedVariables false
set_option linter.unusedSimpArgs false
namespace Go.Proofs.Ytbfmneblhlmiiaa
open Go.RowKit Go.Shelf

theorem joinF_turned (xs : List Span) (k : Nat) : joinF (xs.drop k ++ xs.take k ++ xs.drop k) = joinF xs := joinF_same fun x => by
  conv => rhs; rw [← List.take_append_drop k xs]
  simp only [List.mem_append]
  constructor
  · rintro ((h | h) | h)
    · exact .inr h
    · exact .inl h
    · exact .inr h
  · rintro (h | h)
    · exact .inl (.inr h)
    · exact .inr h
theorem joinF_back (xs : List Span) : joinF xs.reverse = joinF xs := joinF_same fun x => List.mem_reverse

/-- What is done behind the turned list: the other way about, both joined. -/
theorem rd_nil {α : Type} (enc : α → List Value) (k : Nat) (w : World) (A : Option Addr) (c : Nat) (hc : c ≤ 9223372036854775807) : Rd enc k w (.slice A 0 c) [] := ⟨A, c, rfl, Nat.zero_le _, hc, fun h => absurd h (Nat.lt_irrefl _)⟩

theorem run_append_nothing {P : Program} {W : World} (k bytes : Nat) (E t ty : TypeId) (z : Value) (A : Option Addr) (c : Nat) (ht : P.underlying t = some (.slice E)) (hinfo : (P.info? E).map (fun i => (i.zero, i.size, i.bytes)) = some (some z, k, bytes)) :
    (Builtin.append_ #[t, t] ty #[.slice none 0 0, .slice A 0 c]).run P W = .ok (.slice none 0 0) W := by
  obtain ⟨i0, hi, hzz⟩ := Option.map_eq_some_iff.1 hinfo
  simp only [Prod.mk.injEq] at hzz
  obtain ⟨hz0, hz1, hz2⟩ := hzz
  cases A <;> simp [Builtin.append_, run_underlying ht, sizeOf, typeInfo, hi, Builtin.lenOf, Builtin.firstCells, loadCells, loadCellsFrom, storeCells]

set_option maxHeartbeats 2000000 in
set_option maxRecDepth 100000 in
theorem spansTwice_walk (v : Value) (xs : List Span) (fr : Int) (w : World) (hv : Rd Span.enc 2 w v xs) (hlen : xs.length * 32 ≤ 140737488351232) (hs : ∀ x ∈ xs, x.ok) (hfr : (Lit.int .u8 fr).wf = true) :
    Calls Try.prog 7 #[v, .int .u8 fr] w fun e w' => e = .returned (.bool true) ∧ Below w.heap.size w w' := by
  have g1 := fun (W : World) (hb : Below w.heap.size w W) => great_calls v xs W (hv.below hb) (by omega) (fun x hx => hs x hx)
  have j1 := fun (W : World) (hb : Below w.heap.size w W) (hl : xs.length ≤ 1000000) => join_own v xs W (hv.below hb) hl
  obtain ⟨A, c, rfl, hlc, hc⟩ := hv.shape
  clear hs
  have hB := Below.refl w.heap.size w
  have hbig : greatL xs = true ∨ (greatL xs = false ∧ xs.length > 100) ∨ (greatL xs = false ∧ ¬ xs.length > 100) := by
    cases greatL xs <;> by_cases h : xs.length > 100 <;> simp [h]
  rcases hbig with h1 | ⟨h1, h3⟩ | ⟨h1, h3⟩
  iterate 2
    · rw [h1] at g1
      clear j1 hv h1
      go_enter Try.func7, Try.ntmps7
      go_wp2_with (first
        | (go_at_call 26; (with_reducible refine (g1 _ hB).mono ?_); rintro e w1 ⟨rfl, hb1⟩; replace hB := Below.step hB hb1; clear hb1)
        | (go_at_call 24; refine (aliveS_calls _).mono ?_; rintro e w1 ⟨rfl, hb1⟩; replace hB := Below.step hB hb1; clear hb1))
      go_ret
      exact ⟨rfl, hB⟩
  rw [h1] at g1
  have hlx : xs.length ≤ 1000000 := by omega
  have hjl := (joinF_spec xs).2.2.2
  have hj2 := joinF_twice xs
  have HJB := Lib.hid (joinF_back xs)
  have HJT := Lib.hid (joinF_turned xs)
  clear h1
  generalize joinF xs = J at *
  have k1 := fun (A : Option Addr) (c : Nat) (W : World) (hr : Rd Span.enc 2 W (.slice A J.length c) J) (hl : J.length ≤ 1000000) => join_own _ J W hr hl
  rw [hj2] at k1
  clear hj2
  have hJx : J.length ≤ 1000000 := by omega
  have hf0 : 0 ≤ fr ∧ fr < 256 := by
    have e1 : IntKind.u8.min = 0 := by decide +kernel
    have e2 : IntKind.u8.max = 255 := by decide +kernel
    simp [Lit.wf] at hfr
    omega
  obtain ⟨hf1, hf2⟩ := hf0
  by_cases h0 : xs.length = 0
  · have hx0 : xs = [] := List.length_eq_zero_iff.1 h0
    subst hx0
    have hJ0 : joinF [] = J := HJB.out
    have n1 := fun (W : World) => join_own (.slice none 0 0) [] W (rd_nil _ _ _ _ _ (by omega)) (by simp)
    rw [hJ0] at n1
    have happ := fun (A : Option Addr) (c : Nat) (W : World) => run_append_nothing (P := Try.prog) (W := W) 2 32 27 30 30 _ A c Try.underlying30 info_span
    clear hJ0 h0 hf1 hf2 hjl hlen h3
    simp only [List.length_nil] at hv j1 g1 hlc hlx ⊢
    rcases A with _ | ⟨bb, oo, sp⟩
    all_goals
      go_enter Try.func7, Try.ntmps7
      go_wp2_with (first
        | (go_at_call 26; (with_reducible refine (g1 _ hB).mono ?_); rintro e w1 ⟨rfl, hb1⟩; replace hB := Below.step hB hb1; clear hb1)
        | (go_at_call 24; refine (aliveS_calls _).mono ?_; rintro e w1 ⟨rfl, hb1⟩; replace hB := Below.step hB hb1; clear hb1)
        | (go_at_call 27; (with_reducible refine (j1 _ hB hlx).mono ?_); rintro e w2 ⟨A2, c2, rfl, o2, hb1⟩; obtain ⟨_, _, _, hc2, hc2'⟩ := Own.slice o2; have r2 := Own.rd span_len o2; clear o2; replace hB := Below.step hB hb1; clear hb1)
        | (go_at_call 27; (with_reducible refine (k1 _ _ _ r2 hJx).mono ?_); rintro e w3 ⟨A3, c3, rfl, o3, hb1⟩; have r3 := Own.rd span_len o3; clear o3; replace r2 := r2.below hb1; replace hB := Below.step hB hb1; clear hb1; have hsame := sameSpans_calls _ _ J J _ r3 r2; rw [decide_eq_true rfl] at hsame)
        | (go_at_call 28; refine hsame.mono ?_; rintro e w4 ⟨rfl, hb1⟩; replace r2 := r2.below hb1; replace hB := Below.step hB hb1; clear hb1 hsame r3))
      refine wp_region_later (by kernel_rfl) (by kernel_rfl) ?_
      repeat (quiet_step (fail))
      refine wpQuiet_nil ?_
      rintro _ ⟨p, rfl⟩
      clear happ
      replace r2 := r2.below p.ok
      replace hB := Below.step hB p.ok
      generalize p.val = w5 at *
      have r5 := fun (W : World) (hb : Below w5.heap.size w5 W) => r2.below hb
      clear g1 j1 k1 hv r2
      go_wp2
      go_loopw [8, 9] (fun bv i wr => bv = .slice none 0 0 ∧ i = .int .i64 (-1) ∧ wr = w5) (fun _ _ _ => 0)
      case atStart => exact ⟨rfl, rfl, rfl⟩
      case round =>
        obtain ⟨rfl, rfl, rfl⟩ := hrel
        have hbw := Below.refl wr.heap.size wr
        go_wp2_with (first
          | (go_at_call 27; (with_reducible refine (n1 _).mono ?_); rintro e w12 ⟨A12, c12, rfl, o12, hb1⟩; have r12 := Own.rd span_len o12; clear o12; replace hbw := Below.step hbw hb1; replace hB := Below.step hB hb1; clear hb1; have hsame := sameSpans_calls _ _ J J _ r12 (r5 _ hbw); rw [decide_eq_true rfl] at hsame)
          | (go_at_call 28; (with_reducible refine hsame.mono ?_); rintro e w13 ⟨rfl, hb1⟩; replace hbw := Below.step hbw hb1; replace hB := Below.step hB hb1; clear hb1 hsame r12))
        go_ret
        exact ⟨rfl, hB⟩
  · obtain ⟨k, hk, hkl⟩ : ∃ k : Nat, fr.tmod xs.length = (k : Int) ∧ k < xs.length := by
      refine ⟨(fr.toNat % xs.length), ?_, Nat.mod_lt _ (by omega)⟩
      obtain ⟨m, rfl⟩ := Int.eq_ofNat_of_zero_le hf1
      rw [Int.tmod_eq_emod_of_nonneg hf1]
      simp
    have hk2 : fr % (xs.length : Int) = (k : Int) := by rw [← hk, Int.tmod_eq_emod_of_nonneg hf1]
    have hz0 : ((xs.length : Int) == 0) = false := by rw [beq_eq_false_iff_ne]; omega
    have hzp : (0 : Int) < (xs.length : Int) := by omega
    obtain ⟨bb, oo, rfl, _, _⟩ := hv.span (List.getElem?_eq_getElem (i := 0) (by omega))
    go_enter Try.func7, Try.ntmps7
    go_wp2_with (first
      | (go_at_call 26; (with_reducible refine (g1 _ hB).mono ?_); rintro e w1 ⟨rfl, hb1⟩; replace hB := Below.step hB hb1; clear hb1)
      | (go_at_call 24; refine (aliveS_calls _).mono ?_; rintro e w1 ⟨rfl, hb1⟩; replace hB := Below.step hB hb1; clear hb1)
      | (go_at_call 27; (with_reducible refine (j1 _ hB hlx).mono ?_); rintro e w2 ⟨A2, c2, rfl, o2, hb1⟩; obtain ⟨_, _, _, hc2, hc2'⟩ := Own.slice o2; have r2 := Own.rd span_len o2; clear o2; replace hB := Below.step hB hb1; clear hb1)
      | (go_at_call 27; (with_reducible refine (k1 _ _ _ r2 hJx).mono ?_); rintro e w3 ⟨A3, c3, rfl, o3, hb1⟩; have r3 := Own.rd span_len o3; clear o3; replace r2 := r2.below hb1; replace hB := Below.step hB hb1; clear hb1; have hsame := sameSpans_calls _ _ J J _ r3 r2; rw [decide_eq_true rfl] at hsame)
      | (go_at_call 28; refine hsame.mono ?_; rintro e w4 ⟨rfl, hb1⟩; replace r2 := r2.below hb1; replace hB := Below.step hB hb1; clear hb1 hsame r3))
    have hv4 := hv.below hB
    have hd4 := hv4.drop k (by omega) (oo + k * 2) rfl
    have ht4 := hv4.takeQ k (by omega)
    have hck : ¬ c = k := by omega
    have hkx : k ≤ xs.length := by omega
    have hkc : k ≤ c := by omega
    have hki : (k : Int) ≤ (xs.length : Int) := by omega
    have hki2 : (k : Int) ≤ (c : Int) := by omega
    have hbd : Below w4.heap.size w4 w4.drew := (Below.refl _ w4).drew
    have hd4' := hd4.below hbd
    have ht9 := fun W (h : Below w4.heap.size w4 W) => ht4.below h
    have hd9 := fun W (h : Below w4.heap.size w4 W) => hd4.below h
    go_region_law (first
      | (refine step_append_all (w0 := w4) Span.enc 2 27 30 32 _ w4.heap.size (.slice none 0 0) [] (xs.drop k) (some ⟨bb, oo + k * 2, none⟩) (c - k) rfl (.tmp 37) (.tmp 40) rfl Try.underlying30 info_span rfl (by decide) (by decide) span_len span_one (by simp [Act.eval, Act.put]) (by simp [Act.eval, Act.put]) (by rw [List.length_drop]; exact hd4') (Own.nil _ _ _ _ _) hbd (Nat.le_refl _) (by simp; omega) ?_; intro v9 w9 hown9 hb9; rw [List.nil_append] at hown9; clear hd4')
      | (refine step_append_all (w0 := w4) Span.enc 2 27 30 32 _ w4.heap.size v9 (xs.drop k) (xs.take k) (some ⟨bb, oo, none⟩) c rfl (.tmp 41) (.tmp 44) rfl Try.underlying30 info_span rfl (by decide) (by decide) span_len span_one (by simp [Act.eval, Act.put]) (by simp [Act.eval, Act.put]; omega) (by rw [List.length_take, Nat.min_eq_left hkx]; exact ht9 _ hb9) hown9 hb9 hb9.size (by rw [List.length_drop, List.length_take]; omega) ?_; intro v10 w10 hown10 hb10; clear hown9 hb9)
      | (refine step_append_all (w0 := w4) Span.enc 2 27 30 32 _ w4.heap.size v10 (xs.drop k ++ xs.take k) (xs.drop k) (some ⟨bb, oo + k * 2, none⟩) (c - k) rfl (.tmp 45) (.tmp 48) rfl Try.underlying30 info_span rfl (by decide) (by decide) span_len span_one (by simp [Act.eval, Act.put]) (by simp [Act.eval, Act.put]) (by rw [List.length_drop]; exact hd9 _ hb10) hown10 hb10 hb10.size (by rw [List.length_append, List.length_drop, List.length_take]; omega) ?_; intro v11 w11 hown11 hb11; clear hown10 hb10))
    have hB11 := Below.step hB hb11
    have q11 := hown11.rd span_len
    obtain ⟨A11, c11, hv11, _, _⟩ := hown11.slice
    have hl11 : (xs.drop k ++ xs.take k ++ xs.drop k).length = xs.length + (xs.length - k) := by simp; omega
    rw [hl11] at hv11
    replace r2 := r2.below hb11
    replace hv := hv4.below hb11
    skip
    subst hv11
    have t1 := fun (W : World) (hb : Below w11.heap.size w11 W) => join_own _ _ W (q11.below hb) (by rw [hl11]; omega)
    rw [HJT.out k] at t1
    have r11 := fun (W : World) (hb : Below w11.heap.size w11 W) => r2.below hb
    clear hd4 ht4 hd9 ht9 hv4 hbd hown11 hb11 hl11 hck hk hk2 g1 j1 k1 q11 r2 hkc hki hki2
    go_wp2
    go_loopw [8, 9] (fun bv i wr => ∃ (m : Nat) (z : Int), m ≤ xs.length ∧ z = (m : Int) - 1 ∧ i = .int .i64 z ∧ Own Span.enc 2 27 w11.heap.size wr bv (xs.drop m).reverse ∧ Below w11.heap.size w11 wr) (fun _ i _ => (intOf i + 1).toNat)
    case atStart => exact ⟨xs.length, _, Nat.le_refl _, rfl, by go_num, by rw [List.drop_length]; exact Own.nil _ _ _ _ _, Below.refl _ _⟩
    case round =>
      obtain ⟨m, z, hm, hz, rfl, hown, hb⟩ := hrel
      obtain ⟨A4, c4, hsl, _⟩ := hown.slice
      rw [List.length_reverse, List.length_drop] at hsl
      skip
      subst hsl
      rcases Nat.eq_zero_or_pos m with hm0 | hmp
      · have hz1 : z = -1 := by omega
        subst hz1
        subst hm0
        clear hz hm
        rw [List.drop_zero] at hown
        rw [Nat.sub_zero] at hown ⊢
        have qb := hown.rd span_len
        have t2 := fun (W : World) (hbb : Below wr.heap.size wr W) => join_own _ _ W (qb.below hbb) (by simp; omega)
        rw [HJB.out] at t2
        have hbw := Below.refl wr.heap.size wr
        replace hB11 := Below.step hB11 hb
        clear hown qb
        go_wp2_with (first
          | (go_at_call 27; (with_reducible refine (t1 _ hb).mono ?_); rintro e w12 ⟨A12, c12, rfl, o12, hb1⟩; have r12 := Own.rd span_len o12; clear o12 t1; have hb12 := Below.step hb hb1; have hbw12 := Below.step hbw hb1; replace hB11 := Below.step hB11 hb1; clear hb1; have hsame := sameSpans_calls _ _ J J _ r12 (r11 _ hb12); rw [decide_eq_true rfl] at hsame)
          | (go_at_call 28; (with_reducible refine hsame.mono ?_); rintro e w13 ⟨rfl, hb1⟩; have hb13 := Below.step hb12 hb1; have hbw13 := Below.step hbw12 hb1; replace hB11 := Below.step hB11 hb1; clear hb1 hsame r12 hb12)
          | (go_at_call 27; (with_reducible refine (t2 _ hbw13).mono ?_); rintro e w14 ⟨A14, c14, rfl, o14, hb1⟩; have r14 := Own.rd span_len o14; clear o14 t2; have hb14 := Below.step hb13 hb1; replace hB11 := Below.step hB11 hb1; clear hb1; have hsame2 := sameSpans_calls _ _ J J _ r14 (r11 _ hb14); rw [decide_eq_true rfl] at hsame2)
          | (go_at_call 28; (with_reducible refine hsame2.mono ?_); rintro e w15 ⟨rfl, hb1⟩; replace hB11 := Below.step hB11 hb1; clear hb1 hsame2 r14 hb14))
        go_ret
        exact ⟨rfl, hB11⟩
      · obtain ⟨j, rfl⟩ : ∃ j, m = j + 1 := ⟨m - 1, by omega⟩
        have hzj : z = (j : Int) := by omega
        subst hzj
        have hlt : j < xs.length := by omega
        obtain ⟨b', o', hA', hx1, hx2⟩ := (hv.below hb).span (List.getElem?_eq_getElem hlt)
        injection hA' with hA'
        injection hA' with e1 e2
        subst e1 e2
        have HD := Lib.hid (List.drop_eq_getElem_cons hlt)
        generalize xs[j] = x at *
        have hlr : (xs.drop (j + 1)).reverse.length ≤ 1000000 := by simp; omega
        have hsz := hb.size
        clear hz
        go_wp2_with (at_builtin; refine append_one Span.enc 2 27 30 32 _ w11.heap.size _ _ x rfl _ _ rfl Try.underlying30 info_span rfl (by decide) (by decide) span_len span_one rfl rfl hown hb hsz (by omega) ?_; intro v' w' hown' hb' hgr hat; clear hgr hat hx1 hx2)
        go_roundw
        case rel =>
          refine ⟨j, _, by omega, rfl, by go_num, ?_, hb'⟩
          rw [HD.out, List.reverse_cons]
          exact hown'
        case measure => simp [intOf]

end Go.Proofs.Ytbfmneblhlmiiaa
