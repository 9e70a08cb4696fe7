import Derived.Test.YtomhkflcimbbiaaLActP
import Derived.Deep.Cut
set_option linter.unusedVariables false
set_option linter.unusedSimpArgs false
set_option linter.unusedSectionVars false
namespace Go.Proofs.Ytomhkflcimbbiaa
open Go.RowKit Go.Shelf

theorem filter_snoc_held (p : Held → Bool) (xs : List Held) (k : Nat) (x : Held) (h : xs[k]? = some x) : (xs.take (k + 1)).filter p = (xs.take k).filter p ++ (if p x then [x] else []) := by
  rw [List.take_add_one, h]
  simp [List.filter_append]
  split <;> simp_all

set_option maxHeartbeats 4000000 in
set_option maxRecDepth 100000 in
theorem does_calls {base : Nat} {w : World} {B nn : Nat} {T : Tab} (h : TabP base w B nn T) (hbase : base ≤ w.heap.size) {L : Nat} (hL : ∀ o, (T o).length ≤ L) (hLb : L ≤ 1000) (hnn : nn ≤ 1000) (hN : nn * L ≤ sortN)
    (q who : Int) (f t : ByteArray) (al : Bool) (hq : 0 ≤ q ∧ q ≤ 255) (hw : okU who) {vh : Value} {hs : List Held} (hh : Own Held.enc 4 50 base w vh hs) (hhl : hs.length ≤ 1000) :
    Calls Try.prog 18 #[.pointer (some ⟨B, 0, none⟩), vh, .agg #[.int .u8 q, .int .u32 who, .string f, .string t, .bool al]] w
      fun e w' => ∃ v' T' g n' w1, e = .returned (.tuple #[v', .bool true]) ∧ n' ≤ nn + 1 ∧ TabP base w' B n' T' ∧ TStep base w w1 ∧ w1.grownBy w' vh.ownBlock ∧ ActIs T ⟨q, who, f, t, al⟩ T' g ∧
        Own Held.enc 4 50 base w' v' (heldF ⟨q, who, f, t, al⟩ g hs) := by
  obtain ⟨A, ca, rfl, hla, hca⟩ := hh.slice
  go_enter Try.func18, Try.ntmps18
  have hba : Below w.heap.size w (w.alloc (.cells #[.int .u8 q, .int .u32 who, .string f, .string t, .bool al] 45)) := (Below.refl _ w).alloc (Nat.le_refl _) _
  have s0 : (w.alloc (.cells #[.int .u8 q, .int .u32 who, .string f, .string t, .bool al] 45)).heap[w.heap.size]? = some (.cells #[.int .u8 q, .int .u32 who, .string f, .string t, .bool al] 45 (0, 0)) := lalloc_at _ rfl
  have hT := h.below hba
  have hh2 := hh.below hba
  have hst0 : TStep base w (w.alloc (.cells #[.int .u8 q, .int .u32 who, .string f, .string t, .bool al] 45)) := .of_below hba
  have hsz : (w.alloc (.cells #[.int .u8 q, .int .u32 who, .string f, .string t, .bool al] 45)).heap.size = w.heap.size + 1 := by simp
  have hr : q.tmod 6 = q % 6 := Int.tmod_eq_emod_of_nonneg hq.1
  go_upto_region 1 with fail
  generalize hW : w.alloc (.cells #[.int .u8 q, .int .u32 who, .string f, .string t, .bool al] 45) = W at *
  have hcase : (q % 6 = 0 ∨ q % 6 = 1 ∨ q % 6 = 2 ∨ q % 6 = 3) ∨ q % 6 = 4 ∨ q % 6 = 5 := by omega
  have cells : ∀ W' : World, W'.heap[w.heap.size]? = some (.cells #[.int .u8 q, .int .u32 who, .string f, .string t, .bool al] 45 (0, 0)) →
      W'.cell? ⟨w.heap.size, 0, none⟩ = some (.int .u8 q) ∧ W'.cell? ⟨w.heap.size, 1, none⟩ = some (.int .u32 who) ∧ W'.cell? ⟨w.heap.size, 2, none⟩ = some (.string f) ∧ W'.cell? ⟨w.heap.size, 3, none⟩ = some (.string t) ∧ W'.cell? ⟨w.heap.size, 4, none⟩ = some (.bool al) := fun W' e =>
    ⟨by simp [World.cell?, e], by simp [World.cell?, e], by simp [World.cell?, e], by simp [World.cell?, e], by simp [World.cell?, e]⟩
  obtain ⟨c0, c1, c2, c3, c4⟩ := cells W s0
  have CS := Lib.hid cells
  have hask := fun M D (h : TabAt base W B M nn D T) => ask_calls h (by omega) hL hLb hnn who hw f t al (c := L) (fun o => Nat.le_trans (List.length_filter_le _ _) (hL o)) hN
  obtain ⟨M, D, hTA⟩ := hT
  replace hask := hask M D hTA
  have HSZ := Lib.hid hsz
  have HS0 := Lib.hid s0
  clear cells hba hW hsz s0 hh
  rcases hcase with h03 | hm | hm
  · rcases h03 with hm | hm | hm | hm
    all_goals
      rw [hm] at hr
      have HM := Lib.hid hm
      clear hm
      go_wp2_with (first
        | (at_builtin; refine append_oneH (W := w2) (w0 := w2) w2.heap.size rfl Held.enc 4 50 43 48 _ base (.slice A hs.length ca) hs ⟨who, f, t, al⟩ rfl _ _ rfl held_under info_held rfl (by decide) (by decide) held_len held_one rfl rfl hhw (Below.refl _ _) hbz2 (by omega) ?_; intro v' w' hown' hb' hgr hat)
        | (go_at_call 11
           refine hask.mono ?_
           rintro e w2 hpost
           rcases hpost with ⟨hz, rfl, hT2, hs2⟩ | ⟨hz, v', l, rfl, hne, hown', hway, hT2, hs2⟩ | ⟨hz, hno, rfl, ⟨n', hn', hT2⟩, hs2⟩
           all_goals obtain ⟨d0, d1, d2, d3, d4⟩ := CS.out w2 (hs2.cells HS0.out (by decide))
           all_goals clear c0 c1 c2 c3 c4 d0
           all_goals have hhw := hh2.tstep hs2 (by decide)
           all_goals have hbz2 : base ≤ w2.heap.size := (by have := hs2.size; have := HSZ.out; omega)
           all_goals try (
             have hlp : 0 < l.length := List.length_pos_iff.2 hne
             obtain ⟨A5, c5, rfl, _, _⟩ := hown'.slice
             have hlz : decide ((0 : Int) < (l.length : Int)) = true := decide_eq_true (by omega))))
      · -- none that may be
        go_ret2
        exact ⟨_, T, false, nn, w2, rfl, by omega, hT2, hst0.trans hs2, .refl _ _, .inl ⟨by have := HM.out; simp only; omega, hz, rfl, rfl⟩, by
          rw [show heldF ⟨q, who, f, t, al⟩ false hs = hs by unfold heldF; rw [if_neg (by decide), if_neg (by have := HM.out; simp only; omega)]]
          exact hh2.tstep hs2 (by decide)⟩
      · -- somebody is in the way
        go_ret2
        refine ⟨_, T, false, nn, w2, rfl, by omega, hT2, hst0.trans hs2, .refl _ _, .inr (.inl ⟨by have := HM.out; simp only; omega, hz, ?_, rfl, rfl⟩), ?_⟩
        · obtain ⟨o, ho⟩ := List.exists_mem_of_ne_nil _ hne
          exact ⟨o, (hway.mem o).1 ho⟩
        · rw [show heldF ⟨q, who, f, t, al⟩ false hs = hs by unfold heldF; rw [if_neg (by decide), if_neg (by have := HM.out; simp only; omega)]]
          exact hh2.tstep hs2 (by decide)
      · -- one gets it
        go_ret2
        refine ⟨v', _, true, n', w2, rfl, hn', hT2.kept hgr (fun g e => ?_), hst0.trans hs2, hgr, .inr (.inr (.inl ⟨by have := HM.out; simp only; omega, hz, hno, rfl, rfl⟩)), hown'⟩
        obtain ⟨cur, fr, hc⟩ := hhw.cellsAt g e
        exact ⟨cur, _, fr, hc, by decide, by decide⟩
  · -- all of somebody is free
    rw [hm] at hr
    have HM := Lib.hid hm
    have hfree := tfree_calls hTA who hw
    clear hm hask
    go_wp2_with (go_at_call 13
                 refine hfree.mono ?_
                 rintro e w2 ⟨rfl, hT2, hs2⟩
                 have hx2 := hs2.cells HS0.out (by decide)
                 have hhw := hh2.tstep hs2 (by decide)
                 have hbz2 : base ≤ w2.heap.size := (by have := hs2.size; have := HSZ.out; omega)
                 have hlt2 : w.heap.size < w2.heap.size := (by have := hs2.size; have := HSZ.out; omega)
                 clear c0 c1 c2 c3 c4 hfree)
    go_loopw [10, 11] (fun rv iv wr => ∃ k : Nat, k ≤ hs.length ∧ iv = .int .i64 k ∧ Own Held.enc 4 50 w2.heap.size wr rv ((hs.take k).filter fun h => decide (h.who ≠ who)) ∧ Below w2.heap.size w2 wr) (fun _ iv _ => hs.length - (intOf iv).toNat)
    case atStart => exact ⟨0, Nat.zero_le _, rfl, Own.nil _ _ _ _ _, Below.refl _ _⟩
    case round =>
      obtain ⟨k, hk, rfl, hown, hb⟩ := hrel
      have hxw := (hb.block _ hlt2).trans hx2
      obtain ⟨_, e1, _, _, _⟩ := CS.out wr hxw
      by_cases hlt : k < hs.length
      · have hxk := List.getElem?_eq_getElem hlt
        have hsn := filter_snoc_held (fun h => decide (h.who ≠ who)) hs k _ hxk
        obtain ⟨b, o, rfl, y1, y2, y3, y4⟩ := ((hhw.rd held_len).below hb).held hxk
        generalize hs[k] = x at *
        obtain ⟨xw, xf, xt, xa⟩ := x
        simp only at y1 y2 y3 y4 hsn
        obtain ⟨F, hF⟩ : ∃ F, (hs.take (k + 1)).filter (fun h => decide (h.who ≠ who)) = F := ⟨_, rfl⟩
        rw [hF] at hsn
        have HF := Lib.hid hF
        have hfl : ((hs.take k).filter fun h => decide (h.who ≠ who)).length ≤ 1000 := Nat.le_trans (List.length_filter_le _ _) (by rw [List.length_take]; omega)
        generalize (hs.take k).filter (fun h => decide (h.who ≠ who)) = F0 at *
        clear hF hxk
        by_cases hne : xw = who
        · have hq1 : (xw != who) = false := by simp [hne]
          have hFe : F = F0 := by rw [hsn, if_neg (by simp [hne]), List.append_nil]
          have HS := Lib.hid hFe
          clear hsn hFe hne
          go_wp2
          go_region
          all_goals go_wp2
          go_roundw
          case rel => exact ⟨k + 1, by omega, by go_num, by rw [HF.out, HS.out]; exact hown.below (Below.refl _ _).drew, hb.drew⟩
          case measure => simp [intOf]; omega
        · have hq1 : (xw != who) = true := by simp [hne]
          have hFe : F = F0 ++ [⟨xw, xf, xt, xa⟩] := by rw [hsn, if_pos (by simp [hne])]
          have HS := Lib.hid hFe
          have hne2 := Lib.hid hne
          clear hsn hFe hne
          obtain ⟨A2, cc2, rfl, _, _⟩ := hown.slice
          have hownd : Own Held.enc 4 50 w2.heap.size wr.drew (.slice A2 F0.length cc2) F0 := hown.below (Below.refl _ _).drew
          have hbd := hb.drew
          have hzd : w2.heap.size ≤ wr.drew.heap.size := hbd.size
          go_wp2
          go_region
          all_goals go_wp2_with (at_builtin; refine append_oneH (W := wr.drew) wr.heap.size rfl Held.enc 4 50 43 48 _ w2.heap.size (.slice A2 F0.length cc2) F0 ⟨xw, xf, xt, xa⟩ rfl _ _ rfl held_under info_held rfl (by decide) (by decide) held_len held_one rfl rfl hownd hbd hzd (by omega) ?_; intro v' w' hown' hb' hgr hat; clear hgr hat hown hownd)
          go_roundw
          case rel => exact ⟨k + 1, by omega, by go_num, by rw [HF.out, HS.out]; exact hown', hb'⟩
          case measure => simp [intOf]; omega
      · have hkl : k = hs.length := by omega
        subst hkl
        rw [List.take_length] at hown
        obtain ⟨F, hF⟩ : ∃ F, (hs.filter fun h => decide (h.who ≠ who)) = F := ⟨_, rfl⟩
        rw [hF] at hown
        have HF := Lib.hid hF
        clear hF
        have hT3 := hT2.below hb
        obtain ⟨M3, D3, hTA3⟩ := hT3
        have hp0 : putT T who [] who = [] := by simp [putT]
        have hhas := thas_calls hTA3 who hw (by rw [hp0]; simp)
        rw [hp0, List.map_nil] at hhas
        have HP := Lib.hid hp0
        have HH := Lib.hid hhas
        clear hp0 hhas hT2
        obtain ⟨A2, cc2, rfl, _, _⟩ := hown.slice
        go_wp2_with (go_at_call 14; refine HH.out.mono ?_; rintro e w3 ⟨v', rfl, hh3, hb3⟩; obtain ⟨A3, cc3, rfl, _, _⟩ := hh3.slice)
        go_ret2
        have hs3 := (hst0.trans hs2).trans ((TStep.of_below (base := base) hb).trans (.of_below hb3))
        refine ⟨.slice A2 F.length cc2, putT T who [], false, nn, w3, rfl, by omega, ⟨M3, D3, hTA3.below hb3⟩, hs3, .refl _ _, .inr (.inr (.inr (.inl ⟨HM.out, rfl, rfl⟩))), ?_⟩
        rw [show heldF ⟨q, who, f, t, al⟩ false hs = F by rw [← HF.out]; unfold heldF; rw [if_neg (by decide), if_pos HM.out]]
        exact ownsRow_low (hown.below hb3) hbz2
  · -- nothing
    rw [hm] at hr
    have HM := Lib.hid hm
    clear hm hask
    go_wp2
    go_ret2
    refine ⟨_, T, false, nn, W, rfl, by omega, ⟨M, D, hTA⟩, hst0, .refl _ _, .inr (.inr (.inr (.inr ⟨HM.out, rfl, rfl⟩))), ?_⟩
    rw [show heldF ⟨q, who, f, t, al⟩ false hs = hs by unfold heldF; rw [if_neg (by decide), if_neg (by have := HM.out; simp only; omega)]]
    exact hh2

/-- Where nobody keeps what was told. -/
theorem does0_calls {base : Nat} {w : World} {B nn : Nat} {T : Tab} (h : TabP base w B nn T) (hbase : base ≤ w.heap.size) {L : Nat} (hL : ∀ o, (T o).length ≤ L) (hLb : L ≤ 1000) (hnn : nn ≤ 1000) (hN : nn * L ≤ sortN)
    (q who : Int) (f t : ByteArray) (al : Bool) (hq : 0 ≤ q ∧ q ≤ 255) (hw : okU who) :
    Calls Try.prog 18 #[.pointer (some ⟨B, 0, none⟩), .slice none 0 0, .agg #[.int .u8 q, .int .u32 who, .string f, .string t, .bool al]] w
      fun e w' => ∃ v' T' g n', e = .returned (.tuple #[v', .bool true]) ∧ n' ≤ nn + 1 ∧ TabP base w' B n' T' ∧ TStep base w w' ∧ ActIs T ⟨q, who, f, t, al⟩ T' g := by
  refine (does_calls h hbase hL hLb hnn hN q who f t al hq hw (Own.nil _ _ _ _ _) (by simp)).mono ?_
  rintro e w' ⟨v', T', g, n', w1, rfl, hn, hT, hs, hg, ha, _⟩
  exact ⟨v', T', g, n', rfl, hn, hT, hs.trans ⟨hg.os, hg.tape, hg.output, hg.size, fun i hi _ => hg.block i hi (by simp [Value.ownBlock])⟩, ha⟩

end Go.Proofs.Ytomhkflcimbbiaa
