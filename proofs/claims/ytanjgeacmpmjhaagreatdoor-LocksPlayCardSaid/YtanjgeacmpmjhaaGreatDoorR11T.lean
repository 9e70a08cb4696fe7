import Derived.Test.YtanjgeacmpmjhaaGreatDoorR11h
set_option linter.unusedVariables false
set_option linter.unusedSimpArgs false
set_option linter.unusedSectionVars false
namespace Go.Proofs.YtanjgeacmpmjhaaGreatDoor
open Go.RowKit

set_option maxHeartbeats 4000000 in
set_option maxRecDepth 100000 in
theorem rway11T {base : Nat} {w : World} {C : Nat} {v : Value} {hs : List Held} (h : RTab base w C v hs) (hl : hs.length ≤ 100000) (who : Int) (f t : ByteArray) (hf : f.size ≤ 9223372036854775807) (ht : t.size ≤ 9223372036854775807) :
    Calls Tryz.prog 56 #[.pointer (some ⟨C, 0, none⟩), .int .u32 who, .agg #[.string f, .string t], .bool true] w
      fun e w' => ∃ v', e = .returned v' ∧ OwnU w.heap.size w' v' (if mayL who f t = true then wayR who f t true hs else []) ∧ Below w.heap.size w w' := by
  have hrd := h.own.rd held_len
  have c0 := h.c0
  have hsm := h.small
  obtain ⟨A, c, rfl, hlc, hc⟩ := hrd.shape
  clear h
  obtain ⟨Z, hZ⟩ : ∃ Z, (if mayL who f t = true then wayR who f t true hs else []) = Z := ⟨_, rfl⟩
  rw [hZ]
  have HZ := Lib.hid hZ
  clear hZ
  have hb0 : Below w.heap.size w (w.alloc (.cells #[.string f, .string t] 47)) := (Below.refl _ w).alloc (Nat.le_refl _) _
  have s0 : (w.alloc (.cells #[.string f, .string t] 47)).heap[w.heap.size]? = some (.cells #[.string f, .string t] 47 (0, 0)) := alloc_new w _
  have hhas := fun W => rhas_calls f t W hf ht
  go_enter Tryz.func56, Tryz.ntmps56
  go_upto_region 2 with fail
  generalize hW0 : w.alloc (.cells #[.string f, .string t] 47) = W0 at *
  clear hW0
  replace hrd := hrd.below hb0
  replace c0 := Below.cell_some hb0 c0
  have k0 : W0.cell? ⟨w.heap.size, 0, none⟩ = some (.string f) := by rw [heap_cell s0]; rfl
  have k1 : W0.cell? ⟨w.heap.size, 1, none⟩ = some (.string t) := by rw [heap_cell s0]; rfl
  by_cases hw0 : who = 0
  · have HZ2 : RowKit.Hid (Z = []) := by
      rw [← HZ.out]
      exact Lib.hid (by rw [if_neg]; simp [mayL, hw0])
    have hd : (who == 0) = true := by simp [hw0]
    go_wp2_with (go_at_call 145; refine (hhas _).mono ?_; rintro e w1 ⟨rfl, hb1⟩)
    go_ret
    exact ⟨_, rfl, by rw [HZ2.out]; exact .nil _ _ _ _ _, hb0⟩
  have hd : (who == 0) = false := by simp [hw0]
  cases hsl : sle f t
  · have HZ2 : RowKit.Hid (Z = []) := by
      rw [← HZ.out]
      exact Lib.hid (by rw [if_neg]; simp [mayL, hsl])
    rw [hsl] at hhas
    go_wp2_with (go_at_call 145; refine (hhas _).mono ?_; rintro e w1 ⟨rfl, hb1⟩)
    go_ret
    exact ⟨_, rfl, by rw [HZ2.out]; exact .nil _ _ _ _ _, Below.step hb0 hb1⟩
  rw [hsl] at hhas
  have HZ2 : RowKit.Hid (Z = wayR who f t true hs) := by
    rw [← HZ.out]
    exact Lib.hid (by rw [if_pos]; simp [mayL, hsl, hw0])
  clear HZ
  go_wp2_with (go_at_call 145; refine (hhas _).mono ?_; rintro e W1 ⟨rfl, hb1⟩)
  clear hhas hsl s0
  replace hrd := hrd.below hb1
  replace c0 := Below.cell_some hb1 c0
  replace k0 := Below.cell_some hb1 k0
  replace k1 := Below.cell_some hb1 k1
  replace hb0 := Below.step hb0 hb1
  have hz0 := hb0.size
  clear hb1
  go_loopw [9, 10] (fun ov iv wr => ∃ (m : Nat) (os : List Int), m ≤ hs.length ∧ iv = .int .i64 m ∧ wayR who f t true (hs.take m) = os ∧ os.length ≤ m ∧ (os = [] → ov = nilV) ∧ OwnU W1.heap.size wr ov os ∧ Below W1.heap.size W1 wr) (fun _ iv _ => hs.length - (intOf iv).toNat)
  case atStart => exact ⟨0, [], Nat.zero_le _, rfl, by simp [wayR], by simp, fun _ => rfl, .nil _ _ _ _ _, Below.refl _ _⟩
  case round =>
    obtain ⟨m, os, hm, rfl, hos, hol, hnil, hown, hb⟩ := hrel
    have HOS := Lib.hid hos
    clear hos
    by_cases hlt : m < hs.length
    case neg =>
      have hme : m = hs.length := by omega
      subst hme
      have hos := HOS.out
      rw [List.take_length] at hos
      have HO := Lib.hid hown
      have HB := Lib.hid hb
      have c1 := Below.cell_some hb c0
      clear hown hb
      go_wp2
      go_ret
      refine ⟨_, rfl, ?_, Below.step hb0 HB.out⟩
      rw [HZ2.out, hos]
      exact HO.out.lower hz0
    have hx := List.getElem?_eq_getElem hlt
    obtain ⟨b, o, rfl, x0, x1, x2, x3⟩ := (hrd.below hb).held hx
    have hxs := hsm _ (List.getElem_mem hlt)
    have HST := Lib.hid ((wayR_snoc who f t true hs m _ hx).trans (by rw [HOS.out]))
    generalize hs[m] = x at *
    obtain ⟨xw, xf, xt, xa⟩ := x
    simp only at x0 x1 x2 x3 hxs
    have hxs1 := hxs.1
    have hxs2 := hxs.2
    simp only at hxs1 hxs2
    have c1 := Below.cell_some hb c0
    have k2 := Below.cell_some hb k0
    have k3 := Below.cell_some hb k1
    have hba : Below wr.heap.size wr (wr.alloc (.cells #[.int .u32 xw, .string xf, .string xt, .bool xa] 166)) := (Below.refl _ wr).alloc (Nat.le_refl _) _
    have s1 : (wr.alloc (.cells #[.int .u32 xw, .string xf, .string xt, .bool xa] 166)).heap[wr.heap.size]? = some (.cells #[.int .u32 xw, .string xf, .string xt, .bool xa] 166 (0, 0)) := alloc_new wr _
    have hc1 := Below.cell_some hba c1
    have hk2 := Below.cell_some hba k2
    have hk3 := Below.cell_some hba k3
    have hO2 := hown.below hba
    have hB2 := Below.step hb hba
    have HX := Lib.hid hx
    go_upto_region 8 with fail
    generalize hW2 : wr.alloc (.cells #[.int .u32 xw, .string xf, .string xt, .bool xa] 166) = W2 at *
    have hX2 : wr.heap.size < W2.heap.size := (Array.getElem?_eq_some_iff.1 s1).1
    have HS1 := Lib.hid s1
    have HO2 := Lib.hid hO2
    have HB2 := Lib.hid hB2
    have y0 : W2.cell? ⟨wr.heap.size, 0, none⟩ = some (.int .u32 xw) := by rw [heap_cell s1]; rfl
    have y1 : W2.cell? ⟨wr.heap.size, 1, none⟩ = some (.string xf) := by rw [heap_cell s1]; rfl
    have y2 : W2.cell? ⟨wr.heap.size, 2, none⟩ = some (.string xt) := by rw [heap_cell s1]; rfl
    have y3 : W2.cell? ⟨wr.heap.size, 3, none⟩ = some (.bool xa) := by rw [heap_cell s1]; rfl
    clear hW2 hown hb x0 x1 x2 x3 hx c1 k2 k3 hba s1 hO2 hB2
    have hmeet := rmeet_calls xf xt f t W2 hxs1 hxs2 hf ht
    rw [rmeet4_eq] at hmeet
    have HC1 := Lib.hid hc1
    have HY0 := Lib.hid y0
    clear hc1
    have SKIP : RowKit.Hid (∀ W' : World, Below W2.heap.size W2 W' → (xw = who ∨ (true = false ∧ xa = false) ∨ meet4 xf xt f t = false) → ∃ (m' : Nat) (os' : List Int), m' ≤ hs.length ∧ ((m : Int) + 1) = (m' : Int) ∧ wayR who f t true (hs.take m') = os' ∧ os'.length ≤ m' ∧ os' = os ∧ Below W1.heap.size W1 W') :=
      Lib.hid fun W' hb hc => ⟨m + 1, os, by omega, by omega, by rw [HST.out]; exact wayStep_skip hc, by omega, rfl, Below.step HB2.out hb⟩
    by_cases hxw : xw = who
    · have hd : (xw == who) = true := by simp [hxw]
      go_wp2_with (go_at_call 140; refine hmeet.mono ?_; rintro e w5 ⟨rfl, hb5⟩)
      go_roundw
      case rel =>
        obtain ⟨m', os', h1, h2, h3, h4, h5, h6⟩ := SKIP.out _ (Below.refl _ _) (.inl hxw)
        exact ⟨m', os', h1, by rw [h2], h3, h4, fun e => hnil (h5 ▸ e), h5 ▸ HO2.out.below (Below.refl _ _), h6⟩
      case measure => simp [intOf]; omega
    have hd : (xw == who) = false := by simp [hxw]
    cases hme : meet4 xf xt f t
    · rw [hme] at hmeet
      go_wp2_with (go_at_call 140; refine hmeet.mono ?_; rintro e w5 ⟨rfl, hb5⟩)
      go_roundw
      case rel =>
        obtain ⟨m', os', h1, h2, h3, h4, h5, h6⟩ := SKIP.out _ hb5 (.inr (.inr hme))
        exact ⟨m', os', h1, by rw [h2], h3, h4, fun e => hnil (h5 ▸ e), h5 ▸ HO2.out.below hb5, h6⟩
      case measure => simp [intOf]; omega
    rw [hme] at hmeet
    have WP : RowKit.Hid (∀ k : Nat, (∀ j y, j < k → os[j]? = some y → y < xw) → k ≤ os.length → (∀ y, os[k]? = some y → ¬ y < xw) → wayStep who f t true os ⟨xw, xf, xt, xa⟩ = if os[k]? = some xw then os else os.take k ++ [xw] ++ os.drop k) := Lib.hid fun k h1 h2 h3 => wayStep_put (fun h => by rcases h with h | h | h <;> simp_all) h1 h2 h3
    clear SKIP hxw
    generalize wr.heap.size = X at *
    rcases Nat.eq_zero_or_pos os.length with h0 | hpos
    · obtain rfl : os = [] := List.length_eq_zero_iff.1 h0
      obtain rfl := hnil rfl
      go_wp2_with (go_at_call 140; refine hmeet.mono ?_; rintro e w5 ⟨rfl, hb5⟩)
      have hO5 := HO2.out.below hb5
      have q5 := Below.cell_some hb5 HY0.out
      have HB5 := Lib.hid hb5
      clear hb5 y0 y1 y2 y3 hk2 hk3 hmeet
      go_loopw [12] (fun kv wr2 => kv = .int .i64 0 ∧ Below w5.heap.size w5 wr2) (fun _ _ => 0)
      case atStart => exact ⟨rfl, Below.refl _ _⟩
      case round =>
        obtain ⟨rfl, hbk⟩ := hrel
        have HBK := Lib.hid hbk
        have q6 := Below.cell_some hbk q5
        clear hbk
        go_wp2
        refine wp_region_later (by kernel_rfl) (by kernel_rfl) ?_
        repeat (go_big_quiet_step ((fail)))
        refine wpQuiet_nil ?_
        rintro _ ⟨p, rfl⟩
        have hb6 := Below.step HBK.out p.ok
        have q7 := Later.cell p q6
        generalize p.val = W6 at *
        go_wp2
        refine wp_region_later (by kernel_rfl) (by kernel_rfl) ?_
        repeat (go_big_quiet_step ((fail)))
        refine wpQuiet_nil ?_
        rintro _ ⟨p, rfl⟩
        have hBP := Below.step HB5.out (Below.step hb6 p.ok)
        have hOp := HO2.out.below hBP
        have hqp := Later.cell p q7
        have HBP := Lib.hid hBP
        clear hBP hb6 q6 q7
        generalize p.val = Wp at *
        have hrdN : ∀ W, Rd encU 1 W (.slice none 0 0) ([] : List Int) := fun W => ⟨none, 0, rfl, Nat.le_refl _, by omega, fun h => absurd h (Nat.lt_irrefl _)⟩
        have hXW : X < Wp.heap.size := World.block_lt_of_cell? Wp _ hqp
        have R1 := fun (W' : World) (h : Below Wp.heap.size Wp W') => run_copy_all (P := Tryz.prog) (W := W') encU 1 42 91 91 4 _ ([] : List Int) none 0 0 u32s_underR info_u32r rfl (by decide) (by decide) encU_len encU_one rfl (hrdN W') (by simp)
        have R2 := fun (W' : World) (A9 : Option Addr) (c9 H : Nat) (hbase : Wp.heap.size ≤ W'.heap.size) (ho : OwnU Wp.heap.size W' (.slice A9 0 c9) []) (h : Below Wp.heap.size Wp W') (hbox : W'.heap[H]? = some (.cells (encU xw).toArray 42 (0, 0))) =>
          run_append_box (P := Tryz.prog) (W := W') (W0 := Wp) encU 1 42 91 91 4 _ Wp.heap.size A9 0 c9 ([] : List Int) xw H u32s_underR info_u32r rfl (by decide) (by decide) encU_len (encU_one _) rfl hbox ho h hbase (by simp)
        have PUT := Lib.hid (WP.out 0 (fun j y hj => absurd hj (Nat.not_lt_zero _)) (Nat.zero_le _) (fun y hy => by simp at hy))
        have HRN := Lib.hid hrdN
        clear hrdN hOp
        go_wp2
        go_region_law (first
          | (refine step_append_post rfl (.tmp 85) (.tmp 88) 91 rfl rfl rfl (R1 _ (by first | exact (Below.refl _ Wp).drew | exact ((Below.refl _ Wp).drew.alloc (Nat.le_refl _) _) | exact ((Below.refl _ Wp).alloc (Nat.le_refl _) _).drew)) ?_
             rintro v9 w9 ⟨A9, c9, rfl, ho9, hb9⟩
             have hbw9 : Below Wp.heap.size Wp w9 := by first | exact Below.step (Below.refl _ Wp).drew hb9 | exact Below.step ((Below.refl _ Wp).drew.alloc (Nat.le_refl _) _) hb9 | exact Below.step ((Below.refl _ Wp).alloc (Nat.le_refl _) _).drew hb9
             have ho9l : OwnU Wp.heap.size w9 (.slice A9 0 c9) [] := ownsRow_lower ho9 (by first | exact Nat.le_refl _ | simp)
             have e1 := Below.cell_some hbw9 hqp)
          | (refine step_append_post rfl (.tmp 89) (.tmp 92) 91 rfl rfl rfl (R2 _ _ _ _ (by first | exact hbw9.size | (have := hbw9.size; simp; omega)) (by first | exact ho9l | exact ho9l.below ((Below.refl _ w9).alloc (Nat.le_refl _) _)) (by first | exact hbw9 | exact hbw9.alloc hbw9.size _) (by first | exact alloc_newH rfl _ | exact (hb9.block Wp.heap.size (by simp)).trans (alloc_newH rfl _))) ?_
             rintro v10 w10 ⟨A10, c10, rfl, ho10, hb10⟩))
        all_goals
          go_wp2_with (at_builtin; refine append_allN (w0 := Wp) encU 1 42 91 4 _ Wp.heap.size (.slice A10 (0 + 1) c10) ([] ++ [xw]) ([] : List Int) _ _ _ rfl _ _ rfl u32s_underR info_u32r rfl (by decide) (by decide) encU_len encU_one rfl rfl (HRN.out _) ho10 hb10 hb10.size (by simp) ?_; intro v11 w11 hown11 hb11 _)
          go_roundw
          case rel =>
            refine ⟨m + 1, [xw], by omega, by go_num, by rw [HST.out]; exact PUT.out, by simp, fun e => (by simp at e), ownsRow_lower hown11 (by have := (Below.step HB2.out HBP.out).size; omega), Below.trans (Below.step HB2.out HBP.out) (hb11.mono (Below.step HB2.out HBP.out).size)⟩
          case measure => simp [intOf]; omega
    · obtain ⟨g, co, cur, hv, -⟩ := Own.some_block HO2.out hpos
      subst hv
      have hloc : os.length ≤ co := by
        obtain ⟨A', c', e, h1, _⟩ := HO2.out.slice
        injection e with _ _ e3
        omega
      go_wp2_with (go_at_call 140; refine hmeet.mono ?_; rintro e w5 ⟨rfl, hb5⟩)
      have hO5 := HO2.out.below hb5
      have q5 := Below.cell_some hb5 HY0.out
      have HB5 := Lib.hid hb5
      clear hb5 y0 y1 y2 y3 hk2 hk3 hmeet
      go_loopw [12] (fun kv wr2 => ∃ k : Nat, k ≤ os.length ∧ kv = .int .i64 k ∧ (∀ j y, j < k → os[j]? = some y → y < xw) ∧ Below w5.heap.size w5 wr2) (fun kv _ => os.length - (intOf kv).toNat)
      case atStart => exact ⟨0, Nat.zero_le _, rfl, fun j y hj => absurd hj (Nat.not_lt_zero _), Below.refl _ _⟩
      case round =>
        obtain ⟨k, hk, rfl, hlow, hbk⟩ := hrel
        have HBK := Lib.hid hbk
        have q6 := Below.cell_some hbk q5
        have hO6 := hO5.below hbk
        clear hbk
        by_cases hlt2 : k < os.length
        · have hxk := List.getElem?_eq_getElem hlt2
          obtain ⟨b2, o2, e, hy⟩ := (hO6.rd encU_len).int hxk
          injection e with e
          injection e with e1 e2
          subst e1 e2
          simp only [Nat.zero_add] at hy
          have HXK := Lib.hid hxk
          generalize os[k] = y at *
          have f1 := fun p : Later wr => Later.cell p hy
          have f2 := fun p : Later wr => Later.cell p q6
          have HLOW := Lib.hid hlow
          clear hxk hlow
          by_cases hyx : y < xw
          · go_wp2
            refine wp_region_later (by kernel_rfl) (by kernel_rfl) ?_
            repeat (go_big_quiet_step ((fail)))
            refine wpQuiet_nil ?_
            rintro _ ⟨p, rfl⟩
            clear f1 f2
            go_wp2
            go_roundw
            case rel => exact ⟨k + 1, by omega, by go_num, fun j z hj hz => by
              rcases Nat.lt_or_ge j k with h | h
              · exact HLOW.out j z h hz
              · have : j = k := by omega
                subst this; rw [HXK.out] at hz; injection hz with hz; omega, Below.step HBK.out p.ok⟩
            case measure => simp [intOf]; omega
          · go_wp2
            refine wp_region_later (by kernel_rfl) (by kernel_rfl) ?_
            repeat (go_big_quiet_step ((fail)))
            refine wpQuiet_nil ?_
            rintro _ ⟨p, rfl⟩
            have hb6 := Below.step HBK.out p.ok
            have q7 := f2 p
            have y7 := f1 p
            clear f1 f2 hy q6
            generalize p.val = W6 at *
            have f3 := fun p : Later W6 => Later.cell p q7
            have f4 := fun p : Later W6 => Later.cell p y7
            have hPUT := WP.out k HLOW.out hk (fun z hz => by rw [HXK.out] at hz; injection hz with hz; omega)
            rw [HXK.out] at hPUT
            by_cases hyq : y = xw
            · rw [if_pos (by rw [hyq])] at hPUT
              have PUT := Lib.hid hPUT
              clear hPUT
              have hd2 : (y == xw) = true := by simp [hyq]
              have hyx2 : ¬ xw < xw := Int.lt_irrefl _
              clear hyq
              go_wp2
              refine wp_region_later (by kernel_rfl) (by kernel_rfl) ?_
              repeat (go_big_quiet_step ((fail)))
              refine wpQuiet_nil ?_
              rintro _ ⟨p, rfl⟩
              clear f3 f4
              have HBP := Lib.hid (Below.step HB5.out (Below.step hb6 p.ok))
              go_wp2
              go_roundw
              case rel => exact ⟨m + 1, os, by omega, by go_num, by rw [HST.out]; exact PUT.out, by omega, fun e => (by rw [e] at hpos; cases hpos), HO2.out.below HBP.out, Below.step HB2.out HBP.out⟩
              case measure => simp [intOf]; omega
            · rw [if_neg (by simpa using hyq)] at hPUT
              have PUT := Lib.hid hPUT
              clear hPUT
              have hd2 : (y == xw) = false := by simp [hyq]
              go_wp2
              refine wp_region_later (by kernel_rfl) (by kernel_rfl) ?_
              repeat (go_big_quiet_step ((fail)))
              refine wpQuiet_nil ?_
              rintro _ ⟨p, rfl⟩
              have hBP := Below.step HB5.out (Below.step hb6 p.ok)
              have hOp := HO2.out.below hBP
              have hqp := f3 p
              have HBP := Lib.hid hBP
              clear hBP hb6 q7 y7 f3 f4 hO6 hd2
              generalize p.val = Wp at *
              have hrdp := hOp.rd encU_len
              have htl : (os.take k).length = k := by rw [List.length_take]; omega
              have hdl : (os.drop k).length = os.length - k := List.length_drop
              have hol2 : os.length ≤ 100000 := by omega
              have hkc : k ≤ co := by omega
              have hXW : X < Wp.heap.size := World.block_lt_of_cell? Wp _ hqp
              have R1 := fun (W' : World) (h : Below Wp.heap.size Wp W') => run_copy_all (P := Tryz.prog) (W := W') encU 1 42 91 91 4 _ (os.take k) (some ⟨g, 0, none⟩) k co u32s_underR info_u32r rfl (by decide) (by decide) encU_len encU_one htl.symm ((hrdp.takeQ k hk).below h) (by omega)
              have R2 := fun (W' : World) (A9 : Option Addr) (c9 H : Nat) (hbase : Wp.heap.size ≤ W'.heap.size) (ho : OwnU Wp.heap.size W' (.slice A9 k c9) (os.take k)) (h : Below Wp.heap.size Wp W') (hbox : W'.heap[H]? = some (.cells (encU xw).toArray 42 (0, 0))) =>
                run_append_box (P := Tryz.prog) (W := W') (W0 := Wp) encU 1 42 91 91 4 _ Wp.heap.size A9 k c9 (os.take k) xw H u32s_underR info_u32r rfl (by decide) (by decide) encU_len (encU_one _) htl.symm hbox ho h hbase (by omega)
              have HE : RowKit.Hid (∀ W, Below Wp.heap.size Wp W → Rd encU 1 W (.slice (some ⟨g, k, none⟩) (os.length - k) (co - k)) (os.drop k)) := Lib.hid fun W hb => (hrdp.drop k hk k (by omega)).below hb
              have HC : RowKit.Hid (∀ W, Below Wp.heap.size Wp W → Rd encU 1 W (.slice (if co = k then (some ⟨g, 0, none⟩) else Option.map (fun x : Addr => x.add (k * 1)) (some ⟨g, 0, none⟩)) (os.length - k) (co - k)) (os.drop k)) := Lib.hid fun W hb => (hrdp.cut k hk).below hb
              have HTD := Lib.hid (And.intro htl hdl)
              have HOP := Lib.hid hOp
              clear htl hdl hrdp hOp
              go_wp2
              go_region_law (first
                | (refine step_append_post rfl (.tmp 85) (.tmp 88) 91 rfl rfl rfl (R1 _ (by first | exact (Below.refl _ Wp).drew | exact ((Below.refl _ Wp).drew.alloc (Nat.le_refl _) _) | exact ((Below.refl _ Wp).alloc (Nat.le_refl _) _).drew)) ?_
                   rintro v9 w9 ⟨A9, c9, rfl, ho9, hb9⟩
                   have hbw9 : Below Wp.heap.size Wp w9 := by first | exact Below.step (Below.refl _ Wp).drew hb9 | exact Below.step ((Below.refl _ Wp).drew.alloc (Nat.le_refl _) _) hb9 | exact Below.step ((Below.refl _ Wp).alloc (Nat.le_refl _) _).drew hb9
                   have ho9l : OwnU Wp.heap.size w9 (.slice A9 k c9) (os.take k) := ownsRow_lower ho9 (by first | exact Nat.le_refl _ | simp)
                   have e1 := Below.cell_some hbw9 hqp)
                | (refine step_append_post rfl (.tmp 89) (.tmp 92) 91 rfl rfl rfl (R2 _ _ _ _ (by first | exact hbw9.size | (have := hbw9.size; simp; omega)) (by first | exact ho9l | exact ho9l.below ((Below.refl _ w9).alloc (Nat.le_refl _) _)) (by first | exact hbw9 | exact hbw9.alloc hbw9.size _) (by first | exact alloc_newH rfl _ | exact (hb9.block Wp.heap.size (by simp)).trans (alloc_newH rfl _))) ?_
                   rintro v10 w10 ⟨A10, c10, rfl, ho10, hb10⟩))
              all_goals
                go_wp2_with (at_builtin; refine append_allN (w0 := Wp) encU 1 42 91 4 _ Wp.heap.size (.slice A10 (k + 1) c10) (os.take k ++ [xw]) (os.drop k) _ _ _ rfl _ _ rfl u32s_underR info_u32r rfl (by decide) (by decide) encU_len encU_one rfl rfl (by first | exact HE.out _ hb10 | (have := HC.out _ hb10; simpa [Addr.add_lit] using this) | (have := HC.out _ hb10; simpa [Addr.add] using this)) ho10 hb10 hb10.size (by have := HTD.out.1; have := HTD.out.2; simp only [List.length_append, List.length_singleton]; omega) ?_; intro v11 w11 hown11 hb11 _)
                go_roundw
                case rel =>
                  refine ⟨m + 1, os.take k ++ [xw] ++ os.drop k, by omega, by go_num, by rw [HST.out]; exact PUT.out, by have := HTD.out.1; have := HTD.out.2; simp only [List.length_append, List.length_singleton]; omega, fun e => (by simp at e), ownsRow_lower hown11 (by have := (Below.step HB2.out HBP.out).size; omega), Below.trans (Below.step HB2.out HBP.out) (hb11.mono (Below.step HB2.out HBP.out).size)⟩
                case measure => simp [intOf]; omega
        · have HKE := Lib.hid (show k = os.length by omega)
          go_wp2
          refine wp_region_later (by kernel_rfl) (by kernel_rfl) ?_
          repeat (go_big_quiet_step ((fail)))
          refine wpQuiet_nil ?_
          rintro _ ⟨p, rfl⟩
          have hb6 := Below.step HBK.out p.ok
          have q7 := Later.cell p q6
          clear q6
          generalize p.val = W6 at *
          have hno2 : os[k]? = none := List.getElem?_eq_none (by omega)
          have hPUT := WP.out k hlow hk (fun z hz => by rw [hno2] at hz; cases hz)
          rw [hno2, if_neg (by simp)] at hPUT
          have PUT := Lib.hid hPUT
          clear hPUT hno2
          go_wp2
          refine wp_region_later (by kernel_rfl) (by kernel_rfl) ?_
          repeat (go_big_quiet_step ((fail)))
          refine wpQuiet_nil ?_
          rintro _ ⟨p, rfl⟩
          have hBP := Below.step HB5.out (Below.step hb6 p.ok)
          have hOp := HO2.out.below hBP
          have hqp := Later.cell p q7
          have HBP := Lib.hid hBP
          clear hBP hb6 q7 hO6 hlow
          generalize p.val = Wp at *
          have hrdp := hOp.rd encU_len
          have htl : (os.take k).length = k := by rw [List.length_take]; omega
          have hdl : (os.drop k).length = os.length - k := List.length_drop
          have hol2 : os.length ≤ 100000 := by omega
          have hkc : k ≤ co := by omega
          have hXW : X < Wp.heap.size := World.block_lt_of_cell? Wp _ hqp
          have R1 := fun (W' : World) (h : Below Wp.heap.size Wp W') => run_copy_all (P := Tryz.prog) (W := W') encU 1 42 91 91 4 _ (os.take k) (some ⟨g, 0, none⟩) k co u32s_underR info_u32r rfl (by decide) (by decide) encU_len encU_one htl.symm ((hrdp.takeQ k hk).below h) (by omega)
          have R2 := fun (W' : World) (A9 : Option Addr) (c9 H : Nat) (hbase : Wp.heap.size ≤ W'.heap.size) (ho : OwnU Wp.heap.size W' (.slice A9 k c9) (os.take k)) (h : Below Wp.heap.size Wp W') (hbox : W'.heap[H]? = some (.cells (encU xw).toArray 42 (0, 0))) =>
            run_append_box (P := Tryz.prog) (W := W') (W0 := Wp) encU 1 42 91 91 4 _ Wp.heap.size A9 k c9 (os.take k) xw H u32s_underR info_u32r rfl (by decide) (by decide) encU_len (encU_one _) htl.symm hbox ho h hbase (by omega)
          have HE : RowKit.Hid (∀ W, Below Wp.heap.size Wp W → Rd encU 1 W (.slice (some ⟨g, k, none⟩) (os.length - k) (co - k)) (os.drop k)) := Lib.hid fun W hb => (hrdp.drop k hk k (by omega)).below hb
          have HC : RowKit.Hid (∀ W, Below Wp.heap.size Wp W → Rd encU 1 W (.slice (if co = k then (some ⟨g, 0, none⟩) else Option.map (fun x : Addr => x.add (k * 1)) (some ⟨g, 0, none⟩)) (os.length - k) (co - k)) (os.drop k)) := Lib.hid fun W hb => (hrdp.cut k hk).below hb
          have HTD := Lib.hid (And.intro htl hdl)
          have HOP := Lib.hid hOp
          clear htl hdl hrdp hOp
          go_wp2
          go_region_law (first
            | (refine step_append_post rfl (.tmp 85) (.tmp 88) 91 rfl rfl rfl (R1 _ (by first | exact (Below.refl _ Wp).drew | exact ((Below.refl _ Wp).drew.alloc (Nat.le_refl _) _) | exact ((Below.refl _ Wp).alloc (Nat.le_refl _) _).drew)) ?_
               rintro v9 w9 ⟨A9, c9, rfl, ho9, hb9⟩
               have hbw9 : Below Wp.heap.size Wp w9 := by first | exact Below.step (Below.refl _ Wp).drew hb9 | exact Below.step ((Below.refl _ Wp).drew.alloc (Nat.le_refl _) _) hb9 | exact Below.step ((Below.refl _ Wp).alloc (Nat.le_refl _) _).drew hb9
               have ho9l : OwnU Wp.heap.size w9 (.slice A9 k c9) (os.take k) := ownsRow_lower ho9 (by first | exact Nat.le_refl _ | simp)
               have e1 := Below.cell_some hbw9 hqp)
            | (refine step_append_post rfl (.tmp 89) (.tmp 92) 91 rfl rfl rfl (R2 _ _ _ _ (by first | exact hbw9.size | (have := hbw9.size; simp; omega)) (by first | exact ho9l | exact ho9l.below ((Below.refl _ w9).alloc (Nat.le_refl _) _)) (by first | exact hbw9 | exact hbw9.alloc hbw9.size _) (by first | exact alloc_newH rfl _ | exact (hb9.block Wp.heap.size (by simp)).trans (alloc_newH rfl _))) ?_
               rintro v10 w10 ⟨A10, c10, rfl, ho10, hb10⟩))
          all_goals
            go_wp2_with (at_builtin; refine append_allN (w0 := Wp) encU 1 42 91 4 _ Wp.heap.size (.slice A10 (k + 1) c10) (os.take k ++ [xw]) (os.drop k) _ _ _ rfl _ _ rfl u32s_underR info_u32r rfl (by decide) (by decide) encU_len encU_one rfl rfl (by first | exact HE.out _ hb10 | (have := HC.out _ hb10; simpa [Addr.add_lit] using this) | (have := HC.out _ hb10; simpa [Addr.add] using this)) ho10 hb10 hb10.size (by have := HTD.out.1; have := HTD.out.2; simp only [List.length_append, List.length_singleton]; omega) ?_; intro v11 w11 hown11 hb11 _)
            go_roundw
            case rel =>
              refine ⟨m + 1, os.take k ++ [xw] ++ os.drop k, by omega, by go_num, by rw [HST.out]; exact PUT.out, by have := HTD.out.1; have := HTD.out.2; simp only [List.length_append, List.length_singleton]; omega, fun e => (by simp at e), ownsRow_lower hown11 (by have := (Below.step HB2.out HBP.out).size; omega), Below.trans (Below.step HB2.out HBP.out) (hb11.mono (Below.step HB2.out HBP.out).size)⟩
            case measure => simp [intOf]; omega

end Go.Proofs.YtanjgeacmpmjhaaGreatDoor
