import Derived.Test.YtomhkflcimbbiaaLApartH
import Derived.StillTailTactics
import Derived.Deep.CutRange
import Derived.Test.YtomhkflcimbbiaaMeetC
set_option linter.unusedVariables false
set_option linter.unusedSimpArgs false
set_option linter.unusedSectionVars false
namespace Go.Proofs.Ytomhkflcimbbiaa
open Go.RowKit Go.Shelf

set_option maxHeartbeats 2000000 in
set_option maxRecDepth 100000 in
theorem locksApart_walk (v0 : Value) (xs : List LAct) (w : World) (rd0 : Rd LAct.enc 5 w v0 xs) (ok0 : ∀ a ∈ xs, a.ok) :
    Calls Try.prog 4 #[v0] w fun e w' => e = .returned (.bool true) ∧ Below w.heap.size w w' := by
  obtain ⟨A0, p0, rfl, hl0, hc0⟩ := rd0.shape
  go_enter Try.func4, Try.ntmps4
  have hB := Below.refl w.heap.size w
  go_wp2_with fail
  go_at_call 15
  refine (aliveL_calls _).mono ?_
  rintro e w1 ⟨rfl, hb1⟩
  replace hB := Below.step hB hb1
  clear hb1
  go_wp2_with fail
  go_at_call 16
  refine (lgreat_calls _ xs _ (rd0.below hB)).mono ?_
  rintro e w2 ⟨⟨g, rfl⟩, hb2⟩
  replace hB := Below.step hB hb2
  clear hb2
  by_cases hbad : g = true ∨ 100 < xs.length
  · have hq : g = true ∨ (g = false ∧ 100 < xs.length) := by
      cases g <;> simp at hbad ⊢ <;> omega
    clear hbad
    rcases hq with h1 | ⟨h1, h2⟩
    all_goals subst h1
    all_goals
      first
        | (have hd : decide (100 < (xs.length : Int)) = true := decide_eq_true (by omega))
        | skip
      go_wp2_with (go_at_call 15; refine (aliveL_calls _).mono ?_; rintro e w3 ⟨rfl, hb3⟩)
      go_ret
      exact ⟨rfl, Below.step hB hb3⟩
  · obtain ⟨h1, h2⟩ : g = false ∧ ¬ 100 < xs.length := by
      cases g <;> simp at hbad ⊢ <;> omega
    clear hbad
    subst h1
    have hd : decide (100 < (xs.length : Int)) = false := decide_eq_false (by omega)
    go_wp2_with (go_at_call 17
                 refine (tnew_calls w2).mono ?_
                 rintro e w4 ⟨rfl, hb4, hT0⟩
                 have hwb := hB.size
                 replace hB := Below.step hB hb4
                 have hz4 := hb4.size
                 clear hb4)
    generalize w2.heap.size = bb at *
    have hac : ActedH w bb 0 w4 (fun _ => []) (.slice none 0 0) [] := ⟨⟨⟨0, Nat.le_refl _, hT0⟩, .new, fun _ => Nat.le_refl _, hz4, hB⟩, .new, Nat.le_refl _, Own.nil _ _ _ _ _⟩
    clear hd hT0 hz4 hB
    go_loopw [4, 5] (fun av iv wr => ∃ (k : Nat) (T : Tab) (hs : List Held), k ≤ xs.length ∧ iv = .int .i64 k ∧ ActedH w bb k wr T av hs) (fun _ iv _ => xs.length - (intOf iv).toNat)
    case atStart => exact ⟨0, _, [], Nat.zero_le _, rfl, hac⟩
    case round =>
      clear hac
      obtain ⟨k, T, hs, hk, rfl, hac⟩ := hrel
      by_cases hlt : k < xs.length
      · have hxk := List.getElem?_eq_getElem hlt
        obtain ⟨bx, ox, rfl, y0, y1, y2, y3, y4⟩ := (rd0.below hac.act.below).lact hxk
        have hox := ok0 _ (List.getElem_mem hlt)
        have hqy := LAct.byte hox
        have hwy : okU xs[k].who := hox.2.1
        obtain ⟨A4, c4, rfl, _, _⟩ := hac.own.slice
        have HR := Lib.hid rd0
        have HO := Lib.hid ok0
        clear rd0 ok0 hxk hox
        generalize xs[k] = y at *
        obtain ⟨q, who, f, t, al⟩ := y
        simp only at y0 y1 y2 y3 y4 hqy hwy
        go_upto_region 9 with fail
        have hba : Below wr.heap.size wr (wr.alloc (.cells #[.int .u8 q, .int .u32 who, .string f, .string t, .bool al] 45)) := (Below.refl _ wr).alloc (Nat.le_refl _) _
        have s0 : BoxA (wr.alloc (.cells #[.int .u8 q, .int .u32 who, .string f, .string t, .bool al] 45)) wr.heap.size q who f t al := lalloc_at _ rfl
        replace hac := hac.below hwb hba
        clear y0 y1 y2 y3 y4 hba
        generalize wr.alloc (.cells #[.int .u8 q, .int .u32 who, .string f, .string t, .bool al] 45) = wa at *
        generalize wr.heap.size = xb at *
        clear wr
        obtain ⟨c1, c2, c3, c4'⟩ := s0.cells
        have hk2 : k ≤ 200 := by omega
        have hsl : hs.length ≤ 100 := by have := hac.len; omega
        go_wp2_with fail
        go_at_call 12
        refine (hac.way hk2 who f t al).mono ?_
        rintro e w5 ⟨v5, l5, rfl, ho5, hb5, hl5⟩
        obtain ⟨A5, c5, rfl, _, _⟩ := ho5.slice
        replace ho5 : OwnU 0 w5 (.slice A5 l5.length c5) l5 := ownsRow_low ho5 (Nat.zero_le _)
        replace hac := hac.below hwb hb5
        replace s0 := s0.below hb5
        clear hb5 c1 c2 c3 c4'
        obtain ⟨c1, c2, c3, c4'⟩ := s0.cells
        obtain ⟨N6, hN6⟩ : ∃ N, N = (T who).map spOf := ⟨_, rfl⟩
        go_wp2_with fail
        go_at_call 14
        refine (hac.has hk2 who hwy).mono ?_
        rw [← hN6]
        rintro e w6 ⟨v6, rfl, ho6, hb6⟩
        obtain ⟨A6, c6, rfl, _, _⟩ := ho6.slice
        replace ho6 : Own Span.enc 2 24 0 w6 (.slice A6 N6.length c6) N6 := ownsRow_low ho6 (Nat.zero_le _)
        replace ho5 := ho5.below hb6
        replace hac := hac.below hwb hb6
        replace s0 := s0.below hb6
        have HN6 := Lib.hid hN6
        clear hb6 c1 c2 c3 c4' hN6
        obtain ⟨c1, c2, c3, c4'⟩ := s0.cells
        have c0 := s0.cell0
        go_wp2_with fail
        go_at_call 18
        refine (hac.does hk2 hwb q who f t al hqy hwy).mono ?_
        rintro e w7 ⟨v7, T', g, rfl, hac', ha, hkp, hsz, hold⟩
        have hll := ActIs.none (hs := hs) ha
        have HTOLD := Lib.hid hac.told
        obtain ⟨hs', hhs⟩ : ∃ hs', hs' = heldF ⟨q, who, f, t, al⟩ g hs := ⟨_, rfl⟩
        rw [← hhs] at hac' hll
        replace ho5 := ho5.keptH hkp (by decide) (by decide)
        replace ho6 := ho6.keptH hkp (by decide) (by decide)
        replace s0 : BoxA w7 xb q who f t al := hkp _ _ _ _ s0 (by decide) (by decide)
        have hsl' : hs'.length ≤ 100 := by have := hac'.len; omega
        obtain ⟨A7, c7, rfl, _, _⟩ := hac'.own.slice
        have HL5 := Lib.hid hl5
        clear c0 c1 c2 c3 c4' hkp hsz ha hhs hac hl5
        obtain ⟨c1, c2, c3, c4'⟩ := s0.cells
        have c0 := s0.cell0
        go_upto_region 14 with fail
        go_cut [78] from 28 to 186 (fun s78 wx => s78 = .bool false ∧ ActedH w bb (k + 1) wx T' (.slice A7 hs'.length c7) hs' ∧ BoxA wx xb q who f t al ∧ OwnU 0 wx (.slice A5 l5.length c5) l5 ∧ Rd Held.enc 4 wx (.slice A4 hs.length c4) hs)
        case first =>
          as_aux_lemma =>
            have hrm : q.tmod 6 = q % 6 := Int.tmod_eq_emod_of_nonneg hqy.1
            by_cases hq4 : q % 6 < 4
            · have hd1 : decide (q % 6 < 4) = true := decide_eq_true hq4
              by_cases hle : hs'.length = hs.length
              · have hTe : T' = T := hll hq4 hle
                have hd2 : ((hs'.length : Int) == hs.length) = true := by simp [hle]
                have hhas := hac'.has (by omega) who hwy
                rw [hTe, ← HN6.out] at hhas
                have HTE := Lib.hid hTe
                clear hle hTe hll hq4
                go_wp2_with (first
                  | (go_at_call 19
                     refine (sameSpans_calls _ _ N6 N6 _ (ho8.rd span_len) (ho6.rd span_len)).mono ?_
                     rw [decide_eq_true rfl]
                     rintro e w9 ⟨rfl, hb9⟩
                     have hb79 := Below.step hb8 hb9)
                  | (go_at_call 14
                     refine hhas.mono ?_
                     rintro e w8 ⟨v8, rfl, ho8, hb8⟩
                     obtain ⟨A8, c8, rfl, _, _⟩ := ho8.slice
                     replace ho6 := ho6.below hb8))
                go_meet
                exact ⟨rfl, hac'.below hwb hb79, s0.below hb79, ho5.below hb79, hold.below hb79⟩
              · have hd2 : ((hs'.length : Int) == hs.length) = false := by simp; omega
                clear hle hll hq4
                go_wp2
                go_meet
                exact ⟨rfl, hac', s0, ho5, hold⟩
            · have hd1 : decide (q % 6 < 4) = false := decide_eq_false hq4
              clear hll hq4
              go_wp2
              go_meet
              exact ⟨rfl, hac', s0, ho5, hold⟩
        case rest =>
          clear hac' c0 c1 c2 c3 c4' s0 ho5 ho6 hold hll
          obtain ⟨rfl, hac, s0, ho5, hold⟩ := hcut
          go_upto_region 16 with fail
          obtain ⟨c1, c2, c3, c4'⟩ := s0.cells
          go_cut [90] from 28 to 186 (fun s90 wx => s90 = .bool (mayL who f t) ∧ wx = wc)
          case first =>
            by_cases h0 : who = 0
            · have hq : (who != 0) = false := by simp [h0]
              have HM := Lib.hid (show mayL who f t = false by unfold mayL; simp [h0])
              clear h0
              go_wp2
              go_meet
              exact ⟨by rw [HM.out], rfl⟩
            · have hq : (who != 0) = true := by simp [h0]
              cases hs : sle f t
              · have HM := Lib.hid (show mayL who f t = false by unfold mayL; rw [hs]; simp)
                clear h0
                go_wp2
                go_meet
                exact ⟨by rw [HM.out], rfl⟩
              · have HM := Lib.hid (show mayL who f t = true by unfold mayL; rw [hs]; simp [h0])
                clear h0
                go_wp2
                go_meet
                exact ⟨by rw [HM.out], rfl⟩
          case rest =>
            obtain ⟨rfl, e2⟩ := hcut
            subst e2
            clear c1 c2 c3 c4'
            go_upto_if 90 with fail
            go_cut [11, 12] from 28 to 186 (fun _ _ wx => ActedH w bb (k + 1) wx T' (.slice A7 hs'.length c7) hs')
            case first =>
              as_aux_lemma =>
                cases hm : mayL who f t
                · clear hm
                  go_wp2
                  go_meet
                  exact hac
                · have hw5 := HL5.out hm
                  have HW5 := Lib.hid hw5
                  clear hm hw5
                  go_wp2
                  go_loopw [11, 12] (fun wv iv wr => ∃ j : Nat, j ≤ hs.length ∧ iv = .int .i64 j ∧ RdT 0 encU 1 wr wv (wantF who f t al (hs.take j)) ∧ Below wc.heap.size wc wr) (fun _ iv _ => hs.length - (intOf iv).toNat)
                  case atStart => exact ⟨0, Nat.zero_le _, rfl, RdT.own encU_len (Own.nil encU 1 22 0 wc) (by decide), Below.refl _ _⟩
                  case round =>
                    obtain ⟨j, hj, rfl, hwt, hb⟩ := hrel
                    by_cases hjl : j < hs.length
                    · have hxj := List.getElem?_eq_getElem hjl
                      have hsn := wantF_snoc (who := who) (f := f) (t := t) (al := al) hxj
                      have hL0 : (wantF who f t al (hs.take j)).length ≤ 100000 := Nat.le_trans (wantF_length _ _ _ _ _) (by rw [List.length_take]; omega)
                      obtain ⟨b4, o4, rfl, y1, y2, y3, y4⟩ := (hold.below hb).held hxj
                      generalize hs[j] = u at *
                      obtain ⟨w1', f1, t1, a1⟩ := u
                      simp only at y1 y2 y3 y4 hsn
                      obtain ⟨e1, e2, e3, e4⟩ := (s0.below hb).cells
                      obtain ⟨L1, hL1⟩ : ∃ L, wantF who f t al (hs.take (j + 1)) = L := ⟨_, rfl⟩
                      rw [hL1] at hsn
                      have HL1 := Lib.hid hL1
                      clear hL1 hxj
                      generalize wantF who f t al (hs.take j) = L0 at *
                      replace y1 := fun p : Later wr => Later.cell p y1; replace y2 := fun p : Later wr => Later.cell p y2
                      replace y3 := fun p : Later wr => Later.cell p y3; replace y4 := fun p : Later wr => Later.cell p y4
                      replace e1 := fun p : Later wr => Later.cell p e1; replace e2 := fun p : Later wr => Later.cell p e2
                      replace e3 := fun p : Later wr => Later.cell p e3; replace e4 := fun p : Later wr => Later.cell p e4
                      have HOLD := Lib.hid hold
                      have HSN := Lib.hid hsn
                      have HT := Lib.hid hwt
                      have HAC := Lib.hid hac
                      have HO5 := Lib.hid ho5
                      clear hold hsn hwt hac ho5
                      obtain ⟨Aw, cw, hwv, _, _⟩ := HT.out.1.shape
                      subst hwv
                      have y1' := y1
                      go_upto_region 21 with fail
                      go_cut [125] from 91 to 132 (fun s wx => s = .bool (hitH who f t al ⟨w1', f1, t1, a1⟩) ∧ Below wr.heap.size wr wx)
                      case first =>
                        as_aux_lemma =>
                          obtain ⟨bm, hme⟩ : ∃ bm, meet4 f1 t1 f t = bm := ⟨_, rfl⟩
                          have hmt : ∀ W : World, Calls Try.prog 20 #[.agg #[.string f1, .string t1], .agg #[.string f, .string t]] W fun e w' => e = .returned (.bool bm) ∧ Below W.heap.size W w' := fun W => (by have h := meet_calls f1 t1 f t W; rw [hme] at h; exact h)
                          by_cases hne : w1' = who
                          · have hq1 : (w1' != who) = false := by simp [hne]
                            have HIT := Lib.hid (show hitH who f t al ⟨w1', f1, t1, a1⟩ = false by unfold hitH; simp [hne])
                            clear hne hme hmt
                            refine wp_region_later (by kernel_rfl) (by kernel_rfl) ?_
                            repeat (go_big_quiet_step ((fail)))
                            refine wpQuiet_nil ?_
                            rintro _ ⟨p, rfl⟩
                            go_wp2
                            go_meet
                            exact ⟨by rw [HIT.out], p.ok⟩
                          · have hq1 : (w1' != who) = true := by simp [hne]
                            cases a1
                            · cases al
                              · have HIT := Lib.hid (show hitH who f t false ⟨w1', f1, t1, false⟩ = false by unfold hitH; simp)
                                clear hne hme hmt
                                refine wp_region_later (by kernel_rfl) (by kernel_rfl) ?_
                                repeat (go_big_quiet_step ((fail)))
                                refine wpQuiet_nil ?_
                                rintro _ ⟨p, rfl⟩
                                go_wp2
                                go_meet
                                exact ⟨by rw [HIT.out], p.ok⟩
                              · have HIT := Lib.hid (show hitH who f t true ⟨w1', f1, t1, false⟩ = bm by unfold hitH; simp [hne, hme])
                                clear hne hme
                                refine wp_region_later (by kernel_rfl) (by kernel_rfl) ?_
                                repeat (go_big_quiet_step ((go_at_call 20; with_reducible exact Calls.later (hmt _))))
                                refine wpQuiet_nil ?_
                                rintro _ ⟨p, rfl⟩
                                go_wp2
                                go_meet
                                exact ⟨by rw [HIT.out], p.ok⟩
                            · have HIT := Lib.hid (show hitH who f t al ⟨w1', f1, t1, true⟩ = bm by unfold hitH; simp [hne, hme])
                              clear hne hme
                              refine wp_region_later (by kernel_rfl) (by kernel_rfl) ?_
                              repeat (go_big_quiet_step ((go_at_call 20; with_reducible exact Calls.later (hmt _))))
                              refine wpQuiet_nil ?_
                              rintro _ ⟨p, rfl⟩
                              go_wp2
                              go_meet
                              exact ⟨by rw [HIT.out], p.ok⟩
                      case rest =>
                        obtain ⟨rfl, hbx⟩ := hcut
                        have hbp := Below.step hb hbx
                        have hwp := HT.out.below hbx
                        have y1 := y1' ⟨_, hbx⟩
                        simp only at y1
                        clear y1' y2 y3 y4 e1 e2 e3 e4 hb hbx
                        obtain ⟨hh, hhe⟩ : ∃ b, hitH who f t al ⟨w1', f1, t1, a1⟩ = b := ⟨_, rfl⟩
                        have hsn := HSN.out
                        rw [hhe] at hsn ⊢
                        clear hhe
                        cases hh
                        · have HS := Lib.hid (HL1.out.trans (hsn.trans (if_neg Bool.false_ne_true)))
                          clear hsn
                          go_wp2
                          go_roundw
                          case rel => exact ⟨j + 1, by omega, by go_num, by rw [HS.out]; exact hwp, hbp⟩
                          case measure => simp [intOf]; omega
                        · have HS := Lib.hid (HL1.out.trans (hsn.trans (if_pos rfl)))
                          clear hsn
                          go_wp2_with (go_at_call 21
                                       refine (put_calls hwp (Nat.zero_le _) hL0 w1').mono ?_
                                       rintro e w9 ⟨v9, rfl, hr9, hb9⟩
                                       have hbq := Below.step hbp hb9)
                          go_roundw
                          case rel => exact ⟨j + 1, by omega, by go_num, by rw [HS.out]; exact hr9, hbq⟩
                          case measure => simp [intOf]; omega
                    · have hj2 : j = hs.length := by omega
                      subst hj2
                      rw [List.take_length, ← HW5.out] at hwt
                      have ho5' := (ho5.rd encU_len).below hb
                      clear hold
                      obtain ⟨Aw, cw, rfl, _, _⟩ := hwt.1.shape
                      go_wp2_with (go_at_call 22
                                   refine (sameIds_calls _ _ l5 l5 _ ho5' hwt.1).mono ?_
                                   rw [decide_eq_true rfl]
                                   rintro e w9 ⟨rfl, hb9⟩
                                   have hbq := Below.step hb hb9)
                      go_meet
                      exact hac.below hwb hbq
            case rest =>
              as_aux_lemma =>
                clear hac s0 ho5 hold
                have hac := hcut
                clear hcut
                go_wp2
                go_loopw [13] (fun iv wr => ∃ i : Nat, i ≤ hs'.length ∧ iv = .int .i64 i ∧ ActedH w bb (k + 1) wr T' (.slice A7 hs'.length c7) hs') (fun iv _ => hs'.length - (intOf iv).toNat)
                case atStart => exact ⟨0, Nat.zero_le _, rfl, hac⟩
                case round =>
                  clear hac
                  obtain ⟨i, hi, rfl, hac⟩ := hrel
                  by_cases hil : i < hs'.length
                  · have hxi := List.getElem?_eq_getElem hil
                    have hmi := List.getElem_mem hil
                    generalize hs'[i] = u at *
                    obtain ⟨wu, fu, tu, au⟩ := u
                    have HXI := Lib.hid hxi
                    clear hxi
                    go_wp2
                    go_loopw [14] (fun jv wr2 => ∃ j : Nat, j ≤ i ∧ jv = .int .i64 j ∧ ActedH w bb (k + 1) wr2 T' (.slice A7 hs'.length c7) hs') (fun jv _ => i - (intOf jv).toNat)
                    case atStart => exact ⟨0, Nat.zero_le _, rfl, hac⟩
                    case round =>
                      clear hac
                      obtain ⟨j, hj, rfl, hac⟩ := hrel
                      by_cases hji : j < i
                      · have hjl : j < hs'.length := by omega
                        have hxj := List.getElem?_eq_getElem hjl
                        have hmj := List.getElem_mem hjl
                        generalize hs'[j] = v at *
                        obtain ⟨wv, fv, tv, av⟩ := v
                        have hap := hac.told.apart hac.act.tidy hmi hmj
                        obtain ⟨b7, o7, rfl, y1, y2, y3, y4⟩ := (hac.own.rd held_len).held HXI.out
                        obtain ⟨b8, o8, e8, z1, z2, z3, z4⟩ := (hac.own.rd held_len).held hxj
                        simp only [Option.some.injEq, Addr.mk.injEq] at e8
                        obtain ⟨rfl, rfl, _⟩ := e8
                        simp only at y1 y2 y3 y4 z1 z2 z3 z4 hap
                        replace y1 := fun p : Later wr => Later.cell p y1; replace y2 := fun p : Later wr => Later.cell p y2
                        replace y3 := fun p : Later wr => Later.cell p y3; replace y4 := fun p : Later wr => Later.cell p y4
                        replace z1 := fun p : Later wr => Later.cell p z1; replace z2 := fun p : Later wr => Later.cell p z2
                        replace z3 := fun p : Later wr => Later.cell p z3; replace z4 := fun p : Later wr => Later.cell p z4
                        clear hxj
                        have HAC := Lib.hid hac
                        clear hac
                        go_upto_region 32 with fail
                        go_cut [186] from 144 to 186 (fun s wx => s = .bool false ∧ Below wr.heap.size wr wx)
                        case first =>
                          as_aux_lemma =>
                            by_cases hne : wu = wv
                            · have hq1 : (wu != wv) = false := by simp [hne]
                              clear hne hap
                              refine wp_region_later (by kernel_rfl) (by kernel_rfl) ?_
                              repeat (go_big_quiet_step ((fail)))
                              refine wpQuiet_nil ?_
                              rintro _ ⟨p, rfl⟩
                              go_wp2
                              go_meet
                              exact ⟨rfl, p.ok⟩
                            · have hq1 : (wu != wv) = true := by simp [hne]
                              rw [hq1, Bool.true_and] at hap
                              clear hne
                              have hmt : (au || av) = true → ∀ W : World, Calls Try.prog 20 #[.agg #[.string fu, .string tu], .agg #[.string fv, .string tv]] W fun e w' => e = .returned (.bool false) ∧ Below W.heap.size W w' := fun ha W => (by have h := meet_calls fu tu fv tv W; rw [hap ha] at h; exact h)
                              clear hap
                              cases au
                              · cases av
                                · clear hmt
                                  refine wp_region_later (by kernel_rfl) (by kernel_rfl) ?_
                                  repeat (go_big_quiet_step ((fail)))
                                  refine wpQuiet_nil ?_
                                  rintro _ ⟨p, rfl⟩
                                  go_wp2
                                  go_meet
                                  exact ⟨rfl, p.ok⟩
                                · replace hmt := hmt rfl
                                  refine wp_region_later (by kernel_rfl) (by kernel_rfl) ?_
                                  repeat (go_big_quiet_step ((go_at_call 20; with_reducible exact Calls.later (hmt _))))
                                  refine wpQuiet_nil ?_
                                  rintro _ ⟨p, rfl⟩
                                  go_wp2
                                  go_meet
                                  exact ⟨rfl, p.ok⟩
                              · replace hmt := hmt rfl
                                refine wp_region_later (by kernel_rfl) (by kernel_rfl) ?_
                                repeat (go_big_quiet_step ((go_at_call 20; with_reducible exact Calls.later (hmt _))))
                                refine wpQuiet_nil ?_
                                rintro _ ⟨p, rfl⟩
                                go_wp2
                                go_meet
                                exact ⟨rfl, p.ok⟩
                        case rest =>
                          obtain ⟨rfl, hbx⟩ := hcut
                          have hacp := HAC.out.below hwb hbx
                          clear y1 y2 y3 y4 z1 z2 z3 z4 hap hbx
                          go_wp2
                          go_roundw
                          case rel => exact ⟨j + 1, by omega, by go_num, hacp⟩
                          case measure => simp [intOf]; omega
                      · go_wp2
                        go_roundw
                        case rel => exact ⟨i + 1, by omega, by go_num, hac⟩
                        case measure => simp [intOf]; omega
                  · go_wp2
                    go_roundw
                    case rel => exact ⟨k + 1, T', hs', by omega, by go_num, hac⟩
                    case measure => simp [intOf]; omega
      · go_wp2
        go_ret
        exact ⟨rfl, hac.act.below⟩
end Go.Proofs.Ytomhkflcimbbiaa
