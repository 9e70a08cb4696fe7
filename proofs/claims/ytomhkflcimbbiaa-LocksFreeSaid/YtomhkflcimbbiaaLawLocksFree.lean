import Derived.Test.YtomhkflcimbbiaaLFreeP
import Derived.Test.YtomhkflcimbbiaaLawLocksSelf
import Derived.StillTailTactics
import Derived.Test.YtomhkflcimbbiaaEqSpan
set_option linter.unusedVariables false
set_option linter.unusedSimpArgs false
set_option linter.unusedSectionVars false
namespace Go.Proofs.Ytomhkflcimbbiaa
open Go.RowKit Go.Shelf

set_option maxHeartbeats 4000000 in
set_option maxRecDepth 100000 in
theorem locksFree_walk (v0 : Value) (xs : List LAct) (x : LAct) (w : World) (rd0 : Rd LAct.enc 5 w v0 xs) (ok0 : ∀ a ∈ xs, a.ok) (ok1 : x.ok) :
    Calls Try.prog 5 #[v0, .agg #[.int .u8 x.q, .int .u32 x.who, .string x.f, .string x.t, .bool x.a]] w fun e w' => e = .returned (.bool true) ∧ Below w.heap.size w w' := by
  obtain ⟨A0, p0, rfl, hl0, hc0⟩ := rd0.shape
  obtain ⟨q, who, f, t, al⟩ := x
  have hwx : okU who := ok1.2.1
  obtain ⟨_, _, okf, okt⟩ := ok1
  unfold small at okf okt
  simp only at okf okt ⊢
  go_enter Try.func5, Try.ntmps5
  have hB : Below w.heap.size w (w.alloc (.cells #[.int .u8 q, .int .u32 who, .string f, .string t, .bool al] 45)) := (Below.refl _ w).alloc (Nat.le_refl _) _
  have s0 : BoxA (w.alloc (.cells #[.int .u8 q, .int .u32 who, .string f, .string t, .bool al] 45)) w.heap.size q who f t al := lalloc_at _ rfl
  have hwr : IntKind.i64.wrap ((f.size : Int) + t.size) = (f.size : Int) + t.size := wrap_id (by omega) (by omega)
  go_upto_region 1 with fail
  generalize w.alloc (.cells #[.int .u8 q, .int .u32 who, .string f, .string t, .bool al] 45) = w0 at *
  go_wp2_with fail
  go_at_call 15
  refine (aliveL_calls _).mono ?_
  rintro e w1 ⟨rfl, hb1⟩
  replace hB := Below.step hB hb1
  replace s0 := s0.below hb1
  clear hb1
  go_wp2_with fail
  go_at_call 16
  refine (lgreat_calls _ xs _ (rd0.below hB)).mono ?_
  rintro e w2 ⟨⟨g, rfl⟩, hb2⟩
  replace hB := Below.step hB hb2
  replace s0 := s0.below hb2
  clear hb2
  obtain ⟨c1, c2, c3, c4⟩ := s0.cells
  by_cases hbad : g = true ∨ 100 < xs.length ∨ who = 0 ∨ sle f t = false ∨ 1000 < (f.size : Int) + t.size
  · have hq : g = true ∨ (g = false ∧ 100 < xs.length) ∨ (g = false ∧ ¬ 100 < xs.length ∧ who = 0) ∨ (g = false ∧ ¬ 100 < xs.length ∧ who ≠ 0 ∧ sle f t = false) ∨
        (g = false ∧ ¬ 100 < xs.length ∧ who ≠ 0 ∧ sle f t = true ∧ 1000 < (f.size : Int) + t.size) := by
      cases g <;> cases h : sle f t <;> rw [h] at hbad <;> simp at hbad ⊢ <;> omega
    clear hbad
    rcases hq with h1 | ⟨h1, h2⟩ | ⟨h1, h2, h3⟩ | ⟨h1, h2, h3, h4⟩ | ⟨h1, h2, h3, h4, h5⟩
    all_goals subst h1
    all_goals
      first
        | (have hd : decide (100 < (xs.length : Int)) = true := decide_eq_true (by omega))
        | (have hd : decide (100 < (xs.length : Int)) = false := decide_eq_false (by omega)
           first
             | (have hw0 : (who == 0) = false := by simpa using h3
                first
                  | (have hs : decide (1000 < (f.size : Int) + t.size) = true := decide_eq_true (by omega))
                  | skip)
             | (have hw0 : (who == 0) = true := by simpa using h3))
        | skip
      go_wp2_with (go_at_call 15; refine (aliveL_calls _).mono ?_; rintro e w3 ⟨rfl, hb3⟩)
      go_ret
      exact ⟨rfl, Below.step hB hb3⟩
  · obtain ⟨h1, h2, h3, h4, h5⟩ : g = false ∧ ¬ 100 < xs.length ∧ who ≠ 0 ∧ sle f t = true ∧ ¬ 1000 < (f.size : Int) + t.size := by
      cases g <;> cases h : sle f t <;> rw [h] at hbad <;> simp at hbad ⊢ <;> omega
    clear hbad
    subst h1
    have hd : decide (100 < (xs.length : Int)) = false := decide_eq_false (by omega)
    have hw0 : (who == 0) = false := by simpa using h3
    have hs : decide (1000 < (f.size : Int) + t.size) = false := decide_eq_false h5
    go_wp2_with (go_at_call 17
                 refine (tnew_calls w2).mono ?_
                 rintro e w4 ⟨rfl, hb4, hT0⟩
                 have hwb := hB.size
                 replace hB := Below.step hB hb4
                 replace s0 := s0.below hb4
                 have hz4 := hb4.size
                 clear hb4)
    generalize w2.heap.size = bb at *
    have hac : Acted w bb 0 w4 (fun _ => []) := ⟨⟨0, Nat.le_refl _, hT0⟩, .new, fun _ => Nat.le_refl _, hz4, hB⟩
    have hmay : mayL who f t = true := by unfold mayL; rw [h4, decide_eq_true h3]; rfl
    clear hd hT0 hz4 hB c1 c2 c3 c4 hwr h5 hs
    go_loopw [6] (fun iv wr => ∃ (k : Nat) (T : Tab), k ≤ xs.length ∧ iv = .int .i64 k ∧ Acted w bb k wr T ∧ BoxA wr w.heap.size q who f t al) (fun iv _ => xs.length - (intOf iv).toNat)
    case atStart => exact ⟨0, _, Nat.zero_le _, rfl, hac, s0⟩
    case round =>
      clear hac s0
      obtain ⟨k, T, hk, rfl, hac, s0⟩ := hrel
      by_cases hlt : k < xs.length
      · have hxk := List.getElem?_eq_getElem hlt
        obtain ⟨bx, ox, rfl, y0, y1, y2, y3, y4⟩ := (rd0.below hac.below).lact hxk
        have hox := ok0 _ (List.getElem_mem hlt)
        have hqy := LAct.byte hox
        have hwy : okU xs[k].who := hox.2.1
        have HR := Lib.hid rd0
        clear rd0 ok0 hxk hox
        generalize xs[k] = y at *
        obtain ⟨q', who', f', t', al'⟩ := y
        simp only at y0 y1 y2 y3 y4 hqy hwy
        have hdo := hac.does (by omega) hwb q' who' f' t' al' hqy hwy
        go_wp2_with (go_at_call 18
                     refine hdo.mono ?_
                     rintro e w5 ⟨v', T', rfl, hac', hs⟩
                     replace s0 := s0.tstep hs
                     clear y0 y1 y2 y3 y4 hdo)
        go_roundw
        case rel => exact ⟨k + 1, T', by omega, by go_num, hac', s0⟩
        case measure => simp [intOf]; omega
      · have hk100 : k ≤ 100 := by omega
        obtain ⟨n, hn, hT⟩ := hac.tab
        have htidy := hac.tidy
        have hlen := hac.len
        have hz := hac.room
        have hB := hac.below
        clear hac hk rd0 ok0
        have hhas := hasP_calls hT who hwx (Nat.le_trans (hlen _) (by omega))
        obtain ⟨N7, hN7⟩ : ∃ N, N = (T who).map spOf := ⟨_, rfl⟩
        rw [← hN7] at hhas
        have hN7l : N7.length ≤ 100 := by rw [hN7, List.length_map]; exact Nat.le_trans (hlen _) hk100
        have HN7 := Lib.hid hN7
        clear hN7
        obtain ⟨c1, c2, c3, c4⟩ := s0.cells
        go_wp2_with fail
        go_at_call 14
        refine hhas.mono ?_
        rintro e w7 ⟨v7, rfl, ho7, hb7⟩
        obtain ⟨A7, c7, rfl, _, _⟩ := ho7.slice
        replace hT := hT.below hb7
        replace hB := Below.step hB hb7
        replace s0 := s0.below hb7
        replace hz := Nat.le_trans hz hb7.size
        clear hhas c1 c2 c3 c4 hb7
        obtain ⟨c1, c2, c3, c4⟩ := s0.cells
        go_wp2_with fail
        go_at_call 11
        refine (askR_calls hT hz hlen (by omega) (by omega) (Nat.le_trans (Nat.mul_le_mul_right k hn) (Nat.le_trans (Nat.mul_le_mul hk100 hk100) (by decide))) who hwx f t al).mono ?_
        rintro e w8 ⟨a8, l8, e8, T1, n1, rfl, hn1, hT1, hs1, hA1, ho8, hw8, hn8⟩
        obtain ⟨A8, c8, rfl, hlc8, hcc8⟩ := ho8.slice
        have hhad : Own Span.enc 2 24 0 w8 (.slice A7 N7.length c7) N7 := ownsRow_low (ho7.tstep hs1 (by decide)) (Nat.zero_le _)
        have hway : RdT bb encU 1 w8 (.slice A8 l8.length c8) l8 := RdT.own encU_len ho8 (by decide)
        replace s0 := s0.tstep hs1
        replace hB := hB.trans ((hs1.below hz).mono hwb)
        replace hz := Nat.le_trans hz hs1.size
        have hcase : (e8 = 8 ∧ WayIs T who f t al l8 ∧ l8 ≠ [] ∧ T1 = T) ∨ (e8 = 0 ∧ l8 = [] ∧ T1 who = addL f t al (T who)) := by
          rcases hA1 with ⟨_, hm, _⟩ | ⟨he, _, _, hTT⟩ | ⟨he, _, _, hTT⟩
          · rw [hmay] at hm; cases hm
          · exact .inl ⟨he, (hw8 he).2, (hw8 he).1, hTT⟩
          · exact .inr ⟨he, hn8 (by omega), by rw [hTT, putT_at]⟩
        have hlen1 := hA1.len hlen
        have HC := Lib.hid hcase
        have HT := Lib.hid htidy
        have HLEN := Lib.hid hlen
        have HLEN1 := Lib.hid hlen1
        clear hT ho7 ho8 hs1 hA1 hw8 hn8 c1 c2 c3 c4 hcase htidy hlen hlen1
        go_wp2
        go_loopw [12] (fun iv wr => ∃ i : Nat, i ≤ l8.length ∧ iv = .int .i64 i ∧ TabP bb wr (bb + 1) n1 (tW T1 (l8.take i)) ∧ BoxA wr w.heap.size q who f t al ∧ Below w.heap.size w wr ∧ bb ≤ wr.heap.size ∧
            Own Span.enc 2 24 0 wr (.slice A7 N7.length c7) N7 ∧ RdT bb encU 1 wr (.slice A8 l8.length c8) l8) (fun iv _ => l8.length - (intOf iv).toNat)
        case atStart => exact ⟨0, Nat.zero_le _, rfl, by rw [List.take_zero, tW_nil]; exact hT1, s0, hB, hz, hhad, hway⟩
        case round =>
          clear hT1 s0 hB hz hhad hway
          obtain ⟨i, hi, rfl, hT1, s0, hB, hz, hhad, hway⟩ := hrel
          by_cases hil : i < l8.length
          · have hai := List.getElem?_eq_getElem hil
            obtain ⟨hw8, hT1e⟩ : WayIs T who f t al l8 ∧ T1 = T := by
              rcases HC.out with ⟨_, h1, _, h2⟩ | ⟨_, h1, _⟩
              · exact ⟨h1, h2⟩
              · rw [h1] at hil; simp at hil
            obtain ⟨hne1, hne0⟩ := way_zero HT.out hw8 (List.getElem_mem hil)
            have hpos := way_len hw8 (List.getElem_mem hil)
            have hat := tW_at (T := T) hw8.rise hai
            have htk : l8.take (i + 1) = l8.take i ++ [l8[i]] := by rw [List.take_add_one, hai]; rfl
            have hsn := tW_snoc T1 (l8.take i) l8[i]
            rw [← htk] at hsn
            obtain ⟨b8, o8, rfl, ha1⟩ := hway.1.int hai
            have hprev : 0 < i → ∃ p, l8[i - 1]? = some p ∧ wr.cell? ⟨b8, o8 + (i - 1), none⟩ = some (.int .u32 p) ∧ p < l8[i] := fun hi0 => by
              have hpi := List.getElem?_eq_getElem (show i - 1 < l8.length by omega)
              obtain ⟨b', o', e', hp1⟩ := hway.1.int hpi
              simp only [Option.some.injEq, Addr.mk.injEq] at e'
              obtain ⟨rfl, rfl, _⟩ := e'
              exact ⟨_, hpi, hp1, List.pairwise_iff_getElem.1 hw8.rise (i - 1) i (by omega) hil (by omega)⟩
            rw [← hT1e] at hat
            obtain ⟨M1, D1, hTA⟩ := hT1
            have hoka : okU l8[i] := hTA.dom _ (by rw [hat, hT1e]; exact List.ne_nil_of_length_pos hpos)
            rw [← hT1e] at hpos
            have hfree := tfree_calls (hTA.below (w' := wr.drew) (Below.refl _ _).drew) l8[i] hoka
            rw [hat, hsn] at hfree
            have hq3 : (((T1 l8[i]).length : Int) == 0) = false := by simp; intro e; rw [e] at hpos; simp at hpos
            have HSN := Lib.hid (And.intro htk hat)
            have hbd : Below wr.heap.size wr wr.drew := (Below.refl _ _).drew
            have hwayd := hway.below hbd
            have s0d := s0.below hbd
            have HAI := Lib.hid hai
            clear hat hpos hw8 hai htk hsn hTA
            generalize l8[i] = a at *
            generalize (T1 a).length = na at *
            have hq1 : (a == who) = false := by simpa using hne1
            have hq2 : (a == 0) = false := by simpa using hne0
            have HFR := Lib.hid hfree
            have HWAY := Lib.hid hway
            clear hne1 hne0 hfree hway
            obtain ⟨c1, c2, c3, c4⟩ := s0.cells
            have HWD := Lib.hid hwayd
            clear hwayd
            rcases Nat.eq_zero_or_pos i with hi0 | hi0
            · subst hi0
              clear hprev
              rw [Nat.add_zero] at ha1
              go_wp2
              refine wp_region_held_drew (S := fun w' => w'.cell? ⟨b8, o8, none⟩ = some (.int .u32 a) ∧ w'.cell? ⟨w.heap.size, 1, none⟩ = some (.int .u32 who)) (by kernel_rfl) (by first | exact ⟨ha1, c1⟩ | exact ⟨ha9, d1⟩) (fun hHeld => ?_)
              refine wpAnyH_take (i := 0) (v := ?_) rfl (by kernel_rfl) (by kernel_rfl) (by kernel_rfl) (fun _ _ _ h => h) (Or.inl ⟨by rfl, ?_⟩) (by assumption) ?_
              rotate_left
              · (intro w hSw; (try dsimp only at hSw); (first | (go_simp; done) | (go_simp; with_reducible rfl)))
              try simp only [Act.put, List.getElem_toArray, List.getElem_cons_zero, List.getElem_cons_succ, List.setIfInBounds_toArray, List.set_cons_zero, List.set_cons_succ]
              refine wpAnyH_take (i := 1) (v := ?_) rfl (by kernel_rfl) (by kernel_rfl) (by kernel_rfl) (fun _ _ _ h => h) (Or.inl ⟨by rfl, ?_⟩) (by assumption) ?_
              rotate_left
              · (intro w hSw; (try dsimp only at hSw); (first | (go_simp; done) | (go_simp; with_reducible rfl)))
              try simp only [Act.put, List.getElem_toArray, List.getElem_cons_zero, List.getElem_cons_succ, List.setIfInBounds_toArray, List.set_cons_zero, List.set_cons_succ]
              refine wpAnyH_take (i := 2) (v := ?_) rfl (by kernel_rfl) (by kernel_rfl) (by kernel_rfl) (fun _ _ _ h => h) (Or.inl ⟨by rfl, ?_⟩) (by assumption) ?_
              rotate_left
              · (intro w hSw; (try dsimp only at hSw); (first | (go_simp; done) | (go_simp; with_reducible rfl)))
              try simp only [Act.put, List.getElem_toArray, List.getElem_cons_zero, List.getElem_cons_succ, List.setIfInBounds_toArray, List.set_cons_zero, List.set_cons_succ]
              refine wpAnyH_take (i := 3) (v := ?_) rfl (by kernel_rfl) (by kernel_rfl) (by kernel_rfl) (fun _ _ _ h => h) (Or.inl ⟨by rfl, ?_⟩) (by assumption) ?_
              rotate_left
              · (intro w hSw; (try dsimp only at hSw); (first | (go_simp; done) | (go_simp; with_reducible rfl)))
              try simp only [Act.put, List.getElem_toArray, List.getElem_cons_zero, List.getElem_cons_succ, List.setIfInBounds_toArray, List.set_cons_zero, List.set_cons_succ]
              refine wpAnyH_take (i := 4) (v := ?_) rfl (by kernel_rfl) (by kernel_rfl) (by kernel_rfl) (fun _ _ _ h => h) (Or.inl ⟨by rfl, ?_⟩) (by assumption) ?_
              rotate_left
              · (intro w hSw; (try dsimp only at hSw); (first | (go_simp; done) | (go_simp; with_reducible rfl)))
              try simp only [Act.put, List.getElem_toArray, List.getElem_cons_zero, List.getElem_cons_succ, List.setIfInBounds_toArray, List.set_cons_zero, List.set_cons_succ]
              refine wpAnyH_take (i := 5) (v := ?_) rfl (by kernel_rfl) (by kernel_rfl) (by kernel_rfl) (fun _ _ _ h => h) (Or.inl ⟨by rfl, ?_⟩) (by assumption) ?_
              rotate_left
              · (intro w hSw; (try dsimp only at hSw); (first | (go_simp; done) | (go_simp; with_reducible rfl)))
              try simp only [Act.put, List.getElem_toArray, List.getElem_cons_zero, List.getElem_cons_succ, List.setIfInBounds_toArray, List.set_cons_zero, List.set_cons_succ]
              refine wpAnyH_take (i := 6) (v := ?_) rfl (by kernel_rfl) (by kernel_rfl) (by kernel_rfl) (fun _ _ _ h => h) (Or.inl ⟨by rfl, ?_⟩) (by assumption) ?_
              rotate_left
              · (intro w hSw; (try dsimp only at hSw); (first | (go_simp; done) | (go_simp; with_reducible rfl)))
              try simp only [Act.put, List.getElem_toArray, List.getElem_cons_zero, List.getElem_cons_succ, List.setIfInBounds_toArray, List.set_cons_zero, List.set_cons_succ]
              refine wpAnyH_take (i := 7) (v := ?_) rfl (by kernel_rfl) (by kernel_rfl) (by kernel_rfl) (fun _ _ _ h => h) (Or.inl ⟨by rfl, ?_⟩) (by assumption) ?_
              rotate_left
              · (intro w hSw; (try dsimp only at hSw); (first | (go_simp; done) | (go_simp; with_reducible rfl)))
              try simp only [Act.put, List.getElem_toArray, List.getElem_cons_zero, List.getElem_cons_succ, List.setIfInBounds_toArray, List.set_cons_zero, List.set_cons_succ]
              refine wpAnyH_take (i := 8) (v := ?_) rfl (by kernel_rfl) (by kernel_rfl) (by kernel_rfl) (fun _ _ _ h => h) (Or.inl ⟨by rfl, ?_⟩) (by assumption) ?_
              rotate_left
              · (intro w hSw; (try dsimp only at hSw); (first | (go_simp; done) | (go_simp; with_reducible rfl)))
              try simp only [Act.put, List.getElem_toArray, List.getElem_cons_zero, List.getElem_cons_succ, List.setIfInBounds_toArray, List.set_cons_zero, List.set_cons_succ]
              refine wpAnyH_take (i := 9) (v := ?_) rfl (by kernel_rfl) (by kernel_rfl) (by kernel_rfl) (fun _ _ _ h => h) (Or.inl ⟨by rfl, ?_⟩) (by assumption) ?_
              rotate_left
              · (intro w hSw; (try dsimp only at hSw); (first | (go_simp; done) | (go_simp; with_reducible rfl)))
              try simp only [Act.put, List.getElem_toArray, List.getElem_cons_zero, List.getElem_cons_succ, List.setIfInBounds_toArray, List.set_cons_zero, List.set_cons_succ]
              refine wpAnyH_take (i := 10) (v := ?_) rfl (by kernel_rfl) (by kernel_rfl) (by kernel_rfl) (fun _ _ _ h => h) (Or.inl ⟨by rfl, ?_⟩) (by assumption) ?_
              rotate_left
              · (intro w hSw; (try dsimp only at hSw); (first | (go_simp; done) | (go_simp; with_reducible rfl)))
              try simp only [Act.put, List.getElem_toArray, List.getElem_cons_zero, List.getElem_cons_succ, List.setIfInBounds_toArray, List.set_cons_zero, List.set_cons_succ]
              refine wpAnyH_take (i := 11) (v := ?_) rfl (by kernel_rfl) (by kernel_rfl) (by kernel_rfl) (fun _ _ _ h => h) (Or.inl ⟨by rfl, ?_⟩) (by assumption) ?_
              rotate_left
              · (intro w hSw; (try dsimp only at hSw); (first | (go_simp; done) | (go_simp; with_reducible rfl)))
              try simp only [Act.put, List.getElem_toArray, List.getElem_cons_zero, List.getElem_cons_succ, List.setIfInBounds_toArray, List.set_cons_zero, List.set_cons_succ]
              refine wpAnyH_take (i := 12) (v := ?_) rfl (by kernel_rfl) (by kernel_rfl) (by kernel_rfl) (fun _ _ _ h => h) (Or.inl ⟨by rfl, ?_⟩) (by assumption) ?_
              rotate_left
              · (intro w hSw; (try dsimp only at hSw); (first | (go_simp; done) | (go_simp; with_reducible rfl)))
              try simp only [Act.put, List.getElem_toArray, List.getElem_cons_zero, List.getElem_cons_succ, List.setIfInBounds_toArray, List.set_cons_zero, List.set_cons_succ]
              refine wpAnyH_take (i := 13) (v := ?_) rfl (by kernel_rfl) (by kernel_rfl) (by kernel_rfl) (fun _ _ _ h => h) (Or.inl ⟨by rfl, ?_⟩) (by assumption) ?_
              rotate_left
              · (intro w hSw; (try dsimp only at hSw); (first | (go_simp; done) | (go_simp; with_reducible rfl)))
              try simp only [Act.put, List.getElem_toArray, List.getElem_cons_zero, List.getElem_cons_succ, List.setIfInBounds_toArray, List.set_cons_zero, List.set_cons_succ]
              refine wpAnyH_take (i := 14) (v := ?_) rfl (by kernel_rfl) (by kernel_rfl) (by kernel_rfl) (fun _ _ _ h => h) (Or.inl ⟨by rfl, ?_⟩) (by assumption) ?_
              rotate_left
              · (intro w hSw; (try dsimp only at hSw); (first | (go_simp; done) | (go_simp; with_reducible rfl)))
              try simp only [Act.put, List.getElem_toArray, List.getElem_cons_zero, List.getElem_cons_succ, List.setIfInBounds_toArray, List.set_cons_zero, List.set_cons_succ]
              refine wpAnyH_take (i := 15) (v := ?_) rfl (by kernel_rfl) (by kernel_rfl) (by kernel_rfl) (fun _ _ _ h => h) (Or.inl ⟨by rfl, ?_⟩) (by assumption) ?_
              rotate_left
              · (intro w hSw; (try dsimp only at hSw); (first | (go_simp; done) | (go_simp; with_reducible rfl)))
              try simp only [Act.put, List.getElem_toArray, List.getElem_cons_zero, List.getElem_cons_succ, List.setIfInBounds_toArray, List.set_cons_zero, List.set_cons_succ]
              refine wpAnyH_take (i := 16) (v := ?_) rfl (by kernel_rfl) (by kernel_rfl) (by kernel_rfl) (fun _ _ _ h => h) (Or.inl ⟨by rfl, ?_⟩) (by assumption) ?_
              rotate_left
              · (intro w hSw; (try dsimp only at hSw); (first | (go_simp; done) | (go_simp; with_reducible rfl)))
              try simp only [Act.put, List.getElem_toArray, List.getElem_cons_zero, List.getElem_cons_succ, List.setIfInBounds_toArray, List.set_cons_zero, List.set_cons_succ]
              refine wpAnyH_take (i := 17) (v := ?_) rfl (by kernel_rfl) (by kernel_rfl) (by kernel_rfl) (fun _ _ _ h => h) (Or.inl ⟨by rfl, ?_⟩) (by assumption) ?_
              rotate_left
              · (intro w hSw; (try dsimp only at hSw); (first | (go_simp; done) | (go_simp; with_reducible rfl)))
              try simp only [Act.put, List.getElem_toArray, List.getElem_cons_zero, List.getElem_cons_succ, List.setIfInBounds_toArray, List.set_cons_zero, List.set_cons_succ]
              refine wpAnyH_take (i := 18) (v := undef) rfl (by kernel_rfl) (by kernel_rfl) (by kernel_rfl) (fun _ _ _ h => h) (Or.inr ⟨by rfl, rfl⟩) (by assumption) ?_
              try simp only [Act.put, List.getElem_toArray, List.getElem_cons_zero, List.getElem_cons_succ, List.setIfInBounds_toArray, List.set_cons_zero, List.set_cons_succ]
              refine wpAnyH_take (i := 19) (v := undef) rfl (by kernel_rfl) (by kernel_rfl) (by kernel_rfl) (fun _ _ _ h => h) (Or.inr ⟨by rfl, rfl⟩) (by assumption) ?_
              try simp only [Act.put, List.getElem_toArray, List.getElem_cons_zero, List.getElem_cons_succ, List.setIfInBounds_toArray, List.set_cons_zero, List.set_cons_succ]
              refine wpAnyH_take (i := 20) (v := undef) rfl (by kernel_rfl) (by kernel_rfl) (by kernel_rfl) (fun _ _ _ h => h) (Or.inr ⟨by rfl, rfl⟩) (by assumption) ?_
              try simp only [Act.put, List.getElem_toArray, List.getElem_cons_zero, List.getElem_cons_succ, List.setIfInBounds_toArray, List.set_cons_zero, List.set_cons_succ]
              refine wpAnyH_take (i := 21) (v := undef) rfl (by kernel_rfl) (by kernel_rfl) (by kernel_rfl) (fun _ _ _ h => h) (Or.inr ⟨by rfl, rfl⟩) (by assumption) ?_
              try simp only [Act.put, List.getElem_toArray, List.getElem_cons_zero, List.getElem_cons_succ, List.setIfInBounds_toArray, List.set_cons_zero, List.set_cons_succ]
              refine wpAnyH_take (i := 22) (v := undef) rfl (by kernel_rfl) (by kernel_rfl) (by kernel_rfl) (fun _ _ _ h => h) (Or.inr ⟨by rfl, rfl⟩) (by assumption) ?_
              try simp only [Act.put, List.getElem_toArray, List.getElem_cons_zero, List.getElem_cons_succ, List.setIfInBounds_toArray, List.set_cons_zero, List.set_cons_succ]
              refine wpAnyH_take (i := 23) (v := undef) rfl (by kernel_rfl) (by kernel_rfl) (by kernel_rfl) (fun _ _ _ h => h) (Or.inr ⟨by rfl, rfl⟩) (by assumption) ?_
              try simp only [Act.put, List.getElem_toArray, List.getElem_cons_zero, List.getElem_cons_succ, List.setIfInBounds_toArray, List.set_cons_zero, List.set_cons_succ]
              refine wpAnyH_take (i := 24) (v := undef) rfl (by kernel_rfl) (by kernel_rfl) (by kernel_rfl) (fun _ _ _ h => h) (Or.inr ⟨by rfl, rfl⟩) (by assumption) ?_
              try simp only [Act.put, List.getElem_toArray, List.getElem_cons_zero, List.getElem_cons_succ, List.setIfInBounds_toArray, List.set_cons_zero, List.set_cons_succ]
              refine wpAnyH_take (i := 25) (v := undef) rfl (by kernel_rfl) (by kernel_rfl) (by kernel_rfl) (fun _ _ _ h => h) (Or.inr ⟨by rfl, rfl⟩) (by assumption) ?_
              try simp only [Act.put, List.getElem_toArray, List.getElem_cons_zero, List.getElem_cons_succ, List.setIfInBounds_toArray, List.set_cons_zero, List.set_cons_succ]
              refine wpAnyH_take (i := 26) (v := undef) rfl (by kernel_rfl) (by kernel_rfl) (by kernel_rfl) (fun _ _ _ h => h) (Or.inr ⟨by rfl, rfl⟩) (by assumption) ?_
              try simp only [Act.put, List.getElem_toArray, List.getElem_cons_zero, List.getElem_cons_succ, List.setIfInBounds_toArray, List.set_cons_zero, List.set_cons_succ]
              refine wpAnyH_take (i := 27) (v := undef) rfl (by kernel_rfl) (by kernel_rfl) (by kernel_rfl) (fun _ _ _ h => h) (Or.inr ⟨by rfl, rfl⟩) (by assumption) ?_
              try simp only [Act.put, List.getElem_toArray, List.getElem_cons_zero, List.getElem_cons_succ, List.setIfInBounds_toArray, List.set_cons_zero, List.set_cons_succ]
              refine wpAnyH_take (i := 28) (v := ?_) rfl (by kernel_rfl) (by kernel_rfl) (by kernel_rfl) (fun _ _ _ h => h) (Or.inl ⟨by rfl, ?_⟩) (by assumption) ?_
              rotate_left
              · (intro w hSw; (try dsimp only at hSw); (first | (go_simp; done) | (go_simp; with_reducible rfl)))
              try simp only [Act.put, List.getElem_toArray, List.getElem_cons_zero, List.getElem_cons_succ, List.setIfInBounds_toArray, List.set_cons_zero, List.set_cons_succ]
              refine wpAnyH_take (i := 29) (v := ?_) rfl (by kernel_rfl) (by kernel_rfl) (by kernel_rfl) (fun _ _ _ h => h) (Or.inl ⟨by rfl, ?_⟩) (by assumption) ?_
              rotate_left
              · (intro w hSw; (try dsimp only at hSw); (first | (go_simp; done) | (go_simp; with_reducible rfl)))
              try simp only [Act.put, List.getElem_toArray, List.getElem_cons_zero, List.getElem_cons_succ, List.setIfInBounds_toArray, List.set_cons_zero, List.set_cons_succ]
              refine wpAnyH_take (i := 30) (v := ?_) rfl (by kernel_rfl) (by kernel_rfl) (by kernel_rfl) (fun _ _ _ h => h) (Or.inl ⟨by rfl, ?_⟩) (by assumption) ?_
              rotate_left
              · (intro w hSw; (try dsimp only at hSw); (first | (go_simp; done) | (go_simp; with_reducible rfl)))
              try simp only [Act.put, List.getElem_toArray, List.getElem_cons_zero, List.getElem_cons_succ, List.setIfInBounds_toArray, List.set_cons_zero, List.set_cons_succ]
              refine wpAnyH_take (i := 31) (v := ?_) rfl (by kernel_rfl) (by kernel_rfl) (by kernel_rfl) (fun _ _ _ h => h) (Or.inl ⟨by rfl, ?_⟩) (by assumption) ?_
              rotate_left
              · (intro w hSw; (try dsimp only at hSw); (first | (go_simp; done) | (go_simp; with_reducible rfl)))
              try simp only [Act.put, List.getElem_toArray, List.getElem_cons_zero, List.getElem_cons_succ, List.setIfInBounds_toArray, List.set_cons_zero, List.set_cons_succ]
              refine wpAnyH_take (i := 32) (v := ?_) rfl (by kernel_rfl) (by kernel_rfl) (by kernel_rfl) (fun _ _ _ h => h) (Or.inl ⟨by rfl, ?_⟩) (by assumption) ?_
              rotate_left
              · (intro w hSw; (try dsimp only at hSw); (first | (go_simp; done) | (go_simp; with_reducible rfl)))
              try simp only [Act.put, List.getElem_toArray, List.getElem_cons_zero, List.getElem_cons_succ, List.setIfInBounds_toArray, List.set_cons_zero, List.set_cons_succ]
              refine wpAnyH_take (i := 33) (v := ?_) rfl (by kernel_rfl) (by kernel_rfl) (by kernel_rfl) (fun _ _ _ h => h) (Or.inl ⟨by rfl, ?_⟩) (by assumption) ?_
              rotate_left
              · (intro w hSw; (try dsimp only at hSw); (first | (go_simp; done) | (go_simp; with_reducible rfl)))
              try simp only [Act.put, List.getElem_toArray, List.getElem_cons_zero, List.getElem_cons_succ, List.setIfInBounds_toArray, List.set_cons_zero, List.set_cons_succ]
              refine wpAnyH_take (i := 34) (v := ?_) rfl (by kernel_rfl) (by kernel_rfl) (by kernel_rfl) (fun _ _ _ h => h) (Or.inl ⟨by rfl, ?_⟩) (by assumption) ?_
              rotate_left
              · (intro w hSw; (try dsimp only at hSw); (first | (go_simp; done) | (go_simp; with_reducible rfl)))
              try simp only [Act.put, List.getElem_toArray, List.getElem_cons_zero, List.getElem_cons_succ, List.setIfInBounds_toArray, List.set_cons_zero, List.set_cons_succ]
              refine wpAnyH_take (i := 35) (v := ?_) rfl (by kernel_rfl) (by kernel_rfl) (by kernel_rfl) (fun _ _ _ h => h) (Or.inl ⟨by rfl, ?_⟩) (by assumption) ?_
              rotate_left
              · (intro w hSw; (try dsimp only at hSw); (first | (go_simp; done) | (go_simp; with_reducible rfl)))
              try simp only [Act.put, List.getElem_toArray, List.getElem_cons_zero, List.getElem_cons_succ, List.setIfInBounds_toArray, List.set_cons_zero, List.set_cons_succ]
              refine wpAnyH_ready (rs := [36]) (by kernel_rfl) (by simp) ?_
              refine AllReadyH.cons rfl (fun K hK => ?_) AllReadyH.nil
              go_simp
              (go_at_call 13; refine HFR.out.mono ?_; rintro e w9 ⟨rfl, hT9, hs9⟩; have hway9 := HWD.out.step hs9; have s9 := s0d.tstep hs9; obtain ⟨d1, d2, d3, d4⟩ := s9.cells; obtain ⟨b9, o9, e9, ha9⟩ := hway9.1.int HAI.out; simp only [Option.some.injEq, Addr.mk.injEq] at e9; obtain ⟨rfl, rfl, _⟩ := e9; (try rw [Nat.add_zero] at ha9); clear ha1 c1 c2 c3 c4)
              refine hK.out _ _ (by first | exact ⟨ha1, c1⟩ | exact ⟨ha9, d1⟩) (fun hHeld => ?_)
              clear hK K
              try simp only [Act.put, List.getElem_toArray, List.getElem_cons_zero, List.getElem_cons_succ, List.setIfInBounds_toArray, List.set_cons_zero, List.set_cons_succ]
              refine wpAnyH_take (i := 37) (v := ?_) rfl (by kernel_rfl) (by kernel_rfl) (by kernel_rfl) (fun _ _ _ h => h) (Or.inl ⟨by rfl, ?_⟩) (by assumption) ?_
              rotate_left
              · (intro w hSw; (try dsimp only at hSw); (first | (go_simp; done) | (go_simp; with_reducible rfl)))
              try simp only [Act.put, List.getElem_toArray, List.getElem_cons_zero, List.getElem_cons_succ, List.setIfInBounds_toArray, List.set_cons_zero, List.set_cons_succ]
              refine wpAnyH_take (i := 38) (v := ?_) rfl (by kernel_rfl) (by kernel_rfl) (by kernel_rfl) (fun _ _ _ h => h) (Or.inl ⟨by rfl, ?_⟩) (by assumption) ?_
              rotate_left
              · (intro w hSw; (try dsimp only at hSw); (first | (go_simp; done) | (go_simp; with_reducible rfl)))
              try simp only [Act.put, List.getElem_toArray, List.getElem_cons_zero, List.getElem_cons_succ, List.setIfInBounds_toArray, List.set_cons_zero, List.set_cons_succ]
              refine wpAnyH_done (by kernel_rfl) ?_ _
              go_wp2
              go_roundw
              case rel => exact ⟨0 + 1, by omega, by go_num, hT9, s9, (Below.step hB hbd).trans ((hs9.below (Nat.le_trans hz hbd.size)).mono hwb), Nat.le_trans (Nat.le_trans hz hbd.size) hs9.size, (hhad.below hbd).tstep hs9 (by decide), hway9⟩
              case measure => simp [intOf]; omega
            · obtain ⟨p, hpi, hp1, hp2⟩ := hprev hi0
              have hq4 : decide (a ≤ p) = false := decide_eq_false (by omega)
              clear hprev
              obtain ⟨j, rfl⟩ : ∃ j, i = j + 1 := ⟨i - 1, by omega⟩
              rw [Nat.add_sub_cancel] at hp1 hpi
              have HPI := Lib.hid hpi
              clear hpi
              have hq5 : decide ((0 : Int) < (j : Int) + 1) = true := decide_eq_true (by omega)
              have hjl : j < l8.length := by omega
              have hjl2 : (j : Int) < (l8.length : Int) := by omega
              have hjb : l8.length ≤ 9223372036854775807 := by omega
              have hlo0 : (0 : Int) ≤ (j : Int) := by omega
              have hw1 : IntKind.i64.wrap ((j : Int) + 1 - 1) = (j : Int) := by rw [IntKind.wrap_i64]; omega
              have hw2 : IntKind.i64.wrap (j : Int) = (j : Int) := by rw [IntKind.wrap_i64]; omega
              have hja : (0 : Int) ≤ (j : Int) + 1 := by omega
              have hjc : (j : Int) + 1 < (l8.length : Int) := by omega
              have hjd : ((j : Int) + 1).toNat = j + 1 := by omega
              have hw3 : IntKind.i64.wrap ((j : Int) + 1) = (j : Int) + 1 := by rw [IntKind.wrap_i64]; omega
              go_wp2
              go_region_held3 (fun w' => w'.cell? ⟨b8, o8 + (j + 1), none⟩ = some (.int .u32 a) ∧ w'.cell? ⟨b8, o8 + j, none⟩ = some (.int .u32 p) ∧ w'.cell? ⟨w.heap.size, 1, none⟩ = some (.int .u32 who)) (first | exact ⟨ha1, hp1, c1⟩ | exact ⟨ha9, hp9, d1⟩ | go_keep) ((go_at_call 13; refine HFR.out.mono ?_; rintro e w9 ⟨rfl, hT9, hs9⟩; have hway9 := HWD.out.step hs9; have s9 := s0d.tstep hs9; obtain ⟨d1, d2, d3, d4⟩ := s9.cells; obtain ⟨b9, o9, e9, ha9⟩ := hway9.1.int HAI.out; simp only [Option.some.injEq, Addr.mk.injEq] at e9; obtain ⟨rfl, rfl, _⟩ := e9; obtain ⟨b10, o10, e10, hp9⟩ := hway9.1.int HPI.out; simp only [Option.some.injEq, Addr.mk.injEq] at e10; obtain ⟨rfl, rfl, _⟩ := e10; clear ha1 hp1 c1 c2 c3 c4))
              go_wp2
              go_roundw
              case rel => exact ⟨j + 1 + 1, by omega, by go_num, hT9, s9, (Below.step hB hbd).trans ((hs9.below (Nat.le_trans hz hbd.size)).mono hwb), Nat.le_trans (Nat.le_trans hz hbd.size) hs9.size, (hhad.below hbd).tstep hs9 (by decide), hway9⟩
              case measure => simp [intOf]; omega
          · have hil2 : i = l8.length := by omega
            subst hil2
            rw [List.take_length] at hT1
            have hlenW := tW_len HLEN1.out l8
            go_upto_if 134 with fail
            go_cut [] from 16 (fun wx => ∃ (n2 : Nat) (Tf : Tab), TabP bb wx (bb + 1) n2 Tf ∧ Tf who = addL f t al (T who) ∧ BoxA wx w.heap.size q who f t al ∧ Below w.heap.size w wx ∧ bb ≤ wx.heap.size ∧ Own Span.enc 2 24 0 wx (.slice A7 N7.length c7) N7)
            case first =>
              rcases HC.out with ⟨rfl, hw8, hne8, hTT⟩ | ⟨rfl, hl8, hTT⟩
              · have hlp : 0 < l8.length := List.length_pos_iff.2 hne8
                have hlz : decide ((0 : Int) < (l8.length : Int)) = true := decide_eq_true (by omega)
                obtain ⟨c1, c2, c3, c4⟩ := s0.cells
                rw [hTT] at hT1 hlenW
                have hask := asks_got hT1 hz hlenW (by omega) (by omega) who hwx f t al (c := k + 1) (fun o => Nat.le_trans (List.length_filter_le _ _) (hlenW o)) (Nat.le_trans (Nat.mul_le_mul (by omega : n1 ≤ 101) (by omega : k + 1 ≤ 101)) (by decide)) hmay (tW_noway hw8)
                rw [tW_who hw8] at hask
                go_wp2_with (go_at_call 23
                             refine hask.mono ?_
                             rintro e w10 ⟨rfl, ⟨n10, hn10, hT10⟩, hs10⟩)
                go_meet
                case rel => exact ⟨n10, _, hT10, putT_at _ _ _, s0.tstep hs10, hB.trans ((hs10.below hz).mono hwb), Nat.le_trans hz hs10.size, hhad.tstep hs10 (by decide)⟩
              · subst hl8
                rw [tW_nil] at hT1
                have hlz : decide ((0 : Int) < (([] : List Int).length : Int)) = false := by decide
                go_wp2
                go_meet
                case rel => exact ⟨n1, T1, hT1, hTT, s0, hB, hz, hhad⟩
            case rest =>
              clear hT1 s0 hB hz hhad hlenW hway
              obtain ⟨n2, Tf, hT, hTf, s0, hB, hz, hhad⟩ := hcut
              have hfl : (Tf who).length ≤ 102 := by rw [hTf]; exact Nat.le_trans (addL_length _ _ _ _) (by have := HLEN.out who; omega)
              have hhas := hasP_calls hT who hwx (by omega)
              have hsp := addL_spans f t al (T who)
              rw [hTf] at hhas
              rw [← HN7.out, ← had_any, ← HN7.out] at hsp
              obtain ⟨N13, hN13⟩ : ∃ N, N = (addL f t al (T who)).map spOf := ⟨_, rfl⟩
              rw [← hN13] at hhas hsp
              have hfree := fun W (h : TabP bb W (bb + 1) n2 Tf) => freeP_calls h who hwx
              have hTl : ((Tf who).length : Int) = (N13.length : Int) := by rw [hTf, hN13, List.length_map]
              rw [hTl] at hfree
              have HFR := Lib.hid hfree
              have HSP := Lib.hid hsp
              clear hfree hsp hN13 hTl hTf
              obtain ⟨c1, c2, c3, c4⟩ := s0.cells
              go_wp2_with fail
              go_at_call 14
              refine hhas.mono ?_
              rintro e w13 ⟨v13, rfl, ho13, hb13⟩
              obtain ⟨A13, c13, rfl, hlc13, hcc13⟩ := ho13.slice
              replace hT := hT.below hb13
              replace hB := Below.step hB hb13
              replace s0 := s0.below hb13
              replace hz := Nat.le_trans hz hb13.size
              replace hhad := hhad.below hb13
              clear hhas hb13 c1 c2 c3 c4
              go_wp2
              go_loopw [14, 15] (fun sv iv wr => ∃ m : Nat, m ≤ N7.length ∧ iv = .int .i64 m ∧ sv = .bool ((N7.take m).any fun s => decide (s = ⟨f, t⟩)) ∧ Below w13.heap.size w13 wr) (fun _ iv _ => N7.length - (intOf iv).toNat)
              case atStart => exact ⟨0, Nat.zero_le _, rfl, rfl, Below.refl _ _⟩
              case round =>
                obtain ⟨m, hm, rfl, rfl, hb⟩ := hrel
                have s1 := s0.below hb
                have hhad1 := hhad.below hb
                obtain ⟨c1, c2, c3, c4⟩ := s1.cells
                by_cases hml : m < N7.length
                · have hxm := List.getElem?_eq_getElem hml
                  obtain ⟨b7, o7, rfl, y1, y2⟩ := (hhad1.rd span_len).span hxm
                  have hsn : ((N7.take (m + 1)).any fun s => decide (s = ⟨f, t⟩)) = (((N7.take m).any fun s => decide (s = ⟨f, t⟩)) || decide (N7[m] = ⟨f, t⟩)) := by rw [List.take_add_one, hxm, List.any_append]; simp only [Option.toList, List.any_cons, List.any_nil, Bool.or_false]
                  generalize N7[m] = z at *
                  obtain ⟨zf, zt⟩ := z
                  simp only at y1 y2
                  obtain ⟨q1, hq1⟩ : ∃ q, ((N7.take (m + 1)).any fun s => decide (s = ⟨f, t⟩)) = q := ⟨_, rfl⟩
                  rw [hq1] at hsn
                  have HQ1 := Lib.hid hq1
                  clear hq1 hxm
                  have hzz : decide ((⟨zf, zt⟩ : Span) = ⟨f, t⟩) = (decide (zf = f) && decide (zt = t)) := by
                    rw [Bool.eq_iff_iff]
                    simp
                  rw [hzz] at hsn
                  clear hzz
                  have HSN := Lib.hid hsn
                  clear hsn
                  generalize (N7.take m).any (fun s => decide (s = ⟨f, t⟩)) = q0 at *
                  have heql := eql_span
                  have heqg := eqg_span
                  cases q0
                  all_goals
                    go_wp2
                    go_big_quiet (fail)
                    go_wp2
                    go_roundw
                    case rel => exact ⟨m + 1, by omega, by go_num, by rw [HQ1.out, HSN.out]; simp, ⟨hb.os, hb.tape, hb.output, hb.size, hb.block⟩⟩
                    case measure => simp [intOf]; omega
                · have hmk : m = N7.length := by omega
                  subst hmk
                  rw [List.take_length] at *
                  have hT1 := hT.below hb
                  have ho1 := (ho13.rd span_len).below hb
                  have hrt : RdT bb Span.enc 2 wr (.slice A13 N13.length c13) N13 := RdT.own span_len (ho13.below hb) (by decide)
                  have hB1 := Below.step hB hb
                  have hz1 := Nat.le_trans hz hb.size
                  have hsp := HSP.out
                  clear hT s0 hB hz hhad ho13 hb
                  cases hany : N7.any fun s => decide (s = ⟨f, t⟩) with
                  | true =>
                    rw [hany, if_pos rfl] at hsp
                    have HSPE := Lib.hid hsp
                    clear hsp hany
                    have hr1 : Rd Span.enc 2 wr (.slice A13 N13.length c13) N7 := by have h := ho1; rw [HSPE.out] at h ⊢; exact h
                    clear ho1 hrt
                    go_wp2_with (go_at_call 19
                                 refine (sameSpans_calls _ _ N7 N7 _ hr1 (hhad1.rd span_len)).mono ?_
                                 rw [decide_eq_true rfl]
                                 rintro e w15 ⟨rfl, hb15⟩)
                    go_ret
                    exact ⟨rfl, Below.step hB1 hb15⟩
                  | false =>
                    rw [hany, if_neg Bool.false_ne_true] at hsp
                    have HSPE := Lib.hid hsp
                    have hl13 : N13.length = N7.length + 1 := by rw [hsp]; simp
                    have hget : N13[N7.length]? = some ⟨f, t⟩ := by rw [hsp]; simp
                    have htake : N13.take N7.length = N7 := by rw [hsp]; simp
                    clear hsp hany
                    obtain ⟨b13, o13, rfl, y1, y2⟩ := ho1.span hget
                    simp only at y1 y2
                    have hrA := ho1.takeQ N7.length (by omega)
                    rw [htake] at hrA
                    have hq1 : ((N13.length : Int) == (N7.length : Int) + 1) = true := by rw [beq_iff_eq]; omega
                    have hlt1 : N7.length < N13.length := by omega
                    have hle1 : N7.length ≤ c13 := by omega
                    have hwr1 : IntKind.i64.wrap ((N7.length : Int) + 1) = (N7.length : Int) + 1 := wrap_id (by omega) (by omega)
                    have hbd : Below wr.heap.size wr wr.drew := (Below.refl _ _).drew
                    have hTd := hT1.below hbd
                    have hrtd := hrt.below hbd
                    have HGET := Lib.hid hget
                    have sd := s1.below hbd
                    have hrAd := hrA.below hbd
                    have hrBd := (hhad1.rd span_len).below hbd
                    have hBd := Below.step hB1 hbd
                    have hzd := Nat.le_trans hz1 hbd.size
                    have z1 : wr.drew.cell? ⟨b13, o13 + N7.length * 2, none⟩ = some (.string f) := y1
                    have z2 : wr.drew.cell? ⟨b13, o13 + N7.length * 2 + 1, none⟩ = some (.string t) := y2
                    have heql := eql_span
                    have heqg := eqg_span
                    clear c1 c2 c3 c4 hT1 s1 hrA hhad1 hB1 hz1 y1 y2 htake hget ho1 hbd hl13 hrt
                    obtain ⟨c1, c2, c3, c4⟩ := sd.cells
                    go_wp2
                    go_region_held3 (fun w' => w'.cell? ⟨b13, o13 + N7.length * 2, none⟩ = some (.string f) ∧ w'.cell? ⟨b13, o13 + N7.length * 2 + 1, none⟩ = some (.string t) ∧ w'.cell? ⟨w.heap.size, 1, none⟩ = some (.int .u32 who) ∧ w'.cell? ⟨w.heap.size, 2, none⟩ = some (.string f) ∧ w'.cell? ⟨w.heap.size, 3, none⟩ = some (.string t)) (first | go_keep | exact ⟨z1, z2, c1, c2, c3⟩) (first
                      | (go_at_call 19
                         refine (sameSpans_calls _ _ N7 N7 _ hrAd hrBd).mono ?_
                         rw [decide_eq_true rfl]
                         rintro e w15 ⟨rfl, hb15⟩
                         replace hTd := hTd.below hb15
                         replace sd := sd.below hb15
                         replace hrtd := hrtd.below hb15
                         replace hBd := Below.step hBd hb15
                         replace hzd := Nat.le_trans hzd hb15.size
                         replace z1 := Below.cell_some hb15 z1
                         replace z2 := Below.cell_some hb15 z2
                         clear c1 c2 c3 c4
                         obtain ⟨c1, c2, c3, c4⟩ := sd.cells
                         clear hb15 hrAd hrBd)
                      | (go_at_call 13
                         refine (HFR.out _ hTd).mono ?_
                         rintro e w16 ⟨rfl, hT16, hs16⟩
                         have s16 := sd.tstep hs16
                         have hB16 := hBd.trans ((hs16.below hzd).mono hwb)
                         have hrt16 := hrtd.step hs16
                         clear z1 z2 c1 c2 c3 c4 sd hBd hTd
                         obtain ⟨c1, c2, c3, c4⟩ := s16.cells
                         obtain ⟨b14, o14, e14, z1, z2⟩ := hrt16.1.span HGET.out
                         simp only [Option.some.injEq, Addr.mk.injEq] at e14
                         obtain ⟨rfl, rfl, _⟩ := e14))
                    go_wp2
                    go_ret
                    exact ⟨rfl, hB16⟩
end Go.Proofs.Ytomhkflcimbbiaa
