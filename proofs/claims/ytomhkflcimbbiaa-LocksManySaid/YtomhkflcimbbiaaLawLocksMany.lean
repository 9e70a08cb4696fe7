import Derived.Test.YtomhkflcimbbiaaLManyP
import Derived.Test.YtomhkflcimbbiaaArr
import Derived.Test.YtomhkflcimbbiaaLawLocksNone
import Derived.Deep.Cut
set_option linter.unusedVariables false
set_option linter.unusedSimpArgs false
set_option linter.unusedSectionVars false
namespace Go.Proofs.Ytomhkflcimbbiaa
open Go.RowKit Go.Shelf

theorem byte_wfM {a : Int} (h : (Lit.int .u8 a).wf = true) : 0 ≤ a ∧ a ≤ 255 := by
  simp [Lit.wf, IntKind.min, IntKind.max, IntKind.signed, IntKind.bits] at h
  omega
theorem okU_smallM {a : Int} (h0 : 0 ≤ a) (h1 : a ≤ 4000000000) : okU a := by
  unfold okU
  simp [Lit.wf, IntKind.min, IntKind.max, IntKind.signed, IntKind.bits]
  omega

set_option maxHeartbeats 1000000 in
set_option maxRecDepth 100000 in
theorem locksMany_walk (v0 : Value) (ws : List Int) (x : Span) (w : World) (rd0 : Rd encB 1 w v0 ws) (ok0 : ∀ a ∈ ws, (Lit.int .u8 a).wf = true) (ok1 : x.ok) :
    Calls Try.prog 7 #[v0, .agg #[.string x.f, .string x.t]] w fun e w' => e = .returned (.bool true) ∧ Below w.heap.size w w' := by
  obtain ⟨A0, p0, rfl, hl0, hc0⟩ := rd0.shape
  obtain ⟨f, t⟩ := x
  obtain ⟨okf, okt⟩ := ok1
  unfold small at okf okt
  simp only at okf okt
  go_enter Try.func7, Try.ntmps7
  have hB : Below w.heap.size w (w.alloc (.cells #[.string f, .string t] 24)) := (Below.refl _ w).alloc (Nat.le_refl _) _
  have s0 : (w.alloc (.cells #[.string f, .string t] 24)).heap[w.heap.size]? = some (.cells #[.string f, .string t] 24 (0, 0)) := lalloc_at _ rfl
  have hz : w.heap.size + 1 ≤ (w.alloc (.cells #[.string f, .string t] 24)).heap.size := by simp
  have hwr : IntKind.i64.wrap ((f.size : Int) + t.size) = (f.size : Int) + t.size := wrap_id (by omega) (by omega)
  go_upto_region 1 with fail
  generalize w.alloc (.cells #[.string f, .string t] 24) = w0 at *
  by_cases hbad : 2000 < (f.size : Int) + t.size ∨ sle f t = false ∨ 60 < ws.length
  · have hq : 2000 < (f.size : Int) + t.size ∨ (¬ 2000 < (f.size : Int) + t.size ∧ sle f t = false) ∨ (¬ 2000 < (f.size : Int) + t.size ∧ sle f t = true ∧ 60 < ws.length) := by
      cases h : sle f t <;> rw [h] at hbad <;> simp at hbad ⊢ <;> omega
    clear hbad
    rcases hq with h1 | ⟨h1, h2⟩ | ⟨h1, h2, h3⟩
    all_goals
      first
        | have hd : decide (2000 < (f.size : Int) + t.size) = true := decide_eq_true h1
        | (have hd : decide (2000 < (f.size : Int) + t.size) = false := decide_eq_false h1
           first
             | have hl : decide (60 < (ws.length : Int)) = true := decide_eq_true (by omega)
             | skip)
      go_wp2_with (go_at_call 15
                   refine (aliveL_calls _).mono ?_
                   rintro e w1 ⟨rfl, hb1⟩
                   replace hB := Below.step hB hb1
                   (try (
                     replace s0 := (hb1.block _ (Array.getElem?_eq_some_iff.1 s0).1).trans s0
                     have c0 : w1.cell? ⟨w.heap.size, 0, none⟩ = some (.string f) := (by simp [World.cell?, s0])
                     have c1 : w1.cell? ⟨w.heap.size, 1, none⟩ = some (.string t) := (by simp [World.cell?, s0])))
                   clear hb1)
      go_ret
      exact ⟨rfl, hB⟩
  · obtain ⟨h1, h2, h3⟩ : ¬ 2000 < (f.size : Int) + t.size ∧ sle f t = true ∧ ws.length ≤ 60 := by
      cases h : sle f t <;> rw [h] at hbad <;> simp at hbad ⊢ <;> omega
    clear hbad
    have hd : decide (2000 < (f.size : Int) + t.size) = false := decide_eq_false h1
    have hl : decide (60 < (ws.length : Int)) = false := decide_eq_false (by omega)
    go_wp2_with (first
      | (go_at_call 15
         refine (aliveL_calls _).mono ?_
         rintro e w1 ⟨rfl, hb1⟩
         replace hB := Below.step hB hb1
         replace s0 := (hb1.block _ (Array.getElem?_eq_some_iff.1 s0).1).trans s0
         replace hz := Nat.le_trans hz hb1.size
         have c0 : w1.cell? ⟨w.heap.size, 0, none⟩ = some (.string f) := (by simp [World.cell?, s0])
         have c1 : w1.cell? ⟨w.heap.size, 1, none⟩ = some (.string t) := (by simp [World.cell?, s0])
         clear hb1)
      | (go_at_call 17
         refine (tnew_calls w1).mono ?_
         rintro e w2 ⟨rfl, hb1, hT0⟩
         replace hB := Below.step hB hb1
         replace s0 := (hb1.block _ (Array.getElem?_eq_some_iff.1 s0).1).trans s0
         have hz1 := hb1.size
         clear hb1 c0 c1))
    generalize w1.heap.size = bb at *
    have HFT := Lib.hid h2
    clear hd hl hwr h1
    go_loopw [6, 7] (fun wv iv wr => ∃ k : Nat, k ≤ ws.length ∧ iv = .int .i64 k ∧ (∃ n, n ≤ k ∧ TabP bb wr (bb + 1) n (tS (psM f t (ws.take k)))) ∧ RdT bb encU 1 wr wv (wantL (ws.take k)) ∧ bb ≤ wr.heap.size ∧ Below w.heap.size w wr ∧
        wr.heap[w.heap.size]? = some (.cells #[.string f, .string t] 24 (0, 0))) (fun _ iv _ => ws.length - (intOf iv).toNat)
    case atStart => exact ⟨0, Nat.zero_le _, rfl, ⟨0, Nat.le_refl _, hT0⟩, RdT.nil _, hz1, hB, s0⟩
    case round =>
      clear hB hz1 hT0 s0
      obtain ⟨k, hk, rfl, ⟨n, hn, hT⟩, hrd, hz1, hB, s0⟩ := hrel
      have c0 : wr.cell? ⟨w.heap.size, 0, none⟩ = some (.string f) := by simp [World.cell?, s0]
      have c1 : wr.cell? ⟨w.heap.size, 1, none⟩ = some (.string t) := by simp [World.cell?, s0]
      obtain ⟨A6, c6, rfl, _, _⟩ := hrd.1.shape
      have hwl := Nat.le_trans (wantL_length (ws.take k)) (by rw [List.length_take]; omega : (ws.take k).length ≤ 60)
      by_cases hlt : k < ws.length
      · have hka := List.getElem?_eq_getElem hlt
        have htk := psM_take f t hka
        have hwt := wantL_take hka
        obtain ⟨ba, oa, rfl, ha1⟩ := (rd0.below hB).byte hka
        have hab := byte_wfM (ok0 _ (List.getElem_mem hlt))
        have HR0 := Lib.hid rd0
        clear rd0 ok0
        generalize ws[k] = a at *
        have hps : (psM f t (ws.take k)).length ≤ 60 := by rw [psM_length, List.length_take]; omega
        have hnx := tS_got (psM f t (ws.take k)) (1 + a) ⟨f, t⟩ h2
        rw [← htk] at hnx
        have htl := fun o => Nat.le_trans (tS_len (psM f t (ws.take k)) o) hps
        have hnh := tS_nohit (psM f t (ws.take k)) f t
        have hkk : (1 + a) % 4294967296 = 1 + a := by omega
        have hkk1 : 1 + a % 4294967296 = 1 + a := by omega
        have hkk2 : a % 4294967296 = a := by omega
        have hc : Calls Try.prog 23 #[.pointer (some ⟨bb + 1, 0, none⟩), .int .u32 (1 + a), .agg #[.string f, .string t], .bool false, .slice none 0 0] wr fun e w' =>
            e = .returned (.bool true) ∧ (∃ n', n' ≤ n + 1 ∧ TabP bb w' (bb + 1) n' (tS (psM f t (ws.take (k + 1))))) ∧ TStep bb wr w' := by
          rw [← hnx]
          exact asks_got hT hz1 htl (by decide) (by omega) (1 + a) (okU_smallM (by omega) (by omega)) f t false hnh (by omega) (by unfold mayL; rw [decide_eq_true (by omega : (1 + a) ≠ 0), h2]; rfl) (nohit_way hnh)
        have HK := Lib.hid (And.intro hkk (And.intro hkk1 hkk2))
        have HC := Lib.hid hc
        have HW := Lib.hid hwt
        clear hnx htl hnh hc htk hwt hka hps hkk hkk1 hkk2 hT h2
        generalize wantL (ws.take k) = W0 at *
        go_wp2_with (first
          | (go_at_call 21
             (try rw [HK.out.1]); (try rw [HK.out.2.1])
             refine (put_calls hrd3 hz3 (by omega) (1 + a)).mono ?_
             rintro e w4 ⟨v', rfl, hrd4, hb4⟩
             rw [← HW.out] at hrd4)
          | (go_at_call 23
             (try rw [HK.out.1]); (try rw [HK.out.2.1])
             refine HC.out.mono ?_
             rintro e w3 ⟨rfl, ⟨n', hn', hT3⟩, hs⟩
             have hrd3 := hrd.step hs
             have hz3 := Nat.le_trans hz1 hs.size
             have hs0 := hs.low s0 (by omega)
             clear c0 c1 hrd))
        go_roundw
        case rel =>
          have hz4 := hb4.size
          exact ⟨k + 1, by omega, by go_num, ⟨n', by omega, hT3.below hb4⟩, hrd4, by omega, Below.step (hB.trans ((hs.below hz1).mono (by omega))) hb4, (hb4.block _ (Array.getElem?_eq_some_iff.1 hs0).1).trans hs0⟩
        case measure => simp [intOf]; omega
      · have hkl : k = ws.length := by omega
        subst hkl
        rw [List.take_length] at hT hrd hwl ⊢
        have hps : (psM f t ws).length ≤ 60 := by rw [psM_length]; omega
        have htl := fun o => Nat.le_trans (tS_len (psM f t ws) o) hps
        have hway := many_way h2 (ws := ws) (who := 1000) (fun a ha => by have := byte_wfM (ok0 a ha); omega)
        have hnone := tS_none h2 (ws := ws) (o := 1000) (fun a ha => by have := byte_wfM (ok0 a ha); omega)
        have hnw := nohit_way (who := 1000) (tS_nohit (psM f t ws) f t)
        have hm1 : mayL 1000 f t = true := by unfold mayL; rw [h2]; rfl
        have hm0 : mayL 0 f t = false := by unfold mayL; rfl
        generalize wantL ws = W0 at *
        generalize tS (psM f t ws) = T at *
        have way : ∀ W (_ : TabP bb W (bb + 1) n T) (who : Int) (al : Bool), Calls Try.prog 12 #[.pointer (some ⟨bb + 1, 0, none⟩), .int .u32 who, .agg #[.string f, .string t], .bool al] W
            fun e w' => ∃ (v' : Value) (l : List Int), e = .returned v' ∧ OwnU W.heap.size w' v' l ∧ Below W.heap.size W w' ∧ (if mayL who f t then WayIs T who f t al l else l = []) := fun W h who al => by
          obtain ⟨M, D, h⟩ := h
          exact way_calls h (c := 60) htl (by decide) (by omega) who f t al (fun o => Nat.le_trans (List.length_filter_le _ _) (htl o)) (by unfold sortN; omega)
        have HWAY := Lib.hid way
        have HN := Lib.hid hnone
        have HW := Lib.hid (And.intro hway (And.intro hnw (And.intro hm1 hm0)))
        clear way hnone hway hnw hm1 hm0 htl hps h2 ok0
        go_wp2_with fail
        go_at_call 12
        refine (HWAY.out wr hT 1000 true).mono ?_
        rintro e w3 ⟨v3, l3, rfl, ho3, hb3, hl3⟩
        rw [if_pos HW.out.2.2.1] at hl3
        have e3 := hl3.uniq HW.out.1
        subst e3
        replace hT := hT.below hb3
        replace hB := Below.step hB hb3
        replace hrd := hrd.below hb3
        replace s0 := (hb3.block _ (Array.getElem?_eq_some_iff.1 s0).1).trans s0
        clear hb3 hl3 c0 c1
        go_wp2_with fail
        go_at_call 22
        refine (sameIds_calls _ _ l3 l3 w3 (ho3.rd encU_len) hrd.1).mono ?_
        rw [decide_eq_true rfl]
        rintro e w4 ⟨rfl, hb4⟩
        replace hT := hT.below hb4
        replace hB := Below.step hB hb4
        replace s0 := (hb4.block _ (Array.getElem?_eq_some_iff.1 s0).1).trans s0
        have c0 : w4.cell? ⟨w.heap.size, 0, none⟩ = some (.string f) := by simp [World.cell?, s0]
        have c1 : w4.cell? ⟨w.heap.size, 1, none⟩ = some (.string t) := by simp [World.cell?, s0]
        clear hb4 ho3 hrd
        go_wp2_with fail
        go_at_call 12
        refine (HWAY.out w4 hT 1000 false).mono ?_
        rintro e w5 ⟨v5, l5, rfl, ho5, hb5, hl5⟩
        rw [if_pos HW.out.2.2.1] at hl5
        have e5 := hl5.nil_iff.2 HW.out.2.1
        subst e5
        obtain ⟨A5, c5, rfl, _, _⟩ := ho5.slice
        replace hT := hT.below hb5
        replace hB := Below.step hB hb5
        replace s0 := (hb5.block _ (Array.getElem?_eq_some_iff.1 s0).1).trans s0
        clear hb5 hl5 c0 c1 ho5
        go_wp2_with fail
        go_at_call 14
        obtain ⟨M, D, hTA⟩ := hT
        refine (thas_calls hTA 1000 (by decide) (by rw [HN.out]; simp)).mono ?_
        rw [HN.out]
        rintro e w6 ⟨v6, rfl, ho6, hb6⟩
        obtain ⟨A6, c6, rfl, _, _⟩ := ho6.slice
        replace hTA := hTA.below hb6
        replace hB := Below.step hB hb6
        replace s0 := (hb6.block _ (Array.getElem?_eq_some_iff.1 s0).1).trans s0
        have hz6 : bb ≤ w6.heap.size := by have := hB.size; have := hTA.lt; omega
        clear hb6 ho6
        go_wp2_with fail
        go_at_call 13
        refine (tfree_calls hTA 1000 (by decide)).mono ?_
        rw [HN.out]
        rintro e w7 ⟨rfl, hT7, hs7⟩
        have hTe : putT T 1000 [] = T := by
          funext o
          unfold putT
          split
          · rename_i e; rw [← e]; exact HN.out.symm
          · rfl
        rw [hTe] at hT7
        have hHT := Lib.hid hTe
        have hs0 := hs7.low s0 (by omega)
        have c0 : w7.cell? ⟨w.heap.size, 0, none⟩ = some (.string f) := by simp [World.cell?, hs0]
        have c1 : w7.cell? ⟨w.heap.size, 1, none⟩ = some (.string t) := by simp [World.cell?, hs0]
        replace hB := hB.trans ((hs7.below hz6).mono (by omega))
        clear hTe s0 hs7
        go_wp2_with fail
        go_at_call 12
        refine (HWAY.out w7 hT7 0 true).mono ?_
        rintro e w8 ⟨v8, l8, rfl, ho8, hb8, hl8⟩
        rw [if_neg (by rw [HW.out.2.2.2]; exact Bool.false_ne_true)] at hl8
        subst hl8
        obtain ⟨A8, c8, rfl, _, _⟩ := ho8.slice
        go_wp2
        go_ret
        exact ⟨rfl, Below.step hB hb8⟩
end Go.Proofs.Ytomhkflcimbbiaa
