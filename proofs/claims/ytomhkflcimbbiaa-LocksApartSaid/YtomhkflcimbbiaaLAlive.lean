import Derived.Test.YtomhkflcimbbiaaLAliveP
import Derived.Test.YtomhkflcimbbiaaLHas
set_option linter.unusedVariables false
set_option linter.unusedSimpArgs false
set_option linter.unusedSectionVars false
namespace Go.Proofs.Ytomhkflcimbbiaa
open Go.RowKit Go.Shelf

set_option maxHeartbeats 1000000 in
set_option maxRecDepth 100000 in
theorem aliveL_calls (w : World) : Calls Try.prog 15 #[] w fun e w' => e = .returned (.bool true) ∧ Below w.heap.size w w' := by
  go_enter Try.func15, Try.ntmps15
  have hpn : ∀ (b : Nat) (W : World), (binOp .eql 25 (.pointer (some ⟨b, 0, none⟩)) (.pointer none)).run Try.prog W = .ok (.bool false) W := fun b W => by simp [go_sem]
  have q0 : w.heap.size = w.heap.size := rfl
  go_wp2_with (first
    | (go_at_call 17; refine (tnew_calls w).mono ?_; rintro e w1 ⟨rfl, hB, hT0⟩; have hS := TStep.refl w.heap.size w; replace hS := hS.trans (.of_below hB); have hz := hB.size; clear q0 hB)
    | (go_at_call 35; refine (s_calls _ _ _).mono ?_; rintro e w2 ⟨rfl, hb⟩
       replace hS := hS.trans (.of_below hb)
       first
         | (replace hT0 := hT0.below hb; clear hb)
         | (replace hT1 := hT1.below hb; clear hb)
         | (replace hT2 := hT2.below hb; clear hb)
         | (replace hT3 := hT3.below hb; clear hb)
         | (replace hT4 := hT4.below hb; clear hb)
         | (replace hT5 := hT5.below hb; clear hb)
         | (replace hT6 := hT6.below hb; (try replace hh := hh.below hb); clear hb)
         | (replace hT7 := hT7.below hb; clear hb))
    | (go_at_call 23
       refine (asks_got hT0 (Nat.le_trans (Nat.le_refl _) hS.size) tA0_len (by decide) (by decide) 1 (by decide) sa sc false (filt tA0_len _) (by decide) (by decide) gA1).mono ?_
       rintro e w2 ⟨rfl, ⟨n1, hn1, hT1⟩, hs⟩; replace hS := hS.trans hs; rw [tA1_eq] at hT1; clear hs hT0)
    | (go_at_call 23
       refine (asks_got hT1 (Nat.le_trans (Nat.le_refl _) hS.size) tA1_len (by decide) (by omega) 2 (by decide) sb sb false (filt tA1_len _) (by unfold sortN; omega) (by decide) gA2).mono ?_
       rintro e w2 ⟨rfl, ⟨n2, hn2, hT2⟩, hs⟩; replace hS := hS.trans hs; rw [tA2_eq] at hT2; clear hs hT1)
    | (go_at_call 23
       have hb := (Below.refl _ w2).alloc (Nat.le_refl _) (.cells #[.int .u32 1] 22)
       refine (asks_way (hT2.below hb) (Nat.le_trans hS.size hb.size) tA2_len (by decide) (by omega) 2 (by decide) sc sd true (filt tA2_len _) (by unfold sortN; omega) (by decide) (RdT.lit (k := 1) (E := 22) encU_len [1] (by decide) w2 (by decide)) wA3 (by decide)).mono ?_
       rintro e w3 ⟨rfl, ⟨n3, hn3, hT3⟩, hs⟩; replace hS := (hS.trans (.of_below hb)).trans hs; clear hs hT2 hb)
    | (go_at_call 12
       obtain ⟨M, D, hT⟩ := hT3
       refine (way_calls hT (c := 2) tA2_len (by decide) (by omega) 1 sb sb true (filt tA2_len _) (by unfold sortN; omega)).mono ?_
       rintro e w3 ⟨v', l, rfl, ho, hb, hway⟩
       rw [show mayL 1 sb sb = true by decide] at hway
       simp only [if_true] at hway
       obtain rfl := hway.uniq wAw
       replace hS := hS.trans (.of_below hb); have hT3 : TabP w.heap.size _ _ _ _ := ⟨M, D, hT.below hb⟩; clear hT hb hway)
    | (go_at_call 22
       have hb := (Below.refl _ w3).alloc (Nat.le_refl _) (.cells #[.int .u32 2] 22)
       refine (sameIds_calls _ _ [2] [2] _ ((ho.rd encU_len).below hb) (RdT.lit (base := 0) (k := 1) (E := 22) encU_len [2] (by decide) w3 (by decide)).1).mono ?_
       rintro e w4 ⟨rfl, hb4⟩
       replace hT3 := (hT3.below hb).below hb4; replace hS := (hS.trans (.of_below hb)).trans (.of_below hb4); clear hb hb4 ho)
    | (go_at_call 13
       obtain ⟨M, D, hT⟩ := hT3
       refine (tfree_calls hT 1 (by decide)).mono ?_
       rintro e w3 ⟨rfl, hT4, hs⟩
       rw [tA2_1]
       replace hS := hS.trans hs; clear hs hT)
    | (go_at_call 23
       refine (asks_got (T := tA3) hT4 hS.size tA3_len (by decide) (by omega) 2 (by decide) sc sd true (filt tA3_len _) (by unfold sortN; omega) (by decide) gA4).mono ?_
       rintro e w2 ⟨rfl, ⟨n4, hn4, hT5⟩, hs⟩; replace hS := hS.trans hs; rw [tA4_eq] at hT5; clear hs hT4)
    | (go_at_call 23
       have hb := (Below.refl _ w2).alloc (Nat.le_refl _) (.cells #[.int .u32 2] 22)
       refine (asks_way (hT5.below hb) (Nat.le_trans hS.size hb.size) tA4_len (by decide) (by omega) 1 (by decide) sd sd false (filt tA4_len _) (by unfold sortN; omega) (by decide) (RdT.lit (k := 1) (E := 22) encU_len [2] (by decide) w2 (by decide)) wA5 (by decide)).mono ?_
       rintro e w3 ⟨rfl, ⟨n5, hn5, hT6⟩, hs⟩; replace hS := (hS.trans (.of_below hb)).trans hs; clear hs hT5 hb)
    | (go_at_call 14
       obtain ⟨M, D, hT⟩ := hT6
       refine (thas_calls hT 2 (by decide) (by rw [tA4_2]; decide)).mono ?_
       rintro e w3 ⟨v', rfl, hh0, hb⟩
       rw [tA4_2] at hh0
       have hh := hh0.rd span_len
       replace hS := hS.trans (.of_below hb); have hT6 : TabP w.heap.size _ _ _ _ := ⟨M, D, hT.below hb⟩; clear hT hb hh0)
    | (go_at_call 19
       have hb := (Below.refl _ w2).alloc (Nat.le_refl _) (.cells #[.string sb, .string sb, .string sc, .string sd] 24)
       refine (sameSpans_calls _ _ [⟨sb, sb⟩, ⟨sc, sd⟩] [⟨sb, sb⟩, ⟨sc, sd⟩] _ (hh.below hb) (rd_lit Span.enc 2 span_len 24 [⟨sb, sb⟩, ⟨sc, sd⟩] (by decide) w2)).mono ?_
       rintro e w4 ⟨rfl, hb4⟩
       replace hT6 := (hT6.below hb).below hb4; replace hS := (hS.trans (.of_below hb)).trans (.of_below hb4); clear hb hb4 hh)
    | (go_at_call 11
       obtain ⟨M, D, hT⟩ := hT6
       refine (ask_calls hT hS.size tA4_len (by decide) (by omega) 0 (by decide) sa sa true (filt tA4_len _) (by unfold sortN; omega)).mono ?_
       rintro e w3 (⟨_, rfl, hT7, hs⟩ | ⟨h1, _⟩ | ⟨h1, _⟩)
       rotate_left
       · exact absurd h1 (by decide)
       · exact absurd h1 (by decide)
       replace hS := hS.trans hs; clear hs hT)
    | (go_at_call 11
       obtain ⟨M, D, hT⟩ := hT7
       refine (ask_calls hT hS.size tA4_len (by decide) (by omega) 3 (by decide) sb sa true (filt tA4_len _) (by unfold sortN; omega)).mono ?_
       rintro e w3 (⟨_, rfl, hT8, hs⟩ | ⟨h1, _⟩ | ⟨h1, _⟩)
       rotate_left
       · exact absurd h1 (by decide)
       · exact absurd h1 (by decide)
       replace hS := hS.trans hs; clear hs hT))
  go_ret
  exact ⟨rfl, hS.below (Nat.le_refl _)⟩
end Go.Proofs.Ytomhkflcimbbiaa
