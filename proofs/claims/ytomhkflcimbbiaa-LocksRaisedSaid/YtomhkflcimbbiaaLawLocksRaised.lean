import Derived.Test.YtomhkflcimbbiaaLAlive
import Derived.Test.YtomhkflcimbbiaaLRaisP
import Derived.Test.YtomhkflcimbbiaaLawLocksNone
set_option linter.unusedVariables false
set_option linter.unusedSimpArgs false
set_option linter.unusedSectionVars false
namespace Go.Proofs.Ytomhkflcimbbiaa
open Go.RowKit Go.Shelf

/-- what seven has, ahead of round k. -/
def aK (b0 b1 b2 : Bool) : Nat → Bool
  | 0 => false
  | 1 => b0
  | 2 => b0 || b1
  | _ => b0 || b1 || b2
def hK (b0 b1 b2 : Bool) : Nat → Bool
  | 0 => b0
  | 1 => b1
  | _ => b2
def tK (f t : Str) (b0 b1 b2 : Bool) (k : Nat) : Tab := if k = 0 then tA0 else tR f t (aK b0 b1 b2 k)
theorem tK_next (f t : Str) (b0 b1 b2 : Bool) {k : Nat} (hk : k < 3) : putT (tK f t b0 b1 b2 k) 7 (addL f t (hK b0 b1 b2 k) (tK f t b0 b1 b2 k 7)) = tR f t (aK b0 b1 b2 (k + 1)) := by
  match k, hk with
  | 0, _ => rfl
  | 1, _ => exact tR_next f t _ _
  | 2, _ => exact tR_next f t _ _
theorem aK_next (b0 b1 b2 : Bool) {k : Nat} (hk : k < 3) : (aK b0 b1 b2 k || hK b0 b1 b2 k) = aK b0 b1 b2 (k + 1) := by
  match k, hk with
  | 0, _ => rfl
  | 1, _ => rfl
  | 2, _ => rfl
theorem tK_len (f t : Str) (b0 b1 b2 : Bool) (k : Nat) (o : Int) : (tK f t b0 b1 b2 k o).length ≤ 2 := by
  unfold tK
  split
  · exact tA0_len o
  · exact tR_len f t _ o
theorem tK_free (f t : Str) (b0 b1 b2 : Bool) (k : Nat) (al : Bool) (o : Int) : ¬ InWay (tK f t b0 b1 b2 k) 7 f t al o := by
  unfold tK
  split
  · exact inWay_none
  · exact way_own al _ o

set_option maxHeartbeats 1000000 in
set_option maxRecDepth 100000 in
theorem locksRaised_walk (x : Span) (b0 b1 b2 : Bool) (w : World) (ok0 : x.ok) : Calls Try.prog 6 #[.agg #[.string x.f, .string x.t], .agg #[.bool b0, .bool b1, .bool b2]] w fun e w' => e = .returned (.bool true) ∧ Below w.heap.size w w' := by
  obtain ⟨f, t⟩ := x
  obtain ⟨okf, okt⟩ := ok0
  unfold small at okf okt
  simp only at okf okt
  go_enter Try.func6, Try.ntmps6
  have hB : Below w.heap.size w ((w.alloc (.cells #[.string f, .string t] 24)).alloc (.cells #[.bool b0, .bool b1, .bool b2] 56)) := ((Below.refl _ w).alloc (Nat.le_refl _) _).alloc (by simp) _
  have s0 : ((w.alloc (.cells #[.string f, .string t] 24)).alloc (.cells #[.bool b0, .bool b1, .bool b2] 56)).heap[w.heap.size]? = some (.cells #[.string f, .string t] 24 (0, 0)) := (Below.heap_alloc _ _ _ (by simp)).trans (lalloc_at _ rfl)
  have s1 : ((w.alloc (.cells #[.string f, .string t] 24)).alloc (.cells #[.bool b0, .bool b1, .bool b2] 56)).heap[w.heap.size + 1]? = some (.cells #[.bool b0, .bool b1, .bool b2] 56 (0, 0)) := lalloc_at _ (by simp)
  have hz : w.heap.size + 2 ≤ ((w.alloc (.cells #[.string f, .string t] 24)).alloc (.cells #[.bool b0, .bool b1, .bool b2] 56)).heap.size := by simp
  have hwr : IntKind.i64.wrap ((f.size : Int) + t.size) = (f.size : Int) + t.size := wrap_id (by omega) (by omega)
  by_cases hbig : 2000 < (f.size : Int) + t.size
  · have hd : decide (2000 < (f.size : Int) + t.size) = true := decide_eq_true hbig
    go_wp2_with (go_at_call 15; refine (aliveL_calls _).mono ?_; rintro e w1 ⟨rfl, hb1⟩; replace hB := Below.step hB hb1; (try (replace s0 := (hb1.block _ (Array.getElem?_eq_some_iff.1 s0).1).trans s0; have c0 : w1.cell? ⟨w.heap.size, 0, none⟩ = some (.string f) := (by simp [World.cell?, s0]); have c1 : w1.cell? ⟨w.heap.size, 1, none⟩ = some (.string t) := (by simp [World.cell?, s0]))); clear hb1)
    go_ret
    exact ⟨rfl, hB⟩
  · have hd : decide (2000 < (f.size : Int) + t.size) = false := decide_eq_false hbig
    cases hft : sle f t with
    | false =>
      go_wp2_with (go_at_call 15; refine (aliveL_calls _).mono ?_; rintro e w1 ⟨rfl, hb1⟩; replace hB := Below.step hB hb1; (try (replace s0 := (hb1.block _ (Array.getElem?_eq_some_iff.1 s0).1).trans s0; have c0 : w1.cell? ⟨w.heap.size, 0, none⟩ = some (.string f) := (by simp [World.cell?, s0]); have c1 : w1.cell? ⟨w.heap.size, 1, none⟩ = some (.string t) := (by simp [World.cell?, s0]))); clear hb1)
      go_ret
      exact ⟨rfl, hB⟩
    | true =>
      go_wp2_with (first
        | (go_at_call 15; refine (aliveL_calls _).mono ?_; rintro e w1 ⟨rfl, hb1⟩; replace hB := Below.step hB hb1; replace s0 := (hb1.block _ (Array.getElem?_eq_some_iff.1 s0).1).trans s0; replace s1 := (hb1.block _ (Array.getElem?_eq_some_iff.1 s1).1).trans s1; have c0 : w1.cell? ⟨w.heap.size, 0, none⟩ = some (.string f) := (by simp [World.cell?, s0]); have c1 : w1.cell? ⟨w.heap.size, 1, none⟩ = some (.string t) := (by simp [World.cell?, s0]); replace hz := Nat.le_trans hz hb1.size; clear hb1)
        | (go_at_call 17; refine (tnew_calls w1).mono ?_; rintro e w2 ⟨rfl, hb1, hT0⟩; replace hB := Below.step hB hb1; replace s0 := (hb1.block _ (Array.getElem?_eq_some_iff.1 s0).1).trans s0; replace s1 := (hb1.block _ (Array.getElem?_eq_some_iff.1 s1).1).trans s1; have hz1 := hb1.size; clear hb1 c0 c1))
      generalize w1.heap.size = bb at *
      have hmay7 : mayL 7 f t = true := by unfold mayL; rw [hft]; rfl
      have hmay8 : mayL 8 f t = true := by unfold mayL; rw [hft]; rfl
      clear hwr hbig hd
      go_loopw [6, 7] (fun av i wr => ∃ k : Nat, k ≤ 3 ∧ i = .int .i64 k ∧ av = .bool (aK b0 b1 b2 k) ∧ (∃ n, n ≤ k ∧ TabP bb wr (bb + 1) n (tK f t b0 b1 b2 k)) ∧ bb ≤ wr.heap.size ∧ Below w.heap.size w wr ∧ wr.heap[w.heap.size]? = some (.cells #[.string f, .string t] 24 (0, 0)) ∧ wr.heap[w.heap.size + 1]? = some (.cells #[.bool b0, .bool b1, .bool b2] 56 (0, 0))) (fun _ i _ => 3 - (intOf i).toNat)
      case atStart => exact ⟨0, Nat.zero_le _, rfl, rfl, ⟨0, Nat.le_refl _, hT0⟩, hz1, hB, s0, s1⟩
      case round =>
        clear s0 s1 hB hz1 hT0
        obtain ⟨k, hk, rfl, rfl, ⟨n, hn, hT⟩, hz1, hB, s0, s1⟩ := hrel
        by_cases hk3 : k < 3
        · have hbd : Below wr.heap.size wr wr.drew := ⟨rfl, rfl, rfl, Nat.le_refl _, fun _ _ => rfl⟩
          have hT' := hT.below hbd
          have hB' := Below.step hB hbd
          have e0 : wr.drew.heap[w.heap.size]? = some (.cells #[.string f, .string t] 24 (0, 0)) := s0
          have e1 : wr.drew.heap[w.heap.size + 1]? = some (.cells #[.bool b0, .bool b1, .bool b2] 56 (0, 0)) := s1
          have c0 : wr.drew.cell? ⟨w.heap.size, 0, none⟩ = some (.string f) := by simp [World.cell?, e0]
          have c1 : wr.drew.cell? ⟨w.heap.size, 1, none⟩ = some (.string t) := by simp [World.cell?, e0]
          have hcd : ∀ W : World, W.heap[w.heap.size + 1]? = some (.cells #[.bool b0, .bool b1, .bool b2] 56 (0, 0)) → W.cell? ⟨w.heap.size + 1, k, none⟩ = some (.bool (hK b0 b1 b2 k)) := fun W h => by
            match k, hk3 with
            | 0, _ => simp [World.cell?, h, hK]
            | 1, _ => simp [World.cell?, h, hK]
            | 2, _ => simp [World.cell?, h, hK]
          have d0 := hcd _ e1
          have hz2 : bb ≤ wr.drew.heap.size := hz1
          have hnx := tK_next f t b0 b1 b2 hk3
          have hax := aK_next b0 b1 b2 hk3
          have hln := tK_len f t b0 b1 b2 k
          have hfr := tK_free f t b0 b1 b2 k (hK b0 b1 b2 k)
          have HA := Lib.hid (show aK b0 b1 b2 (k + 1) = aK b0 b1 b2 (k + 1) ∧ tK f t b0 b1 b2 (k + 1) = tR f t (aK b0 b1 b2 (k + 1)) from ⟨rfl, if_neg (by omega)⟩)
          have HA2 : ∀ a, aK b0 b1 b2 (k + 1) = a → Value.bool a = Value.bool (aK b0 b1 b2 (k + 1)) ∧ tK f t b0 b1 b2 (k + 1) = tR f t a := fun a e => ⟨by rw [e], by rw [← e]; exact HA.out.2⟩
          have HA3 := Lib.hid (HA2 _ rfl)
          clear HA HA2
          clear hT hB s0 s1 hbd hz1
          generalize hK b0 b1 b2 k = hb at *
          generalize tK f t b0 b1 b2 k = T0 at *
          generalize aK b0 b1 b2 k = a0 at *
          obtain ⟨a1, ha1⟩ : ∃ a, aK b0 b1 b2 (k + 1) = a := ⟨_, rfl⟩
          have HA := Lib.hid (show Value.bool a1 = Value.bool (aK b0 b1 b2 (k + 1)) ∧ tK f t b0 b1 b2 (k + 1) = tR f t a1 from by rw [← ha1]; exact HA3.out)
          clear HA3
          rw [ha1] at hnx hax
          clear ha1
          go_wp2
          go_region_held3 (fun w' => w'.cell? ⟨w.heap.size, 0, none⟩ = some (.string f) ∧ w'.cell? ⟨w.heap.size, 1, none⟩ = some (.string t) ∧ w'.cell? ⟨w.heap.size + 1, k, none⟩ = some (.bool hb)) (go_keep) (first
            | (go_at_call 23
               refine (asks_got hT' hz2 hln (by decide) (by omega) 7 (by decide) f t hb (filt hln _) (by unfold sortN; omega) hmay7 hfr).mono ?_
               rintro e w3 ⟨rfl, ⟨n3, hn3, hT3⟩, hs⟩
               rw [hnx] at hT3
               have hz3 := Nat.le_trans hz2 hs.size
               replace hB' := hB'.trans ((hs.below hz2).mono (by omega))
               replace e0 := hs.low e0 (by omega); replace e1 := hs.low e1 (by omega)
               replace c0 : w3.cell? ⟨w.heap.size, 0, none⟩ = some (.string f) := (by simp [World.cell?, e0]); replace c1 : w3.cell? ⟨w.heap.size, 1, none⟩ = some (.string t) := (by simp [World.cell?, e0]); replace d0 := hcd _ e1
               clear hs hT' hfr hln hnx)
            | (go_at_call 14
               obtain ⟨M, D, hT⟩ := hT3
               refine (thas_calls hT 7 (by decide) (Nat.le_trans (tR_len f t a1 7) (by decide))).mono ?_
               rintro e w4 ⟨v', rfl, hh0, hb4⟩
               rw [show tR f t a1 7 = [⟨f, t, a1⟩] from put_at _ _ _] at hh0
               obtain ⟨A, c, rfl, _⟩ := hh0.slice
               have hT4 : TabP bb _ _ _ _ := ⟨M, D, hT.below hb4⟩
               replace hz3 := Nat.le_trans hz3 hb4.size; replace hB' := Below.step hB' hb4
               replace e0 := (hb4.block _ (Array.getElem?_eq_some_iff.1 e0).1).trans e0; replace e1 := (hb4.block _ (Array.getElem?_eq_some_iff.1 e1).1).trans e1
               replace c0 : w4.cell? ⟨w.heap.size, 0, none⟩ = some (.string f) := (by simp [World.cell?, e0]); replace c1 : w4.cell? ⟨w.heap.size, 1, none⟩ = some (.string t) := (by simp [World.cell?, e0]); replace d0 := hcd _ e1
               clear hb4 hh0 hT))
          have hW1 := fun b => way_one hft (k := 7) (who := 8) (by decide) false b
          have hW2 := fun b => way_one hft (k := 7) (who := 8) (by decide) true b
          have hW3 := fun b => WayIs.empty (fun o => way_own (f := f) (t := t) (k := 7) true b o)
          have HS := Lib.hid (And.intro hW1 (And.intro hW2 hW3))
          clear hW1 hW2 hW3
          cases a0 <;> cases hb
          all_goals
            simp only [Bool.or_false, Bool.or_true, Bool.false_or, Bool.true_or] at hax
            subst hax
            go_wp2_with (first
            | (go_at_call 12
               obtain ⟨M, D, hT⟩ := hT4
               refine (way_calls hT (c := 2) (tR_len f t _) (by decide) (by omega) 8 f t false (filt (tR_len f t _) _) (by unfold sortN; omega)).mono ?_
               rintro e w5 ⟨v', l, rfl, ho, hb4, hway⟩
               rw [hmay8] at hway
               simp only [if_true, hft, Bool.true_and, Bool.and_true, ne_eq] at hway
               have ewl := hway.uniq (HS.out.1 _)
               try simp only [Bool.or_false, Bool.or_true, Bool.false_or, Bool.true_or, if_true, if_false, Bool.false_eq_true] at ewl
               subst ewl
               obtain ⟨A, c, rfl, _⟩ := ho.slice
               have hT5 : TabP bb _ _ _ _ := ⟨M, D, hT.below hb4⟩
               replace hz3 := Nat.le_trans hz3 hb4.size; replace hB' := Below.step hB' hb4
               replace e0 := (hb4.block _ (Array.getElem?_eq_some_iff.1 e0).1).trans e0; replace e1 := (hb4.block _ (Array.getElem?_eq_some_iff.1 e1).1).trans e1
               replace c0 : w5.cell? ⟨w.heap.size, 0, none⟩ = some (.string f) := (by simp [World.cell?, e0]); replace c1 : w5.cell? ⟨w.heap.size, 1, none⟩ = some (.string t) := (by simp [World.cell?, e0]); replace d0 := hcd _ e1
               clear hb4 ho hT hway)
            | (go_at_call 12
               obtain ⟨M, D, hT⟩ := hT5
               refine (way_calls hT (c := 2) (tR_len f t _) (by decide) (by omega) 8 f t true (filt (tR_len f t _) _) (by unfold sortN; omega)).mono ?_
               rintro e w5 ⟨v', l, rfl, ho, hb4, hway⟩
               rw [hmay8] at hway
               simp only [if_true, hft, Bool.true_and, Bool.and_true, ne_eq] at hway
               have ewl := hway.uniq (HS.out.2.1 _)
               try simp only [Bool.or_false, Bool.or_true, Bool.false_or, Bool.true_or, if_true, if_false, Bool.false_eq_true] at ewl
               subst ewl
               obtain ⟨A, c, rfl, _⟩ := ho.slice
               have hT6 : TabP bb _ _ _ _ := ⟨M, D, hT.below hb4⟩
               replace hz3 := Nat.le_trans hz3 hb4.size; replace hB' := Below.step hB' hb4
               replace e0 := (hb4.block _ (Array.getElem?_eq_some_iff.1 e0).1).trans e0; replace e1 := (hb4.block _ (Array.getElem?_eq_some_iff.1 e1).1).trans e1
               replace c0 : w5.cell? ⟨w.heap.size, 0, none⟩ = some (.string f) := (by simp [World.cell?, e0]); replace c1 : w5.cell? ⟨w.heap.size, 1, none⟩ = some (.string t) := (by simp [World.cell?, e0]); replace d0 := hcd _ e1
               clear hb4 ho hT hway)
            | (go_at_call 12
               obtain ⟨M, D, hT⟩ := hT6
               refine (way_calls hT (c := 2) (tR_len f t _) (by decide) (by omega) 7 f t true (filt (tR_len f t _) _) (by unfold sortN; omega)).mono ?_
               rintro e w5 ⟨v', l, rfl, ho, hb4, hway⟩
               rw [hmay7] at hway
               simp only [if_true, hft, Bool.true_and, Bool.and_true, ne_eq] at hway
               have ewl := hway.uniq (HS.out.2.2 _)
               try simp only [Bool.or_false, Bool.or_true, Bool.false_or, Bool.true_or, if_true, if_false, Bool.false_eq_true] at ewl
               subst ewl
               obtain ⟨A, c, rfl, _⟩ := ho.slice
               have hT7 : TabP bb _ _ _ _ := ⟨M, D, hT.below hb4⟩
               replace hz3 := Nat.le_trans hz3 hb4.size; replace hB' := Below.step hB' hb4
               replace e0 := (hb4.block _ (Array.getElem?_eq_some_iff.1 e0).1).trans e0; replace e1 := (hb4.block _ (Array.getElem?_eq_some_iff.1 e1).1).trans e1
               replace c0 : w5.cell? ⟨w.heap.size, 0, none⟩ = some (.string f) := (by simp [World.cell?, e0]); replace c1 : w5.cell? ⟨w.heap.size, 1, none⟩ = some (.string t) := (by simp [World.cell?, e0]); replace d0 := hcd _ e1
               clear hb4 ho hT hway))
          all_goals
            rw [show ((k : Int) + 1) = ((k + 1 : Nat) : Int) by omega]
            exact ⟨⟨k + 1, by omega, rfl, HA.out.1, ⟨n3, by omega, by rw [HA.out.2]; exact hT7⟩, hz3, hB', e0, e1⟩, by simp [intOf]; omega⟩
        · have hk3' : k = 3 := by omega
          subst hk3'
          have hT3 : TabP bb wr (bb + 1) n (tR f t (aK b0 b1 b2 3)) := hT
          have c0 : wr.cell? ⟨w.heap.size, 0, none⟩ = some (.string f) := by simp [World.cell?, s0]
          have c1 : wr.cell? ⟨w.heap.size, 1, none⟩ = some (.string t) := by simp [World.cell?, s0]
          clear hT s1
          generalize aK b0 b1 b2 3 = a at *
          cases a
          · have hno : ∀ o, ¬ InWay (tR f t false) 8 f t false o := (way_one hft (k := 7) (who := 8) (by decide) false false).nil_iff.1 rfl
            go_wp2_with (first
              | (go_at_call 23
                 refine (asks_got hT3 hz1 (tR_len f t _) (by decide) (by omega) 8 (by decide) f t false (filt (tR_len f t _) _) (by unfold sortN; omega) hmay8 hno).mono ?_
                 rintro e w3 ⟨rfl, ⟨n4, hn4, hT4⟩, hs⟩
                 have hT4 : TabP bb w3 (bb + 1) n4 (putT (tR f t false) 8 [⟨f, t, false⟩]) := hT4
                 replace hB := hB.trans ((hs.below hz1).mono (by omega))
                 replace hz1 := Nat.le_trans hz1 hs.size
                 replace s0 := hs.low s0 (by omega)
                 replace c0 : w3.cell? ⟨w.heap.size, 0, none⟩ = some (.string f) := (by simp [World.cell?, s0]); replace c1 : w3.cell? ⟨w.heap.size, 1, none⟩ = some (.string t) := (by simp [World.cell?, s0])
                 have hal : Below w3.heap.size w3 (w3.alloc (.cells #[.int .u32 8] 22)) := (Below.refl _ w3).alloc (Nat.le_refl _) _
                 have ca0 := Below.cell_some hal c0
                 have ca1 := Below.cell_some hal c1
                 clear hs hT3 hno)
              | (go_at_call 23
                 refine (asks_way (hT4.below hal) (Nat.le_trans hz1 hal.size) (tR8_len f t _ _) (by decide) (by omega) 7 (by decide) f t true (filt (tR8_len f t _ _) _) (by unfold sortN; omega) hmay7 (RdT.lit (k := 1) (E := 22) encU_len [8] (by decide) w3 (by decide)) (way_eight hft false false) (by decide)).mono ?_
                 rintro e w4 ⟨rfl, ⟨n5, hn5, hT5⟩, hs⟩
                 replace hB := (Below.step hB hal).trans ((hs.below (Nat.le_trans hz1 hal.size)).mono (by omega))
                 have hs := (TStep.of_below (base := bb) hal).trans hs
                 replace hz1 := Nat.le_trans hz1 hs.size
                 replace s0 := hs.low s0 (by omega)
                 replace c0 : w4.cell? ⟨w.heap.size, 0, none⟩ = some (.string f) := (by simp [World.cell?, s0]); replace c1 : w4.cell? ⟨w.heap.size, 1, none⟩ = some (.string t) := (by simp [World.cell?, s0])
                 clear hs hT4 ca0 ca1 hal)
              | (go_at_call 13
                 obtain ⟨M, D, hT⟩ := hT5
                 refine (tfree_calls hT 8 (by decide)).mono ?_
                 rintro e w5 ⟨rfl, hT6, hs⟩
                 rw [put_back f t false 8 _ (by decide)] at hT6
                 rw [put_at]
                 replace hB := hB.trans ((hs.below hz1).mono (by omega))
                 replace hz1 := Nat.le_trans hz1 hs.size
                 replace s0 := hs.low s0 (by omega)
                 replace c0 : w5.cell? ⟨w.heap.size, 0, none⟩ = some (.string f) := (by simp [World.cell?, s0]); replace c1 : w5.cell? ⟨w.heap.size, 1, none⟩ = some (.string t) := (by simp [World.cell?, s0])
                 clear hs hT)
              | (go_at_call 23
                 refine (asks_got hT6 hz1 (tR_len f t _) (by decide) (by omega) 7 (by decide) f t true (filt (tR_len f t _) _) (by unfold sortN; omega) hmay7 (way_own true false)).mono ?_
                 rintro e w6 ⟨rfl, _, hs⟩
                 replace hB := hB.trans ((hs.below hz1).mono (by omega))
                 clear hs hT6))
            go_ret
            exact ⟨rfl, hB⟩
          · have hal : Below wr.heap.size wr (wr.alloc (.cells #[.int .u32 7] 22)) := (Below.refl _ wr).alloc (Nat.le_refl _) _
            have hw7 := way_one hft (k := 7) (who := 8) (by decide) false true
            simp only [Bool.or_true, if_true] at hw7
            go_wp2_with (first
              | (go_at_call 23
                 refine (asks_way (hT3.below hal) (Nat.le_trans hz1 hal.size) (tR_len f t _) (by decide) (by omega) 8 (by decide) f t false (filt (tR_len f t _) _) (by unfold sortN; omega) hmay8 (RdT.lit (k := 1) (E := 22) encU_len [7] (by decide) wr (by decide)) hw7 (by decide)).mono ?_
                 rintro e w4 ⟨rfl, ⟨n5, hn5, hT5⟩, hs⟩
                 replace hB := (Below.step hB hal).trans ((hs.below (Nat.le_trans hz1 hal.size)).mono (by omega))
                 have hs := (TStep.of_below (base := bb) hal).trans hs
                 replace hz1 := Nat.le_trans hz1 hs.size
                 replace s0 := hs.low s0 (by omega)
                 replace c0 : w4.cell? ⟨w.heap.size, 0, none⟩ = some (.string f) := (by simp [World.cell?, s0]); replace c1 : w4.cell? ⟨w.heap.size, 1, none⟩ = some (.string t) := (by simp [World.cell?, s0])
                 clear hs hT3 hal)
              | (go_at_call 13
                 obtain ⟨M, D, hT⟩ := hT5
                 refine (tfree_calls hT 7 (by decide)).mono ?_
                 rintro e w5 ⟨rfl, hT6, hs⟩
                 rw [tR_free f t true] at hT6
                 rw [show tR f t true 7 = [⟨f, t, true⟩] from put_at _ _ _]
                 replace hB := hB.trans ((hs.below hz1).mono (by omega))
                 replace hz1 := Nat.le_trans hz1 hs.size
                 replace s0 := hs.low s0 (by omega)
                 replace c0 : w5.cell? ⟨w.heap.size, 0, none⟩ = some (.string f) := (by simp [World.cell?, s0]); replace c1 : w5.cell? ⟨w.heap.size, 1, none⟩ = some (.string t) := (by simp [World.cell?, s0])
                 clear hs hT)
              | (go_at_call 23
                 refine (asks_got hT6 hz1 tA0_len (by decide) (by omega) 8 (by decide) f t false (filt tA0_len _) (by unfold sortN; omega) hmay8 (fun o => inWay_none)).mono ?_
                 rintro e w6 ⟨rfl, _, hs⟩
                 replace hB := hB.trans ((hs.below hz1).mono (by omega))
                 clear hs hT6))
            go_ret
            exact ⟨rfl, hB⟩
end Go.Proofs.Ytomhkflcimbbiaa
