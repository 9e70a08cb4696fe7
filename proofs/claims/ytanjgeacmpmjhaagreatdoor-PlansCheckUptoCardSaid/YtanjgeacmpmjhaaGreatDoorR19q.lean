import Derived.Test.YtanjgeacmpmjhaaGreatDoorR19p
set_option linter.unusedVariables false
set_option linter.unusedSimpArgs false
set_option linter.unusedSectionVars false
namespace Go.Proofs.YtanjgeacmpmjhaaGreatDoor
open Go.RowKit

attribute [local go_sem ↓] Go.wp_at_zero Go.wp_at_succ

theorem chkGo_len : ∀ (ps : List (Int × List Opn)) (last : Int), last ≤ 3 → chkGo last ps = true → (ps.length : Int) + last ≤ 3
  | [], last, h, _ => by simp; omega
  | (s, os) :: r, last, h, hc => by
    unfold chkGo at hc
    simp only [Bool.and_eq_true, Bool.not_eq_true', Bool.or_eq_false_iff, decide_eq_false_iff_not] at hc
    obtain ⟨⟨h1, h2, _⟩, h3⟩ := hc
    have := chkGo_len r s (by omega) h3
    rw [List.length_cons]
    omega
theorem chkOs_not (os : List Opn) : (decide (os.length < 1) || (decide (16 < os.length) || os.any oddO)) = !chkOs os := by
  unfold chkOs
  cases os.any oddO
  · by_cases h1 : os.length < 1
    · rw [decide_eq_true h1, decide_eq_false (show ¬ 1 ≤ os.length by omega)]; rfl
    · rw [decide_eq_false h1, decide_eq_true (show 1 ≤ os.length by omega)]
      by_cases h2 : 16 < os.length
      · rw [decide_eq_true h2, decide_eq_false (show ¬ os.length ≤ 16 by omega)]; rfl
      · rw [decide_eq_false h2, decide_eq_true (show os.length ≤ 16 by omega)]; rfl
  · simp

set_option maxRecDepth 100000 in
set_option maxHeartbeats 1600000 in
theorem rcheck19_calls (v : Value) (ps : List (Int × List Opn)) (w : World) (hv : RdP w v ps) (hs : ∀ p ∈ ps, ∀ x ∈ p.2, x.k.size ≤ 9223372036854775807 ∧ x.t.size ≤ 9223372036854775807) :
    Calls Tryz.prog 64 #[v] w fun e w' => e = .returned (.bool (chkP ps)) ∧ Below w.heap.size w w' := by
  obtain ⟨xs, hr, hlen, hrow⟩ := hv
  have HL := Lib.hid hlen
  clear hlen
  obtain ⟨A, c, rfl, hlc, hc⟩ := hr.shape
  go_enter Tryz.func64, Tryz.ntmps64
  go_wp2
  go_loopw [3] (fun i wr => ∃ (k : Nat) (last : Int), k ≤ xs.length ∧ i = .int .i64 k ∧ Below w.heap.size w wr ∧ chkGo 0 ps = chkGo last (ps.drop k) ∧ ((k = 0 ∧ last = 0) ∨ ∃ p, ps[k - 1]? = some p ∧ 0 < k ∧ last = p.1 ∧ 1 ≤ last)) (fun i _ => xs.length - (intOf i).toNat)
  case atStart => exact ⟨0, 0, Nat.zero_le _, rfl, Below.refl _ _, rfl, .inl ⟨rfl, rfl⟩⟩
  case round =>
    obtain ⟨k, last, hk, rfl, hb, hgo, hlast⟩ := hrel
    have HGO := Lib.hid hgo
    clear hgo
    by_cases hlt : k < xs.length
    · have hlt2 : k < ps.length := by rw [← HL.out]; exact hlt
      obtain ⟨b, o, hA, hx1, hx2⟩ := (hr.below hb).pav (List.getElem?_eq_getElem hlt)
      obtain ⟨hs1, hrd⟩ := hrow k _ _ (List.getElem?_eq_getElem hlt) (List.getElem?_eq_getElem hlt2)
      have hok := hs ps[k] (List.getElem_mem hlt2)
      have HD := Lib.hid (List.drop_eq_getElem_cons hlt2)
      have HPK : RowKit.Hid (ps[k + 1 - 1]? = some ps[k]) := Lib.hid (by rw [Nat.add_sub_cancel]; exact List.getElem?_eq_getElem hlt2)
      generalize ps[k] = p at *
      generalize xs[k] = x at *
      obtain ⟨s, os⟩ := p
      obtain ⟨xsx, xa, xn, xc⟩ := x
      dsimp only at hs1 hrd hok hx1 hx2
      subst hs1
      obtain ⟨A3, c3, e3, hlo, hco⟩ := hrd.shape
      injection e3 with e31 e32 e33
      subst e31 e32 e33
      have HNX := Lib.hid (show chkGo 0 ps = (!(decide (xsx ≤ last) || (decide (3 < xsx) || (decide (os.length < 1) || (decide (16 < os.length) || os.any oddO)))) && chkGo xsx (ps.drop (k + 1))) by rw [HGO.out, HD.out]; rfl)
      have hops := fun p : Later wr => rops19_calls _ os p.val ((hrd.below hb).below p.ok) hok
      have z1 := fun p : Later wr => Later.cell p hx1
      have z2 := fun p : Later wr => Later.cell p hx2
      rcases hlast with ⟨hk0, hl0⟩ | ⟨pp, hpp, hkp, hlp, hl1⟩
      · have hlz : last ≤ 0 := by omega
        have hlz2 : 0 ≤ last := by omega
        have h0 : ¬ (0 : Int) < (k : Int) := by omega
        have dh0 : decide ((0 : Int) < (k : Int)) = false := decide_eq_false h0
        have dh0n : decide (0 < k) = false := decide_eq_false (by omega)
        subst hA
        clear HGO HD hrow hs hok hrd hlt2 hx1 hx2 hk0 hl0
        by_cases h1 : xsx < 1
        · have dh1 : decide (xsx < 1) = true := decide_eq_true h1
          have HN := Lib.hid (show chkP ps = false by unfold chkP; rw [HNX.out, decide_eq_true (show xsx ≤ last by omega)]; rfl)
          clear HNX
          go_wp2
          refine wp_region_later (by kernel_rfl) (by kernel_rfl) ?_
          repeat (go_big_quiet_step ((go_at_call 157; with_reducible exact Calls.later (hops _))))
          refine wpQuiet_nil ?_
          rintro _ ⟨p, rfl⟩
          clear z1 z2 hops
          go_wp2
          go_ret
          exact ⟨by rw [HN.out]; rfl, Below.step hb p.ok⟩
        have dh1 : decide (xsx < 1) = false := decide_eq_false h1
        by_cases h3 : 3 < xsx
        · have dh3 : decide (3 < xsx) = true := decide_eq_true h3
          have HN := Lib.hid (show chkP ps = false by unfold chkP; rw [HNX.out, decide_eq_true h3]; simp)
          clear HNX
          go_wp2
          refine wp_region_later (by kernel_rfl) (by kernel_rfl) ?_
          repeat (go_big_quiet_step ((go_at_call 157; with_reducible exact Calls.later (hops _))))
          refine wpQuiet_nil ?_
          rintro _ ⟨p, rfl⟩
          clear z1 z2 hops
          go_wp2
          go_ret
          exact ⟨by rw [HN.out]; rfl, Below.step hb p.ok⟩
        have dh3 : decide (3 < xsx) = false := decide_eq_false h3
        have h2 : ¬ xsx ≤ last := by omega
        cases hch : chkOs os
        · rw [hch] at hops
          have HN := Lib.hid (show chkP ps = false by unfold chkP; rw [HNX.out, chkOs_not, hch]; simp)
          clear HNX
          go_wp2
          refine wp_region_later (by kernel_rfl) (by kernel_rfl) ?_
          repeat (go_big_quiet_step ((go_at_call 157; with_reducible exact Calls.later (hops _))))
          refine wpQuiet_nil ?_
          rintro _ ⟨p, rfl⟩
          clear z1 z2 hops
          go_wp2
          go_ret
          exact ⟨by rw [HN.out]; rfl, Below.step hb p.ok⟩
        · rw [hch] at hops
          have HN := Lib.hid (show chkGo 0 ps = chkGo xsx (ps.drop (k + 1)) by rw [HNX.out, chkOs_not, hch, decide_eq_false h2, decide_eq_false h3]; simp)
          clear HNX
          go_wp2
          refine wp_region_later (by kernel_rfl) (by kernel_rfl) ?_
          repeat (go_big_quiet_step ((go_at_call 157; with_reducible exact Calls.later (hops _))))
          refine wpQuiet_nil ?_
          rintro _ ⟨p, rfl⟩
          clear z1 z2 hops
          go_wp2
          go_roundw
          case rel => exact ⟨k + 1, xsx, by omega, by go_num, Below.step hb p.ok, HN.out, .inr ⟨_, HPK.out, by omega, rfl, by omega⟩⟩
          case measure => simp [intOf]; omega
      · have hsub : IntKind.i64.wrap ((k : Int) - 1) = ((k - 1 : Nat) : Int) := by rw [IntKind.wrap_i64]; omega
        have hj : k - 1 < xs.length := by omega
        obtain ⟨b2, o2, hA2, hy1, hy9⟩ := (hr.below hb).pav (List.getElem?_eq_getElem hj)
        have hjp : k - 1 < ps.length := by omega
        obtain ⟨hs2, hy8⟩ := hrow (k - 1) _ _ (List.getElem?_eq_getElem hj) (List.getElem?_eq_getElem hjp)
        rw [List.getElem?_eq_getElem hjp] at hpp
        have e2 : ps[k - 1] = pp := Option.some.inj hpp
        rw [hs2, e2, ← hlp] at hy1
        rw [hA] at hA2
        injection hA2 with hA2
        injection hA2 with e3 e4
        subst e3 e4
        subst hA
        have hj0 : (0 : Int) ≤ ((k - 1 : Nat) : Int) := by omega
        have hjl : ((k - 1 : Nat) : Int) < (xs.length : Int) := by omega
        clear hy8 hy9 HGO HD hrow hs hok hrd hlt2 hx1 hx2 hpp e2 hlp hs2 hj hjp
        generalize k - 1 = j at *
        have z0 := fun p : Later wr => Later.cell p hy1
        have h0 : (0 : Int) < (k : Int) := by omega
        have dh0 : decide ((0 : Int) < (k : Int)) = true := decide_eq_true h0
        have dh0n : decide (0 < k) = true := decide_eq_true (by omega)
        clear hy1
        by_cases h1 : xsx < 1
        · have dh1 : decide (xsx < 1) = true := decide_eq_true h1
          have HN := Lib.hid (show chkP ps = false by unfold chkP; rw [HNX.out, decide_eq_true (show xsx ≤ last by omega)]; rfl)
          clear HNX
          go_wp2
          refine wp_region_later (by kernel_rfl) (by kernel_rfl) ?_
          repeat (go_big_quiet_step ((go_at_call 157; with_reducible exact Calls.later (hops _))))
          refine wpQuiet_nil ?_
          rintro _ ⟨p, rfl⟩
          clear z1 z2 hops z0
          go_wp2
          go_ret
          exact ⟨by rw [HN.out]; rfl, Below.step hb p.ok⟩
        have dh1 : decide (xsx < 1) = false := decide_eq_false h1
        by_cases h3 : 3 < xsx
        · have dh3 : decide (3 < xsx) = true := decide_eq_true h3
          have HN := Lib.hid (show chkP ps = false by unfold chkP; rw [HNX.out, decide_eq_true h3]; simp)
          clear HNX
          go_wp2
          refine wp_region_later (by kernel_rfl) (by kernel_rfl) ?_
          repeat (go_big_quiet_step ((go_at_call 157; with_reducible exact Calls.later (hops _))))
          refine wpQuiet_nil ?_
          rintro _ ⟨p, rfl⟩
          clear z1 z2 hops z0
          go_wp2
          go_ret
          exact ⟨by rw [HN.out]; rfl, Below.step hb p.ok⟩
        have dh3 : decide (3 < xsx) = false := decide_eq_false h3
        by_cases h2 : xsx ≤ last
        · have dh2 : decide (xsx ≤ last) = true := decide_eq_true h2
          have HN := Lib.hid (show chkP ps = false by unfold chkP; rw [HNX.out, decide_eq_true h2]; rfl)
          clear HNX
          go_wp2
          refine wp_region_later (by kernel_rfl) (by kernel_rfl) ?_
          repeat (go_big_quiet_step ((go_at_call 157; with_reducible exact Calls.later (hops _))))
          refine wpQuiet_nil ?_
          rintro _ ⟨p, rfl⟩
          clear z1 z2 hops z0
          go_wp2
          go_ret
          exact ⟨by rw [HN.out]; rfl, Below.step hb p.ok⟩
        have dh2 : decide (xsx ≤ last) = false := decide_eq_false h2
        cases hch : chkOs os
        · rw [hch] at hops
          have HN := Lib.hid (show chkP ps = false by unfold chkP; rw [HNX.out, chkOs_not, hch]; simp)
          clear HNX
          go_wp2
          refine wp_region_later (by kernel_rfl) (by kernel_rfl) ?_
          repeat (go_big_quiet_step ((go_at_call 157; with_reducible exact Calls.later (hops _))))
          refine wpQuiet_nil ?_
          rintro _ ⟨p, rfl⟩
          clear z1 z2 hops z0
          go_wp2
          go_ret
          exact ⟨by rw [HN.out]; rfl, Below.step hb p.ok⟩
        · rw [hch] at hops
          have HN := Lib.hid (show chkGo 0 ps = chkGo xsx (ps.drop (k + 1)) by rw [HNX.out, chkOs_not, hch, decide_eq_false h2, decide_eq_false h3]; simp)
          clear HNX
          go_wp2
          refine wp_region_later (by kernel_rfl) (by kernel_rfl) ?_
          repeat (go_big_quiet_step ((go_at_call 157; with_reducible exact Calls.later (hops _))))
          refine wpQuiet_nil ?_
          rintro _ ⟨p, rfl⟩
          clear z1 z2 hops z0
          go_wp2
          go_roundw
          case rel => exact ⟨k + 1, xsx, by omega, by go_num, Below.step hb p.ok, HN.out, .inr ⟨_, HPK.out, by omega, rfl, by omega⟩⟩
          case measure => simp [intOf]; omega
    · have hkl : ps.length ≤ k := by rw [← HL.out]; omega
      have hkl2 : k = xs.length := by omega
      have hgt : chkGo 0 ps = true := by rw [HGO.out, List.drop_eq_nil_of_le hkl]; rfl
      have hl3 := chkGo_len ps 0 (by decide) hgt
      have HE := Lib.hid (show chkP ps = decide (0 < ps.length) by unfold chkP; rw [hgt]; rfl)
      have hll : ps.length = xs.length := HL.out.symm
      rw [hll] at HE hl3
      clear HGO hkl hgt hll hlast hrow hs
      by_cases h1 : 1 ≤ xs.length
      · have h1' : (1 : Int) ≤ (xs.length : Int) := by omega
        have h2' : (xs.length : Int) ≤ 3 := by omega
        go_wp2
        go_ret
        exact ⟨ret_bool (by rw [HE.out, decide_eq_true (show 0 < xs.length by omega)]), hb⟩
      · have h1' : ¬ (1 : Int) ≤ (xs.length : Int) := by omega
        go_wp2
        go_ret
        exact ⟨ret_bool (by rw [HE.out, decide_eq_false (show ¬ 0 < xs.length by omega)]), hb⟩

end Go.Proofs.YtanjgeacmpmjhaaGreatDoor
