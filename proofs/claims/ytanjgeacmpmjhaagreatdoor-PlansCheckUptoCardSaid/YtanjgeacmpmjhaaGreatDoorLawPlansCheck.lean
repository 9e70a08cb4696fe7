import Derived.Test.YtanjgeacmpmjhaaGreatDoorR19q
import Derived.Test.YtanjgeacmpmjhaaGreatDoorMgPlansCheckUpto34
import Derived.Test.YtanjgeacmpmjhaaGreatDoorPlLive
import Derived.Test.YtanjgeacmpmjhaaGreatDoorPlLawP
import Derived.Test.YtanjgeacmpmjhaaGreatDoorTwSpan
import Derived.Test.YtanjgeacmpmjhaaGreatDoorTwPart
import Derived.Test.YtanjgeacmpmjhaaGreatDoorMgPlansCheckUpto39
set_option linter.unusedVariables false
set_option linter.unusedSimpArgs false
set_option linter.unusedSectionVars false
namespace Go.Proofs.YtanjgeacmpmjhaaGreatDoor
open Go.RowKit

theorem tab10_low {w : World} (h : Tab10 w) : 0 < w.heap.size := by
  unfold Tab10 Lib.TabIs World.var? at h
  rw [show Tryz.prog.globalNamed "internal/strconv.uint64pow10" = some 0 by kernel_rfl] at h
  simp only [Option.bind_some] at h
  rcases Nat.lt_or_ge 0 w.heap.size with h' | h'
  · exact h'
  · rw [Array.getElem?_eq_none h'] at h; cases h
theorem sameSpans_eq (v u : Value) (xs : List Span) (w : World) (hv : Rd Span.enc 2 w v xs) (hu : Rd Span.enc 2 w u xs) :
    Calls Tryz.prog 58 #[v, u] w fun e w' => e = .returned (.bool true) ∧ Below w.heap.size w w' := by
  have := sameSpans_calls v u xs xs w hv hu
  rw [decide_eq_true rfl] at this
  exact this
theorem sumP_take : ∀ (ps : List (Int × List Opn)) (k : Nat) (p : Int × List Opn), ps[k]? = some p → sumP (ps.take (k + 1)) = sumP (ps.take k) + (1 + p.2.length)
  | [], k, p, h => by simp at h
  | q :: ps, 0, p, h => by
    simp only [List.getElem?_cons_zero, Option.some.injEq] at h
    subst h
    simp [sumP]
  | q :: ps, k + 1, p, h => by
    have := sumP_take ps k p (by simpa using h)
    simp only [List.take_succ_cons, sumP]
    omega
theorem sumP_le : ∀ (ps : List (Int × List Opn)) (k : Nat), sumP (ps.take k) ≤ sumP ps
  | [], k => by simp
  | q :: ps, 0 => by simp [sumP]
  | q :: ps, k + 1 => by
    have := sumP_le ps k
    simp only [List.take_succ_cons, sumP]
    omega
theorem sumP_len : ∀ ps : List (Int × List Opn), ps.length ≤ sumP ps
  | [] => Nat.le_refl _
  | q :: ps => by
    have := sumP_len ps
    simp only [List.length_cons, sumP]
    omega
theorem sumP_each : ∀ (ps : List (Int × List Opn)), ∀ p ∈ ps, p.2.length ≤ sumP ps
  | [], p, h => by cases h
  | q :: ps, p, h => by
    simp only [sumP]
    rcases List.mem_cons.1 h with rfl | h
    · omega
    · have := sumP_each ps p h
      omega
theorem rdP_below {w w' : World} {v : Value} {ps : List (Int × List Opn)} (h : RdP w v ps) (hb : Below w.heap.size w w') : RdP w' v ps := by
  obtain ⟨xs, h1, h2, h3⟩ := h
  exact ⟨xs, h1.below hb, h2, fun i x p hx hp => ⟨(h3 i x p hx hp).1, (h3 i x p hx hp).2.below hb⟩⟩
theorem PartI.opn {base : Nat} {w : World} {s : PaV} {p : Int × List Opn} (h : PartI base w s p) : Own Opn.enc 4 172 base w (.slice s.A s.n s.c) p.2 := by
  have := h.2.2.shorter opn_len
  rw [h.2.1]
  exact this
theorem PartsI.lower {base base' : Nat} {w : World} {ss : List PaV} {ps : List (Int × List Opn)} (h : PartsI base w ss ps) (hb : base' ≤ base) : PartsI base' w ss ps := ⟨h.1, fun i s p h1 h2 => (h.2.1 i s p h1 h2).lower hb, h.2.2⟩
theorem PartsI.list {base : Nat} {w : World} {ss : List PaV} {ps : List (Int × List Opn)} (h : PartsI base w ss ps) {A : Option Addr} {n c : Nat} (ho : Own PaV.enc 2 105 base w (.slice A n c) (ss ++ [sparePa])) : Own PaV.enc 2 105 base w (.slice A ps.length c) ss := by
  rw [← h.1]
  exact ho.shorter pav_len
theorem PartsI.rdp {base : Nat} {w : World} {ss : List PaV} {ps : List (Int × List Opn)} (h : PartsI base w ss ps) {A : Option Addr} {n c : Nat} (ho : Own PaV.enc 2 105 base w (.slice A n c) (ss ++ [sparePa])) : RdP w (.slice A ps.length c) ps :=
  ⟨ss, (h.list ho).rd pav_len, h.1, fun i s p h1 h2 => ⟨(h.2.1 i s p h1 h2).1, (h.2.1 i s p h1 h2).opn.rd opn_len⟩⟩
theorem PartsI.turnT {base : Nat} {w w' : World} {ss : List PaV} {ps : List (Int × List Opn)} {ts : List TypeId} (h : PartsI base w ss ps) (t : TurnT base w w' ts) (hT : 172 ∉ ts) : PartsI base w' ss ps :=
  h.turn t.choose_spec.1 fun g cur e => t.spare e hT
theorem allS_len (n : Nat) (xs : List Opn) : (allS n xs).length ≤ 2 + xs.length := by
  unfold allS spsO
  have := List.length_filter_le okO xs
  simp only [List.length_append, List.length_map, List.length_cons, List.length_nil]
  omega

set_option maxHeartbeats 4000000 in
set_option maxRecDepth 100000 in
theorem plansCheck_walk (v : Value) (g : Int) (ps : List (Int × List Opn)) (W : World) (hv : RdP W v ps) (hs : ∀ p ∈ ps, ∀ y ∈ p.2, y.ok) (hg : (Lit.int .u32 g).wf = true) (hk : sumP ps ≤ 1048576) (hT : Tab10 W) :
    Calls Tryz.prog 6 #[v, .int .u32 g] W fun e w' => e = .returned (.bool true) ∧ Below W.heap.size W w' := by
  obtain ⟨m, rfl, hm⟩ := nat_of_u32 hg
  have hko : ∀ p ∈ ps, ∀ x ∈ p.2, x.k.size ≤ 9223372036854775807 ∧ x.t.size ≤ 9223372036854775807 := fun p hp x hx => by
    obtain ⟨_, h1, h2, _⟩ := hs p hp x hx
    unfold small at h1 h2
    omega
  obtain ⟨xs, hr, hlen, hrow⟩ := id hv
  obtain ⟨A, c, e, hlc, hc⟩ := hr.shape
  rw [hlen] at e hlc
  subst e
  have HL := Lib.hid hlen
  have HT := Lib.hid hT
  have hrs := tab10_low hT
  have hsl := sumP_len ps
  have HSE := Lib.hid (sumP_each ps)
  clear hlen hs hg hT
  go_enter Tryz.func6, Tryz.ntmps6
  go_wp2
  go_loopw [5, 6] (fun nv iv wr => ∃ k : Nat, k ≤ ps.length ∧ iv = .int .i64 k ∧ nv = .int .i64 (sumP (ps.take k) : Nat) ∧ Below W.heap.size W wr) (fun _ iv _ => ps.length - (intOf iv).toNat)
  case atStart => exact ⟨0, Nat.zero_le _, rfl, rfl, Below.refl _ _⟩
  case round =>
    obtain ⟨k, hkl, rfl, rfl, hb⟩ := hrel
    by_cases hlt : k < ps.length
    · have hlx : k < xs.length := by have := HL.out; omega
      obtain ⟨b, o, rfl, hx1, hx2⟩ := (hr.below hb).pav (List.getElem?_eq_getElem hlx)
      have hxr := (hrow k _ _ (List.getElem?_eq_getElem hlx) (List.getElem?_eq_getElem hlt)).2
      have hst := sumP_take ps k _ (List.getElem?_eq_getElem hlt)
      have hle := sumP_le ps (k + 1)
      generalize xs[k] = x at *
      generalize ps[k] = p at *
      obtain ⟨xq, xA, xn, xc⟩ := x
      dsimp only at hx1 hx2 hxr
      obtain ⟨_, _, e, _, _⟩ := hxr.shape
      injection e with _ e _
      subst e
      rw [hst] at hle
      have HST := Lib.hid hst
      clear hst hxr
      generalize sumP (ps.take k) = a at *
      generalize p.2.length = d at *
      go_wp2
      go_roundw
      case rel => exact ⟨k + 1, by omega, by go_num, by rw [HST.out]; exact congrArg _ (by omega), hb⟩
      case measure => simp [intOf]; omega
    · have hkl2 : k = ps.length := by omega
      subst hkl2
      rw [List.take_length]
      clear hlt hkl
      by_cases h500 : 500 < sumP ps
      · have h1 : (500 : Int) < ((sumP ps : Nat) : Int) := by omega
        go_wp2_with (go_at_call 61; refine (plives_calls _ (HT.out.stays hb)).mono ?_; rintro e w9 ⟨rfl, hb9⟩)
        go_ret
        exact ⟨rfl, Below.step hb hb9⟩
      · have h1 : ¬ (500 : Int) < ((sumP ps : Nat) : Int) := by omega
        have hpl : ps.length ≤ 500 := by omega
        have HSE2 : RowKit.Hid (∀ p ∈ ps, p.2.length ≤ 500) := Lib.hid fun p hp => by have := HSE.out p hp; omega
        clear HSE
        generalize sumP ps = sp at *
        have hnb : (chkP ps != chkP ps) = false := by simp
        generalize hcp : chkP ps = cp at *
        have HCP := Lib.hid hcp
        clear hcp
        go_upto_region 11 with (first
          | (go_at_call 62; refine (twinParts_calls _ ps _ (rdP_below hv hb) (by omega) (fun p hp => by have := HSE2.out p hp; omega)).mono ?_; rintro e w1 ⟨Ax, cx, ss, rfl, o1, p1, h1⟩; have b1 := Below.step hb h1; replace o1 := o1.lower hb.size; replace p1 := p1.lower hb.size)
          | (go_at_call 63; refine (plCheck_calls _ ps _ (p1.rdp o1) hko).mono ?_; rintro e w2 ⟨rfl, h2⟩; rw [HCP.out]; have o2 := o1.below h2; have p2 := p1.below h2; have b2 := Below.step b1 h2; clear o1 p1)
          | (go_at_call 64; refine (rcheck19_calls _ ps _ (rdP_below hv b2) hko).mono ?_; rintro e w3 ⟨rfl, h3⟩; rw [HCP.out]; have o3 := o2.below h3; have p3 := p2.below h3; have b3 := Below.step b2 h3; clear o2 p2))
        have bK : Below w3.heap.size w3 (w3.alloc (.cells #[.int .i64 0, nilV, nilV, nilV, nilV, nilV, nilV, nilV, nilV, nilV, nilV, nilV, nilV] bookT)) := (Below.refl _ w3).alloc (Nat.le_refl _) _
        have k4 := BookOSP.start W.heap.size w3 b3.size
        have o4 := o3.below bK
        have p4 := p3.below bK
        have b4 := Below.step b3 bK
        clear o3 p3 b3 bK h1 h2 h3 hb hnb
        go_upto_region 12 with fail
        generalize w3.alloc (.cells #[.int .i64 0, nilV, nilV, nilV, nilV, nilV, nilV, nilV, nilV, nilV, nilV, nilV, nilV] bookT) = w4 at *
        generalize w3.heap.size = K at *
        go_wp2
        go_loopw [9] (fun iv wr => ∃ (i : Nat) (vSp : Value) (hsSp : List Hd), i ≤ ps.length ∧ iv = .int .i64 i ∧ hsSp.length = i ∧ BookOSP W.heap.size wr K i nilV [] vSp hsSp nilV [] ∧
          Own PaV.enc 2 105 W.heap.size wr (.slice Ax (ps.length + 1) cx) (ss ++ [sparePa]) ∧ PartsI W.heap.size wr ss ps ∧ Below W.heap.size W wr) (fun iv _ => ps.length - (intOf iv).toNat)
        case atStart => exact ⟨0, _, _, Nat.zero_le _, rfl, rfl, k4, o4, p4, b4⟩
        case round =>
          clear k4 o4 p4 b4
          obtain ⟨i, vSp, hsSp, hi, rfl, hlS, kB, oB, pB, bB⟩ := hrel
          by_cases hlt : i < ps.length
          · have hlx : i < xs.length := by have := HL.out; omega
            have hls : i < ss.length := by rw [pB.1]; exact hlt
            obtain ⟨b, o, rfl, hx1, hx2⟩ := (hr.below bB).pav (List.getElem?_eq_getElem hlx)
            have hxr := (hrow i _ _ (List.getElem?_eq_getElem hlx) (List.getElem?_eq_getElem hlt)).2
            obtain ⟨b', o', e', hy1, hy2⟩ := ((pB.list oB).rd pav_len).pav (List.getElem?_eq_getElem hls)
            have hyr := (pB.2.1 i _ _ (List.getElem?_eq_getElem hls) (List.getElem?_eq_getElem hlt)).opn.rd opn_len
            have hpo := HSE2.out _ (List.getElem_mem hlt)
            have hpk := hko _ (List.getElem_mem hlt)
            have hjl : (joinF (allS m ps[i].2)).length ≤ 1000000 := by
              have h1 := (joinF_spec (allS m ps[i].2)).2.2.2
              have h2 := allS_len m ps[i].2
              omega
            have hps := fun (w1 : World) (hb1 : Below wr.heap.size wr w1) => rspans19_calls m hm _ ps[i].2 w1 ((hxr.below bB).below hb1) (by omega) hpk
            have hpp := plSpans_calls m hm _ ps[i].2 wr (HT.out.stays bB) hyr (by omega) hpk
            subst e'
            clear hxr hyr
            generalize joinF (allS m ps[i].2) = J at *
            generalize xs[i] = x at *
            generalize ss[i] = s at *
            generalize ps[i] = p at *
            obtain ⟨xq, xA, xn, xc⟩ := x
            obtain ⟨sq, sA, sn, sc⟩ := s
            dsimp only at hx1 hx2 hy1 hy2 hps hpp
            go_wp2_with (first
              | (go_at_call 65; refine hpp.mono ?_; rintro e w1 ⟨va, rfl, oa1, h1⟩; have hx3 := Below.cell_some h1 hx2; obtain ⟨Aa, ca, rfl, _, _⟩ := oa1.slice; clear hpp hx1 hx2 hy1 hy2)
              | (go_at_call 66; refine (hps _ h1).mono ?_; rintro e w2 ⟨vb, rfl, ob2, h2⟩; have oa2 := oa1.below h2; clear hps hx3)
              | (go_at_call 58; refine (sameSpans_eq _ _ J _ (oa2.rd span_len) (ob2.rd span_len)).mono ?_; rintro e w3 ⟨rfl, h3⟩; have oa3 := oa2.below h3; have h123 := Below.step (Below.step h1 h2) h3; have k3 := kB.below h123; have o3 := oB.below h123; have p3 := pB.below h123; have b3 := Below.step bB h123)
              | (go_at_call 60; refine (k3.tellSpan (by omega) (by omega) b3.size (oa3.lower bB.size) hjl (fun g hg hb => by have := (Array.getElem?_eq_some_iff.1 (kB.pSpan.fil.typed hb).2.choose_spec).1; have := oa3.base_le g hg; omega)).mono ?_; rintro e w4 ⟨rfl, ⟨v4, k4⟩, t4⟩; have o4 := t4.own o3 (by decide); have p4 := p3.turnT t4 (by decide); have b4 := b3.trans (t4.below b3.size)))
            go_roundw
            case rel => exact ⟨i + 1, _, _, by omega, by go_num, by simp [hlS], k4, o4, p4, b4⟩
            case measure => simp [intOf]; omega
          · have hil : i = ps.length := by omega
            subst hil
            clear hi hlt
            have hss := pB.1
            go_upto_region 21 with (go_at_call 67; refine (leftParts_calls _ _ _ _ ss ps _ (oB.rd pav_len) pB (rdP_below hv bB)).mono ?_; rintro e w5 ⟨rfl, h5⟩; have k5 := kB.below h5; have o5 := oB.below h5; have p5 := pB.below h5; have b5 := Below.step bB h5; clear kB oB pB bB)
            have htell := k5.tellPart (ss := ss) (rs := ps.map (·.2)) (A := Ax) (c := cx) (.of (by rw [hss]; exact p5.list o5)) (by rw [List.length_map, hss])
              (fun i s r h1 h2 => by
                rw [List.getElem?_map] at h2
                obtain ⟨p, hp, rfl⟩ := Option.map_eq_some_iff.1 h2
                exact (p5.2.1 i s p h1 hp).opn)
              (fun r hr => by
                obtain ⟨p, hp, rfl⟩ := List.mem_map.1 hr
                have := HSE2.out p hp
                omega)
              p5.2.2 (fun _ _ g _ hb => by obtain ⟨y, hy, _⟩ := hb; cases hy) (fun g _ hb => by obtain ⟨y, hy, _⟩ := hb; cases hy) (by simp; omega) (by simp) (by omega) b5.size
            rw [hss] at htell
            go_wp2_with (first
              | (go_at_call 68; refine htell.mono ?_; rintro e w6 ⟨rfl, ⟨n6, vO6, hsO6, vP6, hn6, hl6, hb6, k6⟩, t6⟩; have b6 := b5.trans (t6.below b5.size); clear htell t6)
              | (go_at_call 30; refine (k6.apart (HT.out.stays b6) ⟨hrs, b6.size⟩).mono ?_; rintro e w7 ⟨rfl, h7⟩; have b7 := b6.trans h7)
              | (go_at_call 61; refine (plives_calls _ (HT.out.stays b7)).mono ?_; rintro e w8 ⟨rfl, h8⟩))
            go_ret
            exact ⟨rfl, Below.step b7 h8⟩

end Go.Proofs.YtanjgeacmpmjhaaGreatDoor
