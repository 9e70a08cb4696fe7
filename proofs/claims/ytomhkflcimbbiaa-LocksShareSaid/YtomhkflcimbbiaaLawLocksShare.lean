import Derived.Test.YtomhkflcimbbiaaLAlive
import Derived.Test.YtomhkflcimbbiaaLShareP
import Derived.Test.YtomhkflcimbbiaaLIn
import Derived.Test.YtomhkflcimbbiaaJoinC
import Derived.Test.YtomhkflcimbbiaaArr
import Derived.Test.YtomhkflcimbbiaaLawLocksNone
set_option linter.unusedVariables false
set_option linter.unusedSimpArgs false
set_option linter.unusedSectionVars false
namespace Go.Proofs.Ytomhkflcimbbiaa
open Go.RowKit Go.Shelf

def psF (ws : List Int) (xs : List Span) : List (Int × Span) := (ws.zip xs).map fun p => (1 + p.1 % 5, p.2)
theorem psF_length {ws : List Int} {xs : List Span} (h : ws.length = xs.length) : (psF ws xs).length = xs.length := by
  unfold psF
  simp [h]
theorem psF_at {ws : List Int} {xs : List Span} {k : Nat} {a : Int} {s : Span} (ha : ws[k]? = some a) (hs : xs[k]? = some s) : (psF ws xs)[k]? = some (1 + a % 5, s) := by
  unfold psF
  rw [List.getElem?_map, List.getElem?_zip_eq_some (z := (a, s)) |>.2 ⟨ha, hs⟩]; rfl
theorem psF_take {ws : List Int} {xs : List Span} {k : Nat} {a : Int} {s : Span} (ha : ws[k]? = some a) (hs : xs[k]? = some s) : (psF ws xs).take (k + 1) = (psF ws xs).take k ++ [(1 + a % 5, s)] := by
  rw [List.take_add_one, psF_at ha hs]; rfl
theorem psF_keys {ws : List Int} {xs : List Span} : ∀ p ∈ psF ws xs, 1 ≤ p.1 ∧ p.1 ≤ 5 := fun p hp => by
  unfold psF at hp
  obtain ⟨q, _, rfl⟩ := List.mem_map.1 hp
  simp only
  omega
theorem byte_wf {a : Int} (h : (Lit.int .u8 a).wf = true) : 0 ≤ a ∧ a ≤ 255 := by
  simp [Lit.wf, IntKind.min, IntKind.max, IntKind.signed, IntKind.bits] at h
  omega
theorem okU_small {a : Int} (h0 : 0 ≤ a) (h1 : a ≤ 4000000000) : okU a := by
  unfold okU
  simp [Lit.wf, IntKind.min, IntKind.max, IntKind.signed, IntKind.bits]
  omega

set_option maxHeartbeats 1000000 in
set_option maxRecDepth 100000 in
theorem locksShare_walk (v0 v1 : Value) (ws : List Int) (xs : List Span) (w : World) (rd0 : Rd encB 1 w v0 ws) (ok0 : ∀ a ∈ ws, (Lit.int .u8 a).wf = true) (rd1 : Rd Span.enc 2 w v1 xs) (len1 : xs.length * 32 ≤ 140737488351232) (ok1 : ∀ x ∈ xs, x.ok) :
    Calls Try.prog 10 #[v0, v1] w fun e w' => e = .returned (.bool true) ∧ Below w.heap.size w w' := by
  obtain ⟨A0, p0, rfl, hl0, hc0⟩ := rd0.shape
  obtain ⟨A1, p1, rfl, hl1, hc1⟩ := rd1.shape
  have hsize := fun W (h : Rd Span.enc 2 W (.slice A1 xs.length p1) xs) => sizeSpans_calls _ xs W h (by omega) ok1
  by_cases hbad : 60 < ws.length ∨ ws.length ≠ xs.length ∨ 5000 < sizeSpans xs
  · have hq : 60 < ws.length ∨ (ws.length ≤ 60 ∧ ws.length ≠ xs.length) ∨ (ws.length ≤ 60 ∧ ws.length = xs.length ∧ 5000 < sizeSpans xs) := by omega
    clear hbad
    rcases hq with h1 | ⟨h1, h2⟩ | ⟨h1, h2, h3⟩
    · go_enter Try.func10, Try.ntmps10
      have hB := Below.refl w.heap.size w
      have hd : decide (60 < (ws.length : Int)) = true := decide_eq_true (by omega)
      go_wp2_with (go_at_call 15; refine (aliveL_calls _).mono ?_; rintro e w1 ⟨rfl, hb1⟩; replace hB := Below.step hB hb1; clear hb1)
      go_ret
      exact ⟨rfl, hB⟩
    · go_enter Try.func10, Try.ntmps10
      have hB := Below.refl w.heap.size w
      have hd : decide (60 < (ws.length : Int)) = false := decide_eq_false (by omega)
      have hn : ((ws.length : Int) != xs.length) = true := by simp; omega
      go_wp2_with (go_at_call 15; refine (aliveL_calls _).mono ?_; rintro e w1 ⟨rfl, hb1⟩; replace hB := Below.step hB hb1; clear hb1)
      go_ret
      exact ⟨rfl, hB⟩
    · have hd : decide (60 < (ws.length : Int)) = false := decide_eq_false (by omega)
      have hn : ((ws.length : Int) != xs.length) = false := by simp; omega
      have hd3 : decide (5000 < sizeSpans xs) = true := decide_eq_true h3
      generalize sizeSpans xs = sz at *
      go_enter Try.func10, Try.ntmps10
      have hB := Below.refl w.heap.size w
      go_wp2_with (first
        | (go_at_call 15; refine (aliveL_calls _).mono ?_; rintro e w1 ⟨rfl, hb1⟩; replace hB := Below.step hB hb1; clear hb1)
        | (go_at_call 25; refine (hsize _ (rd1.below hB)).mono ?_; rintro e w1 ⟨rfl, hb1⟩; replace hB := Below.step hB hb1; clear hb1))
      go_ret
      exact ⟨rfl, hB⟩
  · obtain ⟨h1, h2, h3⟩ : ws.length ≤ 60 ∧ ws.length = xs.length ∧ sizeSpans xs ≤ 5000 := by omega
    have hd : decide (60 < (ws.length : Int)) = false := decide_eq_false (by omega)
    have hn : ((ws.length : Int) != xs.length) = false := by simp; omega
    have hd3 : decide (5000 < sizeSpans xs) = false := decide_eq_false (by omega)
    clear hbad
    generalize sizeSpans xs = sz at *
    go_enter Try.func10, Try.ntmps10
    have hB := Below.refl w.heap.size w
    have H2 := Lib.hid h2
    clear h2
    go_wp2_with (first
      | (go_at_call 15; refine (aliveL_calls _).mono ?_; rintro e w1 ⟨rfl, hb1⟩; replace hB := Below.step hB hb1; clear hb1)
      | (go_at_call 25; refine (hsize _ (rd1.below hB)).mono ?_; rintro e w1 ⟨rfl, hb1⟩; replace hB := Below.step hB hb1; clear hb1)
      | (go_at_call 17; refine (tnew_calls w1).mono ?_; rintro e w2 ⟨rfl, hb1, hT0⟩; have hwb := hB.size; replace hB := Below.step hB hb1; have hz1 := hb1.size; clear hb1))
    generalize w1.heap.size = bb at *
    clear hd hn hd3 h3 hsize
    go_loopw [6] (fun i wr => ∃ k : Nat, k ≤ xs.length ∧ i = .int .i64 k ∧ (∃ n, n ≤ k ∧ TabP bb wr (bb + 1) n (tS ((psF ws xs).take k))) ∧ bb ≤ wr.heap.size ∧ Below w.heap.size w wr) (fun i _ => xs.length - (intOf i).toNat)
    case atStart => exact ⟨0, Nat.zero_le _, rfl, ⟨0, Nat.le_refl _, hT0⟩, hz1, hB⟩
    case round =>
      clear hB hz1 hT0
      obtain ⟨k, hk, rfl, ⟨n, hn, hT⟩, hz1, hB⟩ := hrel
      by_cases hlt : k < xs.length
      · have hlt0 : k < ws.length := by have := H2.out; omega
        have hka := List.getElem?_eq_getElem hlt0
        have hkx := List.getElem?_eq_getElem hlt
        have htk := psF_take hka hkx
        obtain ⟨ba, oa, rfl, ha1⟩ := (rd0.below hB).byte hka
        obtain ⟨bx, ox, rfl, hx1, hx2⟩ := (rd1.below hB).span hkx
        have hab := byte_wf (ok0 _ (List.getElem_mem hlt0))
        have HR0 := Lib.hid rd0
        have HR1 := Lib.hid rd1
        clear ok0 ok1 rd0 rd1
        generalize ws[k] = a at *
        generalize xs[k] = x at *
        obtain ⟨f, t⟩ := x
        simp only at hx1 hx2
        have hlen : ((psF ws xs).take k).length ≤ 60 := by rw [List.length_take]; omega
        have hnx := fun h => tS_got ((psF ws xs).take k) (1 + a % 5) ⟨f, t⟩ h
        have hnn := fun h => tS_not ((psF ws xs).take k) (1 + a % 5) ⟨f, t⟩ h
        have htl := fun o => Nat.le_trans (tS_len ((psF ws xs).take k) o) hlen
        have hnh := tS_nohit ((psF ws xs).take k) f t
        rw [← htk] at hnx hnn
        have HK := Lib.hid (And.intro hka hkx)
        clear hka hkx htk hlen
        generalize tS ((psF ws xs).take k) = T0 at *
        obtain ⟨T1, hT1⟩ : ∃ T1, tS ((psF ws xs).take (k + 1)) = T1 := ⟨_, rfl⟩
        rw [hT1] at hnx hnn
        have HT1 := Lib.hid hT1
        clear hT1
        have hkk : (1 + a.tmod 5) % 4294967296 = 1 + a % 5 := by
          rw [Int.tmod_eq_emod_of_nonneg hab.1]
          omega
        have hkk1 : 1 + a.tmod 5 % 4294967296 = 1 + a % 5 := by
          rw [Int.tmod_eq_emod_of_nonneg hab.1]
          omega
        have HKK := Lib.hid (And.intro hkk hkk1)
        clear hkk hkk1
        obtain ⟨M, D, hT⟩ := hT
        have hc : Calls Try.prog 11 #[.pointer (some ⟨bb + 1, 0, none⟩), .int .u32 (1 + a % 5), .agg #[.string f, .string t], .bool false] wr fun e w' => AskPost bb wr (bb + 1) n T0 (1 + a % 5) f t false e w' :=
          ask_calls hT hz1 htl (by decide) (by omega) (1 + a % 5) (okU_small (by omega) (by omega)) f t false hnh (by omega)
        have hnw := Lib.hid (nohit_way (who := 1 + a % 5) hnh)
        have hmz : ∀ b, mayL (1 + a % 5) f t = b → sle f t = b := fun b h => by
          unfold mayL at h
          rw [decide_eq_true (by omega : 1 + a % 5 ≠ 0), Bool.true_and] at h
          exact h
        have HN := Lib.hid (And.intro hnx (And.intro hnn hmz))
        have HA := Lib.hid hab
        clear hnx hnn hmz hnh htl hT hab
        go_wp2_with (go_at_call 11; (first | rw [HKK.out.1] | rw [HKK.out.2]); refine hc.mono ?_; rintro e w3 (⟨hz, rfl, hT3, hs⟩ | ⟨hz, v', l, rfl, hne, _, hway, _⟩ | ⟨hz, _, rfl, ⟨n', hn', hT3⟩, hs⟩))
        · -- a span that is none
          have hft := HN.out.2.2 _ hz
          replace hB := hB.trans ((hs.below hz1).mono (by omega))
          replace hz1 := Nat.le_trans hz1 hs.size
          obtain ⟨b', o', e', y1, y2⟩ := (HR1.out.below hB).span HK.out.2
          simp only [Option.some.injEq, Addr.mk.injEq] at e'
          obtain ⟨rfl, rfl, _⟩ := e'
          replace y1 := fun p : Later w3 => Later.cell p y1; replace y2 := fun p : Later w3 => Later.cell p y2
          clear hs hx1 hx2 ha1 hz hc
          refine wp_region_later (by kernel_rfl) (by kernel_rfl) ?_
          repeat (go_big_quiet_step ((fail)))
          refine wpQuiet_nil ?_
          rintro _ ⟨p, rfl⟩
          clear y1 y2
          go_wp2
          go_roundw
          case rel => exact ⟨k + 1, by omega, by go_num, ⟨n, by omega, by rw [HT1.out, HN.out.2.1 hft]; exact hT3.below p.ok⟩, Nat.le_trans hz1 p.ok.size, Below.step hB p.ok⟩
          case measure => simp [intOf]; omega
        · exact absurd (hway.nil_iff.2 hnw.out) hne
        · -- one gets it
          have hft := HN.out.2.2 _ hz
          replace hB := hB.trans ((hs.below hz1).mono (by omega))
          replace hz1 := Nat.le_trans hz1 hs.size
          obtain ⟨b', o', e', y1, y2⟩ := (HR1.out.below hB).span HK.out.2
          simp only [Option.some.injEq, Addr.mk.injEq] at e'
          obtain ⟨rfl, rfl, _⟩ := e'
          replace y1 := fun p : Later w3 => Later.cell p y1; replace y2 := fun p : Later w3 => Later.cell p y2
          clear hs hx1 hx2 ha1 hz hc
          refine wp_region_later (by kernel_rfl) (by kernel_rfl) ?_
          repeat (go_big_quiet_step ((fail)))
          refine wpQuiet_nil ?_
          rintro _ ⟨p, rfl⟩
          clear y1 y2
          go_wp2
          go_roundw
          case rel => exact ⟨k + 1, by omega, by go_num, ⟨n', by omega, by rw [HT1.out, ← HN.out.1 hft]; exact hT3.below p.ok⟩, Nat.le_trans hz1 p.ok.size, Below.step hB p.ok⟩
          case measure => simp [intOf]; omega
      · have hkn : k = xs.length := by omega
        subst hkn
        rw [List.take_of_length_le (by rw [psF_length H2.out]; omega)] at hT
        have hpl : (psF ws xs).length ≤ 60 := by rw [psF_length H2.out]; have := H2.out; omega
        have hx60 : xs.length ≤ 60 := by have := H2.out; omega
        go_wp2
        go_loopw [10] (fun i wq => ∃ j : Nat, j ≤ 5 ∧ i = .int .u32 (1 + (j : Int)) ∧ (∃ n', n' ≤ 60 ∧ TabP bb wq (bb + 1) n' (tF (psF ws xs) j)) ∧ bb ≤ wq.heap.size ∧ Below w.heap.size w wq) (fun i _ => 5 - ((intOf i).toNat - 1))
        case atStart => exact ⟨0, Nat.zero_le _, rfl, ⟨n, by omega, by rw [tF_zero]; exact hT⟩, hz1, hB⟩
        case round =>
          clear hB hz1 hT
          obtain ⟨j, hj, rfl, ⟨n', hn', hT⟩, hz1, hB⟩ := hrel
          obtain ⟨wq, hwq⟩ : ∃ W, W = wr := ⟨_, rfl⟩
          subst hwq
          by_cases hj5 : j < 5
          · have hd5 : decide (1 + (j : Int) ≤ 5) = true := decide_eq_true (by omega)
            go_wp2
            go_loopw [11, 12] (fun wv i wr2 => ∃ m : Nat, m ≤ xs.length ∧ i = .int .i64 m ∧ Own Span.enc 2 24 wq.heap.size wr2 wv (gotS (1 + (j : Int)) ((psF ws xs).take m)) ∧ Below wq.heap.size wq wr2) (fun _ i _ => xs.length - (intOf i).toNat)
            case atStart => exact ⟨0, Nat.zero_le _, rfl, Own.nil _ _ _ _ _, Below.refl _ _⟩
            case round =>
              obtain ⟨m, hm, rfl, hown, hB2⟩ := hrel
              by_cases hlt : m < xs.length
              · have hlt0 : m < ws.length := by have := H2.out; omega
                have hka := List.getElem?_eq_getElem hlt0
                have hkx := List.getElem?_eq_getElem hlt
                have htk := psF_take hka hkx
                have hB3 := Below.step hB hB2
                obtain ⟨ba, oa, rfl, ha1⟩ := (rd0.below hB3).byte hka
                obtain ⟨bx, ox, rfl, hx1, hx2⟩ := (rd1.below hB3).span hkx
                have hab := byte_wf (ok0 _ (List.getElem_mem hlt0))
                generalize ws[m] = a at *
                generalize xs[m] = x at *
                obtain ⟨f, t⟩ := x
                simp only at hx1 hx2
                have hsn := gotS_snoc (1 + (j : Int)) ((psF ws xs).take m) (1 + a % 5) ⟨f, t⟩
                rw [← htk] at hsn
                have hgl := Nat.le_trans (gotS_length (1 + (j : Int)) ((psF ws xs).take m)) (by rw [List.length_take]; omega : ((psF ws xs).take m).length ≤ 60)
                obtain ⟨G1, hG1⟩ : ∃ G, gotS (1 + (j : Int)) ((psF ws xs).take (m + 1)) = G := ⟨_, rfl⟩
                rw [hG1] at hsn
                have HG1 := Lib.hid hG1
                clear hG1 htk hka hkx
                generalize gotS (1 + (j : Int)) ((psF ws xs).take m) = G0 at *
                obtain ⟨A2, c2, rfl, _, _⟩ := hown.slice
                have hr : a.tmod 5 = a % 5 := Int.tmod_eq_emod_of_nonneg hab.1
                have hr1 : a % 5 % 4294967296 = a % 5 := by omega
                have hr2 : (1 + a % 5) % 4294967296 = 1 + a % 5 := by omega
                have hin := fun p : Later wr => inS_calls _ G0 f t p.val ((hown.rd span_len).below p.ok)
                have hx1' := fun p : Later wr => Later.cell p hx1
                have hx2' := fun p : Later wr => Later.cell p hx2
                have ha1' := fun p : Later wr => Later.cell p ha1
                have HX := Lib.hid (And.intro hx1 hx2)
                clear hx1 hx2 ha1
                unfold addS at hsn
                obtain ⟨hs, hse⟩ : ∃ b, hasS G0 ⟨f, t⟩ = b := ⟨_, rfl⟩
                rw [hse] at hsn hin
                clear hse
                by_cases hkey : 1 + a % 5 = 1 + (j : Int)
                · have hq1 : (1 + a % 5 == 1 + (j : Int)) = true := by rw [beq_iff_eq]; omega
                  have hq2 : decide (1 + a % 5 = 1 + (j : Int)) = true := decide_eq_true (by omega)
                  rw [if_pos hkey] at hsn
                  clear hkey
                  cases hft : sle f t
                  · replace hsn : G1 = G0 := by rw [hsn, hft]; rfl
                    have HS := Lib.hid hsn
                    clear hsn
                    go_wp2
                    refine wp_region_later (by kernel_rfl) (by kernel_rfl) ?_
                    repeat (go_big_quiet_step ((fail)))
                    refine wpQuiet_nil ?_
                    rintro _ ⟨p, rfl⟩
                    have hownp := hown.below p.ok
                    have hB2p := Below.step hB2 p.ok
                    clear hx1' hx2' ha1' hin hown hB2
                    go_wp2
                    go_roundw
                    case rel => exact ⟨m + 1, by omega, by go_num, by rw [HG1.out, HS.out]; exact hownp, hB2p⟩
                    case measure => simp [intOf]; omega
                  · cases hs
                    · replace hsn : G1 = G0 ++ [⟨f, t⟩] := by rw [hsn, hft]; rfl
                      have HS := Lib.hid hsn
                      clear hsn
                      go_wp2
                      refine wp_region_later (by kernel_rfl) (by kernel_rfl) ?_
                      repeat (go_big_quiet_step ((go_at_call 26; with_reducible exact Calls.later (hin _))))
                      refine wpQuiet_nil ?_
                      rintro _ ⟨p, rfl⟩
                      have hownp := hown.below p.ok
                      have hB2p := Below.step hB2 p.ok
                      have hx1 := hx1' p
                      have hx2 := hx2' p
                      clear hx1' hx2' ha1' hin hown hB2
                      generalize p.val = wp at *
                      have hzp := hB2p.size
                      go_wp2_with (at_builtin; refine append_oneH (W := wp) wp.heap.size rfl Span.enc 2 24 36 32 _ wq.heap.size (.slice A2 G0.length c2) G0 ⟨f, t⟩ rfl _ _ rfl Try.underlying36 info_span rfl (by decide) (by decide) span_len span_one rfl rfl hownp hB2p hzp (by omega) ?_; intro v' w' hown' hb' hgr hat2; clear hgr hat2 hx1 hx2 hownp hB2p)
                      go_roundw
                      case rel => exact ⟨m + 1, by omega, by go_num, by rw [HG1.out, HS.out]; exact hown', hb'⟩
                      case measure => simp [intOf]; omega
                    · replace hsn : G1 = G0 := by rw [hsn, hft]; rfl
                      have HS := Lib.hid hsn
                      clear hsn
                      go_wp2
                      refine wp_region_later (by kernel_rfl) (by kernel_rfl) ?_
                      repeat (go_big_quiet_step ((go_at_call 26; with_reducible exact Calls.later (hin _))))
                      refine wpQuiet_nil ?_
                      rintro _ ⟨p, rfl⟩
                      have hownp := hown.below p.ok
                      have hB2p := Below.step hB2 p.ok
                      clear hx1' hx2' ha1' hin hown hB2
                      go_wp2
                      go_roundw
                      case rel => exact ⟨m + 1, by omega, by go_num, by rw [HG1.out, HS.out]; exact hownp, hB2p⟩
                      case measure => simp [intOf]; omega
                · have hq1 : (1 + a % 5 == 1 + (j : Int)) = false := by rw [beq_eq_false_iff_ne]; omega
                  have hq2 : decide (1 + a % 5 = 1 + (j : Int)) = false := decide_eq_false (by omega)
                  rw [if_neg hkey] at hsn
                  clear hkey
                  have HS := Lib.hid hsn
                  clear hsn
                  go_wp2
                  refine wp_region_later (by kernel_rfl) (by kernel_rfl) ?_
                  repeat (go_big_quiet_step ((fail)))
                  refine wpQuiet_nil ?_
                  rintro _ ⟨p, rfl⟩
                  have hownp := hown.below p.ok
                  have hB2p := Below.step hB2 p.ok
                  clear hx1' hx2' ha1' hin hown hB2
                  go_wp2
                  go_roundw
                  case rel => exact ⟨m + 1, by omega, by go_num, by rw [HG1.out, HS.out]; exact hownp, hB2p⟩
                  case measure => simp [intOf]; omega
              · have hmn : m = xs.length := by omega
                subst hmn
                rw [List.take_of_length_le (by rw [psF_length H2.out]; omega)] at hown
                have hB3 := Below.step hB hB2
                replace hT := hT.below hB2
                replace hz1 := Nat.le_trans hz1 hB2.size
                obtain ⟨M, D, hT⟩ := hT
                have hgl := gotS_length (1 + (j : Int)) (psF ws xs)
                have hat := tF_at (psF ws xs) j
                have hnx := tF_next (psF ws xs) j
                have HF := Lib.hid (And.intro hat hnx)
                clear hat hnx
                generalize hG : gotS (1 + (j : Int)) (psF ws xs) = G0 at *
                have HG := Lib.hid hG
                clear hG
                obtain ⟨A2, c2, rfl, _, _⟩ := hown.slice
                go_wp2_with (first
                  | (go_at_call 14
                     refine (thas_calls hT (1 + (j : Int)) (okU_small (by omega) (by omega)) (by have := tF_len (psF ws xs) j (1 + (j : Int)); omega)).mono ?_
                     rintro e w3 ⟨v', rfl, hh0, hb4⟩
                     rw [HF.out.1, show (tS (psF ws xs) (1 + (j : Int))).map spOf = G0 from by rw [← HG.out]; exact map_sp_lk _] at hh0
                     have hrd := hown.rd span_len |>.below hb4
                     replace hT := hT.below hb4
                     replace hB3 := Below.step hB3 hb4; replace hz1 := Nat.le_trans hz1 hb4.size; clear hb4 hown)
                  | (go_at_call 19
                     refine (sameSpans_calls _ _ G0 G0 _ (hh0.rd span_len) hrd).mono ?_
                     rw [decide_eq_true rfl]
                     rintro e w4 ⟨rfl, hb4⟩
                     replace hT := hT.below hb4
                     replace hB3 := Below.step hB3 hb4; replace hz1 := Nat.le_trans hz1 hb4.size; clear hb4 hh0 hrd)
                  | (go_at_call 13
                     refine (tfree_calls hT (1 + (j : Int)) (okU_small (by omega) (by omega))).mono ?_
                     rintro e w5 ⟨rfl, hT6, hs⟩
                     rw [HF.out.2] at hT6
                     rw [HF.out.1, show (tS (psF ws xs) (1 + (j : Int))).length = G0.length from by rw [← HG.out]; exact List.length_map _]
                     replace hB3 := hB3.trans ((hs.below hz1).mono (by omega))
                     replace hz1 := Nat.le_trans hz1 hs.size
                     clear hs hT))
                go_roundw
                case rel => exact ⟨j + 1, by omega, by go_num, ⟨n', hn', hT6⟩, hz1, hB3⟩
                case measure => simp [intOf]; omega
          · have hj5' : j = 5 := by omega
            subst hj5'
            rw [tF_end _ psF_keys] at hT
            have hd5 : decide (1 + ((5 : Nat) : Int) ≤ 5) = false := by decide
            have hjc := fun W (h : Rd Span.enc 2 W (.slice A1 xs.length p1) xs) => join_calls _ xs W h (by omega)
            obtain ⟨hnf, _, _, hjl⟩ := joinF_spec xs
            generalize joinF xs = js at *
            have HX := Lib.hid hx60
            clear hj5 hj hk hlt hx60 hpl ok0 ok1
            go_wp2_with (go_at_call 27
                         refine (hjc _ (rd1.below hB)).mono ?_
                         rintro e w6 ⟨v3, rfl, hown, hb6⟩
                         replace hT := hT.below hb6
                         replace hB := Below.step hB hb6
                         replace hz1 := Nat.le_trans hz1 hb6.size
                         have hrd3 : RdT bb Span.enc 2 w6 v3 js := RdT.own span_len hown (by decide)
                         obtain ⟨A3, c3, rfl, _, _⟩ := hown.slice
                         clear hjc hb6 hown)
            go_loopw [14] (fun i wr => ∃ m : Nat, m ≤ js.length ∧ i = .int .i64 m ∧ (∃ q, q ≤ n' + m ∧ TabP bb wr (bb + 1) q (tJ js m)) ∧ RdT bb Span.enc 2 wr (.slice A3 js.length c3) js ∧ bb ≤ wr.heap.size ∧ Below w.heap.size w wr) (fun i _ => js.length - (intOf i).toNat)
            case atStart => exact ⟨0, Nat.zero_le _, rfl, ⟨n', by omega, by rw [tJ_zero]; exact hT⟩, hrd3, hz1, hB⟩
            case round =>
              clear hT hrd3 hz1 hB
              obtain ⟨m, hm, rfl, ⟨q, hq, hT⟩, hrd, hz, hB⟩ := hrel
              by_cases hlt : m < js.length
              · have hkx := List.getElem?_eq_getElem hlt
                have hsl := hnf.1 _ (List.getElem_mem hlt)
                obtain ⟨bx, ox, rfl, hx1, hx2⟩ := hrd.1.span hkx
                have hjx := HX.out
                have hnx := tJ_next hkx
                have hnh := tJ_nohit hnf hkx
                generalize js[m] = x at *
                obtain ⟨f, t⟩ := x
                simp only at hx1 hx2 hsl hnx hnh
                have hkk : ((m : Int) % 4294967296) = m := by omega
                have hkk1 : (1 + (m : Int)) % 4294967296 = 1 + m := by omega
                have hc : Calls Try.prog 23 #[.pointer (some ⟨bb + 1, 0, none⟩), .int .u32 (1 + m), .agg #[.string f, .string t], .bool true, .slice none 0 0] wr fun e w' =>
                    e = .returned (.bool true) ∧ (∃ n', n' ≤ q + 1 ∧ TabP bb w' (bb + 1) n' (tJ js (m + 1))) ∧ TStep bb wr w' := by
                  rw [← hnx]
                  exact asks_got hT hz (tJ_len js m) (by decide) (by omega) (1 + m) (okU_small (by omega) (by omega)) f t true hnh (by omega)
                    (by unfold mayL; rw [decide_eq_true (by omega : (1 + (m : Int)) ≠ 0), hsl]; rfl) (nohit_way hnh)
                have HC := Lib.hid hc
                have HK := Lib.hid (And.intro hkk hkk1)
                clear hnx hnh hT hc hkk hkk1 hsl hkx
                go_wp2_with (go_at_call 23; (try rw [HK.out.1]); (try rw [HK.out.2]); refine HC.out.mono ?_; rintro e w7 ⟨rfl, ⟨q', hq', hT'⟩, hs⟩)
                go_roundw
                case rel => exact ⟨m + 1, by omega, by go_num, ⟨q', by omega, hT'⟩, hrd.step hs, Nat.le_trans hz hs.size, hB.trans ((hs.below hz).mono (by omega))⟩
                case measure => simp [intOf]; omega
              · go_wp2
                go_ret
                exact ⟨rfl, hB⟩
end Go.Proofs.Ytomhkflcimbbiaa
