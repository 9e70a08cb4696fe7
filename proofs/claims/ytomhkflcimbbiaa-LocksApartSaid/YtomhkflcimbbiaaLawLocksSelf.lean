import Derived.Test.YtomhkflcimbbiaaLAskR
import Derived.Test.YtomhkflcimbbiaaArr
import Derived.Test.YtomhkflcimbbiaaLawLocksNone
import Derived.Deep.Cut
import Derived.Deep.RegionHeld3
set_option linter.unusedVariables false
set_option linter.unusedSimpArgs false
set_option linter.unusedSectionVars false
namespace Go.Proofs.Ytomhkflcimbbiaa
open Go.RowKit Go.Shelf

theorem okU_smallS {a : Int} (h0 : 0 ≤ a) (h1 : a ≤ 4000000000) : okU a := by
  unfold okU
  simp [Lit.wf, IntKind.min, IntKind.max, IntKind.signed, IntKind.bits]
  omega
/-- the box of an act. -/
def BoxA (w : World) (b : Nat) (q who : Int) (f t : ByteArray) (al : Bool) : Prop := w.heap[b]? = some (.cells #[.int .u8 q, .int .u32 who, .string f, .string t, .bool al] 45 (0, 0))
section
variable {w w' : World} {b base : Nat} {q who : Int} {f t : ByteArray} {al : Bool}
theorem BoxA.below (h : BoxA w b q who f t al) (hb : Below w.heap.size w w') : BoxA w' b q who f t al := (hb.block _ (Array.getElem?_eq_some_iff.1 h).1).trans h
theorem BoxA.tstep (h : BoxA w b q who f t al) (s : TStep base w w') : BoxA w' b q who f t al := s.cells h (by decide)
theorem BoxA.set (h : BoxA w b q who f t al) {B k : Nat} (hB : B ≠ b) (u : Value) : BoxA (w.setCell ⟨B, k, none⟩ u) b q who f t al := (Below.heap_setCell _ _ _ _ (fun e => hB e.symm)).trans h
theorem BoxA.cells (h : BoxA w b q who f t al) : w.cell? ⟨b, 1, none⟩ = some (.int .u32 who) ∧ w.cell? ⟨b, 2, none⟩ = some (.string f) ∧ w.cell? ⟨b, 3, none⟩ = some (.string t) ∧ w.cell? ⟨b, 4, none⟩ = some (.bool al) := by
  unfold BoxA at h
  exact ⟨by simp [World.cell?, h], by simp [World.cell?, h], by simp [World.cell?, h], by simp [World.cell?, h]⟩
theorem BoxA.cell0 (h : BoxA w b q who f t al) : w.cell? ⟨b, 0, none⟩ = some (.int .u8 q) := by
  unfold BoxA at h
  simp [World.cell?, h]
end
theorem within_self {T : Tab} {who : Int} {f t : Str} {al : Bool} {l : List Int} (h : if mayL who f t then WayIs T who f t al l else l = []) : withinB [who] l = false := by
  unfold withinB
  rw [Bool.eq_false_iff]
  intro e
  simp at e
  split at h
  · exact ((h.mem who).1 e).1 rfl
  · rw [h] at e; cases e

set_option maxHeartbeats 2000000 in
set_option maxRecDepth 100000 in
theorem locksSelf_walk (v0 : Value) (xs : List LAct) (x : LAct) (w : World) (rd0 : Rd LAct.enc 5 w v0 xs) (ok0 : ∀ a ∈ xs, a.ok) (ok1 : x.ok) :
    Calls Try.prog 9 #[v0, .agg #[.int .u8 x.q, .int .u32 x.who, .string x.f, .string x.t, .bool x.a]] w fun e w' => e = .returned (.bool true) ∧ Below w.heap.size w w' := by
  obtain ⟨A0, p0, rfl, hl0, hc0⟩ := rd0.shape
  have hqx := LAct.byte ok1
  obtain ⟨q, who, f, t, al⟩ := x
  have hwx : okU who := ok1.2.1
  clear ok1
  simp only at hqx ⊢
  go_enter Try.func9, Try.ntmps9
  have hB : Below w.heap.size w (w.alloc (.cells #[.int .u8 q, .int .u32 who, .string f, .string t, .bool al] 45)) := (Below.refl _ w).alloc (Nat.le_refl _) _
  have s0 : BoxA (w.alloc (.cells #[.int .u8 q, .int .u32 who, .string f, .string t, .bool al] 45)) w.heap.size q who f t al := lalloc_at _ rfl
  go_upto_region 1 with fail
  generalize w.alloc (.cells #[.int .u8 q, .int .u32 who, .string f, .string t, .bool al] 45) = w0 at *
  go_wp2_with fail
  go_at_call 15
  refine (aliveL_calls _).mono ?_
  rintro e w1 ⟨rfl, hb1⟩
  replace hB := Below.step hB hb1
  replace s0 := s0.below hb1
  clear hb1
  go_wp2_with fail
  go_at_call 16
  refine (lgreat_calls _ xs _ (rd0.below hB)).mono ?_
  rintro e w2 ⟨⟨g, rfl⟩, hb2⟩
  replace hB := Below.step hB hb2
  replace s0 := s0.below hb2
  clear hb2
  cases g with
  | true =>
    go_wp2_with (go_at_call 15; refine (aliveL_calls _).mono ?_; rintro e w3 ⟨rfl, hb3⟩)
    go_ret
    exact ⟨rfl, Below.step hB hb3⟩
  | false =>
    by_cases h100 : 100 < xs.length
    · have hd : decide (100 < (xs.length : Int)) = true := decide_eq_true (by omega)
      go_wp2_with (go_at_call 15; refine (aliveL_calls _).mono ?_; rintro e w3 ⟨rfl, hb3⟩)
      go_ret
      exact ⟨rfl, Below.step hB hb3⟩
    · have hd : decide (100 < (xs.length : Int)) = false := decide_eq_false (by omega)
      have c0 := s0.cell0
      obtain ⟨c1, c2, c3, c4⟩ := s0.cells
      go_wp2_with fail
      go_at_call 16
      refine (lgreat_calls _ [⟨q, who, f, t, al⟩] _ (rd_lit LAct.enc 5 lact_len 45 [⟨q, who, f, t, al⟩] (by simp) w2)).mono ?_
      rintro e w3 ⟨⟨g, rfl⟩, hb3⟩
      replace hb3 : Below w2.heap.size w2 w3 := Below.step ((Below.refl _ w2).alloc (Nat.le_refl _) _) hb3
      replace hB := Below.step hB hb3
      replace s0 := s0.below hb3
      clear hb3 c0 c1 c2 c3 c4
      cases g with
      | true =>
        go_wp2_with (go_at_call 15; refine (aliveL_calls _).mono ?_; rintro e w4 ⟨rfl, hb4⟩)
        go_ret
        exact ⟨rfl, Below.step hB hb4⟩
      | false =>
        go_wp2_with (go_at_call 17
                     refine (tnew_calls w3).mono ?_
                     rintro e w4 ⟨rfl, hb4, hT0⟩
                     have hwb := hB.size
                     replace hB := Below.step hB hb4
                     replace s0 := s0.below hb4
                     have hz4 := hb4.size
                     clear hb4)
        generalize w3.heap.size = bb at *
        have hac : Acted w bb 0 w4 (fun _ => []) := ⟨⟨0, Nat.le_refl _, hT0⟩, .new, fun _ => Nat.le_refl _, hz4, hB⟩
        clear hd hT0 hz4 hB
        go_loopw [6] (fun iv wr => ∃ (k : Nat) (T : Tab), k ≤ xs.length ∧ iv = .int .i64 k ∧ Acted w bb k wr T ∧ BoxA wr w.heap.size q who f t al) (fun iv _ => xs.length - (intOf iv).toNat)
        case atStart => exact ⟨0, _, Nat.zero_le _, rfl, hac, s0⟩
        case round =>
          clear hac s0
          obtain ⟨k, T, hk, rfl, hac, s0⟩ := hrel
          by_cases hlt : k < xs.length
          · have hxk := List.getElem?_eq_getElem hlt
            obtain ⟨bx, ox, rfl, y0, y1, y2, y3, y4⟩ := (rd0.below hac.below).lact hxk
            have hox := ok0 _ (List.getElem_mem hlt)
            have hqy := LAct.byte hox
            have hwy : okU xs[k].who := hox.2.1
            have HR := Lib.hid rd0
            clear rd0 ok0 hxk hox
            generalize xs[k] = y at *
            obtain ⟨q', who', f', t', al'⟩ := y
            simp only at y0 y1 y2 y3 y4 hqy hwy
            have hdo := hac.does (by omega) hwb q' who' f' t' al' hqy hwy
            go_wp2_with (go_at_call 18
                         refine hdo.mono ?_
                         rintro e w5 ⟨v', T', rfl, hac', hs⟩
                         replace s0 := s0.tstep hs
                         clear y0 y1 y2 y3 y4 hdo)
            go_roundw
            case rel => exact ⟨k + 1, T', by omega, by go_num, hac', s0⟩
            case measure => simp [intOf]; omega
          · have hk100 : k ≤ 100 := by omega
            obtain ⟨n, hn, hT⟩ := hac.tab
            have htidy := hac.tidy
            have hlen := hac.len
            have hz := hac.room
            have hB := hac.below
            clear hac hk hqx rd0 ok0
            have hbd : Below wr.heap.size wr (wr.alloc (.cells #[.int .u32 who] 22)).drew := ((Below.refl _ wr).alloc (Nat.le_refl _) _).drew
            have hlit0 : Rd encU 1 (wr.alloc (.cells #[.int .u32 who] 22)).drew (.slice (some ⟨wr.heap.size, 0, none⟩) 1 1) [who] := (rd_lit encU 1 encU_len 22 [who] (by simp) wr).below (Below.refl _ _).drew
            have hTd := hT.below hbd
            have hBd := Below.step hB hbd
            have sd := s0.below hbd
            have hzd := Nat.le_trans hz hbd.size
            have sd0 : BoxA wr.drew w.heap.size q who f t al := s0
            obtain ⟨c1, c2, c3, c4⟩ := sd0.cells
            obtain ⟨d1, d2, d3, d4⟩ := sd.cells
            have hbe : Below wr.heap.size wr wr.drew := (Below.refl _ _).drew
            have hTe := hT.below hbe
            have hBe := Below.step hB hbe
            have hze := Nat.le_trans hz hbe.size
            clear hT hB s0 hz hbd hbe
            go_wp2
            go_cut [63] from 17 (fun s63 wx => s63 = .bool false ∧ TabP bb wx (bb + 1) n T ∧ Below w.heap.size w wx ∧ BoxA wx w.heap.size q who f t al ∧ bb ≤ wx.heap.size)
            case first =>
              go_region_held3 (fun w' => w'.cell? ⟨w.heap.size, 1, none⟩ = some (.int .u32 who) ∧ w'.cell? ⟨w.heap.size, 2, none⟩ = some (.string f) ∧ w'.cell? ⟨w.heap.size, 3, none⟩ = some (.string t) ∧ w'.cell? ⟨w.heap.size, 4, none⟩ = some (.bool al)) (first | go_keep | exact ⟨d1, d2, d3, d4⟩) (first
                | (go_at_call 24
                   refine (within_calls _ _ [who] l5 _ hlit (ho5.rd encU_len)).mono ?_
                   rw [hwf]
                   rintro e w6 ⟨rfl, hb6⟩
                   replace hT5 := hT5.below hb6
                   replace hB5 := Below.step hB5 hb6
                   replace s5 := s5.below hb6
                   replace hz5 := Nat.le_trans hz5 hb6.size
                   obtain ⟨c1, c2, c3, c4⟩ := s5.cells
                   clear hb6 hlit ho5 hwf)
                | (go_at_call 24
                   refine (within_calls _ _ [who] l5 _ hlitB hoB).mono ?_
                   rw [hwf]
                   rintro e w6 ⟨rfl, hb6⟩
                   replace hT5 := hT5.below hb6
                   replace hB5 := Below.step hB5 hb6
                   replace s5 := s5.below hb6
                   replace hz5 := Nat.le_trans hz5 hb6.size
                   clear c1 c2 c3 c4 d1 d2 d3 d4
                   obtain ⟨c1, c2, c3, c4⟩ := s5.cells
                   clear hb6 hlitB hoB hwf)
                | (go_at_call 12
                   refine (wayP_calls hTd hlen (by omega) (by omega) (Nat.le_trans (Nat.mul_le_mul_right k hn) (Nat.le_trans (Nat.mul_le_mul hk100 hk100) (by decide))) who f t al).mono ?_
                   rintro e w5 ⟨v5, l5, rfl, ho5, hb5, hl5, _⟩
                   have hlit := hlit0.below hb5
                   have hwf := within_self hl5
                   have hT5 := hTd.below hb5
                   have hB5 := Below.step hBd hb5
                   have s5 := sd.below hb5
                   have hz5 := Nat.le_trans hzd hb5.size
                   clear c1 c2 c3 c4 d1 d2 d3 d4
                   obtain ⟨c1, c2, c3, c4⟩ := s5.cells
                   clear hb5 hl5 hTd hBd sd hzd hlit0 hTe hBe hze sd0)
                | (go_at_call 12
                   refine (wayP_calls hTe hlen (by omega) (by omega) (Nat.le_trans (Nat.mul_le_mul_right k hn) (Nat.le_trans (Nat.mul_le_mul hk100 hk100) (by decide))) who f t al).mono ?_
                   rintro e w5 ⟨v5, l5, rfl, ho5, hb5, hl5, _⟩
                   have hwf := within_self hl5
                   have hba : Below w5.heap.size w5 (w5.alloc (.cells #[.int .u32 who] 22)) := (Below.refl _ w5).alloc (Nat.le_refl _) _
                   have hlitB : Rd encU 1 (w5.alloc (.cells #[.int .u32 who] 22)) (.slice (some ⟨w5.heap.size, 0, none⟩) 1 1) [who] := rd_lit encU 1 encU_len 22 [who] (by simp) w5
                   have hoB := (ho5.rd encU_len).below hba
                   have hT5 := (hTe.below hb5).below hba
                   have hB5 := Below.step (Below.step hBe hb5) hba
                   have s50 := sd0.below hb5
                   have s5 := s50.below hba
                   have hz5 := Nat.le_trans (Nat.le_trans hze hb5.size) hba.size
                   clear c1 c2 c3 c4 d1 d2 d3 d4
                   obtain ⟨c1, c2, c3, c4⟩ := s50.cells
                   obtain ⟨d1, d2, d3, d4⟩ := s5.cells
                   clear hb5 hl5 hTd hBd sd hzd hlit0 hTe hBe hze sd0 hba s50 ho5))
              all_goals
                go_wp2
                go_meet
                exact ⟨rfl, hT5, hB5, s5, hz5⟩
            case rest =>
              clear c1 c2 c3 c4 d1 d2 d3 d4 hTd hBd sd hzd hlit0 hTe hBe hze sd0
              obtain ⟨rfl, hT, hB, s0, hz⟩ := hcut
              obtain ⟨c1, c2, c3, c4⟩ := s0.cells
              go_wp2_with fail
              go_at_call 11
              refine (askR_calls hT hz hlen (by omega) (by omega) (Nat.le_trans (Nat.mul_le_mul_right k hn) (Nat.le_trans (Nat.mul_le_mul hk100 hk100) (by decide))) who hwx f t al).mono ?_
              rintro e w7 ⟨a7, l7, e7, T1, n1, rfl, hn1, hT1, hs1, hA1, ho7, hw7, hn7⟩
              obtain ⟨A7, c7, rfl, _, _⟩ := ho7.slice
              have hlen1 := hA1.len hlen
              have s1 := s0.tstep hs1
              have hB1 := hB.trans ((hs1.below hz).mono hwb)
              have hz1 := Nat.le_trans hz hs1.size
              have hltB : w.heap.size < w7.heap.size := (Array.getElem?_eq_some_iff.1 s1).1
              clear c1 c2 c3 c4 hT hB s0 hz hs1 hw7 hn7 ho7
              go_wp2
              have had := fun c hc => HadAt.new w7 c hc T1
              have hTn := fun c => hT1.below ((Below.refl _ w7).alloc (Nat.le_refl _) (.cells c 60))
              have hBn := fun c => hB1.alloc (by omega) (.cells c 60)
              have sn := fun c => s1.below ((Below.refl _ w7).alloc (Nat.le_refl _) (.cells c 60))
              have hzn := fun c => Nat.le_trans hz1 ((Below.refl w7.heap.size w7).alloc (Nat.le_refl _) (.cells c 60)).size
              generalize w7.heap.size = Bh at *
              go_loopw [12] (fun kv wr2 => ∃ k : Nat, k ≤ 12 ∧ kv = .int .u32 k ∧ HadAt wr2 Bh k T1 ∧ TabP bb wr2 (bb + 1) n1 T1 ∧ Below w.heap.size w wr2 ∧ BoxA wr2 w.heap.size q who f t al ∧ bb ≤ wr2.heap.size) (fun kv _ => 12 - (intOf kv).toNat)
              case atStart => exact ⟨0, by omega, rfl, had _ (by first | rfl | simp), hTn _, hBn _, sn _, hzn _⟩
              case round =>
                clear had hTn hBn sn hzn hB1 s1 hz1 hT1
                obtain ⟨j, hj, rfl, hh, hT1, hB1, s1, hz1⟩ := hrel
                by_cases hj12 : j < 12
                · have hhas := hasP_calls hT1 (j : Int) (okU_smallS (by omega) (by omega)) (Nat.le_trans (hlen1 _) (by omega))
                  obtain ⟨N8, hN8⟩ : ∃ N, N = (T1 (j : Int)).map spOf := ⟨_, rfl⟩
                  rw [← hN8] at hhas
                  have HN8 := Lib.hid hN8
                  clear hN8
                  go_wp2_with (go_at_call 14
                               refine hhas.mono ?_
                               rintro e w8 ⟨v8, rfl, ho8, hb8⟩
                               obtain ⟨A8, c8, rfl, _, _⟩ := ho8.slice
                               clear hhas
                               have hh8 := hh.below hb8
                               obtain ⟨⟨u8, hu8⟩, hf8⟩ := hh8.room hj12)
                  go_roundw
                  case rel =>
                    rw [HN8.out] at ho8
                    refine ⟨j + 1, by omega, by go_num, by first | exact hh8.set hj12 ho8 | (rw [HN8.out]; exact hh8.set hj12 ho8), (hT1.below hb8).had hh8, (Below.step hB1 hb8).setCell (p := ⟨Bh, j, none⟩) (by simp; omega) _, (s1.below hb8).set (by omega) _, ?_⟩
                    exact Nat.le_trans (Nat.le_trans hz1 hb8.size) (grown_set w8 Bh j _).size
                  case measure => simp [intOf]; omega
                · have hj : j = 12 := by omega
                  subst hj
                  obtain ⟨c1, c2, c3, c4⟩ := s1.cells
                  have hhas := hasP_calls hT1 who hwx (Nat.le_trans (hlen1 _) (by omega))
                  obtain ⟨N9, hN9⟩ : ∃ N, N = (T1 who).map spOf := ⟨_, rfl⟩
                  rw [← hN9] at hhas
                  have HN9 := Lib.hid hN9
                  clear hN9
                  go_wp2_with fail
                  go_at_call 14
                  refine hhas.mono ?_
                  clear hhas
                  rintro e w9 ⟨v9, rfl, ho9, hb9⟩
                  replace hT1 := hT1.below hb9
                  replace hB1 := Below.step hB1 hb9
                  replace s1 := s1.below hb9
                  replace hz1 := Nat.le_trans hz1 hb9.size
                  replace hh := hh.below hb9
                  obtain ⟨A9, c9, rfl, _, _⟩ := ho9.slice
                  clear hb9 c1 c2 c3 c4
                  obtain ⟨c1, c2, c3, c4⟩ := s1.cells
                  go_wp2_with fail
                  go_at_call 11
                  refine (askR_calls hT1 hz1 hlen1 (by omega) (by omega) (Nat.le_trans (Nat.mul_le_mul (by omega : n1 ≤ 101) (by omega : k + 1 ≤ 101)) (by decide)) who hwx f t al).mono ?_
                  rintro e w10 ⟨a10, l10, e10, T2, n2, rfl, hn2, hT2, hs2, hA2, ho10, _, hn10⟩
                  obtain ⟨rfl, hsame⟩ := hA1.again hA2
                  obtain ⟨A10, c10, rfl, _, _⟩ := ho10.slice
                  have hlen2 := hA2.len hlen1
                  have hmine : Own Span.enc 2 24 0 w10 (.slice A9 N9.length c9) N9 := ownsRow_low (ho9.tstep hs2 (by decide)) (Nat.zero_le _)
                  replace hh := hh.tstep hs2
                  replace s1 := s1.tstep hs2
                  replace hB1 := hB1.trans ((hs2.below hz1).mono hwb)
                  replace hz1 := Nat.le_trans hz1 hs2.size
                  have hcodes := hA1.codes
                  clear c1 c2 c3 c4 hs2 hT1 ho9 ho10 hA1 hA2
                  have HS := Lib.hid hsame
                  clear hsame
                  go_wp2
                  go_loopw [16] (fun kv wr3 => ∃ k : Nat, k ≤ 12 ∧ kv = .int .u32 k ∧ HadAt wr3 Bh 12 T1 ∧ TabP bb wr3 (bb + 1) n2 T2 ∧ Below w.heap.size w wr3 ∧ BoxA wr3 w.heap.size q who f t al ∧ bb ≤ wr3.heap.size ∧ Own Span.enc 2 24 0 wr3 (.slice A9 N9.length c9) N9) (fun kv _ => 12 - (intOf kv).toNat)
                  case atStart => exact ⟨0, by omega, rfl, hh, hT2, hB1, s1, hz1, hmine⟩
                  case round =>
                    clear hh hT2 hB1 s1 hz1 hmine
                    obtain ⟨i, hi, rfl, hh, hT2, hB1, s1, hz1, hmine⟩ := hrel
                    by_cases hi12 : i < 12
                    · obtain ⟨v11, hc11, ho11⟩ := hh.at_ hi12
                      obtain ⟨N11, hN11⟩ : ∃ N, N = (T1 (i : Int)).map spOf := ⟨_, rfl⟩
                      rw [← hN11] at ho11
                      obtain ⟨A11, c11, rfl, _, _⟩ := ho11.slice
                      have hbd : Below wr.heap.size wr wr.drew := (Below.refl _ _).drew
                      have hTd := hT2.below hbd
                      have hhas := hasP_calls hTd (i : Int) (okU_smallS (by omega) (by omega)) (Nat.le_trans (hlen2 _) (by omega))
                      rw [HS.out, ← hN11] at hhas
                      have hhd := hh.below hbd
                      have hBd := Below.step hB1 hbd
                      have sd := s1.below hbd
                      have hzd := Nat.le_trans hz1 hbd.size
                      have hmd := hmine.below hbd
                      have hod := ho11.below hbd
                      have hcd : wr.drew.cell? ⟨Bh, i, none⟩ = some (.slice A11 N11.length c11) := hc11
                      clear hN11 hT2 hh hB1 s1 hz1 hmine ho11 hc11 hbd
                      go_wp2
                      go_region_held3 (fun w' => w'.cell? ⟨Bh, i, none⟩ = some (.slice A11 N11.length c11)) (go_keep) (first
                        | (go_at_call 19
                           refine (sameSpans_calls _ _ N11 N11 _ (ho12.rd span_len) (hod.rd span_len)).mono ?_
                           rw [decide_eq_true rfl]
                           rintro e w13 ⟨rfl, hb13⟩
                           replace hTd := hTd.below hb13
                           replace hhd := hhd.below hb13
                           replace hBd := Below.step hBd hb13
                           replace sd := sd.below hb13
                           replace hzd := Nat.le_trans hzd hb13.size
                           replace hmd := hmd.below hb13
                           replace hcd := Below.cell_some hb13 hcd
                           clear hb13 ho12 hod)
                        | (go_at_call 14
                           refine hhas.mono ?_
                           rintro e w12 ⟨v12, rfl, ho12, hb12⟩
                           obtain ⟨A12, c12, rfl, _, _⟩ := ho12.slice
                           replace hTd := hTd.below hb12
                           replace hhd := hhd.below hb12
                           replace hBd := Below.step hBd hb12
                           replace sd := sd.below hb12
                           replace hzd := Nat.le_trans hzd hb12.size
                           replace hmd := hmd.below hb12
                           replace hod := hod.below hb12
                           replace hcd := Below.cell_some hb12 hcd
                           clear hb12 hhas))
                      go_wp2
                      go_roundw
                      case rel => exact ⟨i + 1, by omega, by go_num, hhd, hTd, hBd, sd, hzd, hmd⟩
                      case measure => simp [intOf]; omega
                    · have hhas := hasP_calls hT2 who hwx (Nat.le_trans (hlen2 _) (by omega))
                      rw [HS.out, ← HN9.out] at hhas
                      obtain ⟨c1, c2, c3, c4⟩ := s1.cells
                      rcases hcodes with rfl | rfl | rfl
                      all_goals
                        first
                          | (have hl10 : l10 = [] := hn10 (by omega)
                             subst hl10)
                          | skip
                        go_wp2_with (first
                          | (go_at_call 19
                             refine (sameSpans_calls _ _ N9 N9 _ (ho12.rd span_len) hm12).mono ?_
                             rw [decide_eq_true rfl]
                             rintro e w13 ⟨rfl, hb13⟩
                             replace hB12 := Below.step hB12 hb13)
                          | (go_at_call 14
                             refine hhas.mono ?_
                             rintro e w12 ⟨v12, rfl, ho12, hb12⟩
                             have hm12 := (hmine.rd span_len).below hb12
                             have hB12 := Below.step hB1 hb12))
                        go_ret
                        exact ⟨rfl, hB12⟩
end Go.Proofs.Ytomhkflcimbbiaa
