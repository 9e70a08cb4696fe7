import Derived.Test.YtanjgeacmpmjhaaGreatDoorMgPlansCheckUpto19
import Derived.Test.YtanjgeacmpmjhaaGreatDoorApp
import Derived.Deep.RegionHeld3
import Derived.Deep.DrawnRows
import Derived.StillTailTactics
set_option linter.unusedVariables false
set_option linter.unusedSimpArgs false
namespace Go.Proofs.YtanjgeacmpmjhaaGreatDoor
open Go.RowKit Go.Shelf

attribute [local go_sem ↓] Go.wp_at_zero Go.wp_at_succ

theorem info_spanT : (Tryz.prog.info? 276).map (fun i => (i.zero, i.size, i.bytes)) = some (some (.agg #[.string ⟨#[]⟩, .string ⟨#[]⟩]), 2, 32) := by kernel_rfl

theorem rd_one (w : World) (B : Nat) (l : Span) (h0 : w.cell? ⟨B, 0, none⟩ = some (.string l.f)) (h1 : w.cell? ⟨B, 1, none⟩ = some (.string l.t)) : Rd Span.enc 2 w (.slice (some ⟨B, 0, none⟩) 1 1) [l] :=
  ⟨_, 1, rfl, Nat.le_refl _, by omega, fun _ => ⟨B, 0, rfl, fun i x hi j u hu => by
    match i, j with
    | 0, 0 => simp at hi hu; subst hi; subst hu; exact h0
    | 0, 1 => simp at hi hu; subst hi; subst hu; exact h1
    | 0, j + 2 => simp at hu
    | i + 1, j => simp at hi⟩⟩

set_option maxRecDepth 100000 in
set_option maxHeartbeats 800000 in
theorem join_calls (v : Value) (xs : List Span) (w : World) (hv : Rd Span.enc 2 w v xs) (hl : xs.length ≤ 1000000) :
    Calls Tryz.prog 159 #[v] w fun e w' => ∃ v', e = .returned v' ∧ Own Span.enc 2 47 w.heap.size w' v' (joinF xs) ∧ Below w.heap.size w w' := by
  obtain ⟨A, c, rfl, hlc, hc⟩ := hv.shape
  go_enter Tryz.func159, Tryz.ntmps159
  go_wp2
  go_loopw [3, 11] (fun av i wr => ∃ k : Nat, k ≤ xs.length ∧ i = .int .i64 k ∧ Own Span.enc 2 276 w.heap.size wr av (full (xs.take k)) ∧ Below w.heap.size w wr) (fun _ i _ => xs.length - (intOf i).toNat)
  case atStart => exact ⟨0, Nat.zero_le _, rfl, Own.nil _ _ _ _ _, Below.refl _ _⟩
  case round =>
    obtain ⟨k, hk, rfl, hown, hb⟩ := hrel
    by_cases hlt : k < xs.length
    · obtain ⟨b, o, rfl, hx1, hx2⟩ := (hv.below hb).span (List.getElem?_eq_getElem hlt)
      have HF := Lib.hid (full_snoc xs k _ (List.getElem?_eq_getElem hlt))
      have hfl : (full (xs.take k)).length ≤ k := Nat.le_trans (List.length_filter_le _ _) (by simp; omega)
      generalize xs[k] = x at *
      obtain ⟨A1, c1, hsl, _⟩ := hown.slice
      skip
      subst hsl
      have hsz := hb.size
      generalize full (xs.take k) = fu at *
      cases hle : sle x.f x.t
      · rw [hle] at HF
        go_wp2
        go_roundw
        case rel => exact ⟨k + 1, by omega, by go_num, by rw [HF.out, if_neg Bool.false_ne_true]; exact hown.below ((Below.refl _ _).alloc (Nat.le_refl _) _), hb.alloc hsz _⟩
        case measure => simp [intOf]; omega
      · rw [hle] at HF
        go_wp2_with (at_builtin; refine append_oneH (wr.heap.size + 1) (by simp) Span.enc 2 276 275 32 _ w.heap.size _ _ x rfl _ _ rfl Tryz.underlying275 info_spanT rfl (by decide) (by decide) span_len span_one rfl rfl (hown.below ((Below.refl _ _).alloc (Nat.le_refl _) _)) (hb.alloc hsz _) (by simp; omega) (by omega) ?_; intro v' w' hown' hb' hgr hat; clear hgr hat hx1 hx2)
        go_roundw
        case rel =>
          refine ⟨k + 1, by omega, by go_num, ?_, hb'⟩
          rw [HF.out, if_pos rfl]
          exact hown'
        case measure => simp [intOf]; omega
    · have hkl : k = xs.length := by omega
      subst hkl
      rw [List.take_length] at hown
      have hfl : (full xs).length ≤ xs.length := List.length_filter_le _ _
      obtain ⟨A1, c1, hsl, _⟩ := hown.slice
      skip
      subst hsl
      have hsz := hb.size
      go_wp2_with fail
      refine (sortSpan_calls hown (by omega)).mono ?_
      rintro e w1 ⟨ys, rfl, hys, hmem, hlen, hsrt, hg⟩
      have hJ := Lib.hid (joinAll_any hmem hsrt)
      have hb1 : Below w.heap.size w w1 := hb.grown hg hsz (fun g e => hown.base_le g e)
      have hrd := hys.rd span_len
      obtain ⟨A2, c2, hsl2, hlc2, hcc2⟩ := hys.slice
      have hyl : ys.length ≤ 1000000 := by omega
      rw [hsl2]
      rw [hsl2] at hrd
      clear hmem hsrt hg hown hys hlen
      go_wp2_with fail
      go_loopw [2, 29] (fun ov i wr => ∃ k : Nat, k ≤ ys.length ∧ i = .int .i64 k ∧ Own Span.enc 2 47 w1.heap.size wr ov (joinAll (ys.take k)) ∧ Below w1.heap.size w1 wr) (fun _ i _ => ys.length - (intOf i).toNat)
      case atStart => exact ⟨0, Nat.zero_le _, rfl, Own.nil _ _ _ _ _, Below.refl _ _⟩
      case round =>
        obtain ⟨k, hk, rfl, hown, hbr⟩ := hrel
        have hol : (joinAll (ys.take k)).length ≤ k := Nat.le_trans (joinAll_length _) (by simp; omega)
        obtain ⟨A3, c3, hsl3, hlc3, hcc3⟩ := hown.slice
        skip
        subst hsl3
        have hsz1 := hbr.size
        by_cases hlt : k < ys.length
        · obtain ⟨b, o, rfl, hx1, hx2⟩ := (hrd.below hbr).span (List.getElem?_eq_getElem hlt)
          have HJ2 := Lib.hid (joinAll_snoc ys k _ (List.getElem?_eq_getElem hlt))
          generalize ys[k] = x at *
          generalize joinAll (ys.take k) = out at *
          rcases Nat.eq_zero_or_pos out.length with h0 | hpos
          · have : out = [] := List.length_eq_zero_iff.1 h0
            subst this
            go_wp2
            generalize hW : wr.alloc (.cells #[.string x.f, .string x.t] 276) = W
            have hbW : Below w1.heap.size w1 W := by rw [← hW]; exact hbr.alloc hsz1 _
            have d0 : W.cell? ⟨wr.heap.size, 0, none⟩ = some (.string x.f) := by rw [← hW]; simp
            have d1 : W.cell? ⟨wr.heap.size, 1, none⟩ = some (.string x.t) := by rw [← hW]; simp
            have hownW : Own Span.enc 2 47 w1.heap.size W (.slice A3 0 c3) [] := by rw [← hW]; exact hown.below ((Below.refl _ _).alloc (Nat.le_refl _) _)
            clear hW hown
            refine wp_region_later (by kernel_rfl) (by kernel_rfl) ?_
            repeat (go_big_quiet_step ((fail)))
            refine wpQuiet_nil ?_
            rintro _ ⟨p, rfl⟩
            replace d0 := Later.cell p d0
            replace d1 := Later.cell p d1
            replace hownW := hownW.below p.ok
            replace hbW := Below.step hbW p.ok
            generalize p.val = Wp at *
            have hszp := hbW.size
            go_wp2_with (at_builtin; refine append_oneH Wp.heap.size rfl Span.enc 2 47 98 32 _ w1.heap.size _ _ x rfl _ _ rfl Tryz.underlying98 info_span rfl (by decide) (by decide) span_len span_one rfl rfl hownW hbW hszp (by simp) ?_; intro v' w' hown' hb' hgr hat; clear hgr hat hx1 hx2)
            go_roundw
            case rel =>
              refine ⟨k + 1, by omega, by go_num, ?_, hb'⟩
              rw [HJ2.out, joinStep_nil]
              exact hown'
            case measure => simp [intOf]; omega
          · obtain ⟨m, hm⟩ : ∃ m, out.length = m + 1 := ⟨out.length - 1, by omega⟩
            have hlast : m < out.length := by omega
            have hL := Lib.hid (List.getElem?_eq_getElem hlast)
            have hrO := hown.rd span_len
            obtain ⟨g, cap, cur, hA3, hgb, hgh, _⟩ := hown.some_block hpos
            injection hA3 with hA3 _ hA4
            subst hA3 hA4
            obtain ⟨g', off, hA3, hl1, hl2⟩ := hrO.span (List.getElem?_eq_getElem hlast)
            injection hA3 with hA3
            injection hA3 with hA3 hA4
            subst hA3 hA4
            rw [Nat.zero_add] at hl1 hl2
            generalize out[m] = l at *
            have hf1 : wr.frozen? ⟨g, m * 2 + 1, none⟩ = false := by simp [World.frozen?, hgh]
            clear hgh
            have HM := Lib.hid hm
            rw [hm] at hown ⊢
            have hmb : (m : Int) ≤ 1000000 := by omega
            have hlo0 : (0 : Int) ≤ (m : Int) := by omega
            have hlo1 : (m : Int) < (m : Int) + 1 := by omega
            have hw1 : IntKind.i64.wrap ((m : Int) + 1 - 1) = (m : Int) := by rw [IntKind.wrap_i64]; omega
            have hw2 : IntKind.i64.wrap (m : Int) = (m : Int) := by rw [IntKind.wrap_i64]; omega
            clear hm hrO hpos hol
            go_wp2
            generalize hW : wr.alloc (.cells #[.string x.f, .string x.t] 276) = W
            have hbW : Below w1.heap.size w1 W := by rw [← hW]; exact hbr.alloc hsz1 _
            have hWr : Below wr.heap.size wr W := by rw [← hW]; exact (Below.refl _ _).alloc (Nat.le_refl _) _
            have d0 : W.cell? ⟨wr.heap.size, 0, none⟩ = some (.string x.f) := by rw [← hW]; simp
            have d1 : W.cell? ⟨wr.heap.size, 1, none⟩ = some (.string x.t) := by rw [← hW]; simp
            have hl1' := Below.cell_some hWr hl1
            have hl2' := Below.cell_some hWr hl2
            have hsW := hWr.size
            have hgw : g < wr.heap.size := World.block_lt_of_cell? wr _ hl1
            clear hW hl1 hl2
            have hdr : Below W.heap.size W W.drew := (Below.refl _ _).drew
            cases hm : meet4 x.f x.t l.f l.t
            all_goals
              have hmc := fun (v : Value) (W' : World) (h : Rd Span.enc 2 W' v [l]) => meets_calls x.f x.t v [l] W' h
              simp only [List.any_cons, List.any_nil, Bool.or_false, hm] at hmc
              go_region_held3 (fun w' => w'.cell? ⟨wr.heap.size, 0, none⟩ = some (.string x.f) ∧ w'.cell? ⟨wr.heap.size, 1, none⟩ = some (.string x.t) ∧ w'.cell? ⟨g, m * 2, none⟩ = some (.string l.f) ∧ w'.cell? ⟨g, m * 2 + 1, none⟩ = some (.string l.t)) (go_keep)
                ((go_at_call 223; refine (hmc _ _ (rd_one _ _ l (by simp) (by simp))).mono ?_; rintro e w2 ⟨rfl, hb2⟩; have e0 := Below.cell_some hb2 (a := ⟨wr.heap.size, 0, none⟩) (v := .string x.f) (by simp [*]); have e1 := Below.cell_some hb2 (a := ⟨wr.heap.size, 1, none⟩) (v := .string x.t) (by simp [*]); have e2 := Below.cell_some hb2 (a := ⟨g, m * 2, none⟩) (v := .string l.f) (by simp [*]); have e3 := Below.cell_some hb2 (a := ⟨g, m * 2 + 1, none⟩) (v := .string l.t) (by simp [*])))
              have hb3 : Below W.heap.size W w2 := Below.step ((Below.refl _ W).drew.alloc (Nat.le_refl _) _) hb2
              clear hb2 d0 d1 hl1' hl2' hmc hdr
              have hb4 := Below.step hbW hb3
              have hb5 := Below.step hWr hb3
              have hown2 := hown.below hb5
              have hsz2 := hb4.size
            · have HS := Lib.hid (joinStep_no (x := x) (by rw [HM.out]; exact hL.out) hm)
              have hol2 : out.length ≤ 1000001 := by have := HM.out; omega
              go_wp2_with (at_builtin; refine append_oneH w2.heap.size rfl Span.enc 2 47 98 32 _ w1.heap.size _ _ x rfl _ _ rfl Tryz.underlying98 info_span rfl (by decide) (by decide) span_len span_one rfl rfl hown2 hb4 hsz2 (by omega) ?_; intro v' w' hown' hb' hgr hat; clear hgr hat hx1 hx2)
              go_roundw
              case rel =>
                refine ⟨k + 1, by omega, by go_num, ?_, hb'⟩
                rw [HJ2.out, HS.out]
                exact hown'
              case measure => simp [intOf]; omega
            · have HS := Lib.hid (joinStep_meet (x := x) (by rw [HM.out]; exact hL.out) hm)
              have hfz : w2.frozen? ⟨g, m * 2 + 1, none⟩ = false := by rw [hb5.frozen (p := ⟨g, m * 2 + 1, none⟩) hgw]; exact hf1
              have hown3 : Own Span.enc 2 47 w1.heap.size w2.drew (.slice (some ⟨g, 0, none⟩) (m + 1) c3) out := hown2.below (Below.refl _ _).drew
              obtain ⟨o1, _⟩ := hown3.cell span_len m l ⟨l.f, smax l.t x.t⟩ 1 (.string (smax l.t x.t)) hL.out rfl (by decide)
              have O1 := Lib.hid o1
              have hbS : Below w1.heap.size w1 (w2.drew.setCell ⟨g, m * 2 + 1, none⟩ (.string (smax l.t x.t))) := hb4.drew.setCell hgb _
              clear hown hown2 hown3 o1 hf1 hx1 hx2
              go_wp2
              go_still_tail 14, (by kernel_rfl)
              go_wp2
              go_roundw
              case rel =>
                refine ⟨k + 1, by omega, by go_num, ?_, hbS⟩
                rw [HJ2.out, HS.out, HM.out]
                exact O1.out
              case measure => simp [intOf]; omega
        · have hkl : k = ys.length := by omega
          have e : joinAll (ys.take k) = joinF xs := by rw [hkl, List.take_length]; exact hJ.out
          rw [e] at hown ⊢
          have hjl : (joinF xs).length ≤ 1000000 := Nat.le_trans (joinF_spec xs).2.2.2 hl
          clear e
          go_wp2
          go_ret
          exact ⟨_, rfl, ownsRow_lower hown hb1.size, Below.trans hb1 (hbr.mono hb1.size)⟩

end Go.Proofs.YtanjgeacmpmjhaaGreatDoor
