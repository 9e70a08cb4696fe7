import Derived.Test.YtimadkbdkdeepaaDoorPlLawP
set_option linter.unusedVariables false
set_option linter.unusedSimpArgs false
set_option linter.unusedSectionVars false
namespace Go.Proofs.YtimadkbdkdeepaaDoor
open Go.RowKit

attribute [local go_sem ↓] Go.wp_at_zero Go.wp_at_succ

set_option maxHeartbeats 2000000 in
set_option maxRecDepth 100000 in
theorem plansSpans_walk (n : Nat) (hn : n < 4294967296) (v : Value) (xs : List Opn) (k : ByteArray) (w : World) (hT : Tab10 w) (hv : Rd Opn.enc 4 w v xs) (hs : ∀ x ∈ xs, x.ok) (hk : small k) :
    Calls Tryd.prog 4 #[.int .u32 n, v, .string k] w fun e w' => e = .returned (.bool true) ∧ Below w.heap.size w w' := by
  obtain ⟨A, c, rfl, hlc, hc⟩ := hv.shape
  by_cases hlen : xs.length ≤ 100
  · have hs2 : ∀ x ∈ xs, x.k.size ≤ 9223372036854775807 ∧ x.t.size ≤ 9223372036854775807 := fun x hx => by
      obtain ⟨_, h1, h2, _⟩ := hs x hx
      unfold small at h1 h2
      omega
    have hsp := plSpans_calls n hn _ xs w hT hv (by omega) hs2
    have hmk := fun W hW => marker_calls n hn W hW
    have hlv := fun W hW => plives_calls W hW
    have hany := any_allS n xs k
    obtain ⟨hnf, _, _, hjl⟩ := joinF_spec (allS n xs)
    have hjl2 : (joinF (allS n xs)).length ≤ 1000 := by
      have h1 := spsO_len xs
      have h2 : (allS n xs).length = 2 + (spsO xs).length := by unfold allS; rw [List.length_append]; rfl
      omega
    clear hjl hs
    generalize joinF (allS n xs) = J at *
    generalize markT n = mk at *
    have HANY := Lib.hid hany
    have HNF := Lib.hid hnf
    clear hany hnf
    have hlit : (k.toList == [95, 116]) = decide (k = tT) := by rw [← toList_beq, toList_l tT]; rfl
    have hor : decide (k = tT) = true ∨ decide (k = tT) = false := by cases decide (k = tT) <;> simp
    generalize hb0 : (decide (k = tT) || decide (k = mk)) = b0
    rcases hor with ht | ht
    all_goals
      rw [ht] at hlit hb0
      have HT := Lib.hid ht
      have HB0 := Lib.hid hb0
      clear ht hb0
      go_enter Tryd.func4, Tryd.ntmps4
      go_wp2_with (first
        | (go_at_call 8; go_must (refine hsp.mono ?_; rintro e w1 ⟨v1, rfl, own1, hb1⟩; obtain ⟨A1, c1, rfl, hc1, hc1'⟩ := own1.slice; have rd1 := own1.rd span_len; clear own1; have hbx : Below w1.heap.size w1 (w1.alloc (.cells #[.string k, .string k] 36)) := (Below.refl _ w1).alloc (Nat.le_refl _) _; have hB := Below.step hb1 hbx; replace rd1 := rd1.below hbx; have u0 : (w1.alloc (.cells #[.string k, .string k] 36)).cell? ⟨w1.heap.size, 0, none⟩ = some (.string k) := (by simp); have u1 : (w1.alloc (.cells #[.string k, .string k] 36)).cell? ⟨w1.heap.size, 1, none⟩ = some (.string k) := (by simp); have U0 := Lib.hid u0; have U1 := Lib.hid u1; clear u0 u1 hbx hsp))
        | (go_at_call 10; refine (hmk _ (hT.stays hB)).mono ?_; rintro e w2 ⟨rfl, hb2⟩; replace hB := Below.step hB hb2; replace rd1 := rd1.below hb2; replace U0 := Lib.hid (Below.cell_some hb2 U0.out); replace U1 := Lib.hid (Below.cell_some hb2 U1.out); clear hb2))
      go_loopw [9, 10] (fun bv i wr => ∃ m : Nat, m ≤ xs.length ∧ i = .int .i64 m ∧ bv = .bool (b0 || hitO (xs.take m) k) ∧ Below w.heap.size w wr ∧ Rd Span.enc 2 wr (.slice A1 J.length c1) J ∧ wr.cell? ⟨w1.heap.size, 0, none⟩ = some (.string k) ∧ wr.cell? ⟨w1.heap.size, 1, none⟩ = some (.string k)) (fun _ i _ => xs.length - (intOf i).toNat)
      case atStart =>
        refine ⟨0, Nat.zero_le _, rfl, ?_, hB, rd1, U0.out, U1.out⟩
        rw [← HB0.out]
        simp [hitO]
      case round =>
        obtain ⟨m, hm, rfl, rfl, hb, hrd, c0, c1'⟩ := hrel
        clear hB rd1 U0 U1
        by_cases hlt : m < xs.length
        · obtain ⟨b, o, rfl, hx1, hx2, hx3, hx4⟩ := (hv.below hb).opn (List.getElem?_eq_getElem hlt)
          have HS := Lib.hid (hitO_snoc xs m k _ (List.getElem?_eq_getElem hlt))
          obtain ⟨hk1, hk2⟩ := hs2 _ (List.getElem_mem hlt)
          generalize xs[m] = x at *
          obtain ⟨xq, xk, xt, xd⟩ := x
          dsimp only at hx1 hx2 hx3 hx4 hk1 hk2
          rw [show okO ⟨xq, xk, xt, xd⟩ = okOp xq xk xt xd from rfl] at HS
          have i1 := fun W => opcheck_calls xq xk xt xd hk1 hk2 W
          have i2 := fun W => of_calls xq xk xt xd W
          dsimp only at HS
          generalize spanOf xq xk xt = t2 at *
          have i3 := fun W => meet_calls xk t2 k k W
          generalize okOp xq xk xt xd = ok at *
          generalize meet4 xk t2 k k = mt at *
          generalize hbo : (b0 || hitO (xs.take m) k) = bo
          have HBO := Lib.hid hbo
          clear hbo
          replace hx1 := fun p : Later wr => Later.cell p hx1
          replace hx2 := fun p : Later wr => Later.cell p hx2
          replace hx3 := fun p : Later wr => Later.cell p hx3
          replace hx4 := fun p : Later wr => Later.cell p hx4
          have d0 := fun p : Later wr => Later.cell p c0
          have d1 := fun p : Later wr => Later.cell p c1'
          cases bo <;> cases ok
          all_goals
            go_wp2
            refine wp_region_later (by kernel_rfl) (by kernel_rfl) ?_
            repeat (go_big_quiet_step ((first | (go_at_call 11; with_reducible exact Calls.later (i1 _)) | (go_at_call 13; with_reducible exact Calls.later (i2 _)) | (go_at_call 12; with_reducible exact Calls.later (i3 _)))))
            refine wpQuiet_nil ?_
            rintro _ ⟨p, rfl⟩
            clear hx1 hx2 hx3 hx4 i1 i2 i3
            go_wp2
            go_roundw
            case rel => exact ⟨m + 1, by omega, by go_num, by rw [HS.out, ← Bool.or_assoc, HBO.out]; rfl, Below.step hb p.ok, hrd.below p.ok, d0 p, d1 p⟩
            case measure => simp [intOf]; omega
        · have e : (b0 || hitO (xs.take m) k) = J.any fun x => meet4 k k x.f x.t := by
            rw [List.take_of_length_le (by omega), HANY.out, ← HB0.out, HT.out, Bool.or_assoc]
          rw [e]
          have ha := any_calls k k _ J wr hrd
          generalize (J.any fun x => meet4 k k x.f x.t) = q at *
          clear e
          obtain ⟨wo, rfl⟩ : ∃ wo : World, wo = wr := ⟨_, rfl⟩
          cases q
          all_goals
            go_wp2_with (go_at_call 9; refine ha.mono ?_; rintro e w3 ⟨rfl, hb3⟩)
            clear HANY ha c0 c1' HB0 HT hlit
            have hrd3 := hrd.below hb3
            replace hb := Below.step hb hb3
            clear hrd hb3
            go_loopw [11] (fun i wr => ∃ n : Nat, 1 ≤ n ∧ n ≤ J.length + 1 ∧ i = .int .i64 n ∧ Below w3.heap.size w3 wr) (fun i _ => J.length + 2 - (intOf i).toNat)
            case atStart => exact ⟨1, Nat.le_refl _, by omega, by simp, Below.refl _ _⟩
            case round =>
              obtain ⟨n, hn1, hnJ, rfl, hbr⟩ := hrel
              by_cases hlt2 : n < J.length
              · obtain ⟨b, o, rfl, hx1, hx2⟩ := (hrd3.below hbr).span (List.getElem?_eq_getElem hlt2)
                obtain ⟨m, hnm⟩ : ∃ m, n = m + 1 := ⟨n - 1, by omega⟩
                have hlt3 : m < J.length := by omega
                obtain ⟨b', o', hA', hy1, hy2⟩ := (hrd3.below hbr).span (List.getElem?_eq_getElem hlt3)
                injection hA' with hA'
                injection hA' with ea eb
                subst ea eb
                have hXn := List.getElem?_eq_getElem hlt2
                have hxt : slt (J[n]).t (J[n]).f = false := not_slt.2 (HNF.out.1 _ (List.getElem_mem hlt2))
                have hxf := HNF.out.1 _ (List.getElem_mem hlt2)
                generalize J[n] = x at *
                have hxy := not_sle.2 (HNF.out.next (List.getElem?_eq_getElem hlt3) (hnm ▸ hXn))
                have hxy2 := HNF.out.next (List.getElem?_eq_getElem hlt3) (hnm ▸ hXn)
                clear hXn
                generalize J[m] = y at *
                replace hx1 := fun p : Later wr => Later.cell p hx1
                replace hx2 := fun p : Later wr => Later.cell p hx2
                replace hy2 := fun p : Later wr => Later.cell p hy2
                have hmb : (m : Int) ≤ 1000000 := by omega
                have hlo0 : (0 : Int) ≤ (m : Int) := by omega
                have hlo1 : (m : Int) < (J.length : Int) := by omega
                have hw1 : IntKind.i64.wrap ((n : Int) - 1) = (m : Int) := by rw [IntKind.wrap_i64]; omega
                have hw2 : (n : Int) - 1 = (m : Int) := by omega
                have hpos : 0 < n := by omega
                clear hnm
                go_wp2
                refine wp_region_later (by kernel_rfl) (by kernel_rfl) ?_
                repeat (go_big_quiet_step ((fail)))
                refine wpQuiet_nil ?_
                rintro _ ⟨p, rfl⟩
                clear hx1 hx2 hy1 hy2 hw1 hw2
                go_wp2
                go_roundw
                case rel => exact ⟨n + 1, by omega, by omega, by go_num, Below.step hbr p.ok⟩
                case measure => simp [intOf]; omega
              · have hlv2 := hlv wr (hT.stays (Below.step hb hbr))
                go_wp2_with (go_at_call 6; refine hlv2.mono ?_; rintro e w5 ⟨rfl, hb5⟩)
                go_ret
                exact ⟨rfl, Below.step (Below.step hb hbr) hb5⟩
  · go_enter Tryd.func4, Tryd.ntmps4
    go_wp2_with (go_at_call 6; refine (plives_calls _ hT).mono ?_; rintro e w1 ⟨rfl, hb1⟩)
    go_ret
    exact ⟨rfl, hb1⟩

theorem plansSpans_walkI (m : Int) (v : Value) (xs : List Opn) (k : ByteArray) (w : World) (hm : (Lit.int .u32 m).wf = true) (hT : Tab10 w) (hv : Rd Opn.enc 4 w v xs) (hs : ∀ x ∈ xs, x.ok) (hk : small k) :
    Calls Tryd.prog 4 #[.int .u32 m, v, .string k] w fun e w' => e = .returned (.bool true) ∧ Below w.heap.size w w' := by
  obtain ⟨n, rfl, hn⟩ := nat_of_u32 hm
  exact plansSpans_walk n hn v xs k w hT hv hs hk

end Go.Proofs.YtimadkbdkdeepaaDoor
