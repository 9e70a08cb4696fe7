import Derived.Test.YtanjgeacmpmjhaaGreatDoorR14
set_option linter.unusedVariables false
set_option linter.unusedSimpArgs false
set_option linter.unusedSectionVars false
namespace Go.Proofs.YtanjgeacmpmjhaaGreatDoor
open Go.RowKit

section
variable {P : Program} {ops : Array Oper} {o : Oper} {a : Act} {w : World} {K : Act → World → Prop} {Q : Exit → Act → World → Prop}
/-- Which operation it is, ahead of a law whose unifying may run away at another one. -/
theorem step_tag {E : Prop} (n : Nat) (hd : o.dst = some n) (h : if Region.wanted o (yielded ops a.tmps) = true then Oper.wp P o a w K Q else E) : if Region.wanted o (yielded ops a.tmps) = true then Oper.wp P o a w K Q else E := h
end

set_option maxHeartbeats 1000000 in
set_option maxRecDepth 100000 in
/-- The reference's Del. -/
theorem rdel14_calls {base : Nat} {w : World} {v : Value} {xs : List Row} (h : Own Row.enc 2 44 base w v xs) (hbase : base ≤ w.heap.size) (hr : Rising xs) (hl : xs.length ≤ 1000000) (k : ByteArray) :
    Calls Tryz.prog 170 #[v, .string k] w fun e w' => ∃ v', e = .returned v' ∧ Own Row.enc 2 44 base w' v' (delL k xs) ∧ Below w.heap.size w w' := by
  have hrd := h.rd row_len
  have hf := rfind_calls v xs k w hrd hr hl
  obtain ⟨A, c, rfl, hlc, hc⟩ := hrd.shape
  have hple := posL_le k xs
  cases hg : getL k xs with
  | none =>
    rw [del_none k xs hg]
    rw [hg] at hf
    simp only [Option.isSome_none] at hf
    have HO := Lib.hid h
    clear h hrd hg
    go_enter Tryz.func170, Tryz.ntmps170
    go_wp2_with (go_at_call 137; refine hf.mono ?_; rintro e _ ⟨rfl, rfl⟩)
    go_ret
    exact ⟨_, rfl, HO.out, Below.refl _ _⟩
  | some u =>
    obtain ⟨hlt, _, _, hdel⟩ := put_over k 0 xs u hg hr
    rw [hdel]
    rw [hg] at hf
    simp only [Option.isSome_some] at hf
    clear hdel hg
    generalize posL k xs = p at *
    obtain ⟨b, o, hA, _⟩ := hrd.at_ (List.getElem?_eq_getElem hlt)
    subst hA
    have hlt1 : (xs.take p).length = p := by rw [List.length_take]; omega
    have hlt2 : (xs.drop (p + 1)).length = xs.length - (p + 1) := List.length_drop
    have hdr := (Below.refl w.heap.size w).drew
    obtain ⟨_, w9, hr1, A9, c9, rfl, ho9, hb9'⟩ := run_copy_all (P := Tryz.prog) (W := w.drew) Row.enc 2 44 56 56 24 _ (xs.take p) (some ⟨b, o, none⟩) p c Tryz.underlying56 info_rowR14 rfl (by decide) (by decide) row_len row_one hlt1.symm ((hrd.takeQ p hple).below hdr) (by omega)
    have hb9 := Below.step hdr hb9'
    have ho9l : Own Row.enc 2 44 w.heap.size w9 (.slice A9 p c9) (xs.take p) := ho9
    have hpc : p ≤ c := by omega
    have hp1 : (p : Int) + 1 ≤ (xs.length : Int) := by omega
    have hp0 : (0 : Int) ≤ (p : Int) + 1 := by omega
    have hpw : IntKind.i64.wrap ((p : Int) + 1) = (p : Int) + 1 := by rw [IntKind.wrap_i64]; omega
    have hpn : ((p : Int) + 1).toNat = p + 1 := by omega
    have hex : ∃ A', (A' = if c = p + 1 then some (⟨b, o, none⟩ : Addr) else some ⟨b, o + (p + 1) * 2, none⟩) := ⟨_, rfl⟩
    obtain ⟨A', hA'⟩ := hex
    have hrdA : Rd Row.enc 2 w9 (.slice A' (xs.length - (p + 1)) (c - (p + 1))) (xs.drop (p + 1)) := by
      have h0 := (hrd.cut (p + 1) (by omega)).below hb9
      rw [hA']
      simpa [Addr.add_lit] using h0
    rw [← hlt2] at hrdA
    obtain ⟨v10, w10, hr2, ho10, hb10, -⟩ := run_append_all (P := Tryz.prog) (w0 := w) (W := w9) Row.enc 2 44 56 56 24 _ w.heap.size (.slice A9 p c9) (xs.take p) (xs.drop (p + 1)) A' (c - (p + 1)) Tryz.underlying56 info_rowR14 rfl (by decide) (by decide) row_len row_one hrdA ho9l hb9 hb9.size (by omega)
    rw [hlt2] at hr2
    rw [hA'] at hr2
    clear hrdA hA' ho9 ho9l hb9 hb9' h hrd hlt1 hlt2 hdr
    go_enter Tryz.func170, Tryz.ntmps170
    go_wp2_with (go_at_call 137; refine hf.mono ?_; rintro e _ ⟨rfl, rfl⟩)
    go_region_law (first
      | (refine step_tag 24 (by with_reducible rfl) ?_; refine step_append_runB rfl (.tmp 19) (.tmp 23) 56 rfl rfl rfl hr2 ?_)
      | (refine step_tag 19 (by with_reducible rfl) ?_; refine step_append_runB rfl (.const (.slice none 0 0)) (.tmp 18) 56 rfl rfl rfl hr1 ?_))
    all_goals
      go_wp2
      all_goals
        go_ret
        exact ⟨_, rfl, Own.lower ho10 hbase, hb10⟩

set_option maxHeartbeats 800000 in
set_option maxRecDepth 100000 in
/-- The reference's May. -/
theorem rmay14_calls {w : World} {vc : Value} {cs : List Change} (hv : Rd Change.enc 3 w vc cs) (hl : cs.length ≤ 1000000) (hs : ∀ x ∈ cs, x.k.size ≤ 9223372036854775807) :
    Calls Tryz.prog 133 #[vc] w fun e w' => e = .returned (.bool (cs.all okChange)) ∧ Below w.heap.size w w' := by
  obtain ⟨A, c, rfl, hlc, hc⟩ := hv.shape
  obtain ⟨E, hE⟩ : ∃ E : Bool, cs.all okChange = E := ⟨_, rfl⟩
  rw [hE]
  have HE := Lib.hid hE
  clear hE
  go_enter Tryz.func133, Tryz.ntmps133
  go_wp2
  go_loopw [3] (fun iv wr => ∃ m : Nat, m ≤ cs.length ∧ iv = .int .i64 m ∧ (cs.take m).all okChange = true ∧ Below w.heap.size w wr) (fun iv _ => cs.length - (intOf iv).toNat)
  case atStart => exact ⟨0, Nat.zero_le _, rfl, rfl, Below.refl _ _⟩
  case round =>
    obtain ⟨m, hm, rfl, hal, hb⟩ := hrel
    by_cases hlt : m < cs.length
    · have hx := List.getElem?_eq_getElem hlt
      obtain ⟨b, o, rfl, hx1, hx2, hx3⟩ := (hv.below hb).change hx
      have hxs := hs _ (List.getElem_mem hlt)
      have hck := rcheck_calls cs[m].k wr hxs
      have hsn : (cs.take (m + 1)).all okChange = ((cs.take m).all okChange && okChange cs[m]) := by rw [List.take_succ_eq_append_getElem hlt, List.all_append]; simp
      rw [hal, Bool.true_and] at hsn
      have hfull : okChange cs[m] = false → cs.all okChange = false := fun h => by
        rw [Bool.eq_false_iff]
        intro h'
        rw [List.all_eq_true.1 h' _ (List.getElem_mem hlt)] at h
        cases h
      have HX := Lib.hid hx
      generalize cs[m] = x at *
      obtain ⟨xk, xv, xg⟩ := x
      have HB := Lib.hid hb
      have HSN := Lib.hid hsn
      have HFU := Lib.hid hfull
      have HX2 := Lib.hid (And.intro hx2 hx3)
      clear hb hsn hfull hx hal hs
      simp only at *
      cases hkk : okKey xk
      · rw [hkk] at hck
        have HO : RowKit.Hid (okChange ⟨xk, xv, xg⟩ = false) := Lib.hid (by simp [okChange, hkk])
        go_wp2_with (go_at_call 83; refine hck.mono ?_; rintro e w1 ⟨rfl, hb1⟩)
        go_ret
        exact ⟨ret_bool ((HFU.out HO.out).symm.trans HE.out), Below.step HB.out hb1⟩
      · rw [hkk] at hck
        cases xg
        · have HO : RowKit.Hid (okChange ⟨xk, xv, false⟩ = true) := Lib.hid (by simp [okChange, hkk])
          go_wp2_with (go_at_call 83; refine hck.mono ?_; rintro e w1 ⟨rfl, hb1⟩; have g2 := Below.cell_some hb1 HX2.out.1; have g3 := Below.cell_some hb1 HX2.out.2)
          go_roundw
          case rel => exact ⟨m + 1, by omega, by go_num, by rw [HSN.out]; exact HO.out, Below.step HB.out hb1⟩
          case measure => simp [intOf]; omega
        · by_cases hv0 : xv = 0
          · subst hv0
            have HO : RowKit.Hid (okChange ⟨xk, 0, true⟩ = true) := Lib.hid (by simp [okChange, hkk])
            go_wp2_with (go_at_call 83; refine hck.mono ?_; rintro e w1 ⟨rfl, hb1⟩; have g2 := Below.cell_some hb1 HX2.out.1; have g3 := Below.cell_some hb1 HX2.out.2)
            go_roundw
            case rel => exact ⟨m + 1, by omega, by go_num, by rw [HSN.out]; exact HO.out, Below.step HB.out hb1⟩
            case measure => simp [intOf]; omega
          · have HO : RowKit.Hid (okChange ⟨xk, xv, true⟩ = false) := Lib.hid (by simp [okChange, hkk, hv0])
            have hne : (xv != 0) = true := by simp [hv0]
            go_wp2_with (go_at_call 83; refine hck.mono ?_; rintro e w1 ⟨rfl, hb1⟩; have g2 := Below.cell_some hb1 HX2.out.1; have g3 := Below.cell_some hb1 HX2.out.2)
            go_ret
            exact ⟨ret_bool ((HFU.out HO.out).symm.trans HE.out), Below.step HB.out hb1⟩
    · have hme : m = cs.length := by omega
      subst hme
      rw [List.take_length] at hal
      have HT := Lib.hid (hal.symm.trans HE.out)
      clear hal
      go_wp2
      go_ret
      exact ⟨ret_bool HT.out, hb⟩

end Go.Proofs.YtanjgeacmpmjhaaGreatDoor
