import Derived.Test.YtanjgeacmpmjhaaGreatDoorR14b
set_option linter.unusedVariables false
set_option linter.unusedSimpArgs false
set_option linter.unusedSectionVars false
namespace Go.Proofs.YtanjgeacmpmjhaaGreatDoor
open Go.RowKit

theorem rowsIn_full (f t : Str) (xs : List Row) (m N : Nat) (h : N ≤ ((rowsIn f t (xs.take m)).take N).length) : (rowsIn f t (xs.take m)).take N = (rowsIn f t xs).take N := by
  have e : rowsIn f t xs = rowsIn f t (xs.take m) ++ rowsIn f t (xs.drop m) := by
    unfold rowsIn
    rw [← List.filter_append, List.take_append_drop]
  rw [List.length_take] at h
  rw [e, List.take_append_of_le_length (by omega)]

set_option maxHeartbeats 800000 in
set_option maxRecDepth 100000 in
theorem rscan14_calls {w : World} {v : Value} {ys : List Row} (hrd : Rd Row.enc 2 w v ys) (hl : ys.length ≤ 1000000) (hokx : ∀ x ∈ ys, x.k.size ≤ 9223372036854775807) (f t : ByteArray) (hf : f.size ≤ 9223372036854775807) (ht : t.size ≤ 9223372036854775807) (most : Int) :
    Calls Tryz.prog 138 #[v, .agg #[.string f, .string t], .int .i64 most] w fun e w' => ∃ v', e = .returned v' ∧ Below w.heap.size w w' ∧ Own Row.enc 2 44 w.heap.size w' v' ((rowsIn f t ys).take most.toNat) := by
  obtain ⟨A, c, rfl, hlc, hc⟩ := hrd.shape
  obtain ⟨N, hN⟩ : ∃ N, most.toNat = N := ⟨_, rfl⟩
  obtain ⟨Z, hZ⟩ : ∃ Z, (rowsIn f t ys).take N = Z := ⟨_, rfl⟩
  rw [hN, hZ]
  have HZ := Lib.hid hZ
  clear hZ
  have hb0 : Below w.heap.size w (w.alloc (.cells #[.string f, .string t] 47)) := (Below.refl _ w).alloc (Nat.le_refl _) _
  have k0 : (w.alloc (.cells #[.string f, .string t] 47)).cell? ⟨w.heap.size, 0, none⟩ = some (.string f) := by rw [heap_cell (alloc_new w _)]; rfl
  have k1 : (w.alloc (.cells #[.string f, .string t] 47)).cell? ⟨w.heap.size, 1, none⟩ = some (.string t) := by rw [heap_cell (alloc_new w _)]; rfl
  go_enter Tryz.func138, Tryz.ntmps138
  go_wp2
  generalize hW0 : w.alloc (.cells #[.string f, .string t] 47) = W0 at *
  clear hW0
  replace hrd := hrd.below hb0
  go_loopw [7, 8] (fun ov iv wr => ∃ (m : Nat) (os : List Row), m ≤ ys.length ∧ iv = .int .i64 m ∧ (rowsIn f t (ys.take m)).take N = os ∧ os.length ≤ m ∧ Own Row.enc 2 44 W0.heap.size wr ov os ∧ Below W0.heap.size W0 wr) (fun _ iv _ => ys.length - (intOf iv).toNat)
  case atStart => exact ⟨0, [], Nat.zero_le _, rfl, by simp [rowsIn], by simp, Own.nil Row.enc 2 44 W0.heap.size W0, Below.refl _ _⟩
  case round =>
    obtain ⟨m, os, hm, rfl, hos, hol, hown, hb⟩ := hrel
    have hs := hb.size
    have HOS := Lib.hid hos
    clear hos
    obtain ⟨Ao, co, rfl, hlo, hco⟩ := hown.slice
    by_cases hlt : m < ys.length
    · by_cases hmo : (os.length : Int) < most
      · have hx := List.getElem?_eq_getElem hlt
        obtain ⟨b, o, rfl, hx1, hx2⟩ := (hrd.below hb).row hx
        have hxs := hokx _ (List.getElem_mem hlt)
        have HSN := Lib.hid (rowsIn_snoc f t N ys m _ hx)
        generalize ys[m] = x at *
        have e1 := fun p : Later wr => Later.cell p (Below.cell_some hb k0)
        have e2 := fun p : Later wr => Later.cell p (Below.cell_some hb k1)
        have f1 := fun p : Later wr => Later.cell p hx1
        have hin := fun p : Later wr => rin_calls x.k f t p.val hxs hf ht
        have HB := Lib.hid hb
        have HO := Lib.hid hown
        have HX := Lib.hid (And.intro hx1 hx2)
        clear hown hb hx hx1 hx2 hrd k0 k1 hokx
        cases hsin : sin x.k f t
        · simp only [hsin] at hin
          have HE : RowKit.Hid ((rowsIn f t (ys.take (m + 1))).take N = os) := by
            have := HSN.out
            rw [hsin, HOS.out] at this
            exact Lib.hid (by simpa using this)
          go_wp2
          refine wp_region_later (by kernel_rfl) (by kernel_rfl) ?_
          repeat (go_big_quiet_step ((go_at_call 91; with_reducible exact Calls.later (hin _))))
          refine wpQuiet_nil ?_
          rintro _ ⟨p, rfl⟩
          clear e1 e2 f1 hin
          go_wp2
          go_roundw
          case rel => exact ⟨m + 1, os, by omega, by go_num, HE.out, by omega, HO.out.below p.ok, Below.step HB.out p.ok⟩
          case measure => simp [intOf]; omega
        · simp only [hsin] at hin
          have HE : RowKit.Hid ((rowsIn f t (ys.take (m + 1))).take N = os ++ [x]) := by
            have := HSN.out
            rw [HOS.out, if_pos ⟨hsin, by omega⟩] at this
            exact Lib.hid this
          go_wp2
          refine wp_region_later (by kernel_rfl) (by kernel_rfl) ?_
          repeat (go_big_quiet_step ((go_at_call 91; with_reducible exact Calls.later (hin _))))
          refine wpQuiet_nil ?_
          rintro _ ⟨p, rfl⟩
          have f3 := f1 p
          have f4 := Later.cell p HX.out.2
          have HO3 := Lib.hid (HO.out.below p.ok)
          have HB3 := Lib.hid (Below.step HB.out p.ok)
          have hs3 := HB3.out.size
          clear e1 e2 f1 hin HO HB hs HX
          go_wp2_with (at_builtin; refine append_one Row.enc 2 44 56 24 _ W0.heap.size _ _ x rfl _ _ rfl Tryz.underlying56 info_rowR14 rfl (by decide) (by decide) row_len row_one rfl rfl HO3.out HB3.out hs3 (by omega) ?_; intro v' w' hown' hb' hgr hat; clear hgr hat)
          go_roundw
          case rel => exact ⟨m + 1, os ++ [x], by omega, by go_num, HE.out, by simp; omega, hown', hb'⟩
          case measure => simp [intOf]; omega
      · have HF := Lib.hid (And.intro hown (Below.step hb0 hb))
        have HQ := Lib.hid (show os = Z by rw [← HZ.out, ← rowsIn_full f t ys m N (by rw [HOS.out]; omega)]; exact HOS.out.symm)
        have hs0 := hb0.size
        clear hown hb
        go_wp2
        go_ret
        exact ⟨_, rfl, HF.out.2, by rw [← HQ.out]; exact HF.out.1.lower hs0⟩
    · have hme : m = ys.length := by omega
      subst hme
      have hz := HOS.out
      rw [List.take_length] at hz
      have HQ := Lib.hid (hz.symm.trans HZ.out)
      have HF := Lib.hid (And.intro hown (Below.step hb0 hb))
      have hs0 := hb0.size
      clear hown hb hz
      go_wp2
      go_ret
      exact ⟨_, rfl, HF.out.2, by rw [← HQ.out]; exact HF.out.1.lower hs0⟩

set_option maxHeartbeats 800000 in
set_option maxRecDepth 100000 in
theorem rchange14_calls {base : Nat} {w : World} {v : Value} {ys : List Row} (h : Own Row.enc 2 44 base w v ys) (hbase : base ≤ w.heap.size) (hr : Rising ys) {vc : Value} {cs : List Change} (hv : Rd Change.enc 3 w vc cs) (hl : ys.length + cs.length ≤ 1000000) :
    Calls Tryz.prog 134 #[v, vc] w fun e w' => ∃ v', e = .returned v' ∧ Own Row.enc 2 44 base w' v' (doCs cs ys) ∧ Below w.heap.size w w' := by
  obtain ⟨A, c, rfl, hlc, hc⟩ := hv.shape
  obtain ⟨Z, hZ⟩ : ∃ Z, doCs cs ys = Z := ⟨_, rfl⟩
  rw [hZ]
  have HZ := Lib.hid hZ
  clear hZ
  go_enter Tryz.func134, Tryz.ntmps134
  go_wp2
  go_loopw [0, 5] (fun lv iv wr => ∃ m : Nat, m ≤ cs.length ∧ iv = .int .i64 m ∧ Own Row.enc 2 44 base wr lv (doCs (cs.take m) ys) ∧ Below w.heap.size w wr) (fun _ iv _ => cs.length - (intOf iv).toNat)
  case atStart => exact ⟨0, Nat.zero_le _, rfl, h, Below.refl _ _⟩
  case round =>
    obtain ⟨m, hm, rfl, hown, hb⟩ := hrel
    have hsz := hb.size
    have hln := doCs_length (cs.take m) ys
    rw [List.length_take] at hln
    have hri := doCs_rising (cs.take m) hr
    have hbase2 : base ≤ wr.heap.size := by omega
    by_cases hlt : m < cs.length
    · have hx := List.getElem?_eq_getElem hlt
      obtain ⟨b, o, rfl, hx1, hx2, hx3⟩ := (hv.below hb).change hx
      have HSN := Lib.hid (doCs_snoc cs m _ hx ys)
      generalize cs[m] = x at *
      obtain ⟨xk, xv, xg⟩ := x
      unfold doC at HSN
      simp only at hx1 hx2 hx3 HSN
      obtain ⟨Al, cl, rfl, _, _⟩ := hown.slice
      have HB := Lib.hid hb
      have hdel := rdel14_calls hown hbase2 hri (by omega) xk
      have hput : ∀ w2, Below wr.heap.size wr w2 → _ := fun w2 h2 => rput14_calls (hown.below h2) hri (by omega) xk xv
      have HPUT := Lib.hid hput
      clear hown hb hx hput
      generalize doCs (cs.take m) ys = zs at *
      cases xg
      · have HS2 : RowKit.Hid (doCs (cs.take (m + 1)) ys = putL xk xv zs) := Lib.hid (by rw [HSN.out]; rfl)
        clear hdel
        go_wp2
        go_still_tail 11, (by kernel_rfl)
        change wpList _ _ _ _ _ wr.drew
        generalize hw2 : wr.drew = w2
        have hbd : Below wr.heap.size wr w2 := by rw [← hw2]; exact (Below.refl _ wr).drew
        clear hw2 hx1 hx2 hx3
        go_wp2_with (go_at_call 169; refine (HPUT.out _ hbd).mono ?_; rintro e w3 ⟨v3, rfl, o3, h3⟩)
        go_roundw
        case rel => exact ⟨m + 1, by omega, by go_num, by rw [HS2.out]; exact o3.lower (by have := hbd.size; omega), Below.step (Below.step HB.out hbd) h3⟩
        case measure => simp [intOf]; omega
      · have HS2 : RowKit.Hid (doCs (cs.take (m + 1)) ys = delL xk zs) := Lib.hid (by rw [HSN.out]; rfl)
        go_wp2_with (go_at_call 170; refine hdel.mono ?_; rintro e w3 ⟨v3, rfl, o3, h3⟩)
        go_roundw
        case rel => exact ⟨m + 1, by omega, by go_num, by rw [HS2.out]; exact o3, Below.step HB.out h3⟩
        case measure => simp [intOf]; omega
    · have hme : m = cs.length := by omega
      subst hme
      rw [List.take_length] at hown
      have hz := HZ.out
      rw [hz] at hown
      obtain ⟨Al, cl, rfl, _, _⟩ := hown.slice
      have HF := Lib.hid (And.intro hown hb)
      clear hown hb
      go_wp2
      go_ret
      exact ⟨_, rfl, HF.out.1, HF.out.2⟩

end Go.Proofs.YtanjgeacmpmjhaaGreatDoor
