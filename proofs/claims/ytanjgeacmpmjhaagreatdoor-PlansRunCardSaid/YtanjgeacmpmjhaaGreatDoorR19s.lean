import Derived.Test.YtanjgeacmpmjhaaGreatDoorPlSame
import Derived.Test.YtanjgeacmpmjhaaGreatDoorTwRow
set_option linter.unusedVariables false
set_option linter.unusedSimpArgs false
set_option linter.unusedSectionVars false
namespace Go.Proofs.YtanjgeacmpmjhaaGreatDoor
open Go.RowKit

set_option maxHeartbeats 400000 in
theorem rsameRows19_calls (v u : Value) (xs ys : List Row) (w : World) (hv : Rd Row.enc 2 w v xs) (hu : Rd Row.enc 2 w u ys) :
    Calls Tryz.prog 176 #[v, u] w fun e w' => e = .returned (.bool (decide (xs = ys))) ∧ Below w.heap.size w w' := by
  obtain ⟨A, c, rfl, hl, hc⟩ := hv.shape
  obtain ⟨B, d, rfl, hl', hc'⟩ := hu.shape
  by_cases hn : xs.length = ys.length
  · have hnb : ((xs.length : Int) != ys.length) = false := by simp [hn]
    have HN := Lib.hid hn
    clear hn
    go_enter Tryz.func176, Tryz.ntmps176
    go_wp2
    go_loopw [5] (fun i wr => ∃ k : Nat, k ≤ xs.length ∧ i = .int .i64 k ∧ xs.take k = ys.take k ∧ Below w.heap.size w wr) (fun i _ => xs.length - (intOf i).toNat)
    case atStart => exact ⟨0, Nat.zero_le _, rfl, rfl, Below.refl _ _⟩
    case round =>
      obtain ⟨k, hk, rfl, heq, hb⟩ := hrel
      have HE := Lib.hid heq
      clear heq
      by_cases hlt : k < xs.length
      · have hlt2 : k < ys.length := by have := HN.out; omega
        obtain ⟨b, o, rfl, hx1, hx2⟩ := (hv.below hb).row (List.getElem?_eq_getElem hlt)
        obtain ⟨b', o', rfl, hy1, hy2⟩ := (hu.below hb).row (List.getElem?_eq_getElem hlt2)
        have HT1 := Lib.hid (List.take_succ_eq_append_getElem hlt)
        have HT2 := Lib.hid (List.take_succ_eq_append_getElem hlt2)
        have HX := Lib.hid (List.getElem?_eq_getElem hlt)
        have HY := Lib.hid (List.getElem?_eq_getElem hlt2)
        generalize xs[k] = x at *
        generalize ys[k] = y at *
        replace hx1 := fun p : Later wr => Later.cell p hx1; replace hx2 := fun p : Later wr => Later.cell p hx2
        replace hy1 := fun p : Later wr => Later.cell p hy1; replace hy2 := fun p : Later wr => Later.cell p hy2
        have hneq := neq_row
        have heqg := eqg_row
        by_cases hxy : x = y
        · subst hxy
          go_wp2
          refine wp_region_later (by kernel_rfl) (by kernel_rfl) ?_
          repeat (quiet_step (fail))
          refine wpQuiet_nil ?_
          rintro _ ⟨p, rfl⟩
          clear hx1 hx2 hy1 hy2 hneq heqg
          go_wp2
          go_roundw
          case rel => exact ⟨k + 1, by omega, by go_num, by rw [HT1.out, HT2.out, HE.out], Below.step hb p.ok⟩
          case measure => simp [intOf]; omega
        · have hxb : (decide (x.k = y.k) && decide (x.v = y.v)) = false := by rw [row_eq_b]; exact decide_eq_false hxy
          go_wp2
          refine wp_region_later (by kernel_rfl) (by kernel_rfl) ?_
          repeat (quiet_step (fail))
          refine wpQuiet_nil ?_
          rintro _ ⟨p, rfl⟩
          clear hx1 hx2 hy1 hy2 hneq heqg
          go_wp2
          go_ret
          refine ⟨ret_bool (decide_eq_false fun h => hxy ?_).symm, Below.step hb p.ok⟩
          have h1 := HX.out
          have h2 := HY.out
          rw [h, h2] at h1
          exact (Option.some.inj h1).symm
      · go_wp2
        go_ret
        have := HE.out
        rw [List.take_of_length_le (by omega), List.take_of_length_le (by have := HN.out; omega)] at this
        exact ⟨ret_bool (by simp [this]), hb⟩
  · have hnb : ((xs.length : Int) != ys.length) = true := by simp; omega
    go_enter Tryz.func176, Tryz.ntmps176
    go_wp2
    go_ret
    exact ⟨ret_bool (by simp; intro h; exact hn (by rw [h])), Below.refl _ _⟩

theorem rsameRowsS (s t : SlV) (xs ys : List Row) (w : World) (hv : Rd Row.enc 2 w s.val xs) (hu : Rd Row.enc 2 w t.val ys) :
    Calls Tryz.prog 176 #[.slice s.A s.n s.c, .slice t.A t.n t.c] w fun e w' => e = .returned (.bool (decide (xs = ys))) ∧ Below w.heap.size w w' := rsameRows19_calls _ _ xs ys w hv hu

set_option maxHeartbeats 800000 in
theorem sameResult_calls (s t : SlV) (xs ys : List Row) (w : World) (hv : Rd Row.enc 2 w s.val xs) (hu : Rd Row.enc 2 w t.val ys) :
    Calls Tryz.prog 171 #[.agg #[.slice s.A s.n s.c], .agg #[.slice t.A t.n t.c]] w fun e w' => e = .returned (.bool (decide (xs = ys))) ∧ Below w.heap.size w w' := by
  have hb1 : Below w.heap.size w ((w.alloc (.cells #[.slice s.A s.n s.c] 174)).alloc (.cells #[.slice t.A t.n t.c] 174)) := ((Below.refl _ _).alloc (Nat.le_refl _) _).alloc (by simp) _
  have he := sameRows_calls _ _ xs ys _ (hv.below hb1) (hu.below hb1)
  go_enter Tryz.func171, Tryz.ntmps171
  go_wp2_with (go_at_call 20; refine he.mono ?_; rintro e w1 ⟨rfl, hb2⟩)
  go_ret
  exact ⟨rfl, Below.step hb1 hb2⟩

set_option maxRecDepth 100000 in
set_option maxHeartbeats 1600000 in
theorem rsame19_calls (v u : Value) (rs qs : List (List Row)) (w : World) (hv : RdRes w v rs) (hu : RdRes w u qs) :
    Calls Tryz.prog 77 #[v, u] w fun e w' => e = .returned (.bool (decide (rs = qs))) ∧ Below w.heap.size w w' := by
  obtain ⟨ss, hr, hlen, hrow⟩ := hv
  obtain ⟨ts, hq, hlen2, hrow2⟩ := hu
  obtain ⟨A, c, rfl, hlc, hc⟩ := hr.shape
  obtain ⟨B, d, rfl, hlc', hc'⟩ := hq.shape
  have HL := Lib.hid hlen
  have HL2 := Lib.hid hlen2
  clear hlen hlen2
  by_cases hn : ss.length = ts.length
  · have hnb : ((ss.length : Int) != ts.length) = false := by simp [hn]
    have HN := Lib.hid hn
    clear hn
    go_enter Tryz.func77, Tryz.ntmps77
    go_wp2
    go_loopw [5] (fun i wr => ∃ k : Nat, k ≤ ss.length ∧ i = .int .i64 k ∧ rs.take k = qs.take k ∧ Below w.heap.size w wr) (fun i _ => ss.length - (intOf i).toNat)
    case atStart => exact ⟨0, Nat.zero_le _, rfl, rfl, Below.refl _ _⟩
    case round =>
      obtain ⟨k, hk, rfl, htk, hb⟩ := hrel
      have HTK := Lib.hid htk
      clear htk
      by_cases hlt : k < ss.length
      · have hlt2 : k < ts.length := by rw [← HN.out]; exact hlt
        have hlt3 : k < rs.length := by rw [← HL.out]; exact hlt
        have hlt4 : k < qs.length := by rw [← HL2.out]; exact hlt2
        obtain ⟨b, o, rfl, hx1⟩ := (hr.below hb).slv (List.getElem?_eq_getElem hlt)
        obtain ⟨b2, o2, rfl, hy1⟩ := (hq.below hb).slv (List.getElem?_eq_getElem hlt2)
        have HE := Lib.hid (eq_take rs qs k _ _ (List.getElem?_eq_getElem hlt3) (List.getElem?_eq_getElem hlt4) HTK.out)
        have hx := hrow k _ _ (List.getElem?_eq_getElem hlt) (List.getElem?_eq_getElem hlt3)
        have hy := hrow2 k _ _ (List.getElem?_eq_getElem hlt2) (List.getElem?_eq_getElem hlt4)
        generalize ss[k] = s at *
        generalize ts[k] = t at *
        generalize rs[k] = x at *
        generalize qs[k] = y at *
        replace hx1 := fun p : Later wr => Later.cell p hx1
        replace hy1 := fun p : Later wr => Later.cell p hy1
        have i1 := fun p : Later wr => rsameRowsS s t x y p.val ((hx.below hb).below p.ok) ((hy.below hb).below p.ok)
        clear hx hy hlt3 hlt4
        by_cases hxy : x = y
        · have hd : decide (x = y) = true := decide_eq_true hxy
          rw [hd] at i1
          have HXY := Lib.hid hxy
          clear hxy hd
          go_wp2
          refine wp_region_later (by kernel_rfl) (by kernel_rfl) ?_
          repeat (go_big_quiet_step ((go_at_call 176; with_reducible exact Calls.later (i1 _))))
          refine wpQuiet_nil ?_
          rintro _ ⟨p, rfl⟩
          clear hx1 hy1 i1
          go_wp2
          go_roundw
          case rel => exact ⟨k + 1, by omega, by go_num, HE.out.1 HXY.out, Below.step hb p.ok⟩
          case measure => simp [intOf]; omega
        · have hd : decide (x = y) = false := decide_eq_false hxy
          rw [hd] at i1
          have HXY := Lib.hid hxy
          clear hxy hd
          go_wp2
          refine wp_region_later (by kernel_rfl) (by kernel_rfl) ?_
          repeat (go_big_quiet_step ((go_at_call 176; with_reducible exact Calls.later (i1 _))))
          refine wpQuiet_nil ?_
          rintro _ ⟨p, rfl⟩
          clear hx1 hy1 i1
          go_wp2
          go_ret
          exact ⟨ret_bool (decide_eq_false (HE.out.2 HXY.out)).symm, Below.step hb p.ok⟩
      · have e : rs = qs := by
          have h1 := HTK.out
          rw [List.take_of_length_le (by rw [← HL.out]; omega), List.take_of_length_le (by rw [← HL2.out, ← HN.out]; omega)] at h1
          exact h1
        have HEQ := Lib.hid e
        clear e
        go_wp2
        go_ret
        exact ⟨ret_bool (decide_eq_true HEQ.out).symm, hb⟩
  · have hnb : ((ss.length : Int) != ts.length) = true := by simp; omega
    have HN := Lib.hid hn
    clear hn
    go_enter Tryz.func77, Tryz.ntmps77
    go_wp2
    go_ret
    exact ⟨ret_bool (decide_eq_false (fun e => HN.out (by rw [HL.out, HL2.out, e]))).symm, Below.refl _ _⟩

set_option maxRecDepth 100000 in
set_option maxHeartbeats 1600000 in
theorem sameResults_calls (v u : Value) (rs qs : List (List Row)) (w : World) (hv : RdRes w v rs) (hu : RdRes w u qs) :
    Calls Tryz.prog 73 #[v, u] w fun e w' => e = .returned (.bool (decide (rs = qs))) ∧ Below w.heap.size w w' := by
  obtain ⟨ss, hr, hlen, hrow⟩ := hv
  obtain ⟨ts, hq, hlen2, hrow2⟩ := hu
  obtain ⟨A, c, rfl, hlc, hc⟩ := hr.shape
  obtain ⟨B, d, rfl, hlc', hc'⟩ := hq.shape
  have HL := Lib.hid hlen
  have HL2 := Lib.hid hlen2
  clear hlen hlen2
  by_cases hn : ss.length = ts.length
  · have hnb : ((ss.length : Int) != ts.length) = false := by simp [hn]
    have HN := Lib.hid hn
    clear hn
    go_enter Tryz.func73, Tryz.ntmps73
    go_wp2
    go_loopw [5] (fun i wr => ∃ k : Nat, k ≤ ss.length ∧ i = .int .i64 k ∧ rs.take k = qs.take k ∧ Below w.heap.size w wr) (fun i _ => ss.length - (intOf i).toNat)
    case atStart => exact ⟨0, Nat.zero_le _, rfl, rfl, Below.refl _ _⟩
    case round =>
      obtain ⟨k, hk, rfl, htk, hb⟩ := hrel
      have HTK := Lib.hid htk
      clear htk
      by_cases hlt : k < ss.length
      · have hlt2 : k < ts.length := by rw [← HN.out]; exact hlt
        have hlt3 : k < rs.length := by rw [← HL.out]; exact hlt
        have hlt4 : k < qs.length := by rw [← HL2.out]; exact hlt2
        obtain ⟨b, o, rfl, hx1⟩ := (hr.below hb).slv (List.getElem?_eq_getElem hlt)
        obtain ⟨b2, o2, rfl, hy1⟩ := (hq.below hb).slv (List.getElem?_eq_getElem hlt2)
        have HE := Lib.hid (eq_take rs qs k _ _ (List.getElem?_eq_getElem hlt3) (List.getElem?_eq_getElem hlt4) HTK.out)
        have hx := hrow k _ _ (List.getElem?_eq_getElem hlt) (List.getElem?_eq_getElem hlt3)
        have hy := hrow2 k _ _ (List.getElem?_eq_getElem hlt2) (List.getElem?_eq_getElem hlt4)
        generalize ss[k] = s at *
        generalize ts[k] = t at *
        generalize rs[k] = x at *
        generalize qs[k] = y at *
        replace hx1 := fun p : Later wr => Later.cell p hx1
        replace hy1 := fun p : Later wr => Later.cell p hy1
        have i1 := fun p : Later wr => sameResult_calls s t x y p.val ((hx.below hb).below p.ok) ((hy.below hb).below p.ok)
        clear hx hy hlt3 hlt4
        by_cases hxy : x = y
        · have hd : decide (x = y) = true := decide_eq_true hxy
          rw [hd] at i1
          have HXY := Lib.hid hxy
          clear hxy hd
          go_wp2
          refine wp_region_later (by kernel_rfl) (by kernel_rfl) ?_
          repeat (go_big_quiet_step ((go_at_call 171; with_reducible exact Calls.later (i1 _))))
          refine wpQuiet_nil ?_
          rintro _ ⟨p, rfl⟩
          clear hx1 hy1 i1
          go_wp2
          go_roundw
          case rel => exact ⟨k + 1, by omega, by go_num, HE.out.1 HXY.out, Below.step hb p.ok⟩
          case measure => simp [intOf]; omega
        · have hd : decide (x = y) = false := decide_eq_false hxy
          rw [hd] at i1
          have HXY := Lib.hid hxy
          clear hxy hd
          go_wp2
          refine wp_region_later (by kernel_rfl) (by kernel_rfl) ?_
          repeat (go_big_quiet_step ((go_at_call 171; with_reducible exact Calls.later (i1 _))))
          refine wpQuiet_nil ?_
          rintro _ ⟨p, rfl⟩
          clear hx1 hy1 i1
          go_wp2
          go_ret
          exact ⟨ret_bool (decide_eq_false (HE.out.2 HXY.out)).symm, Below.step hb p.ok⟩
      · have e : rs = qs := by
          have h1 := HTK.out
          rw [List.take_of_length_le (by rw [← HL.out]; omega), List.take_of_length_le (by rw [← HL2.out, ← HN.out]; omega)] at h1
          exact h1
        have HEQ := Lib.hid e
        clear e
        go_wp2
        go_ret
        exact ⟨ret_bool (decide_eq_true HEQ.out).symm, hb⟩
  · have hnb : ((ss.length : Int) != ts.length) = true := by simp; omega
    have HN := Lib.hid hn
    clear hn
    go_enter Tryz.func73, Tryz.ntmps73
    go_wp2
    go_ret
    exact ⟨ret_bool (decide_eq_false (fun e => HN.out (by rw [HL.out, HL2.out, e]))).symm, Below.refl _ _⟩

end Go.Proofs.YtanjgeacmpmjhaaGreatDoor
