import Derived.Test.YtanjgeacmpmjhaaGreatDoorMgPlansCheckUpto9
set_option linter.unusedVariables false
set_option linter.unusedSimpArgs false
namespace Go.Proofs.YtanjgeacmpmjhaaGreatDoor
open Go.RowKit

/-- How much these have, counted with an early end. -/
def sizeSpansGo : Int → List Span → Int
  | n, [] => n
  | n, x :: xs => if n ≤ 1048576 then sizeSpansGo (n + x.f.size + x.t.size) xs else n
def sizeSpans (xs : List Span) : Int := sizeSpansGo xs.length xs


/-- The mark in the room behind. -/
def spareSpan : Span := ⟨⟨#[115, 112, 97, 114, 101]⟩, ⟨#[]⟩⟩

theorem info_span : (Tryz.prog.info? 47).map (fun i => (i.zero, i.size, i.bytes)) = some (some (.agg #[.string ⟨#[]⟩, .string ⟨#[]⟩]), 2, 32) := by kernel_rfl



set_option maxHeartbeats 400000 in
theorem sameSpans_calls (v u : Value) (xs ys : List Span) (w : World) (hv : Rd Span.enc 2 w v xs) (hu : Rd Span.enc 2 w u ys) :
    Calls Tryz.prog 58 #[v, u] w fun e w' => e = .returned (.bool (decide (xs = ys))) ∧ Below w.heap.size w w' := by
  obtain ⟨A, c, rfl, hl, hc⟩ := hv.shape
  obtain ⟨B, d, rfl, hl', hc'⟩ := hu.shape
  by_cases hn : xs.length = ys.length
  · have hnb : ((xs.length : Int) != ys.length) = false := by simp [hn]
    have HN := Lib.hid hn
    clear hn
    go_enter Tryz.func58, Tryz.ntmps58
    go_wp2
    go_loopw [5] (fun i wr => ∃ k : Nat, k ≤ xs.length ∧ i = .int .i64 k ∧ xs.take k = ys.take k ∧ Below w.heap.size w wr) (fun i _ => xs.length - (intOf i).toNat)
    case atStart => exact ⟨0, Nat.zero_le _, rfl, rfl, Below.refl _ _⟩
    case round =>
      obtain ⟨k, hk, rfl, heq, hb⟩ := hrel
      have HE := Lib.hid heq
      clear heq
      by_cases hlt : k < xs.length
      · have hlt2 : k < ys.length := by have := HN.out; omega
        obtain ⟨b, o, rfl, hx1, hx2⟩ := (hv.below hb).span (List.getElem?_eq_getElem hlt)
        obtain ⟨b', o', rfl, hy1, hy2⟩ := (hu.below hb).span (List.getElem?_eq_getElem hlt2)
        have HT1 := Lib.hid (List.take_succ_eq_append_getElem hlt)
        have HT2 := Lib.hid (List.take_succ_eq_append_getElem hlt2)
        have HX := Lib.hid (List.getElem?_eq_getElem hlt)
        have HY := Lib.hid (List.getElem?_eq_getElem hlt2)
        generalize xs[k] = x at *
        generalize ys[k] = y at *
        replace hx1 := fun p : Later wr => Later.cell p hx1; replace hx2 := fun p : Later wr => Later.cell p hx2
        replace hy1 := fun p : Later wr => Later.cell p hy1; replace hy2 := fun p : Later wr => Later.cell p hy2
        have hneq := neq_span
        have heqg := eqg_span
        by_cases hxy : x = y
        · subst hxy
          go_wp2
          refine wp_region_later (by kernel_rfl) (by kernel_rfl) ?_
          repeat (quiet_step (fail))
          refine wpQuiet_nil ?_
          rintro _ ⟨p, rfl⟩
          clear hx1 hx2 hy1 hy2 hneq heqg
          go_wp2
          go_roundw
          case rel => exact ⟨k + 1, by omega, by go_num, by rw [HT1.out, HT2.out, HE.out], Below.step hb p.ok⟩
          case measure => simp [intOf]; omega
        · have hxb : (decide (x.f = y.f) && decide (x.t = y.t)) = false := by rw [span_eq_b]; exact decide_eq_false hxy
          go_wp2
          refine wp_region_later (by kernel_rfl) (by kernel_rfl) ?_
          repeat (quiet_step (fail))
          refine wpQuiet_nil ?_
          rintro _ ⟨p, rfl⟩
          clear hx1 hx2 hy1 hy2 hneq heqg
          go_wp2
          go_ret
          refine ⟨ret_bool (decide_eq_false fun h => hxy ?_).symm, Below.step hb p.ok⟩
          have h1 := HX.out
          have h2 := HY.out
          rw [h, h2] at h1
          exact (Option.some.inj h1).symm
      · go_wp2
        go_ret
        have := HE.out
        rw [List.take_of_length_le (by omega), List.take_of_length_le (by have := HN.out; omega)] at this
        exact ⟨ret_bool (by simp [this]), hb⟩
  · have hnb : ((xs.length : Int) != ys.length) = true := by simp; omega
    go_enter Tryz.func58, Tryz.ntmps58
    go_wp2
    go_ret
    exact ⟨ret_bool (by simp; intro h; exact hn (by rw [h])), Below.refl _ _⟩

end Go.Proofs.YtanjgeacmpmjhaaGreatDoor
