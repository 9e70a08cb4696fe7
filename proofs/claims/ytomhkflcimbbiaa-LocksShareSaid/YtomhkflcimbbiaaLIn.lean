import Derived.Test.YtomhkflcimbbiaaEqSpan
import Derived.Test.YtomhkflcimbbiaaTwSpan
import Derived.Test.YtomhkflcimbbiaaLShareP
set_option linter.unusedVariables false
set_option linter.unusedSimpArgs false
set_option linter.unusedSectionVars false
namespace Go.Proofs.Ytomhkflcimbbiaa
open Go.RowKit

theorem hasS_eq (l : List Span) (s : Span) : hasS l s = true ↔ s ∈ l := by
  unfold hasS
  rw [List.any_eq_true]
  constructor
  · rintro ⟨x, hx, e⟩
    rw [← of_decide_eq_true e]; exact hx
  · intro h
    exact ⟨s, h, decide_eq_true rfl⟩

set_option maxHeartbeats 400000 in
theorem inS_calls (v : Value) (xs : List Span) (f t : Str) (w : World) (hv : Rd Span.enc 2 w v xs) :
    Calls Try.prog 26 #[v, .agg #[.string f, .string t]] w fun e w' => e = .returned (.bool (hasS xs ⟨f, t⟩)) ∧ Below w.heap.size w w' := by
  obtain ⟨A, c, rfl, hl, hc⟩ := hv.shape
  go_enter Try.func26, Try.ntmps26
  have hba : Below w.heap.size w (w.alloc (.cells #[.string f, .string t] 24)) := (Below.refl _ w).alloc (Nat.le_refl _) _
  have s0 : (w.alloc (.cells #[.string f, .string t] 24)).heap[w.heap.size]? = some (.cells #[.string f, .string t] 24 (0, 0)) := lalloc_at _ rfl
  go_wp2
  go_loopw [5] (fun i wr => ∃ k : Nat, k ≤ xs.length ∧ i = .int .i64 k ∧ hasS (xs.take k) ⟨f, t⟩ = false ∧ Below w.heap.size w wr ∧ wr.heap[w.heap.size]? = some (.cells #[.string f, .string t] 24 (0, 0))) (fun i _ => xs.length - (intOf i).toNat)
  case atStart => exact ⟨0, Nat.zero_le _, rfl, rfl, hba, s0⟩
  case round =>
    obtain ⟨k, hk, rfl, hno, hb, hs⟩ := hrel
    by_cases hlt : k < xs.length
    · obtain ⟨b, o, rfl, hx1, hx2⟩ := (hv.below hb).span (List.getElem?_eq_getElem hlt)
      have HT := Lib.hid (List.take_succ_eq_append_getElem hlt)
      have HX := Lib.hid (List.getElem?_eq_getElem hlt)
      have HNO := Lib.hid hno
      clear hno
      generalize xs[k] = x at *
      have c0 : wr.cell? ⟨w.heap.size, 0, none⟩ = some (.string f) := by simp [World.cell?, hs]
      have c1 : wr.cell? ⟨w.heap.size, 1, none⟩ = some (.string t) := by simp [World.cell?, hs]
      replace hx1 := fun p : Later wr => Later.cell p hx1; replace hx2 := fun p : Later wr => Later.cell p hx2
      replace c0 := fun p : Later wr => Later.cell p c0; replace c1 := fun p : Later wr => Later.cell p c1
      have heql := eql_span
      have heqg := eqg_span
      have hkeep := fun p : Later wr => (p.ok.block _ (Array.getElem?_eq_some_iff.1 hs).1).trans hs
      by_cases hxy : x = ⟨f, t⟩
      · have hxb : (decide (x.f = f) && decide (x.t = t)) = true := by rw [hxy]; simp
        go_wp2
        refine wp_region_later (by kernel_rfl) (by kernel_rfl) ?_
        repeat (quiet_step (fail))
        refine wpQuiet_nil ?_
        rintro _ ⟨p, rfl⟩
        clear hx1 hx2 heql heqg c0 c1
        go_wp2
        go_ret
        refine ⟨ret_bool ?_, Below.step hb p.ok⟩
        refine ((hasS_eq _ _).2 ?_).symm
        rw [← hxy]
        exact List.mem_of_getElem? HX.out
      · have hxb : (decide (x.f = f) && decide (x.t = t)) = false := by
          rw [Bool.eq_false_iff]
          intro e
          simp only [Bool.and_eq_true, decide_eq_true_eq] at e
          exact hxy (Span.ext' e.1 e.2)
        go_wp2
        refine wp_region_later (by kernel_rfl) (by kernel_rfl) ?_
        repeat (quiet_step (fail))
        refine wpQuiet_nil ?_
        rintro _ ⟨p, rfl⟩
        clear hx1 hx2 heql heqg c0 c1
        go_wp2
        go_roundw
        case rel =>
          refine ⟨k + 1, by omega, by go_num, ?_, Below.step hb p.ok, hkeep p⟩
          rw [HT.out]
          unfold hasS
          rw [List.any_append]
          have := HNO.out
          unfold hasS at this
          rw [this]
          simp [hxy]
        case measure => simp [intOf]; omega
    · rw [List.take_of_length_le (by omega)] at hno
      go_wp2
      go_ret
      exact ⟨ret_bool hno.symm, hb⟩
end Go.Proofs.Ytomhkflcimbbiaa
