import Derived.Test.YtanjgeacmpmjhaaGreatDoorProg
import Derived.Test.YtanjgeacmpmjhaaGreatDoorKinds
import Derived.Shelf.Abstract
set_option linter.unusedVariables false
set_option linter.unusedSimpArgs false
namespace Go.Proofs.YtanjgeacmpmjhaaGreatDoor
open Go.RowKit Go.Shelf

set_option maxHeartbeats 400000 in
/-- slices.IndexFunc: the first one of which the closure says yes. -/
theorem indexFuncChange_calls (p : Change → Bool) (g : Nat) (lb : Array Value) (eg : ∀ args w, (callFunc g args).run Tryz.prog w = .ok (.enter g args) w) (v : Value) (xs : List Change) (w : World) (hv : Rd Change.enc 3 w v xs)
    (hp : ∀ W x, x ∈ xs → Below w.heap.size w W → Calls Tryz.prog g (#[.agg #[.string x.k, .int .u32 x.v, .bool x.g]] ++ lb) W fun e w' => e = .returned (.bool (p x)) ∧ Below W.heap.size W w') :
    Calls Tryz.prog 183 #[v, .func (.func g) #[] lb] w fun e w' => e = .returned (.int .i64 (idx p xs)) ∧ Below w.heap.size w w' := by
  obtain ⟨A, c, rfl, hlc, hc⟩ := hv.shape
  go_enter Tryz.func183, Tryz.ntmps183
  go_wp2
  go_loopw [5, 8] (fun _ i wr => ∃ k : Nat, k ≤ xs.length ∧ i = .int .i64 k ∧ (∀ j, j < k → ∀ x, xs[j]? = some x → p x = false) ∧ Below w.heap.size w wr) (fun _ i _ => xs.length - (intOf i).toNat)
  case atStart => exact ⟨0, Nat.zero_le _, rfl, fun j hj => absurd hj (Nat.not_lt_zero _), Below.refl _ _⟩
  case round =>
    obtain ⟨k, hk, rfl, hno, hb⟩ := hrel
    have HNO := Lib.hid hno
    clear hno
    by_cases hlt : k < xs.length
    · obtain ⟨b, o, rfl, hx1, hx2, hx3⟩ := (hv.below hb).change (List.getElem?_eq_getElem hlt)
      have HK := Lib.hid (List.getElem?_eq_getElem hlt)
      have HM := List.getElem_mem hlt
      generalize xs[k] = x at *
      have hcall := hp wr x HM hb
      cases hq : p x with
      | true =>
        rw [hq] at hcall
        go_wp2_with (go_at_fn g; refine hcall.mono ?_; rintro e w1 ⟨rfl, hb1⟩; clear hx1 hx2 hx3)
        go_ret
        exact ⟨ret_int (idx_hit p xs k x HK.out hq HNO.out).symm, Below.step hb hb1⟩
      | false =>
        rw [hq] at hcall
        go_wp2_with (go_at_fn g; refine hcall.mono ?_; rintro e w1 ⟨rfl, hb1⟩; clear hx1 hx2 hx3)
        go_roundw
        case rel =>
          refine ⟨k + 1, by omega, by go_num, fun j hj y hy => ?_, Below.step hb hb1⟩
          by_cases e : j = k
          · subst e
            rw [HK.out] at hy
            injection hy with hy
            rw [← hy]; exact hq
          · exact HNO.out j (by omega) y hy
        case measure => simp [intOf]; omega
    · go_wp2
      go_ret
      exact ⟨ret_int (idx_miss p xs (fun j x hx => HNO.out j (by have := (List.getElem?_eq_some_iff.1 hx).1; omega) x hx)).symm, hb⟩

set_option maxHeartbeats 400000 in
/-- slices.ContainsFunc: does the closure say yes of one? -/
theorem containsFuncChange_calls (p : Change → Bool) (g : Nat) (lb : Array Value) (eg : ∀ args w, (callFunc g args).run Tryz.prog w = .ok (.enter g args) w) (v : Value) (xs : List Change) (w : World) (hv : Rd Change.enc 3 w v xs)
    (hp : ∀ W x, x ∈ xs → Below w.heap.size w W → Calls Tryz.prog g (#[.agg #[.string x.k, .int .u32 x.v, .bool x.g]] ++ lb) W fun e w' => e = .returned (.bool (p x)) ∧ Below W.heap.size W w') :
    Calls Tryz.prog 87 #[v, .func (.func g) #[] lb] w fun e w' => e = .returned (.bool (xs.any p)) ∧ Below w.heap.size w w' := by
  have h := indexFuncChange_calls p g lb eg v xs w hv hp
  have hi := Lib.hid (idx_any p xs)
  generalize idx p xs = m at *
  go_enter Tryz.func87, Tryz.ntmps87
  go_wp2_with (go_at_call 183; refine h.mono ?_; rintro e w1 ⟨rfl, hb1⟩)
  go_ret
  exact ⟨ret_bool hi.out, hb1⟩

end Go.Proofs.YtanjgeacmpmjhaaGreatDoor
