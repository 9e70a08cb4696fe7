import Derived.Test.YtimadkbdkdeepaaDoorProg
import Derived.Test.YtimadkbdkdeepaaDoorKinds
import Derived.Shelf.Abstract
set_option linter.unusedVariables false
set_option linter.unusedSimpArgs false
namespace Go.Proofs.YtimadkbdkdeepaaDoor
open Go.RowKit Go.Shelf

set_option maxHeartbeats 400000 in
/-- slices.IndexFunc: the first one of which the closure says yes. -/
theorem indexFuncOpn_calls (p : Opn → Bool) (g : Nat) (lb : Array Value) (eg : ∀ args w, (callFunc g args).run Tryd.prog w = .ok (.enter g args) w) (v : Value) (xs : List Opn) (w : World) (hv : Rd Opn.enc 4 w v xs)
    (hp : ∀ W x, x ∈ xs → Below w.heap.size w W → Calls Tryd.prog g (#[.agg #[.int .u8 x.q, .string x.k, .string x.t, .int .u32 x.d]] ++ lb) W fun e w' => e = .returned (.bool (p x)) ∧ Below W.heap.size W w') :
    Calls Tryd.prog 52 #[v, .func (.func g) #[] lb] w fun e w' => e = .returned (.int .i64 (idx p xs)) ∧ Below w.heap.size w w' := by
  obtain ⟨A, c, rfl, hlc, hc⟩ := hv.shape
  go_enter Tryd.func52, Tryd.ntmps52
  go_wp2
  go_loopw [5, 8] (fun _ i wr => ∃ k : Nat, k ≤ xs.length ∧ i = .int .i64 k ∧ (∀ j, j < k → ∀ x, xs[j]? = some x → p x = false) ∧ Below w.heap.size w wr) (fun _ i _ => xs.length - (intOf i).toNat)
  case atStart => exact ⟨0, Nat.zero_le _, rfl, fun j hj => absurd hj (Nat.not_lt_zero _), Below.refl _ _⟩
  case round =>
    obtain ⟨k, hk, rfl, hno, hb⟩ := hrel
    have HNO := Lib.hid hno
    clear hno
    by_cases hlt : k < xs.length
    · obtain ⟨b, o, rfl, hx1, hx2, hx3, hx4⟩ := (hv.below hb).opn (List.getElem?_eq_getElem hlt)
      have HK := Lib.hid (List.getElem?_eq_getElem hlt)
      have HM := List.getElem_mem hlt
      generalize xs[k] = x at *
      have hcall := hp wr x HM hb
      cases hq : p x with
      | true =>
        rw [hq] at hcall
        go_wp2_with (go_at_fn g; refine hcall.mono ?_; rintro e w1 ⟨rfl, hb1⟩; clear hx1 hx2 hx3 hx4)
        go_ret
        exact ⟨ret_int (idx_hit p xs k x HK.out hq HNO.out).symm, Below.step hb hb1⟩
      | false =>
        rw [hq] at hcall
        go_wp2_with (go_at_fn g; refine hcall.mono ?_; rintro e w1 ⟨rfl, hb1⟩; clear hx1 hx2 hx3 hx4)
        go_roundw
        case rel =>
          refine ⟨k + 1, by omega, by go_num, fun j hj y hy => ?_, Below.step hb hb1⟩
          by_cases e : j = k
          · subst e
            rw [HK.out] at hy
            injection hy with hy
            rw [← hy]; exact hq
          · exact HNO.out j (by omega) y hy
        case measure => simp [intOf]; omega
    · go_wp2
      go_ret
      exact ⟨ret_int (idx_miss p xs (fun j x hx => HNO.out j (by have := (List.getElem?_eq_some_iff.1 hx).1; omega) x hx)).symm, hb⟩

set_option maxHeartbeats 400000 in
/-- slices.ContainsFunc: does the closure say yes of one? -/
theorem containsFuncOpn_calls (p : Opn → Bool) (g : Nat) (lb : Array Value) (eg : ∀ args w, (callFunc g args).run Tryd.prog w = .ok (.enter g args) w) (v : Value) (xs : List Opn) (w : World) (hv : Rd Opn.enc 4 w v xs)
    (hp : ∀ W x, x ∈ xs → Below w.heap.size w W → Calls Tryd.prog g (#[.agg #[.int .u8 x.q, .string x.k, .string x.t, .int .u32 x.d]] ++ lb) W fun e w' => e = .returned (.bool (p x)) ∧ Below W.heap.size W w') :
    Calls Tryd.prog 35 #[v, .func (.func g) #[] lb] w fun e w' => e = .returned (.bool (xs.any p)) ∧ Below w.heap.size w w' := by
  have h := indexFuncOpn_calls p g lb eg v xs w hv hp
  have hi := Lib.hid (idx_any p xs)
  generalize idx p xs = m at *
  go_enter Tryd.func35, Tryd.ntmps35
  go_wp2_with (go_at_call 52; refine h.mono ?_; rintro e w1 ⟨rfl, hb1⟩)
  go_ret
  exact ⟨ret_bool hi.out, hb1⟩

end Go.Proofs.YtimadkbdkdeepaaDoor
