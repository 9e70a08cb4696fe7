import Derived.Test.YtomhkflcimbbiaaLDoes
import Derived.Test.YtomhkflcimbbiaaLPut
set_option linter.unusedVariables false
set_option linter.unusedSimpArgs false
set_option linter.unusedSectionVars false
namespace Go.Proofs.Ytomhkflcimbbiaa
open Go.RowKit Go.Shelf

/-! ### an array of what was told -/
structure HadAt (w : World) (Bh k : Nat) (T : Tab) : Prop where
  ex : ∃ cur : Array Value, w.heap[Bh]? = some (.cells cur 60 (0, 0)) ∧ cur.size = 12 ∧ ∀ j, j < k → ∃ v, cur[j]? = some v ∧ Own Span.enc 2 24 0 w v ((T j).map spOf)
section
variable {w w' : World} {Bh k base : Nat} {T : Tab}
theorem HadAt.lt (h : HadAt w Bh k T) : Bh < w.heap.size := by
  obtain ⟨cur, h1, _⟩ := h.ex
  exact (Array.getElem?_eq_some_iff.1 h1).1
theorem HadAt.below (h : HadAt w Bh k T) (hb : Below w.heap.size w w') : HadAt w' Bh k T := by
  have hl := h.lt
  obtain ⟨cur, h1, h2, h3⟩ := h.ex
  refine ⟨cur, (hb.block _ hl).trans h1, h2, fun j hj => ?_⟩
  obtain ⟨v, h4, h5⟩ := h3 j hj
  exact ⟨v, h4, h5.below hb⟩
theorem HadAt.tstep (h : HadAt w Bh k T) (s : TStep base w w') : HadAt w' Bh k T := by
  obtain ⟨cur, h1, h2, h3⟩ := h.ex
  refine ⟨cur, s.cells h1 (by decide), h2, fun j hj => ?_⟩
  obtain ⟨v, h4, h5⟩ := h3 j hj
  exact ⟨v, h4, h5.tstep s (by decide)⟩
theorem HadAt.at_ (h : HadAt w Bh k T) {j : Nat} (hj : j < k) : ∃ v, w.cell? ⟨Bh, j, none⟩ = some v ∧ Own Span.enc 2 24 0 w v ((T j).map spOf) := by
  obtain ⟨cur, h1, h2, h3⟩ := h.ex
  obtain ⟨v, h4, h5⟩ := h3 j hj
  exact ⟨v, by simp [World.cell?, h1, h4], h5⟩
theorem HadAt.room (h : HadAt w Bh k T) {j : Nat} (hj : j < 12) : (∃ u, w.cell? ⟨Bh, j, none⟩ = some u) ∧ w.frozen? ⟨Bh, j, none⟩ = false := by
  obtain ⟨cur, h1, h2, h3⟩ := h.ex
  exact ⟨⟨cur[j]'(by omega), by simp [World.cell?, h1, h2, hj]⟩, by simp [World.frozen?, h1]⟩
theorem grown_set (W : World) (b k : Nat) (u : Value) : W.grownBy (W.setCell ⟨b, k, none⟩ u) (some b) := by
  refine ⟨rfl, rfl, rfl, by simp [World.setCell], fun i hi hne => ?_⟩
  have : b ≠ i := fun e => hne (by rw [e])
  simp [World.setCell, Array.getElem?_modify, this]
theorem HadAt.set (h : HadAt w Bh k T) (hk : k < 12) {v : Value} {b : Nat} (hv : Own Span.enc 2 24 b w v ((T k).map spOf)) : HadAt (w.setCell ⟨Bh, k, none⟩ v) Bh (k + 1) T := by
  obtain ⟨cur, h1, h2, h3⟩ := h.ex
  have hoff : ∀ {u : Value} {b : Nat} {xs : List Span}, Own Span.enc 2 24 b w u xs → Own Span.enc 2 24 0 (w.setCell ⟨Bh, k, none⟩ v) u xs := fun {u b xs} ho => by
    refine ownsRow_low (base := b) (Own.kept' ho (grown_set w Bh k v) ?_) (Nat.zero_le _)
    cases hb : u.ownBlock with
    | none => exact .inl rfl
    | some g =>
      refine .inr fun e => ?_
      injection e with e
      obtain ⟨cur', fr, hc⟩ := ho.cellsAt g hb
      rw [e, h1] at hc
      injection hc with hc
      injection hc with _ hc
      exact absurd hc (by decide)
  refine ⟨cur.setIfInBounds k v, by simp [World.setCell, Array.getElem?_modify, h1], by simpa using h2, fun j hj => ?_⟩
  by_cases e : j = k
  · subst e
    exact ⟨v, by simp [h2, hk], hoff hv⟩
  · obtain ⟨u, h4, h5⟩ := h3 j (by omega)
    exact ⟨u, by rw [Array.getElem?_setIfInBounds_ne (fun e' => e e'.symm)]; exact h4, hoff h5⟩
theorem HadAt.new (w : World) (c : Array Value) (hc : c.size = 12) (T : Tab) : HadAt (w.alloc (.cells c 60)) w.heap.size 0 T :=
  ⟨c, lalloc_at _ rfl, hc, fun j hj => absurd hj (Nat.not_lt_zero _)⟩
/-- what happens to the array is nothing to the table. -/
theorem TabP.had {B n Bh k k' : Nat} {T T' : Tab} {v : Value} (h : TabP base w B n T) (hh : HadAt w Bh k T') : TabP base (w.setCell ⟨Bh, k', none⟩ v) B n T := by
  obtain ⟨cur, h1, _⟩ := hh.ex
  exact h.kept (grown_set w Bh k' v) (fun g e => by cases e; exact ⟨cur, _, _, h1, by decide, by decide⟩)
end

/-! ### are all of some among others? -/
def withinB (xs ys : List Int) : Bool := xs.all fun x => ys.any fun y => x == y

set_option maxHeartbeats 1000000 in
set_option maxRecDepth 100000 in
theorem within_calls (va vb : Value) (xs ys : List Int) (w : World) (ha : Rd encU 1 w va xs) (hb : Rd encU 1 w vb ys) :
    Calls Try.prog 24 #[va, vb] w fun e w' => e = .returned (.bool (withinB xs ys)) ∧ Below w.heap.size w w' := by
  obtain ⟨A, ca, rfl, hla, hca⟩ := ha.shape
  obtain ⟨B, cb, rfl, hlb, hcb⟩ := hb.shape
  go_enter Try.func24, Try.ntmps24
  go_wp2
  go_loopw [5] (fun iv wr => ∃ i : Nat, i ≤ xs.length ∧ iv = .int .i64 i ∧ (∀ j x, j < i → xs[j]? = some x → (ys.any fun y => x == y) = true) ∧ Below w.heap.size w wr) (fun iv _ => xs.length - (intOf iv).toNat)
  case atStart => exact ⟨0, Nat.zero_le _, rfl, fun j x hj => absurd hj (Nat.not_lt_zero _), Below.refl _ _⟩
  case round =>
    obtain ⟨i, hi, rfl, hall, hB⟩ := hrel
    have HALL := Lib.hid hall
    clear hall
    by_cases hlt : i < xs.length
    · have hxi := List.getElem?_eq_getElem hlt
      obtain ⟨ba, oa, rfl, hx1⟩ := (ha.below hB).int hxi
      generalize xs[i] = x at *
      have HXI := Lib.hid hxi
      have HX1 := Lib.hid hx1
      clear hxi hx1
      go_wp2
      go_loopw [6, 7] (fun sv kv wr2 => ∃ k : Nat, k ≤ ys.length ∧ kv = .int .i64 k ∧ sv = .bool ((ys.take k).any fun y => x == y) ∧ Below wr.heap.size wr wr2) (fun _ kv _ => ys.length - (intOf kv).toNat)
      case atStart => exact ⟨0, Nat.zero_le _, rfl, rfl, Below.refl _ _⟩
      case round =>
        obtain ⟨k, hk, rfl, rfl, hB2⟩ := hrel
        have hB3 := Below.step hB hB2
        by_cases hlt2 : k < ys.length
        · have hyk := List.getElem?_eq_getElem hlt2
          obtain ⟨bb, ob, rfl, hy1⟩ := (hb.below hB3).int hyk
          have hx1 := Below.cell_some hB2 HX1.out
          have htk : ((ys.take (k + 1)).any fun y => x == y) = (((ys.take k).any fun y => x == y) || (x == ys[k])) := by rw [List.take_add_one, hyk, List.any_append]; simp only [Option.toList, List.any_cons, List.any_nil, Bool.or_false]
          generalize ys[k] = y at *
          obtain ⟨s1, hs1⟩ : ∃ s, ((ys.take (k + 1)).any fun y => x == y) = s := ⟨_, rfl⟩
          rw [hs1] at htk
          have HS1 := Lib.hid hs1
          clear hs1 hyk
          generalize (ys.take k).any (fun y => x == y) = s0 at *
          have HTK := Lib.hid htk
          clear htk
          cases s0
          all_goals
            go_wp2
            go_quiet (fail)
            go_wp2
            go_roundw
            case rel => exact ⟨k + 1, by omega, by go_num, by rw [HS1.out, HTK.out]; rfl, ⟨hB2.os, hB2.tape, hB2.output, hB2.size, hB2.block⟩⟩
            case measure => simp [intOf]; omega
        · have hkl : k = ys.length := by omega
          subst hkl
          rw [List.take_length] at *
          cases hs : ys.any fun y => x == y
          · have HS := Lib.hid hs
            have hwf : withinB xs ys = false := by
              unfold withinB
              rw [Bool.eq_false_iff]
              intro e
              have := List.all_eq_true.1 e x (List.mem_of_getElem? HXI.out)
              rw [hs] at this; cases this
            have HWF := Lib.hid hwf
            clear hwf hs
            go_wp2
            go_ret
            exact ⟨ret_bool HWF.out.symm, hB3⟩
          · have HS := Lib.hid hs
            clear hs
            go_wp2
            go_roundw
            case rel =>
              refine ⟨i + 1, by omega, by go_num, fun j z hj hz => ?_, hB3⟩
              by_cases e : j = i
              · subst e
                rw [HXI.out] at hz
                injection hz with hz
                rw [← hz]; exact HS.out
              · exact HALL.out j z (by omega) hz
            case measure => simp [intOf]; omega
    · go_wp2
      go_ret
      refine ⟨ret_bool ?_, hB⟩
      symm
      unfold withinB
      rw [List.all_eq_true]
      intro x hx
      obtain ⟨j, hj, e⟩ := List.getElem_of_mem hx
      exact HALL.out j x (by omega) (by rw [List.getElem?_eq_getElem hj, e])
end Go.Proofs.Ytomhkflcimbbiaa
