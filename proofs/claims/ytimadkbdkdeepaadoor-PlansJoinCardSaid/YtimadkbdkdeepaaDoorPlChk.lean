import Derived.Test.YtimadkbdkdeepaaDoorMap
set_option linter.unusedVariables false
set_option linter.unusedSimpArgs false
namespace Go.Proofs.YtimadkbdkdeepaaDoor
open Go.RowKit

/-- May an op be? -/
def okOp (q : Int) (k t : ByteArray) (d : Int) : Bool :=
  decide (1 ≤ q) && decide (q ≤ 4) && okKey k && (if q = 4 then okKey t else t.toList.isEmpty) && (d == 0 || q == 2)

/-- An op that lies in a cell of its own. -/
def OpB (w : World) (B : Nat) (q : Int) (k t : ByteArray) (d : Int) : Prop := w.heap[B]? = some (.cells #[.int .u8 q, .string k, .string t, .int .u32 d] 42 (0, 0))
theorem OpB.alloc (w : World) (q : Int) (k t : ByteArray) (d : Int) : OpB (w.alloc (.cells #[.int .u8 q, .string k, .string t, .int .u32 d] 42)) w.heap.size q k t d := alloc_at _ _
theorem OpB.below {w w' : World} {B : Nat} {q : Int} {k t : ByteArray} {d : Int} (h : OpB w B q k t d) (hb : Below w.heap.size w w') : OpB w' B q k t d :=
  (hb.block B (Array.getElem?_eq_some_iff.1 h).1).trans h
theorem OpB.cells {w : World} {B : Nat} {q : Int} {k t : ByteArray} {d : Int} (h : OpB w B q k t d) :
    w.cell? ⟨B, 0, none⟩ = some (.int .u8 q) ∧ w.cell? ⟨B, 1, none⟩ = some (.string k) ∧ w.cell? ⟨B, 2, none⟩ = some (.string t) ∧ w.cell? ⟨B, 3, none⟩ = some (.int .u32 d) := by
  unfold OpB at h
  simp [World.cell?, h]

set_option maxHeartbeats 1600000 in
set_option maxRecDepth 100000 in
theorem opcheck_calls (q : Int) (k t : ByteArray) (d : Int) (hk : k.size ≤ 9223372036854775807) (ht : t.size ≤ 9223372036854775807) (w : World) :
    Calls Tryd.prog 11 #[.agg #[.int .u8 q, .string k, .string t, .int .u32 d]] w fun e w' => e = .returned (.bool (okOp q k t d)) ∧ Below w.heap.size w w' := by
  have hck := fun W => check_calls k W hk
  have hct := fun W => check_calls t W ht
  unfold okOp
  have hB0 := Lib.hid (OpB.alloc w q k t d)
  have hw0 : Below w.heap.size w (w.alloc (.cells #[.int .u8 q, .string k, .string t, .int .u32 d] 42)) := (Below.refl _ w).alloc (Nat.le_refl _) _
  by_cases h4 : q = 4
  · have h4b : (q == 4) = true := by simpa using h4
    have h1 : 1 ≤ q := by omega
    have hq4 : q ≤ 4 := by omega
    have h2 : (q == 2) = false := by subst h4; rfl
    rw [if_pos h4]
    clear h4
    generalize okKey k = bk at *
    generalize okKey t = bt at *
    cases hd : d == 0 <;> cases bk <;> cases bt
    all_goals
      go_enter Tryd.func11, Tryd.ntmps11
      go_wp2_with (go_at_call 27; first | (have := hB1; refine (hck w1).mono ?_; rintro e w2 ⟨rfl, hb2⟩; obtain ⟨v0, v1, v2, v3⟩ := (hB1.out.below hb2).cells; have hw2 := Below.step hw1 hb2) | (refine (hct _).mono ?_; rintro e w1 ⟨rfl, hb1⟩; have hB1 := Lib.hid (hB0.out.below hb1); obtain ⟨u0, u1, u2, u3⟩ := hB1.out.cells; have hw1 := Below.step hw0 hb1))
      go_ret
      first
        | exact ⟨ret_bool (by simp [h1, hq4, h2]), hw2⟩
        | exact ⟨ret_bool (by simp [h1, hq4, h2]), hw1⟩
  · have h4b : (q == 4) = false := by simpa using h4
    rw [if_neg h4]
    generalize okKey k = bk at *
    clear hct
    by_cases h1 : 1 ≤ q
    · by_cases hq4 : q ≤ 4
      · cases ht0 : t.toList.isEmpty <;> cases hd : d == 0 <;> cases h2 : q == 2 <;> cases bk
        all_goals
          go_enter Tryd.func11, Tryd.ntmps11
          go_wp2_with (go_at_call 27; refine (hck _).mono ?_; rintro e w2 ⟨rfl, hb2⟩; obtain ⟨v0, v1, v2, v3⟩ := (hB0.out.below hb2).cells; have hw2 := Below.step hw0 hb2)
          go_ret
          exact ⟨ret_bool (by simp [h1, hq4]), hw2⟩
      · go_enter Tryd.func11, Tryd.ntmps11
        go_wp2_with (go_at_call 27; refine (hck _).mono ?_; rintro e w2 ⟨rfl, hb2⟩; obtain ⟨v0, v1, v2, v3⟩ := (hB0.out.below hb2).cells; have hw2 := Below.step hw0 hb2)
        go_ret
        have e4 : decide (q ≤ 4) = false := by simpa using hq4
        exact ⟨ret_bool (by simp only [e4, Bool.and_false, Bool.false_and]), hw0⟩
    · go_enter Tryd.func11, Tryd.ntmps11
      go_wp2_with (go_at_call 27; refine (hck _).mono ?_; rintro e w2 ⟨rfl, hb2⟩; obtain ⟨v0, v1, v2, v3⟩ := (hB0.out.below hb2).cells; have hw2 := Below.step hw0 hb2)
      go_ret
      have e1 : decide (1 ≤ q) = false := by simpa using h1
      exact ⟨ret_bool (by simp only [e1, Bool.and_false, Bool.false_and]), hw0⟩

end Go.Proofs.YtimadkbdkdeepaaDoor
