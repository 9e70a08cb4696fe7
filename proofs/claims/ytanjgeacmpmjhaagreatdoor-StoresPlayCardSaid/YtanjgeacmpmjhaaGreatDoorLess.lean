import Derived.Test.YtanjgeacmpmjhaaGreatDoorProg
import Derived.Test.YtanjgeacmpmjhaaGreatDoorBase
set_option linter.unusedVariables false
set_option linter.unusedSimpArgs false
set_option linter.unusedSectionVars false
namespace Go.Proofs.YtanjgeacmpmjhaaGreatDoor
open Go.RowKit

theorem lt8_prefix : ∀ (p x y : List UInt8), lt8 (p ++ x) (p ++ y) = lt8 x y
  | [], _, _ => rfl
  | a :: p, x, y => by simp [lt8, lt8_prefix p x y]

theorem slt_at {a b : Str} {k : Nat} (h : a.l.take k = b.l.take k) : slt a b = lt8 (a.l.drop k) (b.l.drop k) := by
  unfold slt
  have e := lt8_prefix (a.l.take k) (a.l.drop k) (b.l.drop k)
  rw [List.take_append_drop, h, List.take_append_drop] at e
  exact e

theorem l_length (a : Str) : a.l.length = a.size := by
  unfold Str.l
  rw [Array.length_toList]; rfl

theorem l_drop (a : Str) (k : Nat) (h : k < a.size) : a.l.drop k = a[k] :: a.l.drop (k + 1) := by
  rw [List.drop_eq_getElem_cons (by rw [l_length]; exact h)]
  rfl

theorem l_take (a : Str) (k : Nat) (h : k < a.size) : a.l.take (k + 1) = a.l.take k ++ [a[k]] := by
  rw [List.take_succ_eq_append_getElem (by rw [l_length]; exact h)]
  rfl

theorem slt_byte {a b : Str} {k : Nat} (ha : k < a.size) (hb : k < b.size) (h : a.l.take k = b.l.take k) (hx : a[k] ≠ b[k]) : slt a b = decide (a[k].toNat < b[k].toNat) := by
  rw [slt_at h, l_drop a k ha, l_drop b k hb, lt8, Bool.eq_iff_iff]
  simp only [beq_eq_false_iff_ne.2 hx, Bool.false_and, Bool.or_false, decide_eq_true_eq, UInt8.lt_iff_toNat_lt]

theorem slt_end {a b : Str} {k : Nat} (h : a.l.take k = b.l.take k) (ha : a.size = k ∨ b.size = k) (hka : k ≤ a.size) (hkb : k ≤ b.size) : slt a b = decide (a.size < b.size) := by
  rw [slt_at h]
  by_cases hb : b.size = k
  · have e : b.l.drop k = [] := List.drop_eq_nil_of_le (by rw [l_length]; omega)
    rw [e, lt8_nil]
    exact (decide_eq_false (by omega)).symm
  · have : a.size = k := ha.resolve_right hb
    have e : a.l.drop k = [] := List.drop_eq_nil_of_le (by rw [l_length]; omega)
    rw [e, l_drop b k (by omega)]
    exact (decide_eq_true (by omega)).symm

set_option maxHeartbeats 400000 in
theorem less_calls (a b : ByteArray) (w : World) (ha : a.size ≤ 9223372036854775807) (hb : b.size ≤ 9223372036854775807) :
    Calls Tryz.prog 181 #[.string a, .string b] w fun e w' => e = .returned (.bool (slt a b)) ∧ Below w.heap.size w w' := by
  go_enter Tryz.func181, Tryz.ntmps181
  go_wp2
  go_loopw [5] (fun i wr => ∃ k : Nat, k ≤ a.size ∧ k ≤ b.size ∧ i = .int .i64 k ∧ (Str.l a).take k = (Str.l b).take k ∧ Below w.heap.size w wr) (fun i _ => a.size - (intOf i).toNat)
  case atStart => exact ⟨0, Nat.zero_le _, Nat.zero_le _, rfl, rfl, Below.refl _ _⟩
  case round =>
    obtain ⟨k, hka, hkb, rfl, heq, hbl⟩ := hrel
    have HE := Lib.hid heq
    clear heq
    by_cases hla : k < a.size
    · by_cases hlb : k < b.size
      · by_cases hx : a[k] = b[k]
        · go_wp2
          refine wp_region_later (by kernel_rfl) (by kernel_rfl) ?_
          repeat (quiet_step (fail))
          refine wpQuiet_nil ?_
          rintro _ ⟨p, rfl⟩
          go_wp2
          go_roundw
          case rel => exact ⟨k + 1, by omega, by omega, by go_num, by rw [l_take a k hla, l_take b k hlb, HE.out, hx], Below.step hbl p.ok⟩
          case measure => simp [intOf]; omega
        · have hne : ((a[k].toNat : Int) != (b[k].toNat : Int)) = true := by
            rw [bne_iff_ne]
            intro h
            exact hx (UInt8.toNat_inj.1 (by omega))
          go_wp2
          refine wp_region_later (by kernel_rfl) (by kernel_rfl) ?_
          repeat (quiet_step (fail))
          refine wpQuiet_nil ?_
          rintro _ ⟨p, rfl⟩
          go_wp2
          refine wp_region_later (by kernel_rfl) (by kernel_rfl) ?_
          repeat (quiet_step (fail))
          refine wpQuiet_nil ?_
          rintro _ ⟨q, rfl⟩
          go_wp2
          go_ret
          exact ⟨ret_bool (slt_byte hla hlb HE.out hx).symm, Below.step hbl (Below.step p.ok q.ok)⟩
      · go_wp2
        go_ret
        exact ⟨ret_bool (slt_end HE.out (.inr (by omega)) hka hkb).symm, hbl⟩
    · go_wp2
      go_ret
      exact ⟨ret_bool (slt_end HE.out (.inl (by omega)) hka hkb).symm, hbl⟩

set_option maxHeartbeats 400000 in
theorem rin_calls (k a b : ByteArray) (w : World) (hk : k.size ≤ 9223372036854775807) (ha : a.size ≤ 9223372036854775807) (hb : b.size ≤ 9223372036854775807) :
    Calls Tryz.prog 91 #[.string k, .string a, .string b] w fun e w' => e = .returned (.bool (sin k a b)) ∧ Below w.heap.size w w' := by
  unfold sin sle
  cases h : slt k a
  all_goals
    have hB := Below.refl w.heap.size w
    go_enter Tryz.func91, Tryz.ntmps91
    go_wp2_with (go_at_call 181; refine (less_calls _ _ _ (by assumption) (by assumption)).mono ?_; rintro e w1 ⟨rfl, hb1⟩; replace hB := Below.step hB hb1; clear hb1)
    go_ret
    exact ⟨by simp, hB⟩

end Go.Proofs.YtanjgeacmpmjhaaGreatDoor
