import Derived.Test.YtanjgeacmpmjhaaGreatDoorProg
import Derived.Test.YtanjgeacmpmjhaaGreatDoorBase
import Derived.Test.YtanjgeacmpmjhaaGreatDoorOkKey
import Derived.Laws.RangeAny
import Derived.Shelf.Abstract
set_option linter.unusedVariables false
set_option linter.unusedSimpArgs false
namespace Go.Proofs.YtanjgeacmpmjhaaGreatDoor
open Go.RowKit Go.Shelf

set_option maxHeartbeats 400000 in
theorem rune_calls (r : Nat) (w : World) :
    Calls Tryz.prog 185 #[.int .i32 (r : Int)] w fun e w' => e = .returned (.bool (okRune r)) ∧ w = w' := by
  unfold okRune
  by_cases h1 : 97 ≤ r <;> by_cases h2 : r ≤ 122 <;> by_cases h3 : 48 ≤ r <;> by_cases h4 : r ≤ 57 <;> by_cases h5 : r = 95
  all_goals first
    | (exfalso; omega)
    | skip
  all_goals
    have g5 : ((r : Int) == 95) = decide (r = 95) := by rw [Bool.eq_iff_iff]; simp; omega
    simp only [h5, decide_true, decide_false] at g5
    go_enter Tryz.func185, Tryz.ntmps185
    go_wp2
    go_ret
    exact ⟨ret_bool (by simp [*]), rfl⟩

theorem okRune_high {r : Nat} (h : 128 ≤ r) : okRune r = false := by
  unfold okRune
  simp only [Bool.or_eq_false_iff, Bool.and_eq_false_iff, decide_eq_false_iff_not]
  omega

theorem decode_byte (s : ByteArray) (pos : Nat) (h : pos < s.size) : (okRune (Utf8.decode s pos).1 = okRune (s[pos]'h).toNat) ∧ (okRune (s[pos]'h).toNat = true → (Utf8.decode s pos).2 = 1) := by
  by_cases ha : (s[pos]'h).toNat < 128
  · rw [decode_ascii s pos h ha]
    exact ⟨rfl, fun _ => rfl⟩
  · have hd := decode_high s pos h (by omega)
    rw [okRune_high hd.1, okRune_high (by omega)]
    exact ⟨rfl, fun h => by cases h⟩

theorem all_take (s : Str) (pos : Nat) (h : pos < s.size) : (s.l.take (pos + 1)).all (fun c => okRune c.toNat) = ((s.l.take pos).all (fun c => okRune c.toNat) && okRune (s[pos]'h).toNat) := by
  have hl : pos < s.l.length := by unfold Str.l; rw [Array.length_toList]; exact h
  rw [List.take_succ_eq_append_getElem hl, List.all_append]
  simp only [List.all_cons, List.all_nil, Bool.and_true]
  rfl

theorem all_false (s : Str) (pos : Nat) (h : pos < s.size) (hb : okRune (s[pos]'h).toNat = false) : s.l.all (fun c => okRune c.toNat) = false := by
  have hl : pos < s.l.length := by unfold Str.l; rw [Array.length_toList]; exact h
  rw [Bool.eq_false_iff, Ne, List.all_eq_true]
  intro h'
  have := h' s.l[pos] (List.getElem_mem hl)
  have e : s.l[pos] = s[pos]'h := rfl
  rw [e, hb] at this
  cases this

theorem all_false' {p : Prop} {b : Bool} (h : p → b = false) (hp : p := by trivial) : b = false := h hp

theorem l_size (s : Str) : s.l.length = s.size := by unfold Str.l; rw [Array.length_toList]; rfl

set_option maxHeartbeats 400000 in
theorem all_calls (s : ByteArray) (w : World) (hs : s.size ≤ 9223372036854775807) :
    Calls Tryz.prog 184 #[.string s, .func (.func 185) #[] #[]] w fun e w' => e = .returned (.bool ((Str.l s).all fun c => okRune c.toNat)) ∧ Below w.heap.size w w' := by
  have eg := enters_of Tryz.func185 (by kernel_rfl) rfl
  go_enter Tryz.func184, Tryz.ntmps184
  go_wp2
  go_loopw [] (fun wr => ∃ pos : Nat, pos ≤ s.size ∧ wr = w.iter s pos ∧ ((Str.l s).take pos).all (fun c => okRune c.toNat) = true) (fun wr => s.size - wr.iterPos w.heap.size)
  case atStart => exact ⟨0, Nat.zero_le _, rfl, rfl⟩
  case round =>
    obtain ⟨pos, hpos, rfl, hall⟩ := hrel
    have HA := Lib.hid hall
    clear hall
    by_cases hlt : pos < s.size
    · have hnx := fun ty => run_next_any (P := Tryz.prog) w s pos ty hlt
      have hd := decode_byte s pos hlt
      have HT := Lib.hid (all_take s pos hlt)
      have HF := Lib.hid (fun hb => all_false s pos hlt hb)
      generalize okRune (s[pos]'hlt).toNat = ok at *
      generalize (Utf8.decode s pos).1 = R at *
      generalize (Utf8.decode s pos).2 = K at *
      obtain ⟨hR, hK⟩ := hd
      have hcall := fun W => rune_calls R W
      rw [hR] at hcall
      cases ok with
      | true =>
        obtain rfl := hK rfl
        have HR := Lib.hid hR
        clear hR hK
        go_wp2_with (go_at_call 185; refine (hcall _).mono ?_; rintro e w1 ⟨rfl, rfl⟩)
        go_roundw
        case rel => exact ⟨pos + 1, by omega, rfl, by rw [HT.out, HA.out]; rfl⟩
        case measure => simp only [World.iterPos_iter]; omega
      | false =>
        have HR := Lib.hid hR
        clear hR hK
        go_wp2_with (go_at_call 185; refine (hcall _).mono ?_; rintro e w1 ⟨rfl, rfl⟩)
        go_ret
        exact ⟨ret_bool (all_false' HF.out).symm, (Below.refl _ w).alloc (Nat.le_refl _) _⟩
    · have hnx := fun ty => run_next_end (P := Tryz.prog) w s pos ty hlt
      go_wp2
      go_ret
      refine ⟨ret_bool ?_, (Below.refl _ w).alloc (Nat.le_refl _) _⟩
      have := HA.out
      rw [List.take_of_length_le (by rw [l_size]; omega)] at this
      exact this.symm

theorem size_l {s : Str} : s.toList = [] ↔ s.size = 0 := by
  rw [toList_l, ← List.length_eq_zero_iff, l_size]

set_option maxHeartbeats 400000 in
theorem check_calls (s : ByteArray) (w : World) (hs : s.size ≤ 9223372036854775807) :
    Calls Tryz.prog 89 #[.string s] w fun e w' => e = .returned (.bool (okKey s)) ∧ Below w.heap.size w w' := by
  unfold okKey
  have hcall := all_calls s w hs
  generalize ((Str.l s).all fun c => okRune c.toNat) = b at *
  by_cases h0 : s.size = 0
  · have g0 : s.toList = [] := size_l.2 h0
    have ge : (decide (s.size ≠ 0) && decide (s.size ≤ 16) && b) = false := by simp [h0]
    rw [ge]
    go_enter Tryz.func89, Tryz.ntmps89
    go_wp2_with (go_at_call 184; refine hcall.mono ?_; rintro e w1 ⟨rfl, hb1⟩)
    go_ret
    exact ⟨rfl, Below.refl _ _⟩
  · have g0 : s.toList.isEmpty = false := by rw [List.isEmpty_eq_false_iff]; exact fun h => h0 (size_l.1 h)
    by_cases h1 : s.size ≤ 16
    · go_enter Tryz.func89, Tryz.ntmps89
      go_wp2_with (go_at_call 184; refine hcall.mono ?_; rintro e w1 ⟨rfl, hb1⟩)
      go_ret
      exact ⟨ret_bool (by simp [h0, h1]), hb1⟩
    · go_enter Tryz.func89, Tryz.ntmps89
      go_wp2_with (go_at_call 184; refine hcall.mono ?_; rintro e w1 ⟨rfl, hb1⟩)
      go_ret
      exact ⟨ret_bool (by simp [h1]), Below.refl _ _⟩

end Go.Proofs.YtanjgeacmpmjhaaGreatDoor
