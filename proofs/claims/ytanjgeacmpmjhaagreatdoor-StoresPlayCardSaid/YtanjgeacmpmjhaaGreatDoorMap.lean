import Derived.Test.YtanjgeacmpmjhaaGreatDoorIns
import Derived.Test.YtanjgeacmpmjhaaGreatDoorDel
import Derived.Test.YtanjgeacmpmjhaaGreatDoorFind
import Derived.Test.YtanjgeacmpmjhaaGreatDoorKeys
set_option linter.unusedVariables false
set_option linter.unusedSimpArgs false
namespace Go.Proofs.YtanjgeacmpmjhaaGreatDoor
open Go.RowKit

theorem alloc_at (w : World) (o : Obj) : (w.alloc o).heap[w.heap.size]? = some o := by
  show (w.heap.push o)[w.heap.size]? = _
  rw [Array.getElem?_push_size]

/-- A map of rows that lies at block B. -/
structure MapAt (base : Nat) (w : World) (B : Nat) (v : Value) (xs : List Row) : Prop where
  obj : w.heap[B]? = some (.cells #[v, .bool true] 124 (0, 0))
  own : Own Row.enc 2 44 base w v xs
  rise : Rising xs
  apart : v.ownBlock ≠ some B
  low : base ≤ B

/-- What an act on the map at B, whose rows lay at v, may have turned. -/
structure Step (w w' : World) (B : Nat) (v v' : Value) : Prop where
  os : w'.os = w.os
  tape : w'.tape = w.tape
  output : w'.output = w.output
  size : w.heap.size ≤ w'.heap.size
  block : ∀ k, k < w.heap.size → k ≠ B → v.ownBlock ≠ some k → w'.heap[k]? = w.heap[k]?
  new : ∀ g, v'.ownBlock = some g → v.ownBlock = some g ∨ w.heap.size ≤ g

theorem Step.of_below {w w' : World} (h : Below w.heap.size w w') (B : Nat) (v : Value) : Step w w' B v v := ⟨h.os, h.tape, h.output, h.size, fun k hk _ _ => h.block k hk, fun _ h => .inl h⟩
theorem Step.refl (w : World) (B : Nat) (v : Value) : Step w w B v v := .of_below (Below.refl _ _) B v

theorem Step.trans {w w1 w2 : World} {B : Nat} {v v1 v2 : Value} (h : Step w w1 B v v1) (k : Step w1 w2 B v1 v2) : Step w w2 B v v2 :=
  ⟨k.os.trans h.os, k.tape.trans h.tape, k.output.trans h.output, Nat.le_trans h.size k.size,
    fun i hi hB hv => (k.block i (Nat.lt_of_lt_of_le hi h.size) hB (fun e => by
      rcases h.new i e with e | e
      · exact hv e
      · omega)).trans (h.block i hi hB hv),
    fun g e => by
      rcases k.new g e with e | e
      · exact h.new g e
      · exact .inr (Nat.le_trans h.size e)⟩

theorem MapAt.lt {base : Nat} {w : World} {B : Nat} {v : Value} {xs : List Row} (h : MapAt base w B v xs) : B < w.heap.size := (Array.getElem?_eq_some_iff.1 h.obj).1

theorem Step.below {base : Nat} {w w' : World} {B : Nat} {v v' : Value} {xs : List Row} (h : Step w w' B v v') (hm : MapAt base w B v xs) : Below base w w' := by
  have := hm.lt
  have := hm.low
  exact ⟨h.os, h.tape, h.output, h.size, fun k hk => h.block k (by omega) (by omega) (fun e => by have := hm.own.base_le k e; omega)⟩

theorem MapAt.below {base : Nat} {w w' : World} {B : Nat} {v : Value} {xs : List Row} (h : MapAt base w B v xs) (hb : Below w.heap.size w w') : MapAt base w' B v xs :=
  ⟨(hb.block B h.lt).trans h.obj, h.own.below hb, h.rise, h.apart, h.low⟩

theorem MapAt.c0 {base : Nat} {w : World} {B : Nat} {v : Value} {xs : List Row} (h : MapAt base w B v xs) : w.cell? ⟨B, 0, none⟩ = some v := by simp [World.cell?, h.obj]
theorem MapAt.c1 {base : Nat} {w : World} {B : Nat} {v : Value} {xs : List Row} (h : MapAt base w B v xs) : w.cell? ⟨B, 1, none⟩ = some (.bool true) := by simp [World.cell?, h.obj]
theorem MapAt.f0 {base : Nat} {w : World} {B : Nat} {v : Value} {xs : List Row} (h : MapAt base w B v xs) : w.frozen? ⟨B, 0, none⟩ = false := by simp [World.frozen?, h.obj]

set_option maxHeartbeats 400000 in
theorem there_calls {base : Nat} {w : World} {B : Nat} {v : Value} {xs : List Row} (h : MapAt base w B v xs) :
    Calls Tryz.prog 86 #[.pointer (some ⟨B, 0, none⟩)] w fun e w' => e = .returned (.bool true) ∧ w = w' := by
  have c1 := h.c1
  go_enter Tryz.func86, Tryz.ntmps86
  go_wp2
  go_ret
  exact ⟨rfl, rfl⟩

set_option maxHeartbeats 400000 in
theorem there_nil {w : World} :
    Calls Tryz.prog 86 #[.pointer none] w fun e w' => e = .returned (.bool false) ∧ w = w' := by
  go_enter Tryz.func86, Tryz.ntmps86
  go_wp2
  go_ret
  exact ⟨rfl, rfl⟩

set_option maxHeartbeats 400000 in
theorem there_unmade {w : World} {B : Nat} (c1 : w.cell? ⟨B, 1, none⟩ = some (.bool false)) :
    Calls Tryz.prog 86 #[.pointer (some ⟨B, 0, none⟩)] w fun e w' => e = .returned (.bool false) ∧ w = w' := by
  go_enter Tryz.func86, Tryz.ntmps86
  go_wp2
  go_ret
  exact ⟨rfl, rfl⟩

set_option maxHeartbeats 400000 in
theorem place_calls (key : ByteArray) (v : Value) (xs : List Row) (w : World) (hv : Rd Row.enc 2 w v xs) (hr : Rising xs) (hl : xs.length ≤ 1000000000) :
    Calls Tryz.prog 187 #[v, .string key, .func (.func 188) #[] #[]] w
      fun e w' => e = .returned (.tuple #[.int .i64 (posL key xs), .bool (getL key xs).isSome]) ∧ Below w.heap.size w w' := by
  have hcall := fun W (hb : Below w.heap.size w W) B c0 => search_calls key B v xs W (hv.below hb) hr hl c0
  go_enter Tryz.func187, Tryz.ntmps187
  go_wp2_with (go_at_call 231; refine (hcall _ ((Below.refl _ w).alloc (Nat.le_refl _) _) _ (World.cell?_alloc_at (w := w) _ _ w.heap.size 0 rfl)).mono ?_; rintro e w1 ⟨rfl, hb1⟩)
  go_ret2
  exact ⟨rfl, Below.step ((Below.refl _ w).alloc (Nat.le_refl _) _) hb1⟩

set_option maxHeartbeats 400000 in
theorem find_calls {base : Nat} {w : World} {B : Nat} {v : Value} {xs : List Row} (h : MapAt base w B v xs) (hl : xs.length ≤ 1000000000) (key : ByteArray) :
    Calls Tryz.prog 93 #[.pointer (some ⟨B, 0, none⟩), .string key] w
      fun e w' => e = .returned (.tuple #[.int .i64 (posL key xs), .bool (getL key xs).isSome]) ∧ Below w.heap.size w w' := by
  have c0 := h.c0
  have hcall := place_calls key v xs w (h.own.rd row_len) h.rise hl
  go_enter Tryz.func93, Tryz.ntmps93
  go_wp2_with (go_at_call 187; refine hcall.mono ?_; rintro e w1 ⟨rfl, hb1⟩)
  go_ret2
  exact ⟨rfl, hb1⟩

set_option maxHeartbeats 400000 in
theorem ask_calls {base : Nat} {w : World} {B : Nat} {v : Value} {xs : List Row} (h : MapAt base w B v xs) (key : ByteArray) (hk : key.size ≤ 9223372036854775807) :
    Calls Tryz.prog 81 #[.pointer (some ⟨B, 0, none⟩), .string key] w
      fun e w' => e = .returned (.int .i64 (if okKey key then 0 else 1)) ∧ Below w.heap.size w w' := by
  have hcall := check_calls key w hk
  generalize okKey key = b at *
  cases b
  all_goals
    go_enter Tryz.func81, Tryz.ntmps81
    go_wp2_with (first | (go_at_call 86; refine (there_calls h).mono ?_; rintro e w1 ⟨rfl, rfl⟩) | (go_at_call 89; refine hcall.mono ?_; rintro e w1 ⟨rfl, hb1⟩))
    go_ret
    exact ⟨rfl, hb1⟩

set_option maxHeartbeats 400000 in
theorem ask_nil {w : World} (key : ByteArray) :
    Calls Tryz.prog 81 #[.pointer none, .string key] w fun e w' => e = .returned (.int .i64 2) ∧ w = w' := by
  go_enter Tryz.func81, Tryz.ntmps81
  go_wp2_with (go_at_call 86; refine there_nil.mono ?_; rintro e w1 ⟨rfl, rfl⟩)
  go_ret
  exact ⟨rfl, rfl⟩

set_option maxHeartbeats 400000 in
theorem ask_unmade {w : World} {B : Nat} (c1 : w.cell? ⟨B, 1, none⟩ = some (.bool false)) (key : ByteArray) :
    Calls Tryz.prog 81 #[.pointer (some ⟨B, 0, none⟩), .string key] w fun e w' => e = .returned (.int .i64 2) ∧ w = w' := by
  go_enter Tryz.func81, Tryz.ntmps81
  go_wp2_with (go_at_call 86; refine (there_unmade c1).mono ?_; rintro e w1 ⟨rfl, rfl⟩)
  go_ret
  exact ⟨rfl, rfl⟩

set_option maxHeartbeats 400000 in
theorem new_calls (w : World) :
    Calls Tryz.prog 9 #[] w fun e w' => e = .returned (.pointer (some ⟨w.heap.size, 0, none⟩)) ∧ Below w.heap.size w w' ∧ MapAt w.heap.size w' w.heap.size (.slice none 0 0) [] := by
  go_enter Tryz.func9, Tryz.ntmps9
  go_wp2
  go_ret
  exact ⟨rfl, (Below.refl _ w).alloc (Nat.le_refl _) _, alloc_at _ _, .nil _ _ _ _ _, List.Pairwise.nil, by simp [Value.ownBlock], Nat.le_refl _⟩

end Go.Proofs.YtanjgeacmpmjhaaGreatDoor
