import Derived.Test.YtanjgeacmpmjhaaGreatDoorMgPlansCheckUpto19
import Derived.Lib.SliceRun
set_option linter.unusedVariables false
set_option linter.unusedSimpArgs false
namespace Go.Proofs.YtanjgeacmpmjhaaGreatDoor
open Go.RowKit

set_option maxHeartbeats 400000 in
theorem drop_calls {base : Nat} {w : World} {B : Nat} {v : Value} {xs : List Row} (h : MapAt base w B v xs) (hl : xs.length ≤ 1000000) (key : ByteArray) :
    Calls Tryz.prog 85 #[.pointer (some ⟨B, 0, none⟩), .string key] w
      fun e w' => ∃ v', e = .returned (.bool (getL key xs).isSome) ∧ MapAt base w' B v' (delL key xs) ∧ Step w w' B v v' := by
  have hfind := find_calls h (by omega) key
  have hrise := delL_rising (k := key) h.rise
  cases hget : getL key xs with
  | none =>
    rw [del_none key xs hget]
    rw [hget] at hfind
    go_enter Tryz.func85, Tryz.ntmps85
    go_wp2_with (go_at_call 93; refine hfind.mono ?_; rintro e w1 ⟨rfl, hb1⟩)
    go_ret
    exact ⟨v, rfl, h.below hb1, .of_below hb1 B v⟩
  | some u =>
    obtain ⟨hlt, ⟨x, hx, hxk, hxv⟩, _, hdel⟩ := put_over key 0 xs u hget h.rise
    rw [hget] at hfind
    change delL key xs = cutL xs (posL key xs) at hdel
    rw [hdel] at hrise ⊢
    have hcalls : ∀ w1 : World, MapAt base w1 B v xs → Calls Tryz.prog 182 #[v, .int .i64 (posL key xs), .int .i64 ((posL key xs : Int) + 1)] w1 fun e w3 =>
      ∃ A n cap, e = .returned (.slice A n cap) ∧ w3.cell? ⟨B, 0, none⟩ = some v ∧ w3.frozen? ⟨B, 0, none⟩ = false ∧
      MapAt base (w3.setCell ⟨B, 0, none⟩ (.slice A n cap)) B (.slice A n cap) (cutL xs (posL key xs)) ∧ Step w1 (w3.setCell ⟨B, 0, none⟩ (.slice A n cap)) B v (.slice A n cap) := by
      intro w1 h1
      refine (delete_calls base (posL key xs) v xs w1 h1.own hlt).mono ?_
      rintro e w3 ⟨v3, rfl, own3, gr3, hat3⟩
      obtain ⟨A, cap, rfl, _, _⟩ := own3.slice
      have s3 : Step w1 w3 B v (.slice A (cutL xs (posL key xs)).length cap) := .of_grown (Below.refl _ w1) gr3 (.inl hat3)
      have hB3 : w3.heap[B]? = some (.cells #[v, .bool true] 124 (0, 0)) := (gr3.block B h1.lt (fun e => h1.apart e.symm)).trans h1.obj
      obtain ⟨h4, s4⟩ := MapAt.store hB3 own3 hrise (fun e => h1.apart (hat3 ▸ e)) h1.low (.slice A (cutL xs (posL key xs)).length cap)
      exact ⟨A, _, cap, rfl, by simp [World.cell?, hB3], by simp [World.frozen?, hB3], h4, s3.trans s4⟩
    have hw1 : IntKind.i64.wrap ((posL key xs : Int) + 1) = (posL key xs : Int) + 1 := by rw [IntKind.wrap_i64]; omega
    clear hdel
    go_enter Tryz.func85, Tryz.ntmps85
    go_wp2_with (first
      | (go_at_call 93; refine hfind.mono ?_; rintro e w1 ⟨rfl, hb1⟩; have h1 := h.below hb1; have c0 := h1.c0; have f0 := h1.f0)
      | (go_at_call 182; refine (hcalls _ h1).mono ?_; rintro e w3 ⟨A, n, cap, rfl, c3, f3, h4, s4⟩))
    go_ret
    exact ⟨_, rfl, h4, (Step.of_below hb1 B v).trans s4⟩

set_option maxHeartbeats 400000 in
theorem put_calls {base : Nat} {w : World} {B : Nat} {v : Value} {xs : List Row} (h : MapAt base w B v xs) (hl : xs.length ≤ 1000000) (key : ByteArray) (n : Int) (hk : key.size ≤ 9223372036854775807) :
    Calls Tryz.prog 12 #[.pointer (some ⟨B, 0, none⟩), .string key, .int .u32 n] w
      fun e w' => ∃ v', e = .returned (.int .i64 (if okKey key then 0 else 1)) ∧ MapAt base w' B v' (if okKey key then putL key n xs else xs) ∧ Step w w' B v v' := by
  have hask := ask_calls h key hk
  generalize okKey key = b at *
  cases b <;> simp only [↓reduceIte, Bool.false_eq_true] at hask ⊢
  · go_enter Tryz.func12, Tryz.ntmps12
    go_wp2_with (go_at_call 81; refine hask.mono ?_; rintro e w1 ⟨rfl, hb1⟩)
    go_ret
    exact ⟨v, rfl, h.below hb1, .of_below hb1 B v⟩
  · go_enter Tryz.func12, Tryz.ntmps12
    go_wp2_with (first
      | (go_at_call 81; refine hask.mono ?_; rintro e w1 ⟨rfl, hb1⟩; have hset := set_calls (h.below hb1) hl key n)
      | (go_at_call 82; refine hset.mono ?_; rintro e w2 ⟨v', rfl, h2, s2⟩))
    go_ret
    exact ⟨v', rfl, h2, (Step.of_below hb1 B v).trans s2⟩

set_option maxHeartbeats 400000 in
theorem del_calls {base : Nat} {w : World} {B : Nat} {v : Value} {xs : List Row} (h : MapAt base w B v xs) (hl : xs.length ≤ 1000000) (key : ByteArray) (hk : key.size ≤ 9223372036854775807) :
    Calls Tryz.prog 14 #[.pointer (some ⟨B, 0, none⟩), .string key] w
      fun e w' => ∃ v', e = .returned (.int .i64 (if okKey key then (if (getL key xs).isSome then 0 else 6) else 1)) ∧ MapAt base w' B v' (if okKey key then delL key xs else xs) ∧ Step w w' B v v' := by
  have hask := ask_calls h key hk
  have hdrop : ∀ w1, Below w.heap.size w w1 → _ := fun w1 hb1 => drop_calls (h.below hb1) hl key
  generalize okKey key = b at *
  generalize (getL key xs).isSome = c at *
  cases b <;> cases c <;> simp only [↓reduceIte, Bool.false_eq_true] at hask ⊢
  all_goals
    go_enter Tryz.func14, Tryz.ntmps14
    go_wp2_with (first
      | (go_at_call 81; refine hask.mono ?_; rintro e w1 ⟨rfl, hb1⟩)
      | (go_at_call 85; refine (hdrop _ hb1).mono ?_; rintro e w2 ⟨v', rfl, h2, s2⟩))
    go_ret
    first
      | exact ⟨v', rfl, h2, (Step.of_below hb1 B v).trans s2⟩
      | exact ⟨v, rfl, h.below hb1, .of_below hb1 B v⟩

set_option maxHeartbeats 400000 in
theorem get_calls {base : Nat} {w : World} {B : Nat} {v : Value} {xs : List Row} (h : MapAt base w B v xs) (hl : xs.length ≤ 1000000) (key : ByteArray) :
    Calls Tryz.prog 25 #[.pointer (some ⟨B, 0, none⟩), .string key] w
      fun e w' => e = .returned (.tuple #[.int .u32 ((getL key xs).getD 0), .bool (getL key xs).isSome]) ∧ Below w.heap.size w w' := by
  have hfind := find_calls h (by omega) key
  cases hget : getL key xs with
  | none =>
    rw [hget] at hfind
    go_enter Tryz.func25, Tryz.ntmps25
    go_wp2_with (first | (go_at_call 86; refine (there_calls h).mono ?_; rintro e w1 ⟨rfl, rfl⟩) | (go_at_call 93; refine hfind.mono ?_; rintro e w1 ⟨rfl, hb1⟩))
    go_ret2
    exact ⟨rfl, hb1⟩
  | some u =>
    obtain ⟨hlt, ⟨x, hx, hxk, hxv⟩, hput, _⟩ := put_over key 0 xs u hget h.rise
    obtain ⟨xk, xv⟩ := x
    simp only at hxk hxv
    subst hxk hxv
    rw [hget] at hfind
    obtain ⟨g, cap, cur, rfl, hcap, hcm, hg, hx3⟩ := h.own.lies row_len _ _ hx
    have c5 : w.cell? ⟨g, posL xk xs * 2 + 1, none⟩ = some (.int .u32 xv) := by simp [World.cell?, hg, hx3 1 _ rfl]
    clear hput
    go_enter Tryz.func25, Tryz.ntmps25
    go_wp2_with (first | (go_at_call 86; refine (there_calls h).mono ?_; rintro e w1 ⟨rfl, rfl⟩) | (go_at_call 93; refine hfind.mono ?_; rintro e w1 ⟨rfl, hb1⟩; have c0 := (h.below hb1).c0; have c6 := Below.cell_some hb1 c5))
    go_ret2
    exact ⟨rfl, hb1⟩

set_option maxHeartbeats 400000 in
theorem clone_calls {base : Nat} {w : World} {v : Value} {xs : List Row} (h : Own Row.enc 2 44 base w v xs) (hl : xs.length ≤ 1000000) :
    Calls Tryz.prog 95 #[v] w
      fun e w' => ∃ v', e = .returned v' ∧ Below w.heap.size w w' ∧ Own Row.enc 2 44 w.heap.size w' v' xs := by
  obtain ⟨i0, hi0, hz0, hzs, hzb⟩ := info_parts info_rowi
  have q22 : ∀ (w : World) (a : Option Addr) (n c n' c' : Nat), (binOp .eql 56 (.slice a n c) (.slice none n' c')).run Tryz.prog w = .ok (.bool a.isNone) w := fun w a n c n' c' => Lib.run_eql_slice_nil w _ _ a n c n' c' under_rows
  rcases h.2 with ⟨rfl, h0⟩ | ⟨g, cap, cur, rfl, hbg, hg, hlc, hcm, hsz, ht⟩
  · have hx0 : xs = [] := List.eq_nil_of_length_eq_zero h0
    subst hx0
    go_enter Tryz.func95, Tryz.ntmps95
    go_wp2
    go_ret
    exact ⟨_, rfl, Below.refl _ _, .nil _ _ _ _ _⟩
  · have hgs := (Array.getElem?_eq_some_iff.1 hg).1
    have hs2 : ∀ j v, (xs.flatMap Row.enc)[j]? = some v → (w.alloc (.cells #[] 44)).cell? ((⟨g, 0, none⟩ : Addr).add j) = some v := fun j v hj => by
      rw [Addr.add_lit, World.cell?_alloc_past _ g _ hgs]
      rw [← ht, List.getElem?_take] at hj
      split at hj
      · simp [World.cell?, hg]
        simpa using hj
      · cases hj
    have hown0 : (w.alloc (.cells #[] 44)).ownsRow w.heap.size 44 2 (.slice (some ⟨w.heap.size, 0, none⟩) 0 0) 0 [] :=
      ⟨rfl, .inr ⟨w.heap.size, 0, #[], rfl, Nat.le_refl _, alloc_at _ _, Nat.le_refl _, by unfold maxLen; omega, rfl, rfl⟩⟩
    have hone : ∀ v ∈ xs.flatMap Row.enc, v.oneCell' = true := fun v hv => by
      obtain ⟨y, _, hy⟩ := List.mem_flatMap.1 hv
      exact row_one y v hy
    have hfl := flat_length row_len xs
    go_enter Tryz.func95, Tryz.ntmps95
    go_wp2_with (at_builtin; refine wpList_append_own_at _ rfl _ _ 56 rfl w.heap.size 44 i0 _ 2 24 under_rows hi0 hz0 hzs hzb rfl (by decide) (.slice (some ⟨w.heap.size, 0, none⟩) 0 0) 0 [] rfl hown0 ⟨g, 0, none⟩ xs.length cap (xs.flatMap Row.enc) rfl hfl hs2 hone (by unfold maxLen; omega) (by omega) (by simp) ?_; intro v' w' hown' hgr _ hat)
    go_ret
    refine ⟨_, rfl, ((Below.refl _ w).alloc (Nat.le_refl _) _).grown hgr (by simp) (fun g hg => ?_), ?_⟩
    · have : w.heap.size = g := by simpa [Value.ownBlock] using hg
      omega
    · unfold Own
      simpa using hown'

set_option maxHeartbeats 400000 in
theorem rows_calls {base : Nat} {w : World} {B : Nat} {v : Value} {xs : List Row} (h : MapAt base w B v xs) (hl : xs.length ≤ 1000000) :
    Calls Tryz.prog 28 #[.pointer (some ⟨B, 0, none⟩)] w
      fun e w' => ∃ v', e = .returned v' ∧ Below w.heap.size w w' ∧ Own Row.enc 2 44 w.heap.size w' v' xs := by
  have c0 := h.c0
  have hcl := clone_calls h.own hl
  go_enter Tryz.func28, Tryz.ntmps28
  go_wp2_with (first | (go_at_call 86; refine (there_calls h).mono ?_; rintro e w1 ⟨rfl, rfl⟩) | (go_at_call 95; refine hcl.mono ?_; rintro e w1 ⟨v', rfl, hb1, own1⟩))
  go_ret
  exact ⟨v', rfl, hb1, own1⟩

set_option maxHeartbeats 400000 in
theorem twin_calls {base : Nat} {w : World} {B : Nat} {v : Value} {xs : List Row} (h : MapAt base w B v xs) (hl : xs.length ≤ 1000000) :
    Calls Tryz.prog 23 #[.pointer (some ⟨B, 0, none⟩)] w
      fun e w' => ∃ C v', e = .returned (.pointer (some ⟨C, 0, none⟩)) ∧ Below w.heap.size w w' ∧ MapAt w.heap.size w' C v' xs := by
  have hrows := rows_calls h hl
  go_enter Tryz.func23, Tryz.ntmps23
  go_wp2_with (first | (go_at_call 86; refine (there_calls h).mono ?_; rintro e w1 ⟨rfl, rfl⟩) | (go_at_call 28; refine hrows.mono ?_; rintro e w1 ⟨v', rfl, hb1, own1⟩; obtain ⟨A', c', rfl, hlc', _⟩ := own1.slice))
  go_ret
  exact ⟨_, _, rfl, hb1.alloc hb1.size _, alloc_at _ _, own1.below ((Below.refl _ w1).alloc (Nat.le_refl _) _), h.rise, fun e => by have := own1.lt _ e; omega, hb1.size⟩

end Go.Proofs.YtanjgeacmpmjhaaGreatDoor
