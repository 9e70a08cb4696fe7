import Derived.Test.YtdegcencbbbghaaSt
import Derived.Test.YtdegcencbbbghaaChange
import Derived.Test.YtdegcencbbbghaaScan2
set_option linter.unusedVariables false
set_option linter.unusedSimpArgs false
namespace Go.Proofs.Ytdegcencbbbghaa
open Go.RowKit Go.Shelf

/-- A slice that was written out. -/
theorem rd_lit {α : Type} (enc : α → List Value) (k : Nat) (hk : ∀ x, (enc x).length = k) (E : TypeId) (xs : List α) (hl : xs.length ≤ 9223372036854775807) (W : World) : Rd enc k (W.alloc (.cells (xs.flatMap enc).toArray E)) (.slice (some ⟨W.heap.size, 0, none⟩) xs.length xs.length) xs :=
  ⟨_, xs.length, rfl, Nat.le_refl _, hl, fun _ => ⟨W.heap.size, 0, rfl, fun i x hi j u hu => by
    rw [World.cell?_alloc_at (w := W) _ _ W.heap.size _ rfl, Nat.zero_add]
    simpa using flat_get hk xs i x j u hi hu⟩⟩

abbrev sA : ByteArray := ⟨#[97]⟩
abbrev sB : ByteArray := ⟨#[98]⟩
abbrev sC : ByteArray := ⟨#[99]⟩
abbrev sD : ByteArray := ⟨#[100]⟩
abbrev sE : ByteArray := ⟨#[101]⟩
abbrev sF : ByteArray := ⟨#[102]⟩
abbrev sZ : ByteArray := ⟨#[122]⟩
abbrev sU : ByteArray := ⟨#[65]⟩

theorem put_lit {base : Nat} {B : Nat} (key : ByteArray) (n : Int) (xs ys : List Row) (r : Int) (hk : key.size = 1) (hx : xs.length ≤ 100) (h : (if okKey key then putL key n xs else xs) = ys) (hr : (if okKey key then (0 : Int) else 1) = r) {w : World} {v : Value} (hM : MapAt base w B v xs) :
    Calls Try.prog 26 #[.pointer (some ⟨B, 0, none⟩), .string key, .int .u32 n] w fun e w' => ∃ v', e = .returned (.int .i64 r) ∧ MapAt base w' B v' ys ∧ Step w w' B v v' := by
  have := put_calls hM (by omega) key n (by omega)
  rw [h, hr] at this
  exact this

theorem del_lit {base : Nat} {B : Nat} (key : ByteArray) (xs ys : List Row) (r : Int) (hk : key.size = 1) (hx : xs.length ≤ 100) (h : (if okKey key then delL key xs else xs) = ys) (hr : (if okKey key then (if (getL key xs).isSome then (0 : Int) else 6) else 1) = r) {w : World} {v : Value} (hM : MapAt base w B v xs) :
    Calls Try.prog 25 #[.pointer (some ⟨B, 0, none⟩), .string key] w fun e w' => ∃ v', e = .returned (.int .i64 r) ∧ MapAt base w' B v' ys ∧ Step w w' B v v' := by
  have := del_calls hM (by omega) key (by omega)
  rw [h, hr] at this
  exact this

theorem get_lit {base : Nat} {B : Nat} (key : ByteArray) (xs : List Row) (n : Int) (b : Bool) (hx : xs.length ≤ 100) (h : (getL key xs).getD 0 = n) (hb : (getL key xs).isSome = b) {w : World} {v : Value} (hM : MapAt base w B v xs) :
    Calls Try.prog 17 #[.pointer (some ⟨B, 0, none⟩), .string key] w fun e w' => e = .returned (.tuple #[.int .u32 n, .bool b]) ∧ Below w.heap.size w w' := by
  have := get_calls hM (by omega) key
  rw [h, hb] at this
  exact this

theorem scan_lit {base : Nat} {B : Nat} (f t : ByteArray) (most : Int) (xs ys : List Row) (hx : xs.length ≤ 100) (h : (rowsIn f t xs).take most.toNat = ys) {w : World} {v : Value} (hM : MapAt base w B v xs) :
    Calls Try.prog 22 #[.pointer (some ⟨B, 0, none⟩), .agg #[.string f, .string t], .int .i64 most] w fun e w' => ∃ A c, e = .returned (.slice A ys.length c) ∧ Below w.heap.size w w' ∧ Rd Row.enc 2 w' (.slice A ys.length c) ys := by
  have := scan_calls hM (by omega) f t most
  rw [h] at this
  refine this.mono ?_
  rintro e w' ⟨v', rfl, hb, own⟩
  obtain ⟨A, c, rfl, _, _⟩ := own.slice
  exact ⟨A, c, rfl, hb, own.rd row_len⟩

theorem is_lit {base : Nat} {B : Nat} (xs ys : List Row) (hx : xs.length ≤ 100) (hy : ys.length ≤ 100) (h : xs = ys) {w : World} {v : Value} (hM : MapAt base w B v xs) :
    Calls Try.prog 29 #[.pointer (some ⟨B, 0, none⟩), .slice (some ⟨w.heap.size, 0, none⟩) ys.length ys.length] (w.alloc (.cells (ys.flatMap Row.enc).toArray 29)) fun e w' => e = .returned (.bool true) ∧ Below w.heap.size w w' := by
  subst h
  refine (is_calls (hM.below ((Below.refl _ w).alloc (Nat.le_refl _) _)) (by omega) (rd_lit Row.enc 2 row_len 29 xs (by omega) w)).mono ?_
  rintro e w' ⟨rfl, hb⟩
  exact ⟨by simp, Below.step ((Below.refl _ w).alloc (Nat.le_refl _) _) hb⟩

theorem same_lit (A : Option Addr) (n c : Nat) (xs : List Row) (hx : xs.length ≤ 100) {w : World} (hv : Rd Row.enc 2 w (.slice A n c) xs) :
    Calls Try.prog 21 #[.slice A n c, .slice (some ⟨w.heap.size, 0, none⟩) xs.length xs.length] (w.alloc (.cells (xs.flatMap Row.enc).toArray 29)) fun e w' => e = .returned (.bool true) ∧ Below w.heap.size w w' := by
  refine (sameRows_calls _ _ xs xs _ (hv.below ((Below.refl _ w).alloc (Nat.le_refl _) _)) (rd_lit Row.enc 2 row_len 29 xs (by omega) w)).mono ?_
  rintro e w' ⟨rfl, hb⟩
  exact ⟨by simp, Below.step ((Below.refl _ w).alloc (Nat.le_refl _) _) hb⟩

theorem change_lit {base : Nat} {B : Nat} (cs : List Change) (xs ys : List Row) (r : Int) (hk : ∀ c ∈ cs, c.k.size ≤ 9223372036854775807) (hx : xs.length ≤ 100) (hc : cs.length ≤ 100) (h : (if cs.all okChange then doCs cs xs else xs) = ys) (hr : (if cs.all okChange then (0 : Int) else 1) = r) {w : World} {v : Value} (hM : MapAt base w B v xs) :
    Calls Try.prog 24 #[.pointer (some ⟨B, 0, none⟩), .slice (some ⟨w.heap.size, 0, none⟩) cs.length cs.length] (w.alloc (.cells (cs.flatMap Change.enc).toArray 45)) fun e w' => ∃ v', e = .returned (.int .i64 r) ∧ MapAt base w' B v' ys ∧ Step w w' B v v' := by
  have hb : Below w.heap.size w (w.alloc (.cells (cs.flatMap Change.enc).toArray 45)) := (Below.refl _ w).alloc (Nat.le_refl _) _
  have := change_calls (hM.below hb) ⟨rd_lit Change.enc 3 change_len 45 cs (by omega) w, .inr fun b e => by
    injection e with e
    subst e
    exact ⟨fun e => by have := hM.lt; have e : w.heap.size = B := e; omega, fun e => by have : w.heap.size < w.heap.size := hM.own.lt _ e; omega, by simp⟩⟩ (by omega) hk
  rw [h, hr] at this
  refine this.mono ?_
  rintro e w' ⟨v', rfl, h1, h2⟩
  exact ⟨v', rfl, h1, (Step.of_below hb B v).trans h2⟩

set_option maxHeartbeats 4000000 in
set_option maxRecDepth 100000 in
/-- What the document fixes is so: the law's sample. -/
theorem alive_calls (w : World) :
    Calls Try.prog 13 #[] w fun e w' => e = .returned (.bool true) ∧ Below w.heap.size w w' := by
  have p1 := fun (w' : World) v => put_lit (base := w.heap.size) (B := w.heap.size) (w := w') (v := v) sB 2 [] [⟨sB, 2⟩] 0 rfl (by decide) (by decide +kernel) (by decide +kernel)
  have p2 := fun (w' : World) v => put_lit (base := w.heap.size) (B := w.heap.size) (w := w') (v := v) sA 1 [⟨sB, 2⟩] [⟨sA, 1⟩, ⟨sB, 2⟩] 0 rfl (by decide) (by decide +kernel) (by decide +kernel)
  have p3 := fun (w' : World) v => put_lit (base := w.heap.size) (B := w.heap.size) (w := w') (v := v) sB 3 [⟨sA, 1⟩, ⟨sB, 2⟩] [⟨sA, 1⟩, ⟨sB, 3⟩] 0 rfl (by decide) (by decide +kernel) (by decide +kernel)
  have p4 := fun (w' : World) v => put_lit (base := w.heap.size) (B := w.heap.size) (w := w') (v := v) sU 1 [⟨sB, 3⟩] [⟨sB, 3⟩] 1 rfl (by decide) (by decide +kernel) (by decide +kernel)
  have g1 := fun (w' : World) v => get_lit (base := w.heap.size) (B := w.heap.size) (w := w') (v := v) sB [⟨sA, 1⟩, ⟨sB, 3⟩] 3 true (by decide) (by decide +kernel) (by decide +kernel)
  have g2 := fun (w' : World) v => get_lit (base := w.heap.size) (B := w.heap.size) (w := w') (v := v) sC [⟨sA, 1⟩, ⟨sB, 3⟩] 0 false (by decide) (by decide +kernel) (by decide +kernel)
  have s1 := fun (w' : World) v => scan_lit (base := w.heap.size) (B := w.heap.size) (w := w') (v := v) sA sB 1 [⟨sA, 1⟩, ⟨sB, 3⟩] [⟨sA, 1⟩] (by decide) (by decide +kernel)
  have s2 := fun (w' : World) v => scan_lit (base := w.heap.size) (B := w.heap.size) (w := w') (v := v) sB sZ 9 [⟨sA, 1⟩, ⟨sB, 3⟩] [⟨sB, 3⟩] (by decide) (by decide +kernel)
  have s3 := fun (w' : World) v => scan_lit (base := w.heap.size) (B := w.heap.size) (w := w') (v := v) sA sB (-1) [⟨sA, 1⟩, ⟨sB, 3⟩] [] (by decide) (by decide +kernel)
  have d1 := fun (w' : World) v => del_lit (base := w.heap.size) (B := w.heap.size) (w := w') (v := v) sC [⟨sA, 1⟩, ⟨sB, 3⟩] [⟨sA, 1⟩, ⟨sB, 3⟩] 6 rfl (by decide) (by decide +kernel) (by decide +kernel)
  have d2 := fun (w' : World) v => del_lit (base := w.heap.size) (B := w.heap.size) (w := w') (v := v) sA [⟨sA, 1⟩, ⟨sB, 3⟩] [⟨sB, 3⟩] 0 rfl (by decide) (by decide +kernel) (by decide +kernel)
  have c1 := fun (w' : World) v => change_lit (base := w.heap.size) (B := w.heap.size) (w := w') (v := v) [⟨sC, 5, false⟩, ⟨sB, 0, true⟩, ⟨sD, 0, true⟩] [⟨sB, 3⟩] [⟨sC, 5⟩] 0 (by decide +kernel) (by decide) (by decide) (by decide +kernel) (by decide +kernel)
  have c2 := fun (w' : World) v => change_lit (base := w.heap.size) (B := w.heap.size) (w := w') (v := v) [⟨sE, 1, false⟩, ⟨sF, 1, true⟩] [⟨sC, 5⟩] [⟨sC, 5⟩] 1 (by decide +kernel) (by decide) (by decide) (by decide +kernel) (by decide +kernel)
  have i1 := fun (w' : World) v => is_lit (base := w.heap.size) (B := w.heap.size) (w := w') (v := v) [⟨sA, 1⟩, ⟨sB, 3⟩] [⟨sA, 1⟩, ⟨sB, 3⟩] (by decide) (by decide) rfl
  have i2 := fun (w' : World) v => is_lit (base := w.heap.size) (B := w.heap.size) (w := w') (v := v) [⟨sC, 5⟩] [⟨sC, 5⟩] (by decide) (by decide) rfl
  go_enter Try.func13, Try.ntmps13
  go_wp2_with (first
    | (go_at_call 28; refine (new_calls w).mono ?_; rintro e w1 ⟨rfl, hB, hM⟩)
    | (go_at_call 26; refine (p1 _ _ hM).mono ?_; rintro e w1 ⟨v1, rfl, h1, t1⟩; clear p1; replace hB := hB.trans (t1.below hM); clear hM t1; have hM := h1; clear h1)
    | (go_at_call 26; refine (p2 _ _ hM).mono ?_; rintro e w1 ⟨v1, rfl, h1, t1⟩; clear p2; replace hB := hB.trans (t1.below hM); clear hM t1; have hM := h1; clear h1)
    | (go_at_call 26; refine (p3 _ _ hM).mono ?_; rintro e w1 ⟨v1, rfl, h1, t1⟩; clear p3; replace hB := hB.trans (t1.below hM); clear hM t1; have hM := h1; clear h1)
    | (go_at_call 19; refine (row_calls _ _ _).mono ?_; rintro e w1 ⟨rfl, hb1⟩; replace hB := Below.step hB hb1; replace hM := hM.below hb1; (try replace r1 := r1.below hb1); (try replace r2 := r2.below hb1); clear hb1)
    | (go_at_call 29; refine (i1 _ _ hM).mono ?_; rintro e w1 ⟨rfl, hb1⟩; clear i1; replace hB := Below.step hB hb1; replace hM := hM.below hb1; (try replace r1 := r1.below hb1); (try replace r2 := r2.below hb1); clear hb1)
    | (go_at_call 29; refine (i2 _ _ hM).mono ?_; rintro e w1 ⟨rfl, hb1⟩; replace hB := Below.step hB hb1; replace hM := hM.below hb1; (try replace r1 := r1.below hb1); (try replace r2 := r2.below hb1); clear hb1)
    | (go_at_call 17; refine (g1 _ _ hM).mono ?_; rintro e w1 ⟨rfl, hb1⟩; clear g1; replace hB := Below.step hB hb1; replace hM := hM.below hb1; (try replace r1 := r1.below hb1); (try replace r2 := r2.below hb1); clear hb1)
    | (go_at_call 17; refine (g2 _ _ hM).mono ?_; rintro e w1 ⟨rfl, hb1⟩; clear g2; replace hB := Below.step hB hb1; replace hM := hM.below hb1; (try replace r1 := r1.below hb1); (try replace r2 := r2.below hb1); clear hb1)
    | (go_at_call 22; refine (s1 _ _ hM).mono ?_; rintro e w1 ⟨A1, k1, rfl, hb1, r1'⟩; clear s1; replace hB := Below.step hB hb1; replace hM := hM.below hb1; (try replace r1 := r1.below hb1); (try replace r2 := r2.below hb1); clear hb1; have r1 := r1'; clear r1')
    | (go_at_call 22; refine (s2 _ _ hM).mono ?_; rintro e w1 ⟨A2, k2, rfl, hb1, r2'⟩; clear s2; replace hB := Below.step hB hb1; replace hM := hM.below hb1; (try replace r1 := r1.below hb1); (try replace r2 := r2.below hb1); clear hb1; have r2 := r2'; clear r2')
    | (go_at_call 22; refine (s3 _ _ hM).mono ?_; rintro e w1 ⟨A3, k3, rfl, hb1, r3'⟩; clear s3; replace hB := Below.step hB hb1; replace hM := hM.below hb1; (try replace r1 := r1.below hb1); (try replace r2 := r2.below hb1); clear hb1; have r3 := r3'; clear r3')
    | (go_at_call 21; refine (same_lit _ _ _ [⟨sA, 1⟩] (by decide) r1).mono ?_; rintro e w1 ⟨rfl, hb1⟩; clear r1; replace hB := Below.step hB hb1; replace hM := hM.below hb1; (try replace r1 := r1.below hb1); (try replace r2 := r2.below hb1); clear hb1)
    | (go_at_call 21; refine (same_lit _ _ _ [⟨sB, 3⟩] (by decide) r2).mono ?_; rintro e w1 ⟨rfl, hb1⟩; clear r2; replace hB := Below.step hB hb1; replace hM := hM.below hb1; (try replace r1 := r1.below hb1); (try replace r2 := r2.below hb1); clear hb1)
    | (go_at_call 25; refine (d1 _ _ hM).mono ?_; rintro e w1 ⟨v1, rfl, h1, t1⟩; clear d1; replace hB := hB.trans (t1.below hM); clear hM t1; have hM := h1; clear h1)
    | (go_at_call 25; refine (d2 _ _ hM).mono ?_; rintro e w1 ⟨v1, rfl, h1, t1⟩; clear d2; replace hB := hB.trans (t1.below hM); clear hM t1; have hM := h1; clear h1)
    | (go_at_call 26; refine (p4 _ _ hM).mono ?_; rintro e w1 ⟨v1, rfl, h1, t1⟩; clear p4; replace hB := hB.trans (t1.below hM); clear hM t1; have hM := h1; clear h1)
    | (go_at_call 24; refine (c1 _ _ hM).mono ?_; rintro e w1 ⟨v1, rfl, h1, t1⟩; clear c1; replace hB := hB.trans (t1.below hM); clear hM t1; have hM := h1; clear h1)
    | (go_at_call 24; refine (c2 _ _ hM).mono ?_; rintro e w1 ⟨v1, rfl, h1, t1⟩; clear c2; replace hB := hB.trans (t1.below hM); clear hM t1; have hM := h1; clear h1))
  go_ret
  exact ⟨rfl, hB⟩

end Go.Proofs.Ytdegcencbbbghaa
