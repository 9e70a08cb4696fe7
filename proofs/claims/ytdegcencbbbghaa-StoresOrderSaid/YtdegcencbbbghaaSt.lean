import Derived.StillTailTactics
import Derived.Test.YtdegcencbbbghaaActs
import Derived.Test.YtdegcencbbbghaaEqRow
import Derived.Test.YtdegcencbbbghaaTwRow
set_option linter.unusedVariables false
set_option linter.unusedSimpArgs false
namespace Go.Proofs.Ytdegcencbbbghaa
open Go.RowKit Go.Shelf

set_option maxHeartbeats 400000 in
theorem row_calls (k : ByteArray) (v : Int) (w : World) :
    Calls Try.prog 19 #[.string k, .int .u32 v] w fun e w' => e = .returned (.agg #[.string k, .int .u32 v]) ∧ Below w.heap.size w w' := by
  go_enter Try.func19, Try.ntmps19
  go_wp2
  refine bodyPost_ret (v := .agg #[.string k, .int .u32 v]) (by simp [results, Try.results19, go_sem]) rfl ⟨rfl, ?_⟩
  exact (Below.refl _ _).alloc (Nat.le_refl _) _

def manyL (xs : List Row) : Bool := decide (200 < xs.length) || decide (10000 < sizeRows xs)

set_option maxHeartbeats 400000 in
theorem many_calls (v : Value) (xs : List Row) (w : World) (hv : Rd Row.enc 2 w v xs) (hl : xs.length ≤ 140737488351232) (hs : ∀ x ∈ xs, x.k.size ≤ 140737488351232) :
    Calls Try.prog 14 #[v] w fun e w' => e = .returned (.bool (manyL xs)) ∧ Below w.heap.size w w' := by
  have hsz := sizeRows_calls v xs w hv hl hs
  obtain ⟨A, c, rfl, hlc, hc⟩ := hv.shape
  unfold manyL
  by_cases h1 : 200 < xs.length
  · go_enter Try.func14, Try.ntmps14
    go_wp2_with (go_at_call 30; refine hsz.mono ?_; rintro e w1 ⟨rfl, hb1⟩)
    go_ret
    exact ⟨ret_bool (by simp [h1]), Below.refl _ _⟩
  · generalize sizeRows xs = n at *
    go_enter Try.func14, Try.ntmps14
    go_wp2_with (go_at_call 30; refine hsz.mono ?_; rintro e w1 ⟨rfl, hb1⟩)
    go_ret
    exact ⟨ret_bool (by simp [h1]; omega), hb1⟩

/-- One row is put, if it may be. -/
def putR (m : List Row) (x : Row) : List Row := if okKey x.k then putL x.k x.v m else m
def putAll (xs : List Row) : List Row := xs.foldl putR []
theorem putR_length (m : List Row) (x : Row) : (putR m x).length ≤ m.length + 1 := by
  unfold putR
  split
  · exact putL_length x.k x.v m
  · omega

theorem putAll_snoc (xs : List Row) (k : Nat) (x : Row) (h : xs[k]? = some x) : putAll (xs.take (k + 1)) = putR (putAll (xs.take k)) x := by
  rw [List.take_add_one, h]
  simp [putAll, List.foldl_append]

theorem foldl_putR_length : ∀ (xs m : List Row), (xs.foldl putR m).length ≤ m.length + xs.length
  | [], m => Nat.le_refl _
  | x :: xs, m => by
    have h1 := foldl_putR_length xs (putR m x)
    have h2 := putR_length m x
    simp only [List.foldl_cons, List.length_cons]
    omega
theorem putAll_length (xs : List Row) : (putAll xs).length ≤ xs.length := by
  have := foldl_putR_length xs []
  rw [List.length_nil, Nat.zero_add] at this
  exact this

theorem getL_putR (key : Str) (m : List Row) (x : Row) : getL key (putR m x) = if okKey x.k = true ∧ x.k = key then some x.v else getL key m := by
  unfold putR
  cases h : okKey x.k with
  | true => simp [getL_put]
  | false => simp

theorem putR_ok {m : List Row} {x : Row} (h : ∀ y ∈ m, okKey y.k = true) : ∀ y ∈ putR m x, okKey y.k = true := by
  unfold putR
  cases hx : okKey x.k with
  | true =>
    intro y hy
    rcases putL_mem (by simpa using hy) with rfl | hy
    · exact hx
    · exact h y hy
  | false => simpa using h

theorem foldl_putR_ok : ∀ (xs m : List Row), (∀ y ∈ m, okKey y.k = true) → ∀ y ∈ xs.foldl putR m, okKey y.k = true
  | [], m, h => h
  | x :: xs, m, h => foldl_putR_ok xs (putR m x) (putR_ok h)
theorem putAll_ok (xs : List Row) : ∀ y ∈ putAll xs, okKey y.k = true := foldl_putR_ok xs [] (by simp)

set_option maxHeartbeats 1000000 in
set_option maxRecDepth 100000 in
theorem puts_calls (v : Value) (xs : List Row) (w : World) (hv : Rd Row.enc 2 w v xs) (hl : xs.length ≤ 1000000) (hs : ∀ x ∈ xs, x.k.size ≤ 140737488351232) :
    Calls Try.prog 15 #[v] w fun e w' => ∃ u, e = .returned (.pointer (some ⟨w.heap.size, 0, none⟩)) ∧ Below w.heap.size w w' ∧ MapAt w.heap.size w' w.heap.size u (putAll xs) := by
  obtain ⟨A, c, rfl, hlc, hc⟩ := hv.shape
  go_enter Try.func15, Try.ntmps15
  go_wp2_with (go_at_call 28; refine (new_calls w).mono ?_; rintro e w1 ⟨rfl, hb1, hM1⟩)
  go_loopw [4] (fun i wr => ∃ (k : Nat) (u : Value), k ≤ xs.length ∧ i = .int .i64 k ∧ MapAt w.heap.size wr w.heap.size u (putAll (xs.take k)) ∧ Below w.heap.size w wr) (fun i _ => xs.length - (intOf i).toNat)
  case atStart => exact ⟨0, _, Nat.zero_le _, rfl, hM1, hb1⟩
  case round =>
    obtain ⟨k, u, hk, rfl, hM, hb⟩ := hrel
    by_cases hlt : k < xs.length
    · have hsx := hs xs[k] (List.getElem_mem _)
      have hsn := putAll_snoc xs k _ (List.getElem?_eq_getElem hlt)
      have hlen := putAll_length (xs.take k)
      rw [List.length_take] at hlen
      obtain ⟨b, o, rfl, hx1, hx2⟩ := (hv.below hb).row (List.getElem?_eq_getElem hlt)
      have hx1w : ∀ wr', Below w.heap.size w wr' → wr'.cell? ⟨b, o + k * 2, none⟩ = some (.string xs[k].k) := fun wr' h => by
        obtain ⟨b', o', e, h1, h2⟩ := (hv.below h).row (List.getElem?_eq_getElem hlt)
        injection e with e
        injection e with e1 e2
        subst e1 e2
        exact h1
      generalize xs[k] = x at *
      have hput : ∀ w2, Below wr.heap.size wr w2 → _ := fun w2 h2 => put_calls (hM.below h2) (by omega) x.k x.v (by omega)
      have hcheck := fun W => check_calls x.k W (by omega)
      have HS := Lib.hid hsn
      clear hs hsn
      unfold putR at HS
      generalize okKey x.k = ok at *
      cases ok
      all_goals
        simp only [↓reduceIte, Bool.false_eq_true] at HS hput
        go_wp2
        go_still_tail 11, (by kernel_rfl)
        change wpList _ _ _ _ _ wr.drew
        generalize hw2 : wr.drew = w2
        have hbd : Below wr.heap.size wr w2 := by rw [← hw2]; exact (Below.refl _ wr).drew
        clear hw2 hx1 hx2
        go_wp2_with (first
          | (go_at_call 26; refine (hput _ hbd).mono ?_; rintro e w3 ⟨u3, rfl, hM3, s3⟩; have hb3 := (Below.step hb hbd).trans (s3.below (hM.below hbd)); have hx3 := hx1w _ hb3)
          | (go_at_call 16; refine (hcheck _).mono ?_; rintro e w4 ⟨rfl, hb4⟩))
        go_roundw
        case rel => exact ⟨k + 1, u3, by omega, by go_num, by rw [HS.out]; exact hM3.below hb4, Below.step hb3 hb4⟩
        case measure => simp [intOf]; omega
    · rw [List.take_of_length_le (by omega)] at hM
      go_wp2
      go_ret
      exact ⟨u, rfl, hb, hM⟩

set_option maxHeartbeats 400000 in
theorem is_calls {base : Nat} {w : World} {B : Nat} {v vl : Value} {xs ys : List Row} (h : MapAt base w B v xs) (hl : xs.length ≤ 1000000) (hv : Rd Row.enc 2 w vl ys) :
    Calls Try.prog 29 #[.pointer (some ⟨B, 0, none⟩), vl] w fun e w' => e = .returned (.bool (decide (xs = ys))) ∧ Below w.heap.size w w' := by
  obtain ⟨A, c, rfl, hlc, hc⟩ := hv.shape
  have hrows := rows_calls h hl
  go_enter Try.func29, Try.ntmps29
  go_wp2_with (first
    | (go_at_call 18; refine hrows.mono ?_; rintro e w1 ⟨v1, rfl, hb1, own1⟩; have hs1 := sameRows_calls v1 _ xs ys w1 (own1.rd row_len) (hv.below hb1); obtain ⟨A1, c1, rfl, _, _⟩ := own1.slice)
    | (go_at_call 21; refine hs1.mono ?_; rintro e w2 ⟨rfl, hb2⟩))
  go_ret
  exact ⟨rfl, Below.step hb1 hb2⟩

end Go.Proofs.Ytdegcencbbbghaa
