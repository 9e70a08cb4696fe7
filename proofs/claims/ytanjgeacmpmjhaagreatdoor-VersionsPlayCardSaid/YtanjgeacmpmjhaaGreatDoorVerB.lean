import Derived.Test.YtanjgeacmpmjhaaGreatDoorVerA
set_option linter.unusedVariables false
set_option linter.unusedSimpArgs false
namespace Go.Proofs.YtanjgeacmpmjhaaGreatDoor
open Go.RowKit Go.Shelf

theorem same_str (x y : Str) : (klS x).sameKey (klS y) = decide (x = y) := by
  by_cases h : x = y
  · subst h
    simp [Lit.sameKey, klS]
  · rw [decide_eq_false h, Bool.eq_false_iff]
    intro e
    exact h (keyS.inj _ _ (WideAt.sameKey_eq e))

theorem okKey_okS {k : Str} (h : okKey k = true) : okS k := by
  unfold okKey at h
  have : k.size ≤ 16 := by
    simp only [Bool.and_eq_true, decide_eq_true_eq] at h
    exact h.1.2
  show k.size ≤ maxLen
  unfold maxLen
  omega

/-- The rows put so far, of the keys that have come. -/
structure ScanL (mx : Int) (H : Hist) (left : Lit → Bool) (xs : List Row) : Prop where
  get : ∀ k, okKey k = true → getL k xs = if left (klS k) then none else findW mx (H k)
  ok : ∀ x ∈ xs, okKey x.k = true

theorem ScanL.step {mx : Int} {H : Hist} {left : Lit → Bool} {xs : List Row} (h : ScanL mx H left xs) {x : Str} (hx : okKey x = true) (hl : left (klS x) = true) :
    ScanL mx H (fun z => left z && !z.sameKey (klS x)) (match findW mx (H x) with | some v => putL x v xs | none => xs) := by
  refine ⟨fun k hk => ?_, ?_⟩
  · have hg := h.get k hk
    simp only [same_str]
    by_cases e : k = x
    · subst e
      rw [hl] at hg
      cases hf : findW mx (H k) with
      | none => simpa [hf] using hg
      | some v => simp [getL_put]
    · rw [decide_eq_false e]
      simp only [Bool.not_false, Bool.and_true]
      cases hf : findW mx (H x) with
      | none => exact hg
      | some v =>
        simp only
        rw [getL_put, if_neg (fun e' => e e'.symm)]
        exact hg
  · cases hf : findW mx (H x) with
    | none => exact h.ok
    | some v =>
      intro y hy
      rcases putL_mem hy with hy | hy
      · rw [hy]; exact hx
      · exact h.ok y hy

theorem ScanL.fin {mx : Nat} {H : Hist} {left : Lit → Bool} {xs : List Row} (h : ScanL mx H left xs) (hr : Rising xs) (hn : ∀ l, left l = false) {hist : List (List Change)} {trim : Nat} (hp : Past hist trim H) (hm : trim ≤ mx) : xs = rowsN hist mx := by
  refine rising_ext hr (rowsN_rising _ _) fun k => ?_
  by_cases hk : okKey k = true
  · rw [h.get k hk, hn, ← hp.find k mx hm]
    rfl
  · rw [getL_none.2 (fun x hx e => hk (by rw [← e]; exact h.ok x hx)), getL_none.2 (fun x hx e => hk (by rw [← e]; exact hp.rows_ok mx x hx))]

theorem MapAt.but {base : Nat} {w w' : World} {B k : Nat} {v : Value} {xs : List Row} (h : MapAt base w B v xs) (hg : w.grownBy w' (some k)) (ho : OffB w B v k) : MapAt base w' B v xs :=
  ⟨(hg.block B h.lt (fun e => ho.ne (by injection e with e; exact e.symm))).trans h.obj, h.own.kept hg (.inr ho.own), h.rise, h.apart, h.low⟩

section
variable {base : Nat} {w : World} {B M n : Nat} {D : DataW Value} {hist : List (List Change)} {trim : Nat} {H : Hist}

set_option maxHeartbeats 400000 in
theorem pget_calls (h : PastAt base w B M n D hist trim H) (hl : hist.flatten.length ≤ 1000000) (at' : Int) (key : ByteArray) (hk : okS key) :
    Calls Tryz.prog 42 #[.pointer (some ⟨B, 0, none⟩), .int .u32 at', .string key] w
      fun e w' => e = .returned (.tuple #[.int .u32 (retW (lastW (max at' trim) (H key))).1, .bool (retW (lastW (max at' trim) (H key))).2]) ∧ Below w.heap.size w w' := by
  have hf := pfind_calls h hl at' key hk
  go_enter Tryz.func42, Tryz.ntmps42
  go_wp2_with (first
    | (go_at_call 132; refine (pthere_calls h).mono ?_; rintro e w1 ⟨rfl, rfl⟩)
    | (go_at_call 135; refine hf.mono ?_; rintro e w1 ⟨rfl, hb1⟩))
  go_ret2
  exact ⟨rfl, hb1⟩

set_option maxHeartbeats 1000000 in
set_option maxRecDepth 100000 in
theorem pscan_calls (h : PastAt base w B M n D hist trim H) (hl : hist.flatten.length ≤ 1000000) (at' : Nat) (f t : ByteArray) (most : Int) :
    Calls Tryz.prog 41 #[.pointer (some ⟨B, 0, none⟩), .int .u32 at', .agg #[.string f, .string t], .int .i64 most] w
      fun e w' => ∃ v', e = .returned v' ∧ Below w.heap.size w w' ∧ Own Row.enc 2 44 w.heap.size w' v' ((rowsIn f t (rowsN hist (max at' trim))).take most.toNat) := by
  go_enter Tryz.func41, Tryz.ntmps41
  have hMlt : M < w.heap.size := h.map.own.lt
  have hA : Below w.heap.size w (w.alloc (.cells #[.string f, .string t] 47)) := (Below.refl _ w).alloc (Nat.le_refl _) _
  have hsp : (w.alloc (.cells #[.string f, .string t] 47)).heap[w.heap.size]? = some (.cells #[.string f, .string t] 47 (0, 0)) := alloc_at' _ rfl
  have hsA : (w.alloc (.cells #[.string f, .string t] 47)).heap.size = w.heap.size + 1 := by simp
  go_wp2_with (first
    | (go_at_call 132; refine (pthere_calls (h.below hA)).mono ?_; rintro e w1 ⟨rfl, rfl⟩; generalize (w.alloc (.cells #[.string f, .string t] 47)) = W0 at *)
    | (go_at_call 9; refine (new_calls _).mono ?_; rintro e w1 ⟨rfl, hb1, hM1⟩; rw [hsA] at hb1 hM1; have hb1' := hA.trans (hb1.mono (by omega)); have c0 := (h.below hb1').c0)
    | (at_range; refine wpList_range_own _ rfl _ 140 rfl 9 147 keyS.law map_under rS M n D rfl (h.below hb1').map.own ?_; intro w2 hrg2 hg2 hs2))
  go_frame
  have hb2 : Below w1.heap.size w1 w2 := (Below.refl _ w1).grown hg2 (Nat.le_refl _) (fun k e => by cases e)
  have hM2 := hM1.below hb2
  have hlt1 := hM1.lt
  have hoff2 : OffB w2 (w.heap.size + 1) (.slice none 0 0) w1.heap.size := ⟨by omega, by simp [Value.ownBlock], by omega⟩
  have hB2 : Below (w.heap.size + 1) W0 w2 := hb1.trans (hb2.mono (by have := hb1.size; omega))
  have hcnt := hrg2.owns.size_le
  have hn0 := h.cnt
  have hS2 : ScanL ((max at' trim : Nat) : Int) H (Maps.has D) [] := ⟨fun k hk => by
    have hk' : okS k := okKey_okS hk
    cases hh : Maps.has D (klS k) with
    | true => rfl
    | false =>
      have hnil : H k = [] := Classical.byContradiction fun e => by
        rw [(h.map.has k hk').2 e] at hh
        cases hh
      rw [hnil]
      rfl, by simp⟩
  clear hg2 hM1 hb2 hs2
  go_loopw [10] (fun _ wr => ∃ left cnt vM xs, wr.ranges Tryz.prog 9 rS M w1.heap.size n D left cnt ∧ MapAt (w.heap.size + 1) wr (w.heap.size + 1) vM xs ∧ OffB wr (w.heap.size + 1) vM w1.heap.size ∧ Below (w.heap.size + 1) W0 wr ∧ ScanL ((max at' trim : Nat) : Int) H left xs ∧ xs.length + cnt ≤ n) (fun _ wr => wr.rangeLeft M w1.heap.size)
  case atStart => exact ⟨_, _, _, [], hrg2, hM2, hoff2, hB2, hS2, by simpa using hcnt⟩
  case round =>
    clear hrg2 hM2 hoff2 hB2 hS2 hcnt
    clear w2
    obtain ⟨left, cnt, vM, xs, hrg, hMr, hoff, hBr, hS, hle⟩ := hrel
    have hrgX := hrg
    have hMlt0 : M < (w.heap.size + 1) := by omega
    have s0 : wr.cell? ⟨w.heap.size, 0, none⟩ = some (.string f) := (hBr.cell (p := ⟨w.heap.size, 0, none⟩) (by show w.heap.size < (w.heap.size + 1); omega)).trans (by simp [World.cell?, hsp])
    have s1 : wr.cell? ⟨w.heap.size, 1, none⟩ = some (.string t) := (hBr.cell (p := ⟨w.heap.size, 1, none⟩) (by show w.heap.size < (w.heap.size + 1); omega)).trans (by simp [World.cell?, hsp])
    go_wp2_with (at_next; refine wpList_next_S keyS rfl _ rfl rfl hrg ?_ ?_; rotate_left; intro x A len cap w3 cnt' hok hlk hat hhas hrg3 hlt hg3 hs3 hen; rotate_left; intro hc0 hl0)
    · -- all have come
      refine (scan_calls hMr (by omega) f t most).mono ?_
      rintro e w9 ⟨v9, rfl, hb9, hown9⟩
      have hxs := hS.fin hMr.rise hl0 h.past (by omega)
      rw [hxs] at hown9
      have hw1 : w.heap.size + 1 ≤ wr.heap.size := by have := hBr.size; omega
      have hbb := hA.trans ((hBr.trans (hb9.mono hw1)).mono (by omega))
      clear hxs hS hle hrg
      go_wp2
      go_ret
      exact ⟨_, rfl, hbb, ownsRow_lower hown9 (by omega)⟩
    · have hle1 : w.heap.size + 1 ≤ w1.heap.size := by have := hb1.size; omega
      have hB3 : Below (w.heap.size + 1) W0 w3 := hBr.grown hg3 (by have := hBr.size; omega) (fun k e => by cases e; exact hle1)
      have hM3 := hMr.but hg3 hoff
      have ho3 : OffB w3 (w.heap.size + 1) vM w1.heap.size := ⟨hoff.ne, hoff.own, by rw [hs3]; exact hoff.lt⟩
      have hf := pfind_calls (h.below (hA.trans (hB3.mono (by omega)))) hl at' x hok
      have hkx : okKey x = true := h.past.key_ok ((h.map.has x hok).1 hhas)
      have hst := hS.step hkx hlk
      have htold := retW_told (lastW (max (at' : Int) (trim : Int)) (H x))
      have hmax : max (at' : Int) (trim : Int) = ((max at' trim : Nat) : Int) := by omega
      rw [hmax] at hf htold
      unfold findW at hst
      rw [htold] at hst
      clear htold hmax hS hrg hMr hoff hBr hhas hat hlk
      generalize retW (lastW ((max at' trim : Nat) : Int) (H x)) = q at *
      obtain ⟨qv, qb⟩ := q
      refine hf.mono ?_
      rintro e w4 ⟨rfl, hb4⟩
      have hrg4 := hrg3.kept (grown_of_below hb4) (by simp) (by simp)
      have hM4 := hM3.below hb4
      have ho4 := ho3.below hb4
      have hB4 := hB3.trans (hb4.mono (by have := hB3.size; omega))
      cases qb with
      | false =>
        simp only [Bool.false_eq_true, ↓reduceIte] at hst
        go_wp2
        go_roundw
        case rel => exact ⟨_, cnt', vM, xs, hrg4, hM4, ho4, hB4, hst, by omega⟩
        case measure => rw [hrg4.left_eq, hrgX.left_eq]; exact hlt
      | true =>
        simp only [↓reduceIte] at hst
        go_wp2_with (go_at_call 12; refine (put_calls hM4 (by omega) x qv (Nat.le_trans hok (by decide))).mono ?_; rintro e w5 ⟨v5, rfl, hM5, hS5⟩; rw [if_pos hkx] at hM5)
        have hMl : M < (w.heap.size + 1) := by omega
        have hrg5 := World.ranges.blocks hrg4 (hS5.block M (by have := hB4.size; omega) (by omega) (fun e => by have := hM4.own.base_le M e; omega)) (hS5.block _ ho4.lt ho4.ne ho4.own)
        have hlen := putL_length x qv xs
        go_roundw
        case rel => exact ⟨_, cnt', v5, _, hrg5, hM5, ho4.step hS5, hB4.trans (hS5.below hM4), hst, by omega⟩
        case measure => rw [hrg5.left_eq, hrgX.left_eq]; exact hlt
end

end Go.Proofs.YtanjgeacmpmjhaaGreatDoor
