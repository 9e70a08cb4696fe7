import Derived.Test.YtanjgeacmpmjhaaGreatDoorVerB
set_option linter.unusedVariables false
set_option linter.unusedSimpArgs false
namespace Go.Proofs.YtanjgeacmpmjhaaGreatDoor
open Go.RowKit Go.Shelf

theorem meet_lit4 {a b c d : ByteArray} {r : Bool} (h : meet4 a b c d = r) (w : World) :
    Calls Tryz.prog 139 #[.agg #[.string a, .string b], .agg #[.string c, .string d]] w fun e w' => e = .returned (.bool r) ∧ Below w.heap.size w w' := by
  have := meet_calls a b c d w
  rwa [h] at this

/-- At which key something changed. -/
def HitW (H : Hist) (n : Int) (f t : Str) (k : Str) : Prop := ∃ w, (H k).getLast? = some w ∧ n < w.at_ ∧ meet4 k k f t = true

section
variable {base : Nat} {w : World} {B M n : Nat} {D : DataW Value} {hist : List (List Change)} {trim : Nat} {H : Hist}

theorem Past.since_hit (h : Past hist trim H) (n : Nat) (f t : Str) : sinceH hist n f t = true ↔ ∃ k, HitW H n f t k := h.since n f t

/-- the slice at a key that came. -/
theorem SMap.came {x : Str} (h : SMap Tryz.prog 9 klS okS Was.enc 3 149 base w M n D H) {A : Option Addr} {len cap : Nat} (hok : okS x) (hat : D.atKey (klS x) nilD = .held (.slice A len cap)) (hhas : Maps.has D (klS x) = true) :
    ∃ pre y b o, H x = pre ++ [y] ∧ len = pre.length + 1 ∧ A = some ⟨b, o, none⟩ ∧ pre.length + 1 ≤ cap ∧ w.cell? ⟨b, o + pre.length * 3, none⟩ = some (.int .u32 y.at_) := by
  obtain ⟨v, hv, ho⟩ := h.elem x hok
  rw [hat] at hv
  injection hv with hv
  subst hv
  have hne := (h.has x hok).1 hhas
  rcases List.eq_nil_or_concat (H x) with e | ⟨pre, y, e⟩
  · exact (hne e).elim
  · obtain ⟨A', c', e1, hlc, hc, hr⟩ := ho.rd was_len
    injection e1 with e1 e2 e3
    subst e1
    subst e3
    rw [List.concat_eq_append] at e
    rw [e, List.length_append, List.length_singleton] at hr e2 hlc
    obtain ⟨b, o, rfl, hcell⟩ := hr (by omega)
    exact ⟨pre, y, b, o, e, e2, rfl, hlc, hcell pre.length y (by simp) 0 _ rfl⟩

set_option maxHeartbeats 1000000 in
set_option maxRecDepth 100000 in
theorem psince_calls (h : PastAt base w B M n D hist trim H) (at' : Nat) (f t : ByteArray) (hl : hist.flatten.length ≤ 1000000) :
    Calls Tryz.prog 45 #[.pointer (some ⟨B, 0, none⟩), .int .u32 at', .agg #[.string f, .string t]] w
      fun e w' => e = .returned (.bool (decide (at' < trim) || sinceH hist at' f t)) ∧ Below w.heap.size w w' := by
  have hMlt : M < w.heap.size := h.map.own.lt
  have hA : Below w.heap.size w (w.alloc (.cells #[.string f, .string t] 47)) := (Below.refl _ w).alloc (Nat.le_refl _) _
  have hsp : (w.alloc (.cells #[.string f, .string t] 47)).heap[w.heap.size]? = some (.cells #[.string f, .string t] 47 (0, 0)) := alloc_at' _ rfl
  have hsA : (w.alloc (.cells #[.string f, .string t] 47)).heap.size = w.heap.size + 1 := by simp
  by_cases hlt : at' < trim
  · rw [decide_eq_true hlt]
    go_enter Tryz.func45, Tryz.ntmps45
    go_wp2_with (go_at_call 132; refine (pthere_calls (h.below hA)).mono ?_; rintro e w1 ⟨rfl, rfl⟩; have c2 := (h.below hA).c2)
    go_ret
    exact ⟨by simp, hA⟩
  · rw [decide_eq_false hlt, Bool.false_or]
    generalize hR : sinceH hist at' f t = R
    have HR := Lib.hid hR
    clear hR
    go_enter Tryz.func45, Tryz.ntmps45
    go_wp2_with (first
      | (go_at_call 132; refine (pthere_calls (h.below hA)).mono ?_; rintro e w1 ⟨rfl, rfl⟩; generalize (w.alloc (.cells #[.string f, .string t] 47)) = W0 at *; have HsA := Lib.hid hsA; clear hsA; have c0 := (h.below hA).c0; have c2 := (h.below hA).c2)
      | (at_range; refine wpList_range_own _ rfl _ 140 rfl 9 147 keyS.law map_under rS M n D rfl (h.below hA).map.own ?_; intro w2 hrg2 hg2 hs2))
    go_frame
    have hB2 : Below W0.heap.size W0 w2 := (Below.refl _ W0).grown hg2 (Nat.le_refl _) (fun k e => by cases e)
    have hS2 : ∀ k, HitW H at' f t k → Maps.has D (klS k) = true := fun k ⟨y, hy, _⟩ => by
      have hne : H k ≠ [] := fun e => by rw [e] at hy; cases hy
      exact (h.map.has k (okKey_okS (h.past.key_ok hne))).2 hne
    clear hg2 hs2
    go_loopw [7] (fun _ wr => ∃ left cnt, wr.ranges Tryz.prog 9 rS M W0.heap.size n D left cnt ∧ Below W0.heap.size W0 wr ∧ (∀ k, HitW H at' f t k → left (klS k) = true)) (fun _ wr => wr.rangeLeft M W0.heap.size)
    case atStart => exact ⟨_, _, hrg2, hB2, hS2⟩
    case round =>
      clear hrg2 hS2 hB2
      clear w2
      obtain ⟨left, cnt, hrg, hBr, hS⟩ := hrel
      have hrgX := hrg
      have s0 : wr.cell? ⟨w.heap.size, 0, none⟩ = some (.string f) := (hBr.cell (p := ⟨w.heap.size, 0, none⟩) (by have := HsA.out; show w.heap.size < W0.heap.size; omega)).trans (by simp [World.cell?, hsp])
      have s1 : wr.cell? ⟨w.heap.size, 1, none⟩ = some (.string t) := (hBr.cell (p := ⟨w.heap.size, 1, none⟩) (by have := HsA.out; show w.heap.size < W0.heap.size; omega)).trans (by simp [World.cell?, hsp])
      go_wp2_with (first
        | (at_next; refine wpList_next_S keyS rfl _ rfl rfl hrg (fun hc0 hl0 => ?done) (fun x A len cap w3 cnt' hok hlk hat hhas hrg3 hlt3 hg3 hs3 hen => ?more)
           case' more =>
             obtain ⟨pre, y, b, o, hxe, rfl, rfl, hcap, hcl⟩ := h.map.came hok hat hhas
             have hlen := h.len x
             rw [hxe, List.length_append, List.length_singleton] at hlen
             have hB3 : Below W0.heap.size W0 w3 := hBr.grown hg3 hBr.size (fun k e => by cases e; exact Nat.le_refl _)
             have hbl : b < w.heap.size := World.block_lt_of_cell? w _ hcl
             have hcl3 := (hB3.cell (p := ⟨b, o + pre.length * 3, none⟩) (by have := HsA.out; show b < W0.heap.size; omega)).trans ((hA.cell (p := ⟨b, o + pre.length * 3, none⟩) hbl).trans hcl)
             have t0 := (hB3.cell (p := ⟨w.heap.size, 0, none⟩) (by have := HsA.out; show w.heap.size < W0.heap.size; omega)).trans (by simp [World.cell?, hsp] : W0.cell? ⟨w.heap.size, 0, none⟩ = some (.string f))
             have t1 := (hB3.cell (p := ⟨w.heap.size, 1, none⟩) (by have := HsA.out; show w.heap.size < W0.heap.size; omega)).trans (by simp [World.cell?, hsp] : W0.cell? ⟨w.heap.size, 1, none⟩ = some (.string t))
             have hlast : (H x).getLast? = some y := by rw [hxe]; simp
             have hSt : ¬ HitW H at' f t x → ∀ k, HitW H at' f t k → (left (klS k) && !(klS k).sameKey (klS x)) = true := fun hn k hk => by
               rw [hS k hk, same_str, decide_eq_false (fun e => hn (by rw [← e]; exact hk))]
               rfl
             clear hxe hcl hbl hat hhas hlk hS hrg s0 s1
             by_cases hgt : (at' : Int) < y.at_
             case' pos => cases hmt : meet4 x x f t)
        | (go_at_call 139; refine (meet_lit4 hmt _).mono ?_; rintro e w4 ⟨rfl, hb4⟩))
      all_goals first
        | (have hRf : R = false := by
             rw [← HR.out, Bool.eq_false_iff]
             intro e
             obtain ⟨k, hk⟩ := (Past.since_hit h.past at' f t).1 e
             have := hS k hk
             rw [hl0] at this
             cases this
           rw [hRf]
           clear hRf hS hrg
           go_ret
           exact ⟨rfl, hA.trans (hBr.mono (by have := HsA.out; omega))⟩)
        | (have hRt : R = true := by
             rw [← HR.out]
             exact (Past.since_hit h.past at' f t).2 ⟨x, y, hlast, hgt, hmt⟩
           rw [hRt]
           clear hRt hSt hlast
           have hfin := hA.trans ((hB3.trans (hb4.mono hB3.size)).mono (by have := HsA.out; omega))
           go_ret
           exact ⟨rfl, hfin⟩)
        | exact ⟨⟨_, cnt', World.ranges.kept hrg3 (grown_of_below hb4) (by simp) (by simp), hB3.trans (hb4.mono hB3.size), hSt (fun ⟨y', e, g, m⟩ => by rw [hlast] at e; cases e; rw [hmt] at m; cases m)⟩, by rw [(World.ranges.kept hrg3 (grown_of_below hb4) (by simp) (by simp)).left_eq, hrgX.left_eq]; exact hlt3⟩
        | exact ⟨⟨_, cnt', hrg3, hB3, hSt (fun ⟨y', e, g, m⟩ => by rw [hlast] at e; cases e; exact hgt g)⟩, by rw [hrg3.left_eq, hrgX.left_eq]; exact hlt3⟩
end

end Go.Proofs.YtanjgeacmpmjhaaGreatDoor
