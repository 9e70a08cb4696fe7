import Derived.Test.YtbfmneblhlmiiaaJoinC
import Derived.Test.YtbfmneblhlmiiaaSpansP
set_option linter.unusedVariables false
set_option linter.unusedSimpArgs false
namespace Go.Proofs.Ytbfmneblhlmiiaa
open Go.RowKit Go.Shelf

set_option maxHeartbeats 400000 in
theorem s_calls (a b : ByteArray) (w : World) :
    Calls Try.prog 29 #[.string a, .string b] w fun e w' => e = .returned (.agg #[.string a, .string b]) ∧ Below w.heap.size w w' := by
  go_enter Try.func29, Try.ntmps29
  go_wp2
  refine bodyPost_ret (v := .agg #[.string a, .string b]) (by simp [results, Try.results29, go_sem]) rfl ⟨rfl, ?_⟩
  exact (Below.refl _ _).alloc (Nat.le_refl _) _

abbrev tA : ByteArray := ⟨#[97]⟩
abbrev tB : ByteArray := ⟨#[98]⟩
abbrev tC : ByteArray := ⟨#[99]⟩
abbrev tD : ByteArray := ⟨#[100]⟩
abbrev tE : ByteArray := ⟨#[101]⟩
abbrev tF : ByteArray := ⟨#[102]⟩
abbrev tY : ByteArray := ⟨#[121]⟩
abbrev tZ : ByteArray := ⟨#[122]⟩

theorem join_lit (xs ys : List Span) (hx : xs.length ≤ 100) (h : joinF xs = ys) (w : World) (H : Nat) (hH : w.heap.size = H) :
    Calls Try.prog 27 #[.slice (some ⟨H, 0, none⟩) xs.length xs.length] (w.alloc (.cells (xs.flatMap Span.enc).toArray 27)) fun e w' => ∃ A c, e = .returned (.slice A ys.length c) ∧ Below w.heap.size w w' ∧ Rd Span.enc 2 w' (.slice A ys.length c) ys := by
  subst hH
  refine (join_calls _ xs _ (rd_lit Span.enc 2 span_len 27 xs (by omega) w) (by omega)).mono ?_
  rintro e w' ⟨v', rfl, own, hb⟩
  rw [h] at own
  have hr := own.rd span_len
  obtain ⟨A, c, rfl, _, _⟩ := own.slice
  exact ⟨A, c, rfl, Below.step ((Below.refl _ w).alloc (Nat.le_refl _) _) hb, hr⟩

theorem same_litS (A : Option Addr) (n c : Nat) (xs ys : List Span) (b : Bool) (hn : n = xs.length) (hb : decide (xs = ys) = b) (hx : ys.length ≤ 100) {w : World} (hv : Rd Span.enc 2 w (.slice A n c) xs) (H : Nat) (hH : w.heap.size = H) :
    Calls Try.prog 28 #[.slice A n c, .slice (some ⟨H, 0, none⟩) ys.length ys.length] (w.alloc (.cells (ys.flatMap Span.enc).toArray 27)) fun e w' => e = .returned (.bool b) ∧ Below w.heap.size w w' := by
  subst hn
  subst hH
  refine (sameSpans_calls _ _ xs ys _ (hv.below ((Below.refl _ w).alloc (Nat.le_refl _) _)) (rd_lit Span.enc 2 span_len 27 ys (by omega) w)).mono ?_
  rintro e w' ⟨rfl, hb'⟩
  exact ⟨by rw [hb], Below.step ((Below.refl _ w).alloc (Nat.le_refl _) _) hb'⟩

theorem any_lit (a b : ByteArray) (xs : List Span) (r : Bool) (hx : xs.length ≤ 100) (h : (xs.any fun x => meet4 a b x.f x.t) = r) (w : World) (H : Nat) (hH : w.heap.size = H) :
    Calls Try.prog 21 #[.agg #[.string a, .string b], .slice (some ⟨H, 0, none⟩) xs.length xs.length] (w.alloc (.cells (xs.flatMap Span.enc).toArray 27)) fun e w' => e = .returned (.bool r) ∧ Below w.heap.size w w' := by
  subst hH
  refine (any_calls a b _ xs _ (rd_lit Span.enc 2 span_len 27 xs (by omega) w)).mono ?_
  rintro e w' ⟨rfl, hb'⟩
  exact ⟨by rw [h], Below.step ((Below.refl _ w).alloc (Nat.le_refl _) _) hb'⟩

theorem meet_lit (a b c d : ByteArray) (r : Bool) (h : meet4 a b c d = r) (w : World) :
    Calls Try.prog 19 #[.agg #[.string a, .string b], .agg #[.string c, .string d]] w fun e w' => e = .returned (.bool r) ∧ Below w.heap.size w w' := by
  have := meet_calls a b c d w
  rwa [h] at this

set_option maxHeartbeats 2000000 in
set_option maxRecDepth 100000 in
/-- What the document fixes is so: the law's sample. -/
theorem aliveS_calls (w : World) :
    Calls Try.prog 24 #[] w fun e w' => e = .returned (.bool true) ∧ Below w.heap.size w w' := by
  have j1 := fun w' : World => join_lit [⟨tC, tE⟩, ⟨tA, tB⟩, ⟨tB, tD⟩, ⟨tF, tF⟩, ⟨tZ, tY⟩] [⟨tA, tE⟩, ⟨tF, tF⟩] (by decide) (by decide +kernel) w' _ rfl
  have m1 := fun w' : World => meet_lit tA tC tC tD true (by decide +kernel) w'
  have m2 := fun w' : World => meet_lit tA tB tC tD false (by decide +kernel) w'
  have m3 := fun w' : World => meet_lit tC tA tA tC false (by decide +kernel) w'
  have n1 := fun w' : World => any_lit tB tB [⟨tA, tA⟩, ⟨tB, tC⟩] true (by decide) (by decide +kernel) w' _ rfl
  have heqg := eqg_span
  have heql := eql_span
  have hB := Below.refl w.heap.size w
  go_enter Try.func24, Try.ntmps24
  go_wp2_with (first
    | (go_at_call 29; refine (s_calls _ _ _).mono ?_; rintro e w1 ⟨rfl, hb1⟩; replace hB := Below.step hB hb1; (try replace hr := hr.below hb1); (try replace c0 := Below.cell_some hb1 c0); (try replace c1 := Below.cell_some hb1 c1); (try replace c2 := Below.cell_some hb1 c2); (try replace c3 := Below.cell_some hb1 c3); (try replace d0 := Below.cell_some hb1 d0); (try replace d1 := Below.cell_some hb1 d1); (try replace d2 := Below.cell_some hb1 d2); (try replace d3 := Below.cell_some hb1 d3); clear hb1)
    | (go_at_call 27; refine (j1 _).mono ?_; rintro e w1 ⟨A1, k1, rfl, hb1, hr⟩; replace hB := Below.step hB hb1; clear hb1 j1; have hbb : Below w.heap.size w ((w1.alloc (.cells #[.int .u8 4, .string tA, .string tC, .int .u32 0] 25)).alloc (.cells #[.int .u8 2, .string tB, .string ⟨#[]⟩, .int .u32 5] 25)) := Below.step hB (((Below.refl _ w1).alloc (Nat.le_refl _) _).alloc (by simp) _); have c0 : ((w1.alloc (.cells #[.int .u8 4, .string tA, .string tC, .int .u32 0] 25)).alloc (.cells #[.int .u8 2, .string tB, .string ⟨#[]⟩, .int .u32 5] 25)).cell? ⟨w1.heap.size, 0, none⟩ = some (.int .u8 4) := (by simp); have c1 : ((w1.alloc (.cells #[.int .u8 4, .string tA, .string tC, .int .u32 0] 25)).alloc (.cells #[.int .u8 2, .string tB, .string ⟨#[]⟩, .int .u32 5] 25)).cell? ⟨w1.heap.size, 1, none⟩ = some (.string tA) := (by simp); have c2 : ((w1.alloc (.cells #[.int .u8 4, .string tA, .string tC, .int .u32 0] 25)).alloc (.cells #[.int .u8 2, .string tB, .string ⟨#[]⟩, .int .u32 5] 25)).cell? ⟨w1.heap.size, 2, none⟩ = some (.string tC) := (by simp); have c3 : ((w1.alloc (.cells #[.int .u8 4, .string tA, .string tC, .int .u32 0] 25)).alloc (.cells #[.int .u8 2, .string tB, .string ⟨#[]⟩, .int .u32 5] 25)).cell? ⟨w1.heap.size, 3, none⟩ = some (.int .u32 0) := (by simp); have d0 : ((w1.alloc (.cells #[.int .u8 4, .string tA, .string tC, .int .u32 0] 25)).alloc (.cells #[.int .u8 2, .string tB, .string ⟨#[]⟩, .int .u32 5] 25)).cell? ⟨w1.heap.size + 1, 0, none⟩ = some (.int .u8 2) := (by simp); have d1 : ((w1.alloc (.cells #[.int .u8 4, .string tA, .string tC, .int .u32 0] 25)).alloc (.cells #[.int .u8 2, .string tB, .string ⟨#[]⟩, .int .u32 5] 25)).cell? ⟨w1.heap.size + 1, 1, none⟩ = some (.string tB) := (by simp); have d2 : ((w1.alloc (.cells #[.int .u8 4, .string tA, .string tC, .int .u32 0] 25)).alloc (.cells #[.int .u8 2, .string tB, .string ⟨#[]⟩, .int .u32 5] 25)).cell? ⟨w1.heap.size + 1, 2, none⟩ = some (.string ⟨#[]⟩) := (by simp); have d3 : ((w1.alloc (.cells #[.int .u8 4, .string tA, .string tC, .int .u32 0] 25)).alloc (.cells #[.int .u8 2, .string tB, .string ⟨#[]⟩, .int .u32 5] 25)).cell? ⟨w1.heap.size + 1, 3, none⟩ = some (.int .u32 5) := (by simp); replace hr := hr.below (((Below.refl _ w1).alloc (Nat.le_refl _) (.cells #[.int .u8 4, .string tA, .string tC, .int .u32 0] 25)).alloc (by simp) (.cells #[.int .u8 2, .string tB, .string ⟨#[]⟩, .int .u32 5] 25)); replace hB := hbb; clear hbb)
    | (go_at_call 28; refine (same_litS _ _ _ [⟨tA, tE⟩, ⟨tF, tF⟩] [⟨tA, tE⟩, ⟨tF, tF⟩] true rfl (by decide +kernel) (by decide) hr _ rfl).mono ?_; rintro e w1 ⟨rfl, hb1⟩; clear hr; replace hB := Below.step hB hb1; (try replace hr := hr.below hb1); (try replace c0 := Below.cell_some hb1 c0); (try replace c1 := Below.cell_some hb1 c1); (try replace c2 := Below.cell_some hb1 c2); (try replace c3 := Below.cell_some hb1 c3); (try replace d0 := Below.cell_some hb1 d0); (try replace d1 := Below.cell_some hb1 d1); (try replace d2 := Below.cell_some hb1 d2); (try replace d3 := Below.cell_some hb1 d3); clear hb1)
    | (go_at_call 13; refine (of_calls _ _ _ _ _).mono ?_; rintro e w1 ⟨rfl, hb1⟩; replace hB := Below.step hB hb1; (try replace hr := hr.below hb1); (try replace c0 := Below.cell_some hb1 c0); (try replace c1 := Below.cell_some hb1 c1); (try replace c2 := Below.cell_some hb1 c2); (try replace c3 := Below.cell_some hb1 c3); (try replace d0 := Below.cell_some hb1 d0); (try replace d1 := Below.cell_some hb1 d1); (try replace d2 := Below.cell_some hb1 d2); (try replace d3 := Below.cell_some hb1 d3); clear hb1)
    | (go_at_call 15; refine (writes_calls _ _ _ _ _).mono ?_; rintro e w1 ⟨rfl, hb1⟩; replace hB := Below.step hB hb1; (try replace hr := hr.below hb1); (try replace c0 := Below.cell_some hb1 c0); (try replace c1 := Below.cell_some hb1 c1); (try replace c2 := Below.cell_some hb1 c2); (try replace c3 := Below.cell_some hb1 c3); (try replace d0 := Below.cell_some hb1 d0); (try replace d1 := Below.cell_some hb1 d1); (try replace d2 := Below.cell_some hb1 d2); (try replace d3 := Below.cell_some hb1 d3); clear hb1)
    | (go_at_call 19; refine (m1 _).mono ?_; rintro e w1 ⟨rfl, hb1⟩; clear m1; replace hB := Below.step hB hb1; (try replace hr := hr.below hb1); (try replace c0 := Below.cell_some hb1 c0); (try replace c1 := Below.cell_some hb1 c1); (try replace c2 := Below.cell_some hb1 c2); (try replace c3 := Below.cell_some hb1 c3); (try replace d0 := Below.cell_some hb1 d0); (try replace d1 := Below.cell_some hb1 d1); (try replace d2 := Below.cell_some hb1 d2); (try replace d3 := Below.cell_some hb1 d3); clear hb1)
    | (go_at_call 19; refine (m2 _).mono ?_; rintro e w1 ⟨rfl, hb1⟩; clear m2; replace hB := Below.step hB hb1; (try replace hr := hr.below hb1); (try replace c0 := Below.cell_some hb1 c0); (try replace c1 := Below.cell_some hb1 c1); (try replace c2 := Below.cell_some hb1 c2); (try replace c3 := Below.cell_some hb1 c3); (try replace d0 := Below.cell_some hb1 d0); (try replace d1 := Below.cell_some hb1 d1); (try replace d2 := Below.cell_some hb1 d2); (try replace d3 := Below.cell_some hb1 d3); clear hb1)
    | (go_at_call 19; refine (m3 _).mono ?_; rintro e w1 ⟨rfl, hb1⟩; clear m3; replace hB := Below.step hB hb1; (try replace hr := hr.below hb1); (try replace c0 := Below.cell_some hb1 c0); (try replace c1 := Below.cell_some hb1 c1); (try replace c2 := Below.cell_some hb1 c2); (try replace c3 := Below.cell_some hb1 c3); (try replace d0 := Below.cell_some hb1 d0); (try replace d1 := Below.cell_some hb1 d1); (try replace d2 := Below.cell_some hb1 d2); (try replace d3 := Below.cell_some hb1 d3); clear hb1)
    | (go_at_call 21; refine (n1 _).mono ?_; rintro e w1 ⟨rfl, hb1⟩; clear n1; replace hB := Below.step hB hb1; (try replace hr := hr.below hb1); (try replace c0 := Below.cell_some hb1 c0); (try replace c1 := Below.cell_some hb1 c1); (try replace c2 := Below.cell_some hb1 c2); (try replace c3 := Below.cell_some hb1 c3); (try replace d0 := Below.cell_some hb1 d0); (try replace d1 := Below.cell_some hb1 d1); (try replace d2 := Below.cell_some hb1 d2); (try replace d3 := Below.cell_some hb1 d3); clear hb1))
  go_ret
  exact ⟨ret_bool (by decide +kernel), hB⟩

def greatL (xs : List Span) : Bool := decide (200 < xs.length) || decide (20000 < sizeSpans xs)
theorem greatL_false {xs : List Span} (h : greatL xs = false) : xs.length ≤ 200 := by
  unfold greatL at h
  simp at h
  omega

set_option maxHeartbeats 400000 in
theorem great_calls (v : Value) (xs : List Span) (w : World) (hv : Rd Span.enc 2 w v xs) (hl : xs.length ≤ 140737488351232) (hs : ∀ x ∈ xs, x.f.size ≤ 140737488351232 ∧ x.t.size ≤ 140737488351232) :
    Calls Try.prog 26 #[v] w fun e w' => e = .returned (.bool (greatL xs)) ∧ Below w.heap.size w w' := by
  have hsz := sizeSpans_calls v xs w hv hl hs
  obtain ⟨A, c, rfl, hlc, hc⟩ := hv.shape
  unfold greatL
  by_cases h1 : 200 < xs.length
  · go_enter Try.func26, Try.ntmps26
    go_wp2_with (go_at_call 17; refine hsz.mono ?_; rintro e w1 ⟨rfl, hb1⟩)
    go_ret
    exact ⟨ret_bool (by simp [h1]), Below.refl _ _⟩
  · generalize sizeSpans xs = n at *
    go_enter Try.func26, Try.ntmps26
    go_wp2_with (go_at_call 17; refine hsz.mono ?_; rintro e w1 ⟨rfl, hb1⟩)
    go_ret
    exact ⟨ret_bool (by simp [h1]; omega), hb1⟩

theorem size_two (a b : Span) : sizeSpans [a, b] = if 2 + (a.f.size : Int) + a.t.size ≤ 1048576 then 2 + (a.f.size : Int) + a.t.size + b.f.size + b.t.size else 2 + (a.f.size : Int) + a.t.size := by
  unfold sizeSpans
  show sizeSpansGo 2 [a, b] = _
  rw [sizeSpansGo, if_pos (by omega), sizeSpansGo]
  split
  · rw [sizeSpansGo]
  · rfl

theorem sizeTwo_calls (a b : Span) (ha : a.ok) (hb : b.ok) : ∃ n : Int, 0 ≤ n ∧ n ≤ 562949953404930 ∧
    ∀ (w : World) (H : Nat), w.heap.size = H → Calls Try.prog 17 #[.slice (some ⟨H, 0, none⟩) 2 2] (w.alloc (.cells #[.string a.f, .string a.t, .string b.f, .string b.t] 27)) fun e w' => e = .returned (.int .i64 n) ∧ Below w.heap.size w w' := by
  obtain ⟨ha1, ha2⟩ := ha
  obtain ⟨hb1, hb2⟩ := hb
  unfold small at *
  refine ⟨sizeSpans [a, b], by rw [size_two]; split <;> omega, by rw [size_two]; split <;> omega, fun w H hH => ?_⟩
  subst hH
  refine (sizeSpans_calls _ [a, b] _ (rd_lit Span.enc 2 span_len 27 [a, b] (by simp) w) (by simp) (fun x hx => ?_)).mono ?_
  · rcases List.mem_cons.1 hx with rfl | hx
    · exact ⟨ha1, ha2⟩
    · rw [List.mem_singleton.1 hx]; exact ⟨hb1, hb2⟩
  · rintro e w' ⟨rfl, hb'⟩
    exact ⟨rfl, Below.step ((Below.refl _ w).alloc (Nat.le_refl _) _) hb'⟩

theorem join_own (v : Value) (xs : List Span) (w : World) (hv : Rd Span.enc 2 w v xs) (hl : xs.length ≤ 1000000) :
    Calls Try.prog 27 #[v] w fun e w' => ∃ A c, e = .returned (.slice A (joinF xs).length c) ∧ Own Span.enc 2 27 w.heap.size w' (.slice A (joinF xs).length c) (joinF xs) ∧ Below w.heap.size w w' := by
  refine (join_calls v xs w hv hl).mono ?_
  rintro e w' ⟨v', rfl, own, hb⟩
  obtain ⟨A, c, rfl, _, _⟩ := own.slice
  exact ⟨A, c, rfl, own, hb⟩

end Go.Proofs.Ytbfmneblhlmiiaa
