/-
  The law concordatlaw10.SpansMeet: for any two spans and any others, whether they meet, and whether one meets one of some, is the reference's answer; what was handed in stays as it was. No condition.
-/
import Derived.Test.YtbfmneblhlmiiaaRows
import Derived.Test.YtbfmneblhlmiiaaSp3
import Derived.Test.YtbfmneblhlmiiaaTwSpan
import Derived.Test.YtbfmneblhlmiiaaShape
import Derived.Test.YtbfmneblhlmiiaaLift
set_option linter.unusedVariables false
set_option linter.unusedSimpArgs false
namespace Go.Proofs.Ytbfmneblhlmiiaa
open Go.RowKit Go.ChangeShapes Go.WideShapes

theorem sizeSpansGo_ge : ∀ (xs : List Span) (n : Int), n ≤ sizeSpansGo n xs
  | [], n => Int.le_refl _
  | x :: xs, n => by
    unfold sizeSpansGo
    split
    · exact Int.le_trans (by omega) (sizeSpansGo_ge xs _)
    · exact Int.le_refl _

theorem rmeet_any (a b : Str) (xs : List Span) : (xs.any fun x => rmeet4 a b x.f x.t) = xs.any fun x => meet4 a b x.f x.t := by
  congr 1
  funext x
  exact rmeet4_eq _ _ _ _

set_option maxHeartbeats 1000000 in
theorem spansMeet_walk (a b : Span) (v : Value) (xs : List Span) (w : World) (hv : Rd Span.enc 2 w v xs) (hlen : xs.length * 32 ≤ 140737488351232) (hs : ∀ x ∈ xs, x.ok) (ha : a.ok) (hb : b.ok) :
    Calls Try.prog 4 #[.agg #[.string a.f, .string a.t], .agg #[.string b.f, .string b.t], v] w fun e w' => e = .returned (.bool true) ∧ Below w.heap.size w w' := by
  obtain ⟨ha1, ha2⟩ := ha
  obtain ⟨hb1, hb2⟩ := hb
  unfold small at ha1 ha2 hb1 hb2
  have hs' : ∀ x ∈ xs, x.f.size ≤ 140737488351232 ∧ x.t.size ≤ 140737488351232 := fun x hx => hs x hx
  have hs2 : ∀ x ∈ xs, x.f.size ≤ 9223372036854775807 ∧ x.t.size ≤ 9223372036854775807 := fun x hx => ⟨by have := (hs' x hx).1; omega, by have := (hs' x hx).2; omega⟩
  obtain ⟨W, hW⟩ : ∃ W, W = (w.alloc (.cells #[.string a.f, .string a.t] 27)).alloc (.cells #[.string b.f, .string b.t] 27) := ⟨_, rfl⟩
  have hB : Below w.heap.size w W := by rw [hW]; exact ((Below.refl _ _).alloc (Nat.le_refl _) _).alloc (by simp) _
  have c0 : W.cell? ⟨w.heap.size, 0, none⟩ = some (.string a.f) := by rw [hW]; simp
  have c1 : W.cell? ⟨w.heap.size, 1, none⟩ = some (.string a.t) := by rw [hW]; simp
  have c2 : W.cell? ⟨w.heap.size + 1, 0, none⟩ = some (.string b.f) := by rw [hW]; simp
  have c3 : W.cell? ⟨w.heap.size + 1, 1, none⟩ = some (.string b.t) := by rw [hW]; simp
  have HW := Lib.hid hW
  clear hW
  obtain ⟨A, c, rfl, hlc, hc⟩ := hv.shape
  replace hv := hv.below hB
  have hsize := sizeSpansGo_ge xs xs.length
  have hcall := sizeSpans_calls _ xs W hv (by omega) hs'
  unfold sizeSpans at hcall
  generalize sizeSpansGo xs.length xs = n at *
  go_enter Try.func4, Try.ntmps4
  go_wp2_with fail
  rw [← HW.out]
  clear HW
  refine hcall.mono ?_
  rintro e w1 ⟨rfl, hbb⟩
  clear hcall
  replace c0 := Below.cell_some hbb c0; replace c1 := Below.cell_some hbb c1; replace c2 := Below.cell_some hbb c2; replace c3 := Below.cell_some hbb c3
  replace hv := hv.below hbb
  replace hB := Below.step hB hbb
  clear hbb
  by_cases hn : n > 20000
  · go_wp2_with fail
    go_ret
    exact ⟨rfl, hB⟩
  · go_wp2_with fail
    refine (twinSpans_calls _ xs _ hv (by omega)).mono ?_
    rintro e w2 ⟨A2, e2, rfl, hown, hbb⟩
    replace c0 := Below.cell_some hbb c0; replace c1 := Below.cell_some hbb c1; replace c2 := Below.cell_some hbb c2; replace c3 := Below.cell_some hbb c3
    replace hv := hv.below hbb
    replace hB := Below.step hB hbb
    clear hbb
    have hT := hown.rd span_len
    have hT' := hT.shorter
    clear hown
    go_wp2_with fail
    replace c0 := fun p : Later w2 => Later.cell p c0; replace c1 := fun p : Later w2 => Later.cell p c1; replace c2 := fun p : Later w2 => Later.cell p c2; replace c3 := fun p : Later w2 => Later.cell p c3
    refine wp_region_later (by kernel_rfl) (by kernel_rfl) ?_
    have hr := fun W => rmeet_calls a.f a.t b.f b.t W (by omega) (by omega) (by omega) (by omega)
    have hra := fun (p : Later w2) => rany_calls a.f a.t _ xs p.val (hv.below p.ok) (by omega) (by omega) hs2
    simp only [rmeet4_eq, rmeet_any] at hr hra
    repeat (quiet_step (first | (go_at_call 19; exact Calls.later (meet_calls _ _ _ _ _)) | (go_at_call 20; exact Calls.later (hr _)) | (go_at_call 21; exact Calls.later (any_calls _ _ _ xs _ (hT'.below (Later.ok _)))) | (go_at_call 22; exact Calls.later (hra _)) | (go_at_call 23; exact Calls.later (leftSpans_calls _ _ _ xs _ (hT.below (Later.ok _)) (hv.below (Later.ok _))))))
    refine wpQuiet_nil ?_
    rintro _ ⟨p, rfl⟩
    clear c0 c1 c2 c3 hr hra
    go_wp2
    go_ret
    exact ⟨by simp, Below.step hB p.ok⟩

end Go.Proofs.Ytbfmneblhlmiiaa
