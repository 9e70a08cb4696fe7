import Derived.Test.YtanjgeacmpmjhaaGreatDoorPlSame
import Derived.Test.YtanjgeacmpmjhaaGreatDoorShape
import Derived.Test.YtanjgeacmpmjhaaGreatDoorKinds
set_option linter.unusedVariables false
set_option linter.unusedSimpArgs false
set_option linter.unusedSectionVars false
namespace Go.Proofs.YtanjgeacmpmjhaaGreatDoor
open Go.RowKit

theorem res_of {w : World} {cs : List Value} (h : Sh.holds w (.struct [.slice (.struct [.str, .int .u32]) 24]) cs) : ∃ x : SlV, cs = x.enc ∧ ∃ r : List Row, Rd Row.enc 2 w x.val r := by
  rw [Sh.holds] at h
  simp only [Sh.holdsAll] at h
  obtain ⟨_, _, rfl, h1, rfl⟩ := h
  have h1' := h1
  rw [Sh.holds] at h1
  obtain ⟨A, n, c, rfl, _⟩ := h1
  obtain ⟨xs, rd, _, _⟩ := rows_of h1'
  exact ⟨⟨A, n, c⟩, rfl, xs, rd⟩
theorem pick_list {α β : Type} {P : α → β → Prop} : ∀ xs : List α, (∀ x ∈ xs, ∃ y, P x y) → ∃ ys : List β, xs.length = ys.length ∧ ∀ (i : Nat) (x : α) (y : β), xs[i]? = some x → ys[i]? = some y → P x y
  | [], _ => ⟨[], rfl, fun i x y h => by simp at h⟩
  | x :: xs, h => by
    obtain ⟨y, hy⟩ := h x (by simp)
    obtain ⟨ys, hl, hs⟩ := pick_list xs fun z hz => h z (by simp [hz])
    refine ⟨y :: ys, by simp [hl], fun i a b ha hb => ?_⟩
    cases i with
    | zero =>
      simp only [List.getElem?_cons_zero, Option.some.injEq] at ha hb
      rw [← ha, ← hb]; exact hy
    | succ i =>
      simp only [List.getElem?_cons_succ] at ha hb
      exact hs i a b ha hb
theorem resl_of {w : World} {v : Value} {bytes : Nat} (h : Sh.holds w (.slice (.struct [.slice (.struct [.str, .int .u32]) 24]) bytes) [v]) : ∃ rs : List (List Row), RdRes w v rs ∧ rs.length * bytes ≤ 140737488351232 := by
  obtain ⟨xs, rd, hl, hx⟩ := rd_of (enc := SlV.enc) (fun _ h => res_of h) h
  obtain ⟨rs, h1, h2⟩ := pick_list xs hx
  exact ⟨rs, ⟨xs, rd, h1, h2⟩, by rw [← h1]; exact hl⟩

end Go.Proofs.YtanjgeacmpmjhaaGreatDoor
