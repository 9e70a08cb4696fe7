import Derived.Test.YtomhkflcimbbiaaShape
import Derived.OpenShut
set_option linter.unusedVariables false
set_option linter.unusedSimpArgs false
set_option linter.unusedSectionVars false
namespace Go.Proofs.Ytomhkflcimbbiaa
open Go.ChangeShapes Go.WideShapes Go.RowKit

theorem okWide_array {P : Program} {w : World} {r : Reach} {base : Nat} {t : TypeId} {v : Value} {n : Nat} {e : TypeId} (ht : P.underlying t = some (.array n e)) (h : Value.okWide P w r base t v) : v = .agg v.cells := by
  simp only [Value.okWide, ht] at h
  obtain ⟨cs, rfl, _⟩ := h
  rfl

/-- An array of three truths. -/
theorem bool3_of {H : Type} {enc : TypeId × Value → H} {P : Program} {w W : World} {sp : Nat → Bool} {hd : Bool} {t e : TypeId} {v : Value} {d : DataW H} {ps : List MemPlace} {r : Reach} {base : Nat} (ht : P.underlying t = some (.array 3 e)) (he : P.underlying e = some .bool) (hc : P.cellsOf t = 3) (hce : P.cellsOf e = 1)
    (hval : Value.okWide P W r base t v) (h : DataW.Trod enc P w 0 sp hd t v d ps) : ∃ b0 b1 b2, v = .agg #[.bool b0, .bool b1, .bool b2] := by
  have hv := okWide_array ht hval
  obtain ⟨fuel, h⟩ := h
  obtain ⟨xs, m, rfl, _, hl, hxl, hel⟩ := DataW.trod_array ht h
  rw [hc] at hl
  generalize hcs : v.cells.toList = cs at *
  match cs, hl with
  | [c0, c1, c2], _ =>
    have one : ∀ i c, i < 3 → [c0, c1, c2][i]? = some c → ∃ b, c = .bool b := fun i c hi hc' => by
      have := hel i hi
      rw [List.getElem?_eq_getElem (by omega), hce, Nat.mul_one] at this
      obtain ⟨b, hb, _⟩ := DataW.trod_bool he this
      have h2 : ([c0, c1, c2].drop i).take 1 = [c] := by
        match i, hi with
        | 0, _ => simp at hc' ⊢; exact hc'
        | 1, _ => simp at hc' ⊢; exact hc'
        | 2, _ => simp at hc' ⊢; exact hc'
      rw [h2] at hb
      exact ⟨b, by simpa using hb⟩
    obtain ⟨b0, rfl⟩ := one 0 c0 (by decide) rfl
    obtain ⟨b1, rfl⟩ := one 1 c1 (by decide) rfl
    obtain ⟨b2, rfl⟩ := one 2 c2 (by decide) rfl
    exact ⟨b0, b1, b2, agg_of_list hv hcs⟩
abbrev encB (x : Int) : List Value := [.int .u8 x]
theorem u8vs_of {w : World} {v : Value} (h : Sh.holds w (.slice (.int .u8) 1) [v]) : ∃ xs : List Int, Rd encB 1 w v xs ∧ xs.length * 1 ≤ 140737488351232 ∧ ∀ x ∈ xs, (Lit.int .u8 x).wf = true :=
  rd_of (enc := encB) (e := .int .u8) (fun es h => by
    obtain ⟨n, rfl, hw⟩ := h
    exact ⟨n, rfl, hw⟩) h
theorem Rd.byte {w : World} {A : Option Addr} {n c : Nat} {xs : List Int} (h : Rd encB 1 w (.slice A n c) xs) {i : Nat} {x : Int} (hi : xs[i]? = some x) :
    ∃ b o, A = some ⟨b, o, none⟩ ∧ w.cell? ⟨b, o + i, none⟩ = some (.int .u8 x) := by
  obtain ⟨b, o, hA, hc⟩ := h.at_ hi
  exact ⟨b, o, hA, by have := hc 0 _ rfl; rwa [Nat.mul_one, Nat.add_zero] at this⟩
end Go.Proofs.Ytomhkflcimbbiaa
