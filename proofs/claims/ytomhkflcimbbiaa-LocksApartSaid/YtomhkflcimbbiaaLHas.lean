import Derived.Test.YtomhkflcimbbiaaLTab
import Derived.Test.YtomhkflcimbbiaaTwSpan
set_option linter.unusedVariables false
set_option linter.unusedSimpArgs false
set_option linter.unusedSectionVars false
namespace Go.Proofs.Ytomhkflcimbbiaa
open Go.RowKit

section
variable {base : Nat} {w : World} {B M n : Nat} {D : DataW Value} {T : Tab}

set_option maxHeartbeats 1000000 in
set_option maxRecDepth 100000 in
theorem thas_calls (h : TabAt base w B M n D T) (who : Int) (hw : okU who) (hl : (T who).length ≤ 1000000) :
    Calls Try.prog 14 #[.pointer (some ⟨B, 0, none⟩), .int .u32 who] w
      fun e w' => ∃ v', e = .returned v' ∧ Own Span.enc 2 24 w.heap.size w' v' ((T who).map spOf) ∧ Below w.heap.size w w' := by
  have c0 := h.c0
  obtain ⟨v, hrun, hat, ho⟩ := h.map.look keyU lmap_under (TabAt.zero w) hw
  obtain ⟨A, c, rfl, hlc, hcm⟩ := ho.shape
  have hrd := ho.rd lock_len
  generalize hxs : T who = xs at *
  go_enter Try.func14, Try.ntmps14
  go_wp2_with (go_at_call 28; refine (tthere_calls h).mono ?_; rintro e w1 ⟨rfl, rfl⟩)
  clear hrun
  go_loopw [4, 17] (fun tv i wr => ∃ k : Nat, k ≤ xs.length ∧ i = .int .i64 k ∧ Own Span.enc 2 24 w.heap.size wr tv ((xs.take k).map spOf) ∧ Below w.heap.size w wr) (fun _ i _ => xs.length - (intOf i).toNat)
  case atStart => exact ⟨0, Nat.zero_le _, rfl, Own.nil _ _ _ _ _, Below.refl _ _⟩
  case round =>
    obtain ⟨k, hk, rfl, hown, hb⟩ := hrel
    obtain ⟨A', c', hsl, _⟩ := hown.slice
    rw [List.length_map, List.length_take_of_le hk] at hsl
    subst hsl
    by_cases hlt : k < xs.length
    · have HT := Lib.hid (List.take_succ_eq_append_getElem hlt)
      obtain ⟨b, o, rfl, hx1, hx2, hx3⟩ := (hrd.below hb).lock (List.getElem?_eq_getElem hlt)
      generalize xs[k] = x at *
      obtain ⟨xf, xt, xa⟩ := x
      simp only at hx1 hx2 hx3
      have hsz := hb.size
      have hba : Below wr.heap.size wr (wr.alloc (.cells #[.string xf, .string xt, .bool xa] 70)) := (Below.refl _ _).alloc (Nat.le_refl _) _
      have hownA := hown.below hba
      have hbA := Below.step hb hba
      have y0 : (wr.alloc (.cells #[.string xf, .string xt, .bool xa] 70)).cell? ⟨wr.heap.size, 0, none⟩ = some (.string xf) := World.cell?_alloc_at (w := wr) _ _ wr.heap.size 0 rfl
      have y1 : (wr.alloc (.cells #[.string xf, .string xt, .bool xa] 70)).cell? ⟨wr.heap.size, 1, none⟩ = some (.string xt) := World.cell?_alloc_at (w := wr) _ _ wr.heap.size 1 rfl
      go_wp2_with (at_builtin; refine append_oneH (W := wr.alloc (.cells #[.string xf, .string xt, .bool xa] 70)) (wr.heap.size + 1) (by simp) Span.enc 2 24 36 32 _ w.heap.size (.slice A' k c') ((xs.take k).map spOf) ⟨xf, xt⟩ rfl _ _ rfl Try.underlying36 info_span rfl (by decide) (by decide) span_len span_one rfl rfl hownA hbA (by simp; omega) (by rw [List.length_map, List.length_take_of_le hk]; omega) ?_; intro v' w' hown' hb' hgr hat2; clear hgr hat2 y0 y1 hx1 hx2 hx3 hownA hbA hba)
      go_roundw
      case rel =>
        refine ⟨k + 1, by omega, by go_num, ?_, hb'⟩
        rw [HT.out, List.map_append]
        exact hown'
      case measure => simp [intOf]; omega
    · have hkl : k = xs.length := by omega
      subst hkl
      rw [List.take_length] at hown
      go_wp2
      go_ret
      exact ⟨_, rfl, hown, hb⟩
end

end Go.Proofs.Ytomhkflcimbbiaa
