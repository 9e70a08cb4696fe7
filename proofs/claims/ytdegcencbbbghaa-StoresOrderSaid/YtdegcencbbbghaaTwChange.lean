import Derived.Test.YtdegcencbbbghaaEqChange
set_option linter.unusedVariables false
set_option linter.unusedSimpArgs false
namespace Go.Proofs.Ytdegcencbbbghaa
open Go.RowKit

/-- How much these have, counted with an early end. -/
def sizeChangesGo : Int → List Change → Int
  | n, [] => n
  | n, x :: xs => if n ≤ 1048576 then sizeChangesGo (n + x.k.size) xs else n
def sizeChanges (xs : List Change) : Int := sizeChangesGo xs.length xs

set_option maxHeartbeats 400000 in
theorem sizeChanges_calls (v : Value) (xs : List Change) (w : World) (hv : Rd Change.enc 3 w v xs) (hl : xs.length ≤ 140737488351232) (hs : ∀ x ∈ xs, x.k.size ≤ 140737488351232) :
    Calls Try.prog 23 #[v] w fun e w' => e = .returned (.int .i64 (sizeChanges xs)) ∧ Below w.heap.size w w' := by
  obtain ⟨A, c, rfl, hlc, hc⟩ := hv.shape
  go_enter Try.func23, Try.ntmps23
  go_wp2
  go_loopw [3, 4] (fun nv i wr => ∃ (k : Nat) (n : Int), k ≤ xs.length ∧ i = .int .i64 k ∧ nv = .int .i64 n ∧ 0 ≤ n ∧ n ≤ 422212465053696 ∧ sizeChangesGo n (xs.drop k) = sizeChanges xs ∧ Below w.heap.size w wr) (fun _ i _ => xs.length - (intOf i).toNat)
  case atStart => exact ⟨0, xs.length, Nat.zero_le _, rfl, rfl, by omega, by omega, rfl, Below.refl _ _⟩
  case round =>
    obtain ⟨k, n, hk, rfl, rfl, h0, hn, hgo, hb⟩ := hrel
    have HG := Lib.hid hgo
    clear hgo
    by_cases hlt : k < xs.length
    · by_cases hm : n ≤ 1048576
      · have hsx := hs xs[k] (List.getElem_mem _)
        have HD := Lib.hid (List.drop_eq_getElem_cons hlt)
        obtain ⟨b, o, rfl, hx1, hx2, hx3⟩ := (hv.below hb).change (List.getElem?_eq_getElem hlt)
        generalize xs[k] = x at *
        clear hs
        go_wp2
        go_roundw
        case rel =>
          refine ⟨k + 1, n + x.k.size, by omega, by go_num, by simp only [wrap_id (n := n + x.k.size) (by omega) (by omega)], by omega, by omega, ?_, hb⟩
          have := HG.out
          rw [HD.out, sizeChangesGo, if_pos hm] at this
          exact this
        case measure => simp [intOf]; omega
      · go_wp2
        go_ret
        refine ⟨?_, hb⟩
        have := HG.out
        rw [List.drop_eq_getElem_cons hlt, sizeChangesGo, if_neg (by omega)] at this
        exact ret_int this
    · go_wp2
      go_ret
      refine ⟨?_, hb⟩
      have := HG.out
      rw [List.drop_eq_nil_of_le (by omega), sizeChangesGo] at this
      exact ret_int this

/-- The mark in the room behind. -/
def spareChange : Change := ⟨⟨#[115, 112, 97, 114, 101]⟩, 0, false⟩

theorem info_change : (Try.prog.info? 45).map (fun i => (i.zero, i.size, i.bytes)) = some (some (.agg #[.string ⟨#[]⟩, .int .u32 0, .bool false]), 3, 24) := by kernel_rfl




end Go.Proofs.Ytdegcencbbbghaa
