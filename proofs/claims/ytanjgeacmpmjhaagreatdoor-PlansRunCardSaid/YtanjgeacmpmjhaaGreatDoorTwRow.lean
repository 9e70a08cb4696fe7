import Derived.Test.YtanjgeacmpmjhaaGreatDoorMgPlansRun9
set_option linter.unusedVariables false
set_option linter.unusedSimpArgs false
namespace Go.Proofs.YtanjgeacmpmjhaaGreatDoor
open Go.RowKit

/-- How much these have, counted with an early end. -/
def sizeRowsGo : Int → List Row → Int
  | n, [] => n
  | n, x :: xs => if n ≤ 1048576 then sizeRowsGo (n + x.k.size) xs else n
def sizeRows (xs : List Row) : Int := sizeRowsGo xs.length xs


/-- The mark in the room behind. -/
def spareRow : Row := ⟨⟨#[115, 112, 97, 114, 101]⟩, 0⟩

theorem info_row : (Tryz.prog.info? 44).map (fun i => (i.zero, i.size, i.bytes)) = some (some (.agg #[.string ⟨#[]⟩, .int .u32 0]), 2, 24) := by kernel_rfl

set_option maxHeartbeats 400000 in
theorem twinRows_calls (v : Value) (xs : List Row) (w : World) (hv : Rd Row.enc 2 w v xs) (hl : xs.length ≤ 1000000000) :
    Calls Tryz.prog 69 #[v] w fun e w' => ∃ A c, e = .returned (.slice A xs.length c) ∧ Own Row.enc 2 44 w.heap.size w' (.slice A (xs.length + 1) c) (xs ++ [spareRow]) ∧ Below w.heap.size w w' := by
  obtain ⟨A, c, rfl, hlc, hc⟩ := hv.shape
  have hmk := run_make_room (P := Tryz.prog) 56 44 2 24 _ Tryz.underlying56 info_row xs.length (by omega) (by omega)
  go_enter Tryz.func69, Tryz.ntmps69
  go_wp2
  clear hmk
  have hst := Own.made Row.enc 2 44 w.heap.size w (Value.agg #[.string ⟨#[]⟩, .int .u32 0]).cells (xs.length + 1) (Nat.le_refl _) (by omega)
  go_loopw [3, 4] (fun tv i wr => ∃ k : Nat, k ≤ xs.length ∧ i = .int .i64 k ∧ Own Row.enc 2 44 w.heap.size wr tv (xs.take k) ∧ Below w.heap.size w wr) (fun _ i _ => xs.length - (intOf i).toNat)
  case atStart => exact ⟨0, Nat.zero_le _, rfl, hst, (Below.refl _ _).alloc (Nat.le_refl _) _⟩
  case round =>
    clear hst
    obtain ⟨k, hk, rfl, hown, hb⟩ := hrel
    obtain ⟨A', c', hsl, _⟩ := hown.slice
    rw [List.length_take_of_le hk] at hsl
    subst hsl
    by_cases hlt : k < xs.length
    · have HT := Lib.hid (List.take_succ_eq_append_getElem hlt)
      obtain ⟨b, o, rfl, hx1, hx2⟩ := (hv.below hb).row (List.getElem?_eq_getElem hlt)
      have hxl : (xs.take k).length = k := List.length_take_of_le hk
      generalize xs[k] = x at *
      have hsz := hb.size
      go_wp2_with (at_builtin; refine append_one Row.enc 2 44 56 24 _ w.heap.size _ _ x rfl _ _ rfl Tryz.underlying56 info_row rfl (by decide) (by decide) row_len row_one rfl rfl hown hb hsz (by omega) ?_; intro v' w' hown' hb' hgr hat; clear hgr hat hx1 hx2)
      go_roundw
      case rel =>
        refine ⟨k + 1, by omega, by go_num, ?_, hb'⟩
        rw [HT.out]
        exact hown'
      case measure => simp [intOf]; omega
    · have hkl : k = xs.length := by omega
      subst hkl
      rw [List.take_length] at hown
      have hsz := hb.size
      go_wp2_with (at_builtin; refine append_one Row.enc 2 44 56 24 _ w.heap.size _ _ spareRow rfl _ _ rfl Tryz.underlying56 info_row rfl (by decide) (by decide) row_len row_one rfl rfl hown hb hsz (by omega) ?_; intro v' w' hown' hb' hgr hat; clear hgr hat; obtain ⟨A1, c1, hsl1, hcap⟩ := hown'.slice; rw [List.length_append, List.length_singleton] at hsl1 hcap; subst hsl1; have hcap2 : xs.length ≤ c1 := Nat.le_of_succ_le hcap.1)
      go_ret
      exact ⟨A1, c1, rfl, hown', hb'⟩

set_option maxHeartbeats 400000 in
theorem leftRows_calls (A : Option Addr) (c : Nat) (u : Value) (xs : List Row) (w : World) (hT : Rd Row.enc 2 w (.slice A (xs.length + 1) c) (xs ++ [spareRow])) (hu : Rd Row.enc 2 w u xs) :
    Calls Tryz.prog 74 #[.slice A xs.length c, u] w fun e w' => e = .returned (.bool true) ∧ Below w.heap.size w w' := by
  obtain ⟨B, d, rfl, hld, hd⟩ := hu.shape
  obtain ⟨A0, c0, hs0, hlc, hc⟩ := hT.shape
  injection hs0 with e1 e2 e3
  subst e1 e3
  clear e2
  rw [List.length_append, List.length_singleton] at hlc
  have hcb : decide (c ≤ xs.length) = false := decide_eq_false (by omega)
  go_enter Tryz.func74, Tryz.ntmps74
  go_wp2
  go_loopw [5] (fun i wr => ∃ k : Nat, k ≤ xs.length ∧ i = .int .i64 k ∧ Below w.heap.size w wr) (fun i _ => xs.length - (intOf i).toNat)
  case atStart => exact ⟨0, Nat.zero_le _, rfl, Below.refl _ _⟩
  case round =>
    obtain ⟨k, hk, rfl, hb⟩ := hrel
    by_cases hlt : k < xs.length
    · obtain ⟨b, o, rfl, hx1, hx2⟩ := (hu.below hb).row (List.getElem?_eq_getElem hlt)
      obtain ⟨b', o', rfl, hy1, hy2⟩ := (hT.below hb).row (i := k) (x := xs[k]) (by rw [List.getElem?_append_left hlt]; exact List.getElem?_eq_getElem hlt)
      generalize xs[k] = x at *
      replace hx1 := fun p : Later wr => Later.cell p hx1; replace hx2 := fun p : Later wr => Later.cell p hx2
      replace hy1 := fun p : Later wr => Later.cell p hy1; replace hy2 := fun p : Later wr => Later.cell p hy2
      have hneq := neq_row
      have heqg := eqg_row
      go_wp2
      refine wp_region_later (by kernel_rfl) (by kernel_rfl) ?_
      repeat (quiet_step (fail))
      refine wpQuiet_nil ?_
      rintro _ ⟨p, rfl⟩
      clear hx1 hx2 hy1 hy2 hneq heqg
      go_wp2
      go_roundw
      case rel => exact ⟨k + 1, by omega, by go_num, Below.step hb p.ok⟩
      case measure => simp [intOf]; omega
    · have hkl : k = xs.length := by omega
      subst hkl
      obtain ⟨b', o', rfl, hy1, hy2⟩ := (hT.below hb).row (i := xs.length) (x := spareRow) (by rw [List.getElem?_append_right (Nat.le_refl _)]; simp)
      go_wp2
      go_ret
      exact ⟨ret_bool (by decide +kernel), hb.alloc hb.size _⟩

set_option maxHeartbeats 400000 in
theorem sameRows_calls (v u : Value) (xs ys : List Row) (w : World) (hv : Rd Row.enc 2 w v xs) (hu : Rd Row.enc 2 w u ys) :
    Calls Tryz.prog 20 #[v, u] w fun e w' => e = .returned (.bool (decide (xs = ys))) ∧ Below w.heap.size w w' := by
  obtain ⟨A, c, rfl, hl, hc⟩ := hv.shape
  obtain ⟨B, d, rfl, hl', hc'⟩ := hu.shape
  by_cases hn : xs.length = ys.length
  · have hnb : ((xs.length : Int) != ys.length) = false := by simp [hn]
    have HN := Lib.hid hn
    clear hn
    go_enter Tryz.func20, Tryz.ntmps20
    go_wp2
    go_loopw [5] (fun i wr => ∃ k : Nat, k ≤ xs.length ∧ i = .int .i64 k ∧ xs.take k = ys.take k ∧ Below w.heap.size w wr) (fun i _ => xs.length - (intOf i).toNat)
    case atStart => exact ⟨0, Nat.zero_le _, rfl, rfl, Below.refl _ _⟩
    case round =>
      obtain ⟨k, hk, rfl, heq, hb⟩ := hrel
      have HE := Lib.hid heq
      clear heq
      by_cases hlt : k < xs.length
      · have hlt2 : k < ys.length := by have := HN.out; omega
        obtain ⟨b, o, rfl, hx1, hx2⟩ := (hv.below hb).row (List.getElem?_eq_getElem hlt)
        obtain ⟨b', o', rfl, hy1, hy2⟩ := (hu.below hb).row (List.getElem?_eq_getElem hlt2)
        have HT1 := Lib.hid (List.take_succ_eq_append_getElem hlt)
        have HT2 := Lib.hid (List.take_succ_eq_append_getElem hlt2)
        have HX := Lib.hid (List.getElem?_eq_getElem hlt)
        have HY := Lib.hid (List.getElem?_eq_getElem hlt2)
        generalize xs[k] = x at *
        generalize ys[k] = y at *
        replace hx1 := fun p : Later wr => Later.cell p hx1; replace hx2 := fun p : Later wr => Later.cell p hx2
        replace hy1 := fun p : Later wr => Later.cell p hy1; replace hy2 := fun p : Later wr => Later.cell p hy2
        have hneq := neq_row
        have heqg := eqg_row
        by_cases hxy : x = y
        · subst hxy
          go_wp2
          refine wp_region_later (by kernel_rfl) (by kernel_rfl) ?_
          repeat (quiet_step (fail))
          refine wpQuiet_nil ?_
          rintro _ ⟨p, rfl⟩
          clear hx1 hx2 hy1 hy2 hneq heqg
          go_wp2
          go_roundw
          case rel => exact ⟨k + 1, by omega, by go_num, by rw [HT1.out, HT2.out, HE.out], Below.step hb p.ok⟩
          case measure => simp [intOf]; omega
        · have hxb : (decide (x.k = y.k) && decide (x.v = y.v)) = false := by rw [row_eq_b]; exact decide_eq_false hxy
          go_wp2
          refine wp_region_later (by kernel_rfl) (by kernel_rfl) ?_
          repeat (quiet_step (fail))
          refine wpQuiet_nil ?_
          rintro _ ⟨p, rfl⟩
          clear hx1 hx2 hy1 hy2 hneq heqg
          go_wp2
          go_ret
          refine ⟨ret_bool (decide_eq_false fun h => hxy ?_).symm, Below.step hb p.ok⟩
          have h1 := HX.out
          have h2 := HY.out
          rw [h, h2] at h1
          exact (Option.some.inj h1).symm
      · go_wp2
        go_ret
        have := HE.out
        rw [List.take_of_length_le (by omega), List.take_of_length_le (by have := HN.out; omega)] at this
        exact ⟨ret_bool (by simp [this]), hb⟩
  · have hnb : ((xs.length : Int) != ys.length) = true := by simp; omega
    go_enter Tryz.func20, Tryz.ntmps20
    go_wp2
    go_ret
    exact ⟨ret_bool (by simp; intro h; exact hn (by rw [h])), Below.refl _ _⟩

end Go.Proofs.YtanjgeacmpmjhaaGreatDoor
