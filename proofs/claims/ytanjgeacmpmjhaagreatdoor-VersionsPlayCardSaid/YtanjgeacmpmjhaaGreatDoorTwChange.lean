import Derived.Test.YtanjgeacmpmjhaaGreatDoorMgVersionsPlay10
set_option linter.unusedVariables false
set_option linter.unusedSimpArgs false
namespace Go.Proofs.YtanjgeacmpmjhaaGreatDoor
open Go.RowKit

/-- How much these have, counted with an early end. -/
def sizeChangesGo : Int → List Change → Int
  | n, [] => n
  | n, x :: xs => if n ≤ 1048576 then sizeChangesGo (n + x.k.size) xs else n
def sizeChanges (xs : List Change) : Int := sizeChangesGo xs.length xs

set_option maxHeartbeats 400000 in
theorem sizeChanges_calls (v : Value) (xs : List Change) (w : World) (hv : Rd Change.enc 3 w v xs) (hl : xs.length ≤ 140737488351232) (hs : ∀ x ∈ xs, x.k.size ≤ 140737488351232) :
    Calls Tryz.prog 80 #[v] w fun e w' => e = .returned (.int .i64 (sizeChanges xs)) ∧ Below w.heap.size w w' := by
  obtain ⟨A, c, rfl, hlc, hc⟩ := hv.shape
  go_enter Tryz.func80, Tryz.ntmps80
  go_wp2
  go_loopw [3, 4] (fun nv i wr => ∃ (k : Nat) (n : Int), k ≤ xs.length ∧ i = .int .i64 k ∧ nv = .int .i64 n ∧ 0 ≤ n ∧ n ≤ 422212465053696 ∧ sizeChangesGo n (xs.drop k) = sizeChanges xs ∧ Below w.heap.size w wr) (fun _ i _ => xs.length - (intOf i).toNat)
  case atStart => exact ⟨0, xs.length, Nat.zero_le _, rfl, rfl, by omega, by omega, rfl, Below.refl _ _⟩
  case round =>
    obtain ⟨k, n, hk, rfl, rfl, h0, hn, hgo, hb⟩ := hrel
    have HG := Lib.hid hgo
    clear hgo
    by_cases hlt : k < xs.length
    · by_cases hm : n ≤ 1048576
      · have hsx := hs xs[k] (List.getElem_mem _)
        have HD := Lib.hid (List.drop_eq_getElem_cons hlt)
        obtain ⟨b, o, rfl, hx1, hx2, hx3⟩ := (hv.below hb).change (List.getElem?_eq_getElem hlt)
        generalize xs[k] = x at *
        clear hs
        go_wp2
        go_roundw
        case rel =>
          refine ⟨k + 1, n + x.k.size, by omega, by go_num, by simp only [wrap_id (n := n + x.k.size) (by omega) (by omega)], by omega, by omega, ?_, hb⟩
          have := HG.out
          rw [HD.out, sizeChangesGo, if_pos hm] at this
          exact this
        case measure => simp [intOf]; omega
      · go_wp2
        go_ret
        refine ⟨?_, hb⟩
        have := HG.out
        rw [List.drop_eq_getElem_cons hlt, sizeChangesGo, if_neg (by omega)] at this
        exact ret_int this
    · go_wp2
      go_ret
      refine ⟨?_, hb⟩
      have := HG.out
      rw [List.drop_eq_nil_of_le (by omega), sizeChangesGo] at this
      exact ret_int this

/-- The mark in the room behind. -/
def spareChange : Change := ⟨⟨#[115, 112, 97, 114, 101]⟩, 0, false⟩

theorem info_change : (Tryz.prog.info? 128).map (fun i => (i.zero, i.size, i.bytes)) = some (some (.agg #[.string ⟨#[]⟩, .int .u32 0, .bool false]), 3, 24) := by kernel_rfl

set_option maxHeartbeats 400000 in
theorem twinChanges_calls (v : Value) (xs : List Change) (w : World) (hv : Rd Change.enc 3 w v xs) (hl : xs.length ≤ 1000000000) :
    Calls Tryz.prog 11 #[v] w fun e w' => ∃ A c, e = .returned (.slice A xs.length c) ∧ Own Change.enc 3 128 w.heap.size w' (.slice A (xs.length + 1) c) (xs ++ [spareChange]) ∧ Below w.heap.size w w' := by
  obtain ⟨A, c, rfl, hlc, hc⟩ := hv.shape
  have hmk := run_make_room (P := Tryz.prog) 45 128 3 24 _ Tryz.underlying45 info_change xs.length (by omega) (by omega)
  go_enter Tryz.func11, Tryz.ntmps11
  go_wp2
  clear hmk
  have hst := Own.made Change.enc 3 128 w.heap.size w (Value.agg #[.string ⟨#[]⟩, .int .u32 0, .bool false]).cells (xs.length + 1) (Nat.le_refl _) (by omega)
  go_loopw [3, 4] (fun tv i wr => ∃ k : Nat, k ≤ xs.length ∧ i = .int .i64 k ∧ Own Change.enc 3 128 w.heap.size wr tv (xs.take k) ∧ Below w.heap.size w wr) (fun _ i _ => xs.length - (intOf i).toNat)
  case atStart => exact ⟨0, Nat.zero_le _, rfl, hst, (Below.refl _ _).alloc (Nat.le_refl _) _⟩
  case round =>
    clear hst
    obtain ⟨k, hk, rfl, hown, hb⟩ := hrel
    obtain ⟨A', c', hsl, _⟩ := hown.slice
    rw [List.length_take_of_le hk] at hsl
    subst hsl
    by_cases hlt : k < xs.length
    · have HT := Lib.hid (List.take_succ_eq_append_getElem hlt)
      obtain ⟨b, o, rfl, hx1, hx2, hx3⟩ := (hv.below hb).change (List.getElem?_eq_getElem hlt)
      have hxl : (xs.take k).length = k := List.length_take_of_le hk
      generalize xs[k] = x at *
      have hsz := hb.size
      go_wp2_with (at_builtin; refine append_one Change.enc 3 128 45 24 _ w.heap.size _ _ x rfl _ _ rfl Tryz.underlying45 info_change rfl (by decide) (by decide) change_len change_one rfl rfl hown hb hsz (by omega) ?_; intro v' w' hown' hb' hgr hat; clear hgr hat hx1 hx2 hx3)
      go_roundw
      case rel =>
        refine ⟨k + 1, by omega, by go_num, ?_, hb'⟩
        rw [HT.out]
        exact hown'
      case measure => simp [intOf]; omega
    · have hkl : k = xs.length := by omega
      subst hkl
      rw [List.take_length] at hown
      have hsz := hb.size
      go_wp2_with (at_builtin; refine append_one Change.enc 3 128 45 24 _ w.heap.size _ _ spareChange rfl _ _ rfl Tryz.underlying45 info_change rfl (by decide) (by decide) change_len change_one rfl rfl hown hb hsz (by omega) ?_; intro v' w' hown' hb' hgr hat; clear hgr hat; obtain ⟨A1, c1, hsl1, hcap⟩ := hown'.slice; rw [List.length_append, List.length_singleton] at hsl1 hcap; subst hsl1; have hcap2 : xs.length ≤ c1 := Nat.le_of_succ_le hcap.1)
      go_ret
      exact ⟨A1, c1, rfl, hown', hb'⟩

set_option maxHeartbeats 400000 in
theorem leftChanges_calls (A : Option Addr) (c : Nat) (u : Value) (xs : List Change) (w : World) (hT : Rd Change.enc 3 w (.slice A (xs.length + 1) c) (xs ++ [spareChange])) (hu : Rd Change.enc 3 w u xs) :
    Calls Tryz.prog 18 #[.slice A xs.length c, u] w fun e w' => e = .returned (.bool true) ∧ Below w.heap.size w w' := by
  obtain ⟨B, d, rfl, hld, hd⟩ := hu.shape
  obtain ⟨A0, c0, hs0, hlc, hc⟩ := hT.shape
  injection hs0 with e1 e2 e3
  subst e1 e3
  clear e2
  rw [List.length_append, List.length_singleton] at hlc
  have hcb : decide (c ≤ xs.length) = false := decide_eq_false (by omega)
  go_enter Tryz.func18, Tryz.ntmps18
  go_wp2
  go_loopw [5] (fun i wr => ∃ k : Nat, k ≤ xs.length ∧ i = .int .i64 k ∧ Below w.heap.size w wr) (fun i _ => xs.length - (intOf i).toNat)
  case atStart => exact ⟨0, Nat.zero_le _, rfl, Below.refl _ _⟩
  case round =>
    obtain ⟨k, hk, rfl, hb⟩ := hrel
    by_cases hlt : k < xs.length
    · obtain ⟨b, o, rfl, hx1, hx2, hx3⟩ := (hu.below hb).change (List.getElem?_eq_getElem hlt)
      obtain ⟨b', o', rfl, hy1, hy2, hy3⟩ := (hT.below hb).change (i := k) (x := xs[k]) (by rw [List.getElem?_append_left hlt]; exact List.getElem?_eq_getElem hlt)
      generalize xs[k] = x at *
      replace hx1 := fun p : Later wr => Later.cell p hx1; replace hx2 := fun p : Later wr => Later.cell p hx2; replace hx3 := fun p : Later wr => Later.cell p hx3
      replace hy1 := fun p : Later wr => Later.cell p hy1; replace hy2 := fun p : Later wr => Later.cell p hy2; replace hy3 := fun p : Later wr => Later.cell p hy3
      have hneq := neq_change
      have heqg := eqg_change
      go_wp2
      refine wp_region_later (by kernel_rfl) (by kernel_rfl) ?_
      repeat (quiet_step (fail))
      refine wpQuiet_nil ?_
      rintro _ ⟨p, rfl⟩
      clear hx1 hx2 hx3 hy1 hy2 hy3 hneq heqg
      go_wp2
      go_roundw
      case rel => exact ⟨k + 1, by omega, by go_num, Below.step hb p.ok⟩
      case measure => simp [intOf]; omega
    · have hkl : k = xs.length := by omega
      subst hkl
      obtain ⟨b', o', rfl, hy1, hy2, hy3⟩ := (hT.below hb).change (i := xs.length) (x := spareChange) (by rw [List.getElem?_append_right (Nat.le_refl _)]; simp)
      go_wp2
      go_ret
      exact ⟨ret_bool (by decide +kernel), hb.alloc hb.size _⟩


end Go.Proofs.YtanjgeacmpmjhaaGreatDoor
