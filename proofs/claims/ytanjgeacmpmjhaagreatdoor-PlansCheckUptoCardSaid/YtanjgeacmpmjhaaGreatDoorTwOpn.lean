import Derived.Test.YtanjgeacmpmjhaaGreatDoorMgPlansCheckUpto9
set_option linter.unusedVariables false
set_option linter.unusedSimpArgs false
namespace Go.Proofs.YtanjgeacmpmjhaaGreatDoor
open Go.RowKit

/-- How much these have, counted with an early end. -/
def sizeOpsGo : Int → List Opn → Int
  | n, [] => n
  | n, x :: xs => if n ≤ 1048576 then sizeOpsGo (n + x.k.size + x.t.size) xs else n
def sizeOps (xs : List Opn) : Int := sizeOpsGo xs.length xs


/-- The mark in the room behind. -/
def spareOpn : Opn := ⟨0, ⟨#[115, 112, 97, 114, 101]⟩, ⟨#[]⟩, 0⟩

theorem info_opn : (Tryz.prog.info? 172).map (fun i => (i.zero, i.size, i.bytes)) = some (some (.agg #[.int .u8 0, .string ⟨#[]⟩, .string ⟨#[]⟩, .int .u32 0]), 4, 48) := by kernel_rfl

set_option maxHeartbeats 400000 in
theorem twinOps_calls (v : Value) (xs : List Opn) (w : World) (hv : Rd Opn.enc 4 w v xs) (hl : xs.length ≤ 1000000000) :
    Calls Tryz.prog 70 #[v] w fun e w' => ∃ A c, e = .returned (.slice A xs.length c) ∧ Own Opn.enc 4 172 w.heap.size w' (.slice A (xs.length + 1) c) (xs ++ [spareOpn]) ∧ Below w.heap.size w w' := by
  obtain ⟨A, c, rfl, hlc, hc⟩ := hv.shape
  have hmk := run_make_room (P := Tryz.prog) 103 172 4 48 _ Tryz.underlying103 info_opn xs.length (by omega) (by omega)
  go_enter Tryz.func70, Tryz.ntmps70
  go_wp2
  clear hmk
  have hst := Own.made Opn.enc 4 172 w.heap.size w (Value.agg #[.int .u8 0, .string ⟨#[]⟩, .string ⟨#[]⟩, .int .u32 0]).cells (xs.length + 1) (Nat.le_refl _) (by omega)
  go_loopw [3, 4] (fun tv i wr => ∃ k : Nat, k ≤ xs.length ∧ i = .int .i64 k ∧ Own Opn.enc 4 172 w.heap.size wr tv (xs.take k) ∧ Below w.heap.size w wr) (fun _ i _ => xs.length - (intOf i).toNat)
  case atStart => exact ⟨0, Nat.zero_le _, rfl, hst, (Below.refl _ _).alloc (Nat.le_refl _) _⟩
  case round =>
    clear hst
    obtain ⟨k, hk, rfl, hown, hb⟩ := hrel
    obtain ⟨A', c', hsl, _⟩ := hown.slice
    rw [List.length_take_of_le hk] at hsl
    subst hsl
    by_cases hlt : k < xs.length
    · have HT := Lib.hid (List.take_succ_eq_append_getElem hlt)
      obtain ⟨b, o, rfl, hx1, hx2, hx3, hx4⟩ := (hv.below hb).opn (List.getElem?_eq_getElem hlt)
      have hxl : (xs.take k).length = k := List.length_take_of_le hk
      generalize xs[k] = x at *
      have hsz := hb.size
      go_wp2_with (at_builtin; refine append_one Opn.enc 4 172 103 48 _ w.heap.size _ _ x rfl _ _ rfl Tryz.underlying103 info_opn rfl (by decide) (by decide) opn_len opn_one rfl rfl hown hb hsz (by omega) ?_; intro v' w' hown' hb' hgr hat; clear hgr hat hx1 hx2 hx3 hx4)
      go_roundw
      case rel =>
        refine ⟨k + 1, by omega, by go_num, ?_, hb'⟩
        rw [HT.out]
        exact hown'
      case measure => simp [intOf]; omega
    · have hkl : k = xs.length := by omega
      subst hkl
      rw [List.take_length] at hown
      have hsz := hb.size
      go_wp2_with (at_builtin; refine append_one Opn.enc 4 172 103 48 _ w.heap.size _ _ spareOpn rfl _ _ rfl Tryz.underlying103 info_opn rfl (by decide) (by decide) opn_len opn_one rfl rfl hown hb hsz (by omega) ?_; intro v' w' hown' hb' hgr hat; clear hgr hat; obtain ⟨A1, c1, hsl1, hcap⟩ := hown'.slice; rw [List.length_append, List.length_singleton] at hsl1 hcap; subst hsl1; have hcap2 : xs.length ≤ c1 := Nat.le_of_succ_le hcap.1)
      go_ret
      exact ⟨A1, c1, rfl, hown', hb'⟩

set_option maxHeartbeats 400000 in
theorem leftOps_calls (A : Option Addr) (c : Nat) (u : Value) (xs : List Opn) (w : World) (hT : Rd Opn.enc 4 w (.slice A (xs.length + 1) c) (xs ++ [spareOpn])) (hu : Rd Opn.enc 4 w u xs) :
    Calls Tryz.prog 75 #[.slice A xs.length c, u] w fun e w' => e = .returned (.bool true) ∧ Below w.heap.size w w' := by
  obtain ⟨B, d, rfl, hld, hd⟩ := hu.shape
  obtain ⟨A0, c0, hs0, hlc, hc⟩ := hT.shape
  injection hs0 with e1 e2 e3
  subst e1 e3
  clear e2
  rw [List.length_append, List.length_singleton] at hlc
  have hcb : decide (c ≤ xs.length) = false := decide_eq_false (by omega)
  go_enter Tryz.func75, Tryz.ntmps75
  go_wp2
  go_loopw [5] (fun i wr => ∃ k : Nat, k ≤ xs.length ∧ i = .int .i64 k ∧ Below w.heap.size w wr) (fun i _ => xs.length - (intOf i).toNat)
  case atStart => exact ⟨0, Nat.zero_le _, rfl, Below.refl _ _⟩
  case round =>
    obtain ⟨k, hk, rfl, hb⟩ := hrel
    by_cases hlt : k < xs.length
    · obtain ⟨b, o, rfl, hx1, hx2, hx3, hx4⟩ := (hu.below hb).opn (List.getElem?_eq_getElem hlt)
      obtain ⟨b', o', rfl, hy1, hy2, hy3, hy4⟩ := (hT.below hb).opn (i := k) (x := xs[k]) (by rw [List.getElem?_append_left hlt]; exact List.getElem?_eq_getElem hlt)
      generalize xs[k] = x at *
      replace hx1 := fun p : Later wr => Later.cell p hx1; replace hx2 := fun p : Later wr => Later.cell p hx2; replace hx3 := fun p : Later wr => Later.cell p hx3; replace hx4 := fun p : Later wr => Later.cell p hx4
      replace hy1 := fun p : Later wr => Later.cell p hy1; replace hy2 := fun p : Later wr => Later.cell p hy2; replace hy3 := fun p : Later wr => Later.cell p hy3; replace hy4 := fun p : Later wr => Later.cell p hy4
      have hneq := neq_opn
      have heqg := eqg_opn
      go_wp2
      refine wp_region_later (by kernel_rfl) (by kernel_rfl) ?_
      repeat (quiet_step (fail))
      refine wpQuiet_nil ?_
      rintro _ ⟨p, rfl⟩
      clear hx1 hx2 hx3 hx4 hy1 hy2 hy3 hy4 hneq heqg
      go_wp2
      go_roundw
      case rel => exact ⟨k + 1, by omega, by go_num, Below.step hb p.ok⟩
      case measure => simp [intOf]; omega
    · have hkl : k = xs.length := by omega
      subst hkl
      obtain ⟨b', o', rfl, hy1, hy2, hy3, hy4⟩ := (hT.below hb).opn (i := xs.length) (x := spareOpn) (by rw [List.getElem?_append_right (Nat.le_refl _)]; simp)
      go_wp2
      go_ret
      exact ⟨ret_bool (by decide +kernel), hb.alloc hb.size _⟩


end Go.Proofs.YtanjgeacmpmjhaaGreatDoor
