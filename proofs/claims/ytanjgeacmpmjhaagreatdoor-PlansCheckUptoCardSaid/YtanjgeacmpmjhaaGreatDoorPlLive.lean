import Derived.Test.YtanjgeacmpmjhaaGreatDoorPlRun
import Derived.Test.YtanjgeacmpmjhaaGreatDoorMgPlansCheckUpto27
import Derived.Test.YtanjgeacmpmjhaaGreatDoorTwSpan
set_option linter.unusedVariables false
set_option linter.unusedSimpArgs false
set_option linter.unusedSectionVars false
namespace Go.Proofs.YtanjgeacmpmjhaaGreatDoor
open Go.RowKit

attribute [local go_sem ↓] Go.wp_at_zero Go.wp_at_succ

abbrev lA : ByteArray := ⟨#[97]⟩
abbrev lB : ByteArray := ⟨#[98]⟩
abbrev lC : ByteArray := ⟨#[99]⟩
abbrev lD : ByteArray := ⟨#[100]⟩
abbrev lZ : ByteArray := ⟨#[122]⟩
abbrev lE : ByteArray := ⟨#[]⟩
def opsL : List Opn := [⟨1, lA, lE, 0⟩, ⟨2, lB, lE, 2⟩, ⟨3, lA, lE, 0⟩, ⟨4, lA, lZ, 0⟩]
def ops3L : List Opn := [⟨1, lA, lE, 0⟩, ⟨4, lB, lD, 0⟩, ⟨2, lC, lE, 1⟩]
def rowsL : List Row := [⟨lA, 1⟩]
theorem runL : runP rowsL opsL = some ([[⟨lA, 1⟩], [], [], [⟨lB, 2⟩]], [⟨lB, 2⟩]) := by decide +kernel
theorem mark7 : markT 7 = ⟨#[95, 109, 55]⟩ := by
  unfold markT digT
  rw [Lib.decDigits]
  rfl
theorem spansL : joinF (allS 7 ops3L) = [⟨⟨#[95, 109, 55]⟩, ⟨#[95, 109, 55]⟩⟩, ⟨tT, tT⟩, ⟨lA, lA⟩, ⟨lB, lD⟩] := by
  unfold allS
  rw [mark7]
  decide +kernel
theorem chkL : chkP [(2, opsL)] = true := by decide +kernel
theorem chkNil : chkP [] = false := by decide +kernel

theorem Own.one {base : Nat} {w : World} {v : Value} {k : ByteArray} {n : Int} {E : TypeId} (h : Own Row.enc 2 E base w v [⟨k, n⟩]) :
    ∃ g cap, v = .slice (some ⟨g, 0, none⟩) 1 cap ∧ 1 ≤ cap ∧ cap ≤ 9223372036854775807 ∧ w.cell? ⟨g, 0, none⟩ = some (.string k) ∧ w.cell? ⟨g, 1, none⟩ = some (.int .u32 n) := by
  obtain ⟨g, cap, cur, rfl, h1, h2, h3, hx⟩ := h.lies row_len 0 _ rfl
  exact ⟨g, cap, rfl, h1, by unfold maxLen at h2; omega, by simp [World.cell?, h3]; simpa using hx 0 _ rfl, by simp [World.cell?, h3]; simpa using hx 1 _ rfl⟩

theorem ResL.at {base : Nat} {w : World} {A : Option Addr} {n c : Nat} {rs : List (List Row)} {N : Nat → Prop} (h : ResL base w (.slice A n c) rs N) (hp : 0 < rs.length) :
    ∃ g, A = some ⟨g, 0, none⟩ ∧ n = rs.length ∧ ∀ (i : Nat) (r : List Row), rs[i]? = some r → ∃ s : SlV, w.cell? ⟨g, i, none⟩ = some s.val ∧ Own Row.enc 2 44 base w s.val r := by
  obtain ⟨ss, ho, hl, hs, _⟩ := h
  obtain ⟨g, cap, cur, e, h1, h2, h3, h4, h5, h6⟩ := ho.some_block (by omega)
  injection e with e1 e2 e3
  subst e1 e2 e3
  refine ⟨g, rfl, hl, fun i r hi => ?_⟩
  have hlt : i < ss.length := by rw [hl]; exact (List.getElem?_eq_some_iff.1 hi).1
  obtain ⟨g', cap', cur', e', _, _, h3', hx⟩ := ho.lies slv_len i _ (List.getElem?_eq_getElem hlt)
  injection e' with e1 e2 e3
  injection e1 with e1
  injection e1 with e1
  subst e1
  refine ⟨ss[i], ?_, (hs i _ _ (List.getElem?_eq_getElem hlt) hi).1⟩
  have := hx 0 _ rfl
  simp only [Nat.mul_one, Nat.add_zero] at this
  simp [World.cell?, h3', this]

/-- What the run of the sample leaves. -/
theorem runL_calls (v u : Value) (w : World) (hv : Rd Row.enc 2 w v rowsL) (hu : Rd Opn.enc 4 w u opsL) :
    Calls Tryz.prog 71 #[v, u] w fun e w' => Below w.heap.size w w' ∧ ∃ g c g0 c0 g3 c3 A' c', e = .returned (.tuple #[.slice (some ⟨g, 0, none⟩) 4 4, .slice A' 1 c', .int .i64 0]) ∧
      w'.cell? ⟨g, 0, none⟩ = some (.slice (some ⟨g0, 0, none⟩) 1 c0) ∧ w'.cell? ⟨g, 3, none⟩ = some (.slice (some ⟨g3, 0, none⟩) 1 c3) ∧
      w'.cell? ⟨g0, 1, none⟩ = some (.int .u32 1) ∧ w'.cell? ⟨g3, 0, none⟩ = some (.string lB) ∧ c = 4 := by
  refine (plRun_calls v u rowsL opsL w hv hu (by decide) (by decide) (by decide +kernel) (by decide +kernel)).mono ?_
  rintro e w' ⟨hb, ⟨h, _⟩ | ⟨rs, left, A, n, c, A', n', c', h, rfl, hR, hL⟩⟩
  · rw [runL] at h
    cases h
  · rw [runL] at h
    injection h with h
    injection h with h1 h2
    subst h1 h2
    obtain ⟨g, rfl, rfl, hat⟩ := hR.at (by decide)
    obtain ⟨s0, d0, o0⟩ := hat 0 _ rfl
    obtain ⟨s3, d3, o3⟩ := hat 3 _ rfl
    obtain ⟨g0, c0, e0, _, _, _, k0⟩ := o0.one
    obtain ⟨g3, c3, e3, _, _, k3, _⟩ := o3.one
    rw [e0] at d0
    rw [e3] at d3
    obtain ⟨g', cap', eL, _⟩ := hL.one
    injection eL with _ eL2 _
    subst eL2
    exact ⟨hb, g, 4, g0, c0, g3, c3, A', c', rfl, d0, d3, k0, k3, rfl⟩

abbrev spansR : List Span := [⟨⟨#[95, 109, 55]⟩, ⟨#[95, 109, 55]⟩⟩, ⟨tT, tT⟩, ⟨lA, lA⟩, ⟨lB, lD⟩]
theorem spansL_calls (w : World) (hT : Tab10 w) : Calls Tryz.prog 65 #[.int .u32 7, .slice (some ⟨w.heap.size, 0, none⟩) 3 3]
    (w.alloc (.cells #[.int .u8 1, .string lA, .string lE, .int .u32 0, .int .u8 4, .string lB, .string lD, .int .u32 0, .int .u8 2, .string lC, .string lE, .int .u32 1] 172))
    fun e w' => ∃ A k, e = .returned (.slice A 4 k) ∧ Below w.heap.size w w' ∧ Rd Span.enc 2 w' (.slice A 4 k) spansR := by
  have hb : Below w.heap.size w (w.alloc (.cells #[.int .u8 1, .string lA, .string lE, .int .u32 0, .int .u8 4, .string lB, .string lD, .int .u32 0, .int .u8 2, .string lC, .string lE, .int .u32 1] 172)) := (Below.refl _ w).alloc (Nat.le_refl _) _
  refine (plSpans_calls 7 (by decide) _ ops3L _ (hT.stays hb) (rd_lit Opn.enc 4 opn_len _ ops3L (by decide) w) (by decide) (by decide +kernel)).mono ?_
  rintro e w' ⟨v', rfl, own, hb2⟩
  rw [spansL] at own
  obtain ⟨A, c, rfl, _⟩ := own.slice
  exact ⟨A, c, rfl, Below.step hb hb2, own.rd span_len⟩

theorem sameL_calls (w : World) (A : Option Addr) (k : Nat) (h : Rd Span.enc 2 w (.slice A 4 k) spansR) :
    Calls Tryz.prog 58 #[.slice A 4 k, .slice (some ⟨w.heap.size, 0, none⟩) 4 4]
      (w.alloc (.cells #[.string ⟨#[95, 109, 55]⟩, .string ⟨#[95, 109, 55]⟩, .string tT, .string tT, .string lA, .string lA, .string lB, .string lD] 47))
      fun e w' => e = .returned (.bool true) ∧ Below w.heap.size w w' := by
  have hb : Below w.heap.size w (w.alloc (.cells #[.string ⟨#[95, 109, 55]⟩, .string ⟨#[95, 109, 55]⟩, .string tT, .string tT, .string lA, .string lA, .string lB, .string lD] 47)) := (Below.refl _ w).alloc (Nat.le_refl _) _
  refine (sameSpans_calls _ _ spansR spansR _ (h.below hb) (rd_lit Span.enc 2 span_len _ spansR (by decide) w)).mono ?_
  rintro e w' ⟨rfl, hb2⟩
  exact ⟨ret_bool (by simp), Below.step hb hb2⟩

theorem chkL_calls (w : World) (H : Nat) (h : Rd Opn.enc 4 w (.slice (some ⟨H, 0, none⟩) 4 4) opsL) :
    Calls Tryz.prog 63 #[.slice (some ⟨w.heap.size, 0, none⟩) 1 1] (w.alloc (.cells #[.int .u8 2, .slice (some ⟨H, 0, none⟩) 4 4] 105))
      fun e w' => e = .returned (.bool true) ∧ Below w.heap.size w w' := by
  have hb : Below w.heap.size w (w.alloc (.cells #[.int .u8 2, .slice (some ⟨H, 0, none⟩) 4 4] 105)) := (Below.refl _ w).alloc (Nat.le_refl _) _
  refine (plCheck_calls _ [(2, opsL)] _ ⟨[⟨2, some ⟨H, 0, none⟩, 4, 4⟩], rd_lit PaV.enc 2 pav_len _ [⟨2, some ⟨H, 0, none⟩, 4, 4⟩] (by simp) w, rfl, fun i x p hx hp => ?_⟩ (by decide +kernel)).mono ?_
  · match i with
    | 0 =>
      simp at hx hp
      subst hx hp
      exact ⟨rfl, h.below hb⟩
    | i + 1 => simp at hx
  · rintro e w' ⟨rfl, hb2⟩
    exact ⟨ret_bool chkL, Below.step hb hb2⟩

theorem chkN_calls (w : World) : Calls Tryz.prog 63 #[.slice none 0 0] w fun e w' => e = .returned (.bool false) ∧ Below w.heap.size w w' := by
  refine (plCheck_calls _ [] w ⟨[], ⟨_, 0, rfl, Nat.le_refl _, by omega, fun h => absurd h (by simp)⟩, rfl, fun i x p hx => by simp at hx⟩ (by simp)).mono ?_
  rintro e w' ⟨rfl, hb2⟩
  exact ⟨ret_bool chkNil, hb2⟩

set_option maxRecDepth 100000 in
set_option maxHeartbeats 1600000 in
theorem plives_calls (w : World) (hT : Tab10 w) : Calls Tryz.prog 61 #[] w fun e w' => e = .returned (.bool true) ∧ Below w.heap.size w w' := by
  generalize hW1 : w.alloc (.cells (opsL.flatMap Opn.enc).toArray 172) = W1
  have hb1 : Below w.heap.size w W1 := by rw [← hW1]; exact (Below.refl _ w).alloc (Nat.le_refl _) _
  have hr1 : Rd Opn.enc 4 W1 (.slice (some ⟨w.heap.size, 0, none⟩) 4 4) opsL := by rw [← hW1]; exact rd_lit Opn.enc 4 opn_len _ opsL (by decide) w
  generalize hW2 : W1.alloc (.cells (rowsL.flatMap Row.enc).toArray 44) = W2
  have hb2 : Below w.heap.size w W2 := by rw [← hW2]; exact hb1.alloc hb1.size _
  have hr2 : Rd Opn.enc 4 W2 (.slice (some ⟨w.heap.size, 0, none⟩) 4 4) opsL := by rw [← hW2]; exact hr1.below ((Below.refl _ W1).alloc (Nat.le_refl _) _)
  have hl2 : Rd Row.enc 2 W2 (.slice (some ⟨W1.heap.size, 0, none⟩) 1 1) rowsL := by rw [← hW2]; exact rd_lit Row.enc 2 row_len _ rowsL (by decide) W1
  have hrun := runL_calls _ _ W2 hl2 hr2
  have e1 : (opsL.flatMap Opn.enc).toArray = #[.int .u8 1, .string lA, .string lE, .int .u32 0, .int .u8 2, .string lB, .string lE, .int .u32 2, .int .u8 3, .string lA, .string lE, .int .u32 0, .int .u8 4, .string lA, .string lZ, .int .u32 0] := rfl
  have e2 : (rowsL.flatMap Row.enc).toArray = #[.string lA, .int .u32 1] := rfl
  rw [e1] at hW1
  rw [e2] at hW2
  clear e1 e2
  go_enter Tryz.func61, Tryz.ntmps61
  go_wp2_with (first
    | (go_at_call 71; go_must ((try simp only [hW1, hW2]); refine hrun.mono ?_); rintro e w3 ⟨hb3, g, c, g0, c0, g3, c3, A', c', rfl, d0, d3, k0, k3, -⟩; clear hrun hl2; have hr3 := hr2.below hb3; have hw3 := Below.step hb2 hb3; have hT3 := hT.stays hw3)
    | (go_at_call 65; go_must (refine (spansL_calls w3 hT3).mono ?_); rintro e w4 ⟨A4, k4, rfl, hb4, hS4⟩; replace d0 := Below.cell_some hb4 d0; replace d3 := Below.cell_some hb4 d3; replace k0 := Below.cell_some hb4 k0; replace k3 := Below.cell_some hb4 k3; have hr4 := hr3.below hb4; have hw4 := Below.step hw3 hb4)
    | (go_at_call 58; go_must (refine (sameL_calls w4 A4 k4 hS4).mono ?_); rintro e w5 ⟨rfl, hb5⟩; have hr5 := hr4.below hb5; have hw5 := Below.step hw4 hb5; clear d0 d3 k0 k3)
    | (go_at_call 63; first | (have := hw6; refine (chkN_calls w6).mono ?_; rintro e w7 ⟨rfl, hb7⟩; have hw7 := Below.step hw6 hb7) | (refine (chkL_calls w5 _ hr5).mono ?_; rintro e w6 ⟨rfl, hb6⟩; have hw6 := Below.step hw5 hb6)))
  go_ret
  exact ⟨rfl, hw7⟩

end Go.Proofs.YtanjgeacmpmjhaaGreatDoor
