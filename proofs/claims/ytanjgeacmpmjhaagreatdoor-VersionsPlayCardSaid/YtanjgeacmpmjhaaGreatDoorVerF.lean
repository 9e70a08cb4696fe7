import Derived.Test.YtanjgeacmpmjhaaGreatDoorVerE
import Derived.Test.YtanjgeacmpmjhaaGreatDoorApp
set_option linter.unusedVariables false
set_option linter.unusedSimpArgs false
namespace Go.Proofs.YtanjgeacmpmjhaaGreatDoor
open Go.RowKit Go.Shelf

section
variable {base : Nat} {w : World} {B : Nat} {hist : List (List Change)} {trim : Nat}

theorem PastP.lt (h : PastP base w B hist trim) : base ≤ B ∧ B < w.heap.size := by
  obtain ⟨M, n, D, H, h⟩ := h
  exact ⟨h.low, h.lt⟩
theorem PastP.ok (h : PastP base w B hist trim) : ∀ cs ∈ hist, ∀ c ∈ cs, okChange c = true := by
  obtain ⟨M, n, D, H, h⟩ := h
  exact h.past.ok
theorem PastP.le (h : PastP base w B hist trim) : trim ≤ hist.length := by
  obtain ⟨M, n, D, H, h⟩ := h
  exact h.past.le
theorem PastP.rows_ok (h : PastP base w B hist trim) (n : Nat) : ∀ x ∈ rowsN hist n, okKey x.k = true := by
  obtain ⟨M, _, D, H, h⟩ := h
  exact h.past.rows_ok n

theorem pnow_P (h : PastP base w B hist trim) :
    Calls Tryz.prog 39 #[.pointer (some ⟨B, 0, none⟩)] w fun e w' => e = .returned (.int .u32 (hist.length : Int)) ∧ w = w' := by
  obtain ⟨M, n, D, H, h⟩ := h
  exact now_calls h

theorem pget_P (h : PastP base w B hist trim) (hl : hist.flatten.length ≤ 1000000) (at' : Nat) (key : ByteArray) (hk : okS key) :
    Calls Tryz.prog 42 #[.pointer (some ⟨B, 0, none⟩), .int .u32 at', .string key] w
      fun e w' => ∃ n, e = .returned (.tuple #[.int .u32 n, .bool (getL key (rowsN hist (max at' trim))).isSome]) ∧ (∀ v, getL key (rowsN hist (max at' trim)) = some v → n = v) ∧ Below w.heap.size w w' := by
  obtain ⟨M, n, D, H, h⟩ := h
  have hf := h.past.find key (max at' trim) (by omega)
  have hmax : max (at' : Int) (trim : Int) = ((max at' trim : Nat) : Int) := by omega
  have ht := retW_told (lastW ((max at' trim : Nat) : Int) (H key))
  unfold findW at hf
  rw [hf] at ht
  refine (pget_calls h hl at' key hk).mono ?_
  rintro e w' ⟨rfl, hb⟩
  rw [hmax, ht]
  refine ⟨(retW (lastW ((max at' trim : Nat) : Int) (H key))).1, ?_, ?_, hb⟩
  · generalize retW (lastW ((max at' trim : Nat) : Int) (H key)) = q
    obtain ⟨q1, q2⟩ := q
    cases q2 <;> rfl
  · intro v hv
    cases hq : (retW (lastW ((max at' trim : Nat) : Int) (H key))).2 with
    | false => rw [hq] at hv; cases hv
    | true => rw [hq] at hv; exact Option.some.inj hv

theorem pscan_P (h : PastP base w B hist trim) (hl : hist.flatten.length ≤ 1000000) (at' : Nat) (f t : ByteArray) (most : Int) :
    Calls Tryz.prog 41 #[.pointer (some ⟨B, 0, none⟩), .int .u32 at', .agg #[.string f, .string t], .int .i64 most] w
      fun e w' => ∃ A c, e = .returned (.slice A ((rowsIn f t (rowsN hist (max at' trim))).take most.toNat).length c) ∧ Below w.heap.size w w' ∧ Rd Row.enc 2 w' (.slice A ((rowsIn f t (rowsN hist (max at' trim))).take most.toNat).length c) ((rowsIn f t (rowsN hist (max at' trim))).take most.toNat) := by
  obtain ⟨M, n, D, H, h⟩ := h
  refine (pscan_calls h hl at' f t most).mono ?_
  rintro e w' ⟨v', rfl, hb, own⟩
  obtain ⟨A, c, rfl, _, _⟩ := own.slice
  exact ⟨A, c, rfl, hb, own.rd row_len⟩

theorem psince_P (h : PastP base w B hist trim) (at' : Nat) (f t : ByteArray) (hl : hist.flatten.length ≤ 1000000) :
    Calls Tryz.prog 45 #[.pointer (some ⟨B, 0, none⟩), .int .u32 at', .agg #[.string f, .string t]] w
      fun e w' => e = .returned (.bool (decide (at' < trim) || sinceH hist at' f t)) ∧ Below w.heap.size w w' := by
  obtain ⟨M, n, D, H, h⟩ := h
  exact psince_calls h at' f t hl

theorem ptrim_P (h : PastP base w B hist trim) (at' : Nat) (hl : hist.flatten.length ≤ 1000000) :
    Calls Tryz.prog 35 #[.pointer (some ⟨B, 0, none⟩), .int .u32 at'] w
      fun e w' => ((trim ≤ at' ∧ at' ≤ hist.length ∧ e = .returned (.int .i64 0) ∧ PastP base w' B hist at') ∨ (¬ (trim ≤ at' ∧ at' ≤ hist.length) ∧ e = .returned (.int .i64 1) ∧ PastP base w' B hist trim)) ∧ PStep base w w' := by
  obtain ⟨M, n, D, H, h⟩ := h
  by_cases hc : trim ≤ at' ∧ at' ≤ hist.length
  · refine (ptrim_ok h at' hl hc.1 hc.2).mono ?_
    rintro e w' ⟨rfl, h1, h2⟩
    exact ⟨.inl ⟨hc.1, hc.2, rfl, h1⟩, h2⟩
  · refine (ptrim_bad h at' hl hc).mono ?_
    rintro e w' ⟨rfl, rfl⟩
    exact ⟨.inr ⟨hc, rfl, M, n, D, H, h⟩, PStep.refl _ _⟩

theorem pcommit_P (h : PastP base w B hist trim) {vc : Value} {cs : List Change} (hc : RdS Change.enc 3 base w vc cs) (hk : ∀ c ∈ cs, c.k.size ≤ 9223372036854775807) (hl : hist.flatten.length + cs.length ≤ 1000000) (hl2 : hist.length ≤ 1000000) :
    Calls Tryz.prog 37 #[.pointer (some ⟨B, 0, none⟩), vc] w
      fun e w' => ((cs.all okChange = true ∧ e = .returned (.tuple #[.int .u32 ((hist.length + 1 : Nat) : Int), .int .i64 0]) ∧ PastP base w' B (hist ++ [cs]) trim) ∨
        (cs.all okChange = false ∧ e = .returned (.tuple #[.int .u32 0, .int .i64 1]) ∧ PastP base w' B hist trim)) ∧ PStep base w w' := by
  obtain ⟨M, n, D, H, h⟩ := h
  exact pcommit_calls h hc hk hl hl2

/-! ### at literals -/
theorem vcommit_lit (cs : List Change) (hok : cs.all okChange = true) (hk : ∀ c ∈ cs, c.k.size ≤ 9223372036854775807) (n : Nat) (hn : hist.flatten.length ≤ n) (hl : n + cs.length ≤ 1000000) (hl2 : hist.length ≤ 1000000) (h : PastP base w B hist trim) :
    Calls Tryz.prog 37 #[.pointer (some ⟨B, 0, none⟩), .slice (some ⟨w.heap.size, 0, none⟩) cs.length cs.length] (w.alloc (.cells (cs.flatMap Change.enc).toArray 128))
      fun e w' => e = .returned (.tuple #[.int .u32 ((hist.length + 1 : Nat) : Int), .int .i64 0]) ∧ PastP base w' B (hist ++ [cs]) trim ∧ PStep base w w' := by
  have hb : Below w.heap.size w (w.alloc (.cells (cs.flatMap Change.enc).toArray 128)) := (Below.refl _ w).alloc (Nat.le_refl _) _
  have hr : RdS Change.enc 3 base (w.alloc (.cells (cs.flatMap Change.enc).toArray 128)) (.slice (some ⟨w.heap.size, 0, none⟩) cs.length cs.length) cs := by
    refine ⟨rd_lit Change.enc 3 change_len 128 cs (by omega) w, fun b e _ => .inr ?_⟩
    injection e with e
    subst e
    exact ⟨_, _, _, alloc_at' _ rfl, by decide, by decide⟩
  refine (pcommit_P (h.below hb) hr hk (by omega) hl2).mono ?_
  rintro e w' ⟨⟨_, rfl, hP⟩ | ⟨hno, _⟩, hps⟩
  · exact ⟨rfl, hP, (PStep.of_below hb).trans hps⟩
  · rw [hok] at hno; cases hno

theorem vget_lit (at' : Nat) (key : ByteArray) (v : Option Int) (hv : getL key (rowsN hist (max at' trim)) = v) (hk : okS key) (hl : hist.flatten.length ≤ 1000000) (h : PastP base w B hist trim) :
    Calls Tryz.prog 42 #[.pointer (some ⟨B, 0, none⟩), .int .u32 at', .string key] w
      fun e w' => ∃ n, e = .returned (.tuple #[.int .u32 n, .bool v.isSome]) ∧ (∀ u, v = some u → n = u) ∧ Below w.heap.size w w' := by
  subst hv
  exact pget_P h hl at' key hk

theorem vsince_lit (at' : Nat) (f t : ByteArray) (r : Bool) (hv : (decide (at' < trim) || sinceH hist at' f t) = r) (hl : hist.flatten.length ≤ 1000000) (h : PastP base w B hist trim) :
    Calls Tryz.prog 45 #[.pointer (some ⟨B, 0, none⟩), .int .u32 at', .agg #[.string f, .string t]] w
      fun e w' => e = .returned (.bool r) ∧ Below w.heap.size w w' := by
  subst hv
  exact psince_P h at' f t hl

theorem vtrim_lit (at' : Nat) (h1 : trim ≤ at') (h2 : at' ≤ hist.length) (hl : hist.flatten.length ≤ 1000000) (h : PastP base w B hist trim) :
    Calls Tryz.prog 35 #[.pointer (some ⟨B, 0, none⟩), .int .u32 at'] w
      fun e w' => e = .returned (.int .i64 0) ∧ PastP base w' B hist at' ∧ PStep base w w' := by
  obtain ⟨M, n, D, H, h⟩ := h
  exact ptrim_ok h at' hl h1 h2
end

set_option maxHeartbeats 400000 in
theorem pcommit_nil (v : Value) (w : World) :
    Calls Tryz.prog 37 #[.pointer none, v] w fun e w' => e = .returned (.tuple #[.int .u32 0, .int .i64 2]) ∧ w = w' := by
  go_enter Tryz.func37, Tryz.ntmps37
  go_wp2_with (go_at_call 132; refine (pthere_nil _).mono ?_; rintro e w1 ⟨rfl, rfl⟩)
  go_ret2
  exact ⟨rfl, rfl⟩

abbrev vA : ByteArray := ⟨#[97]⟩
abbrev vB : ByteArray := ⟨#[98]⟩
abbrev vC : ByteArray := ⟨#[99]⟩
abbrev vZ : ByteArray := ⟨#[122]⟩
abbrev hist1 : List (List Change) := [[⟨vA, 5, false⟩]]
abbrev hist2 : List (List Change) := [[⟨vA, 5, false⟩], [⟨vA, 0, true⟩, ⟨vB, 7, false⟩]]

set_option maxHeartbeats 4000000 in
set_option maxRecDepth 100000 in
/-- What the chapter fixes is so: the law's sample. -/
theorem lives_calls (w : World) :
    Calls Tryz.prog 32 #[] w fun e w' => e = .returned (.bool true) ∧ Below w.heap.size w w' := by
  have k1 := fun (W : World) => vcommit_lit (base := w.heap.size) (w := W) (B := w.heap.size + 1) (hist := []) (trim := 0) [⟨vA, 5, false⟩] (by decide +kernel) (by decide +kernel) 0 (by decide) (by decide) (by decide)
  have k2 := fun (W : World) => vcommit_lit (base := w.heap.size) (w := W) (B := w.heap.size + 1) (hist := hist1) (trim := 0) [⟨vA, 0, true⟩, ⟨vB, 7, false⟩] (by decide +kernel) (by decide +kernel) 1 (by decide) (by decide) (by decide)
  have g1 := fun (W : World) => vget_lit (base := w.heap.size) (w := W) (B := w.heap.size + 1) (hist := hist2) (trim := 0) 1 vA (some 5) (by decide +kernel) (by decide +kernel) (by decide)
  have g2 := fun (W : World) => vget_lit (base := w.heap.size) (w := W) (B := w.heap.size + 1) (hist := hist2) (trim := 0) 2 vA none (by decide +kernel) (by decide +kernel) (by decide)
  have g3 := fun (W : World) => vget_lit (base := w.heap.size) (w := W) (B := w.heap.size + 1) (hist := hist2) (trim := 0) 9 vB (some 7) (by decide +kernel) (by decide +kernel) (by decide)
  have g4 := fun (W : World) => vget_lit (base := w.heap.size) (w := W) (B := w.heap.size + 1) (hist := hist2) (trim := 0) 0 vA none (by decide +kernel) (by decide +kernel) (by decide)
  have s1 := fun (W : World) => vsince_lit (base := w.heap.size) (w := W) (B := w.heap.size + 1) (hist := hist2) (trim := 0) 1 vA vA true (by decide +kernel) (by decide)
  have s2 := fun (W : World) => vsince_lit (base := w.heap.size) (w := W) (B := w.heap.size + 1) (hist := hist2) (trim := 0) 2 vA vZ false (by decide +kernel) (by decide)
  have t1 := fun (W : World) => vtrim_lit (base := w.heap.size) (w := W) (B := w.heap.size + 1) (hist := hist2) (trim := 0) 2 (by decide) (by decide) (by decide)
  have g5 := fun (W : World) => vget_lit (base := w.heap.size) (w := W) (B := w.heap.size + 1) (hist := hist2) (trim := 2) 0 vB (some 7) (by decide +kernel) (by decide +kernel) (by decide)
  have s3 := fun (W : World) => vsince_lit (base := w.heap.size) (w := W) (B := w.heap.size + 1) (hist := hist2) (trim := 2) 1 vC vC true (by decide +kernel) (by decide)
  go_enter Tryz.func32, Tryz.ntmps32
  go_wp2_with (first
    | (go_at_call 33; refine (pnew_calls w).mono ?_; rintro e w1 ⟨rfl, hB, hP⟩)
    | (go_at_call 37; refine (k1 _ hP).mono ?_; rintro e w1 ⟨rfl, h1, p1⟩; clear k1; replace hB := hB.trans (p1.below hB.size); clear hP p1; have hP := h1; clear h1)
    | (go_at_call 37; refine (k2 _ hP).mono ?_; rintro e w1 ⟨rfl, h1, p1⟩; clear k2; replace hB := hB.trans (p1.below hB.size); clear hP p1; have hP := h1; clear h1)
    | (go_at_call 42; refine (g1 _ hP).mono ?_; rintro e w1 ⟨n1, rfl, hn, hb1⟩; obtain rfl := hn _ rfl; clear hn g1; replace hB := Below.step hB hb1; replace hP := hP.below hb1; clear hb1)
    | (go_at_call 42; refine (g2 _ hP).mono ?_; rintro e w1 ⟨n2, rfl, hn, hb1⟩; clear hn g2; replace hB := Below.step hB hb1; replace hP := hP.below hb1; clear hb1)
    | (go_at_call 42; refine (g3 _ hP).mono ?_; rintro e w1 ⟨n3, rfl, hn, hb1⟩; obtain rfl := hn _ rfl; clear hn g3; replace hB := Below.step hB hb1; replace hP := hP.below hb1; clear hb1)
    | (go_at_call 42; refine (g4 _ hP).mono ?_; rintro e w1 ⟨n4, rfl, hn, hb1⟩; clear hn g4; replace hB := Below.step hB hb1; replace hP := hP.below hb1; clear hb1)
    | (go_at_call 45; refine (s1 _ hP).mono ?_; rintro e w1 ⟨rfl, hb1⟩; clear s1; replace hB := Below.step hB hb1; replace hP := hP.below hb1; clear hb1)
    | (go_at_call 45; refine (s2 _ hP).mono ?_; rintro e w1 ⟨rfl, hb1⟩; clear s2; replace hB := Below.step hB hb1; replace hP := hP.below hb1; clear hb1)
    | (go_at_call 35; refine (t1 _ hP).mono ?_; rintro e w1 ⟨rfl, h1, p1⟩; clear t1; replace hB := hB.trans (p1.below hB.size); clear hP p1; have hP := h1; clear h1)
    | (go_at_call 42; refine (g5 _ hP).mono ?_; rintro e w1 ⟨n5, rfl, hn, hb1⟩; obtain rfl := hn _ rfl; clear hn g5; replace hB := Below.step hB hb1; replace hP := hP.below hb1; clear hb1)
    | (go_at_call 37; refine (pcommit_nil _ _).mono ?_; rintro e w1 ⟨rfl, rfl⟩)
    | (go_at_call 45; refine (s3 _ hP).mono ?_; rintro e w1 ⟨rfl, hb1⟩; clear s3; replace hB := Below.step hB hb1; replace hP := hP.below hb1; clear hb1))
  go_ret
  exact ⟨rfl, hB⟩

end Go.Proofs.YtanjgeacmpmjhaaGreatDoor
