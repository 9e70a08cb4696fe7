import Derived.Test.YtanjgeacmpmjhaaGreatDoorMgPlansCheckUpto27
import Derived.Test.YtanjgeacmpmjhaaGreatDoorActs
import Derived.Test.YtanjgeacmpmjhaaGreatDoorScan2
import Derived.Laws.EntriesVeiled
set_option linter.unusedVariables false
set_option linter.unusedSimpArgs false
namespace Go.Proofs.YtanjgeacmpmjhaaGreatDoor
open Go.RowKit

attribute [local go_sem] run_store_nilFunc run_store_func

/-- The rows behind a deed. -/
def afterD (x : Opn) (xs : List Row) : List Row := if x.q = 2 then putL x.k x.d xs else if x.q = 3 then delL x.k xs else xs
/-- What a deed tells. -/
def tellD (x : Opn) (xs : List Row) : List Row := if x.q = 2 ∨ x.q = 3 then [] else (rowsIn x.k (spanOf x.q x.k x.t) xs).take 256

/-- What a deed leaves. -/
def DeedR (base : Nat) (w : World) (B : Nat) (v : Value) (xs : List Row) (x : Opn) (e : Ending) (w' : World) : Prop :=
  ∃ A n c v', e = .returned (.slice A n c) ∧ MapAt base w' B v' (afterD x xs) ∧ Step w w' B v v' ∧ Own Row.enc 2 44 w.heap.size w' (.slice A n c) (tellD x xs) ∧
    ∀ g, (Value.slice A n c).ownBlock = some g → g ≠ B ∧ v'.ownBlock ≠ some g

abbrev fnV (f : Nat) : Value := .func (.func f) #[] #[]
set_option maxHeartbeats 400000 in
theorem deeds_calls (w : World) : Calls Tryz.prog 167 #[] w fun e w' => e = .returned (.agg #[.nilFunc, .func (.func 226) #[] #[], .func (.func 227) #[] #[], .func (.func 228) #[] #[], .func (.func 226) #[] #[]]) ∧ Below w.heap.size w w' := by
  go_enter Tryz.func167, Tryz.ntmps167
  go_wp2
  exact bodyPost_ret (results_cell_row rfl _ _ w.heap.size _ #[.nilFunc, fnV 226, fnV 227, fnV 228, fnV 226] _ _ rfl (alloc_at _ _) Tryz.underlying188 rfl (by kernel_rfl)) rfl ⟨rfl, (Below.refl _ w).alloc (Nat.le_refl _) _⟩

theorem own2T {base : Nat} {w : World} {v : Value} {xs ys : List Row} (e : xs = ys) (h : Own Row.enc 2 44 base w v xs) : Own Row.enc 2 44 base w v ys := e ▸ h

set_option maxHeartbeats 800000 in
theorem scans_calls {base : Nat} {w : World} {B : Nat} {v : Value} {xs : List Row} (hM : MapAt base w B v xs) (hl : xs.length ≤ 1000000) (x : Opn) (hq : ¬ (x.q = 2 ∨ x.q = 3)) :
    Calls Tryz.prog 226 #[.pointer (some ⟨B, 0, none⟩), .agg #[.int .u8 x.q, .string x.k, .string x.t, .int .u32 x.d]] w (DeedR base w B v xs x) := by
  have hof := fun W => of_calls x.q x.k x.t x.d W
  have hB0 := Lib.hid (OpB.alloc w x.q x.k x.t x.d)
  have hbA : Below w.heap.size w (w.alloc (.cells #[.int .u8 x.q, .string x.k, .string x.t, .int .u32 x.d] 172)) := (Below.refl _ w).alloc (Nat.le_refl _) _
  have ht : (rowsIn x.k (spanOf x.q x.k x.t) xs).take (Int.toNat 256) = tellD x xs := by unfold tellD; rw [if_neg hq]; rfl
  have HT := Lib.hid ht
  clear ht
  go_enter Tryz.func226, Tryz.ntmps226
  go_wp2_with (first | (go_at_call 154; refine (hof _).mono ?_; rintro e w1 ⟨rfl, hb1⟩; have hw1 := Below.step hbA hb1) | (go_at_call 19; go_must (refine (scan_calls (hM.below hw1) hl x.k (spanOf x.q x.k x.t) 256).mono ?_; rintro e w2 ⟨v2, rfl, hb2, own2⟩; replace own2 := own2T HT.out own2; obtain ⟨tl, HTL⟩ : ∃ tl, Hid (tellD x xs = tl) := ⟨_, Lib.hid rfl⟩; replace own2 := own2T HTL.out own2; obtain ⟨A, c, rfl, _⟩ := own2.slice)))
  go_ret
  have hb := Below.step hw1 hb2
  have own3 := own2.lower hw1.size
  have hBlt := hM.lt
  refine ⟨A, _, c, v, rfl, ?_, Step.of_below hb B v, ?_, fun g hg => ?_⟩
  · unfold afterD
    rw [if_neg (fun e => hq (.inl e)), if_neg (fun e => hq (.inr e))]
    exact hM.below hb
  · rw [HTL.out]
    exact own3
  · have h1 := own3.base_le g hg
    refine ⟨by omega, fun e => ?_⟩
    have := hM.own.lt g e
    omega

theorem deedNil {base : Nat} {w w2 : World} {B : Nat} {v v2 : Value} {xs : List Row} {x : Opn} (hM2 : MapAt base w2 B v2 (afterD x xs)) (st : Step w w2 B v v2) (ht : tellD x xs = []) :
    DeedR base w B v xs x (.returned (.slice none 0 0)) w2 :=
  ⟨none, 0, 0, v2, rfl, hM2, st, by rw [ht]; exact .nil _ _ _ _ _, fun g hg => by simp [Value.ownBlock] at hg⟩

set_option maxHeartbeats 800000 in
theorem puts2_calls {base : Nat} {w : World} {B : Nat} {v : Value} {xs : List Row} (hM : MapAt base w B v xs) (hl : xs.length ≤ 1000000) (x : Opn) (hk : x.k.size ≤ 9223372036854775807) (hok : okKey x.k = true) (hq : x.q = 2) :
    Calls Tryz.prog 227 #[.pointer (some ⟨B, 0, none⟩), .agg #[.int .u8 x.q, .string x.k, .string x.t, .int .u32 x.d]] w (DeedR base w B v xs x) := by
  have hbA : Below w.heap.size w (w.alloc (.cells #[.int .u8 x.q, .string x.k, .string x.t, .int .u32 x.d] 172)) := (Below.refl _ w).alloc (Nat.le_refl _) _
  have hput := put_calls (hM.below hbA) hl x.k x.d hk
  simp only [hok, if_true] at hput
  have e1 : afterD x xs = putL x.k x.d xs := by unfold afterD; rw [if_pos hq]
  have e2 : tellD x xs = [] := by unfold tellD; rw [if_pos (.inl hq)]
  have E := Lib.hid (And.intro e1 e2)
  clear e1 e2 hq hok
  go_enter Tryz.func227, Tryz.ntmps227
  go_wp2_with (go_at_call 12; refine hput.mono ?_; rintro e w2 ⟨v2, rfl, hM2, st2⟩)
  go_ret
  rw [← E.out.1] at hM2
  exact deedNil hM2 ((Step.of_below hbA B v).trans st2) E.out.2

set_option maxHeartbeats 800000 in
theorem dels2_calls {base : Nat} {w : World} {B : Nat} {v : Value} {xs : List Row} (hM : MapAt base w B v xs) (hl : xs.length ≤ 1000000) (x : Opn) (hk : x.k.size ≤ 9223372036854775807) (hok : okKey x.k = true) (hq : x.q = 3) :
    Calls Tryz.prog 228 #[.pointer (some ⟨B, 0, none⟩), .agg #[.int .u8 x.q, .string x.k, .string x.t, .int .u32 x.d]] w (DeedR base w B v xs x) := by
  have hbA : Below w.heap.size w (w.alloc (.cells #[.int .u8 x.q, .string x.k, .string x.t, .int .u32 x.d] 172)) := (Below.refl _ w).alloc (Nat.le_refl _) _
  have hput := del_calls (hM.below hbA) hl x.k hk
  simp only [hok, if_true] at hput
  generalize (getL x.k xs).isSome = bs at hput
  have e1 : afterD x xs = delL x.k xs := by unfold afterD; rw [if_neg (by omega), if_pos hq]
  have e2 : tellD x xs = [] := by unfold tellD; rw [if_pos (.inr hq)]
  have E := Lib.hid (And.intro e1 e2)
  clear e1 e2 hq hok
  cases bs
  all_goals
    go_enter Tryz.func228, Tryz.ntmps228
    go_wp2_with (go_at_call 14; refine hput.mono ?_; rintro e w2 ⟨v2, rfl, hM2, st2⟩)
    go_ret
    rw [← E.out.1] at hM2
    exact deedNil hM2 ((Step.of_below hbA B v).trans st2) E.out.2

/-- The deed of kind 1. -/
theorem idx1 (W : World) : (Instr.index 188 (.agg #[.nilFunc, .func (.func 226) #[] #[], .func (.func 227) #[] #[], .func (.func 228) #[] #[], .func (.func 226) #[] #[]]) (.int .u8 1)).run Tryz.prog W = .ok (.agg #[.func (.func 226) #[] #[]]) W := by
  have h1 := Tryz.underlying188
  have h2 := Tryz.underlying187
  have h3 : (Tryz.prog.info? 187).map (·.size) = some 1 := by kernel_rfl
  simp [Instr.index, run_underlying h1, asIntOf, go_sem, part]

/-- The deed of kind 2. -/
theorem idx2 (W : World) : (Instr.index 188 (.agg #[.nilFunc, .func (.func 226) #[] #[], .func (.func 227) #[] #[], .func (.func 228) #[] #[], .func (.func 226) #[] #[]]) (.int .u8 2)).run Tryz.prog W = .ok (.agg #[.func (.func 227) #[] #[]]) W := by
  have h1 := Tryz.underlying188
  have h2 := Tryz.underlying187
  have h3 : (Tryz.prog.info? 187).map (·.size) = some 1 := by kernel_rfl
  simp [Instr.index, run_underlying h1, asIntOf, go_sem, part]

/-- The deed of kind 3. -/
theorem idx3 (W : World) : (Instr.index 188 (.agg #[.nilFunc, .func (.func 226) #[] #[], .func (.func 227) #[] #[], .func (.func 228) #[] #[], .func (.func 226) #[] #[]]) (.int .u8 3)).run Tryz.prog W = .ok (.agg #[.func (.func 228) #[] #[]]) W := by
  have h1 := Tryz.underlying188
  have h2 := Tryz.underlying187
  have h3 : (Tryz.prog.info? 187).map (·.size) = some 1 := by kernel_rfl
  simp [Instr.index, run_underlying h1, asIntOf, go_sem, part]

/-- The deed of kind 4. -/
theorem idx4 (W : World) : (Instr.index 188 (.agg #[.nilFunc, .func (.func 226) #[] #[], .func (.func 227) #[] #[], .func (.func 228) #[] #[], .func (.func 226) #[] #[]]) (.int .u8 4)).run Tryz.prog W = .ok (.agg #[.func (.func 226) #[] #[]]) W := by
  have h1 := Tryz.underlying188
  have h2 := Tryz.underlying187
  have h3 : (Tryz.prog.info? 187).map (·.size) = some 1 := by kernel_rfl
  simp [Instr.index, run_underlying h1, asIntOf, go_sem, part]

theorem fld (f : Nat) (W : World) : (Instr.field 187 (.agg #[.func (.func f) #[] #[]]) 0).run Tryz.prog W = .ok (.func (.func f) #[] #[]) W := by
  have h2 := Tryz.underlying187
  have h3 : (Tryz.prog.info? 187).map (·.size) = some 1 := by kernel_rfl
  simp [Instr.field, run_underlying h2, asIntOf, go_sem, part, asAgg]

end Go.Proofs.YtanjgeacmpmjhaaGreatDoor
