import Derived.Test.YtanjgeacmpmjhaaGreatDoorR14c
import Derived.Deep.RegionHeld3
import Derived.Deep.Cut
import Derived.Test.YtanjgeacmpmjhaaGreatDoorMgVersionsPlay2
set_option linter.unusedVariables false
set_option linter.unusedSimpArgs false
set_option linter.unusedSectionVars false
namespace Go.Proofs.YtanjgeacmpmjhaaGreatDoor
open Go.RowKit

/-- A slice of rows that is kept, and one of changes. -/
structure RV where
  v : Value
  xs : List Row
abbrev RV.enc (x : RV) : List Value := [x.v]
theorem rv_len (x : RV) : x.enc.length = 1 := rfl
structure CV where
  v : Value
  cs : List Change
abbrev CV.enc (x : CV) : List Value := [x.v]
theorem cv_len (x : CV) : x.enc.length = 1 := rfl

/-- The reference's past. -/
structure RPast (base : Nat) (w : World) (C : Nat) (Rv : Value) (rs : List RV) (Cv : Value) (ls : List CV) (least : Int) : Prop where
  obj : w.heap[C]? = some (.cells #[Rv, Cv, .int .u32 least] 146 (0, 0))
  rows : Own RV.enc 1 56 base w Rv rs
  each : ∀ x ∈ rs, Own Row.enc 2 44 base w x.v x.xs ∧ Rising x.xs ∧ ∀ y ∈ x.xs, okKey y.k = true
  chs : Own CV.enc 1 45 base w Cv ls
  eachC : ∀ x ∈ ls, Own Change.enc 3 128 base w x.v x.cs
  okC : ∀ x ∈ ls, ∀ c ∈ x.cs, c.k.size ≤ 9223372036854775807
  len : rs.length = ls.length + 1
  low : base ≤ C
section
variable {base : Nat} {w w' : World} {C : Nat} {Rv : Value} {rs : List RV} {Cv : Value} {ls : List CV} {least : Int}
theorem RPast.below (h : RPast base w C Rv rs Cv ls least) (hb : Below w.heap.size w w') : RPast base w' C Rv rs Cv ls least :=
  ⟨(hb.block C (Array.getElem?_eq_some_iff.1 h.obj).1).trans h.obj, h.rows.below hb, fun x hx => ⟨(h.each x hx).1.below hb, (h.each x hx).2⟩, h.chs.below hb, fun x hx => (h.eachC x hx).below hb, h.okC, h.len, h.low⟩
/-- Of an act that turned blocks of other types. -/
theorem RPast.turnF {F : Nat → Prop} (h : RPast base w C Rv rs Cv ls least) (t : Turn F w w') (hF : ∀ g cur T, F g → w.heap[g]? = some (.cells cur T (0, 0)) → T ∉ [146, 56, 44, 45, 128]) : RPast base w' C Rv rs Cv ls least :=
  ⟨t.heap h.obj fun f => hF _ _ _ f h.obj (by simp), h.rows.turn t fun g hg f => hF g _ _ f (h.rows.typed g hg).2.choose_spec (by simp), fun x hx => ⟨(h.each x hx).1.turn t fun g hg f => hF g _ _ f ((h.each x hx).1.typed g hg).2.choose_spec (by simp), (h.each x hx).2⟩,
    h.chs.turn t fun g hg f => hF g _ _ f (h.chs.typed g hg).2.choose_spec (by simp), fun x hx => (h.eachC x hx).turn t fun g hg f => hF g _ _ f ((h.eachC x hx).typed g hg).2.choose_spec (by simp), h.okC, h.len, h.low⟩
theorem RPast.c0 (h : RPast base w C Rv rs Cv ls least) : w.cell? ⟨C, 0, none⟩ = some Rv := by rw [heap_cell h.obj]; rfl
theorem RPast.c1 (h : RPast base w C Rv rs Cv ls least) : w.cell? ⟨C, 1, none⟩ = some Cv := by rw [heap_cell h.obj]; rfl
theorem RPast.c2 (h : RPast base w C Rv rs Cv ls least) : w.cell? ⟨C, 2, none⟩ = some (.int .u32 least) := by rw [heap_cell h.obj]; rfl

set_option maxHeartbeats 400000 in
theorem rnow14_calls (h : RPast base w C Rv rs Cv ls least) (hl : ls.length ≤ 1000000) :
    Calls Tryz.prog 40 #[.pointer (some ⟨C, 0, none⟩)] w fun e w' => e = .returned (.int .u32 (ls.length : Int)) ∧ w = w' := by
  have c1 := h.c1
  obtain ⟨A, c, rfl, hlc, hc⟩ := h.chs.slice
  have hw : IntKind.u32.wrap (ls.length : Int) = (ls.length : Int) := by
    rw [IntKind.wrap_u32]; omega
  clear h
  go_enter Tryz.func40, Tryz.ntmps40
  go_wp2
  go_ret
  exact ⟨rfl, rfl⟩

set_option maxHeartbeats 400000 in
theorem rnew14_calls (w : World) :
    Calls Tryz.prog 34 #[] w fun e w' => ∃ Rv, e = .returned (.pointer (some ⟨w.heap.size + 1, 0, none⟩)) ∧ Below w.heap.size w w' ∧ RPast w.heap.size w' (w.heap.size + 1) Rv [⟨.slice none 0 0, []⟩] (.slice none 0 0) [] 0 := by
  have b1 : Below w.heap.size w (w.alloc (.cells #[.slice none 0 0] 56)) := (Below.refl _ w).alloc (Nat.le_refl _) _
  have b2 : Below (w.alloc (.cells #[.slice none 0 0] 56)).heap.size (w.alloc (.cells #[.slice none 0 0] 56)) ((w.alloc (.cells #[.slice none 0 0] 56)).alloc (.cells #[.slice (some ⟨w.heap.size, 0, none⟩) 1 1, .slice none 0 0, .int .u32 0] 146)) := (Below.refl _ _).alloc (Nat.le_refl _) _
  have o1 : Own RV.enc 1 56 w.heap.size (w.alloc (.cells #[.slice none 0 0] 56)) (.slice (some ⟨w.heap.size, 0, none⟩) 1 1) [⟨.slice none 0 0, []⟩] :=
    ⟨rfl, .inr ⟨w.heap.size, 1, _, rfl, Nat.le_refl _, alloc_new w _, by simp, by decide, rfl, rfl⟩⟩
  have HF := Lib.hid (And.intro (Below.step b1 b2) (RPast.mk (base := w.heap.size) (C := w.heap.size + 1) (by simpa using alloc_new (w.alloc (.cells #[.slice none 0 0] 56)) (.cells #[.slice (some ⟨w.heap.size, 0, none⟩) 1 1, .slice none 0 0, .int .u32 0] 146)) (o1.below b2) (fun x hx => by
    rw [List.mem_singleton.1 hx]
    exact ⟨.nil _ _ _ _ _, .nil, fun y hy => (by cases hy)⟩) (.nil _ _ _ _ _) (ls := []) (fun x hx => by cases hx) (fun x hx => by cases hx) rfl (by omega)))
  clear b1 b2 o1
  go_enter Tryz.func34, Tryz.ntmps34
  go_wp2
  go_ret
  exact ⟨_, rfl, HF.out.1, HF.out.2⟩

set_option maxHeartbeats 800000 in
theorem rtrim14_calls (h : RPast base w C Rv rs Cv ls least) (hl : ls.length ≤ 1000000) (at_ : Int) :
    Calls Tryz.prog 36 #[.pointer (some ⟨C, 0, none⟩), .int .u32 at_] w fun e w' => e = .returned (.int .i64 (if (ls.length : Int) < at_ ∨ at_ < least then 1 else 0)) ∧
      RPast base w' C Rv rs Cv ls (if (ls.length : Int) < at_ ∨ at_ < least then least else at_) ∧ Turn (fun g => g = C) w w' := by
  have hnow := rnow14_calls h hl
  have c2 := h.c2
  have f2 := heap_free h.obj 2
  have hC := (Array.getElem?_eq_some_iff.1 h.obj).1
  have FIN : RPast base (w.setCell ⟨C, 2, none⟩ (.int .u32 at_)) C Rv rs Cv ls at_ ∧ Turn (fun g => g = C) w (w.setCell ⟨C, 2, none⟩ (.int .u32 at_)) := by
    have t : Turn (fun g => g = C) w (w.setCell ⟨C, 2, none⟩ (.int .u32 at_)) := .setCell _ _ _ _
    refine ⟨⟨Joins.block_setCell (i := 2) h.obj _, h.rows.turn t fun g hg e => ?_, fun x hx => ⟨(h.each x hx).1.turn t fun g hg e => ?_, (h.each x hx).2⟩, h.chs.turn t fun g hg e => ?_, fun x hx => (h.eachC x hx).turn t fun g hg e => ?_, h.okC, h.len, h.low⟩, t⟩
    · subst e; exact ne_typed h.obj (h.rows.typed _ hg).2.choose_spec (by decide) rfl
    · subst e; exact ne_typed h.obj ((h.each x hx).1.typed _ hg).2.choose_spec (by decide) rfl
    · subst e; exact ne_typed h.obj (h.chs.typed _ hg).2.choose_spec (by decide) rfl
    · subst e; exact ne_typed h.obj ((h.eachC x hx).typed _ hg).2.choose_spec (by decide) rfl
  have HF := Lib.hid FIN
  have H0 := Lib.hid h
  clear FIN h
  by_cases h1 : (ls.length : Int) < at_
  · rw [if_pos (.inl h1), if_pos (.inl h1)]
    go_enter Tryz.func36, Tryz.ntmps36
    go_wp2_with (go_at_call 40; refine hnow.mono ?_; rintro e _ ⟨rfl, rfl⟩)
    go_ret
    exact ⟨rfl, H0.out, .refl _ _⟩
  · by_cases h2 : at_ < least
    · rw [if_pos (.inr h2), if_pos (.inr h2)]
      go_enter Tryz.func36, Tryz.ntmps36
      go_wp2_with (go_at_call 40; refine hnow.mono ?_; rintro e _ ⟨rfl, rfl⟩)
      go_ret
      exact ⟨rfl, H0.out, .refl _ _⟩
    · rw [if_neg (by omega), if_neg (by omega)]
      go_enter Tryz.func36, Tryz.ntmps36
      go_wp2_with (go_at_call 40; refine hnow.mono ?_; rintro e _ ⟨rfl, rfl⟩)
      go_ret
      exact ⟨rfl, HF.out.1, HF.out.2⟩
end

end Go.Proofs.YtanjgeacmpmjhaaGreatDoor

set_option linter.unusedVariables false
set_option linter.unusedSimpArgs false
set_option linter.unusedSectionVars false
namespace Go.Proofs.YtanjgeacmpmjhaaGreatDoor
open Go.RowKit

section
variable {base : Nat} {w w' : World} {C : Nat} {Rv : Value} {rs : List RV} {Cv : Value} {ls : List CV} {least : Int}
theorem RPast.row (h : RPast base w C Rv rs Cv ls least) {i : Nat} {x : RV} (hi : rs[i]? = some x) : ∃ g c, Rv = .slice (some ⟨g, 0, none⟩) rs.length c ∧ rs.length ≤ c ∧ c ≤ 9223372036854775807 ∧ w.cell? ⟨g, i, none⟩ = some x.v := by
  have hp : 0 < rs.length := by have := (List.getElem?_eq_some_iff.1 hi).1; omega
  obtain ⟨A', c', e', hlc, hc⟩ := h.rows.slice
  obtain ⟨g, cap, cur, hv, -⟩ := Own.some_block h.rows hp
  subst hv
  injection e' with e1 _ e3
  subst e3
  obtain ⟨b, o, e, hcell⟩ := (h.rows.rd rv_len).at_ hi
  injection e with e
  injection e with e1 e2
  subst e1 e2
  have := hcell 0 _ rfl
  simp only [Nat.zero_add, Nat.mul_one, Nat.add_zero] at this
  exact ⟨g, cap, rfl, hlc, hc, this⟩

set_option maxHeartbeats 800000 in
set_option maxRecDepth 100000 in
theorem rat14_calls (h : RPast base w C Rv rs Cv ls least) (hl : ls.length ≤ 1000000) (at_ : Int) (h0 : 0 ≤ at_) (h1 : 0 ≤ least) {i : Nat} {x : RV} (hi : rs[i]? = some x) (hix : (i : Int) = min (max at_ least) (ls.length : Int)) :
    Calls Tryz.prog 136 #[.pointer (some ⟨C, 0, none⟩), .int .u32 at_] w fun e w' => e = .returned x.v ∧ Below w.heap.size w w' := by
  obtain ⟨g, c, rfl, hlc, hc, hx⟩ := h.row hi
  have hil := (List.getElem?_eq_some_iff.1 hi).1
  have hnow := fun p : Later w => rnow14_calls (h.below p.ok) hl
  have c0 := fun p : Later w => Later.cell p h.c0
  have c2 := fun p : Later w => Later.cell p h.c2
  have cx := fun p : Later w => Later.cell p hx
  obtain ⟨A, n, c', hxv⟩ : ∃ A n c', x.v = Value.slice A n c' := by
    obtain ⟨A, c', e, _, _⟩ := (h.each x (List.mem_of_getElem? hi)).1.slice
    exact ⟨A, _, c', e⟩
  rw [hxv] at cx ⊢
  have hix2 := hix.symm
  clear hix
  clear h hx hi
  generalize hN : (ls.length : Int) = N at *
  go_enter Tryz.func136, Tryz.ntmps136
  go_wp2
  refine wp_region_later (by kernel_rfl) (by kernel_rfl) ?_
  repeat (go_big_quiet_step ((go_at_call 40; with_reducible exact Calls.later_same (hnow _))))
  refine wpQuiet_nil ?_
  rintro _ ⟨p, rfl⟩
  clear c0 c2 cx hnow
  go_wp2
  go_ret
  exact ⟨rfl, p.ok⟩

set_option maxHeartbeats 800000 in
set_option maxRecDepth 100000 in
theorem rpget14_calls (h : RPast base w C Rv rs Cv ls least) (hl : ls.length ≤ 1000000) (at_ : Int) (h0 : 0 ≤ at_) (h1 : 0 ≤ least) {i : Nat} {x : RV} (hi : rs[i]? = some x) (hix : (i : Int) = min (max at_ least) (ls.length : Int)) (hxl : x.xs.length ≤ 1000000) (k : ByteArray) :
    Calls Tryz.prog 43 #[.pointer (some ⟨C, 0, none⟩), .int .u32 at_, .string k] w fun e w' => e = .returned (.tuple #[.int .u32 ((getL k x.xs).getD 0), .bool (getL k x.xs).isSome]) ∧ Below w.heap.size w w' := by
  have hat := rat14_calls h hl at_ h0 h1 hi hix
  obtain ⟨hox, hrx, -⟩ := h.each x (List.mem_of_getElem? hi)
  have hrd0 := hox.rd row_len
  obtain ⟨A, c, hxv, hlc, hc⟩ := hrd0.shape
  rw [hxv] at hat hrd0
  have hfind := fun (w1 : World) (hb : Below w.heap.size w w1) => rfind_calls _ x.xs k w1 (hrd0.below hb) hrx hxl
  have HF := Lib.hid hfind
  have hpf := Lib.hid (pos_found (k := k) hrx)
  clear hfind h hox hxv
  cases hg : getL k x.xs with
  | none =>
    rw [hg] at HF
    simp only [Option.isSome_none] at HF
    clear hpf hrd0
    generalize x.xs = xs at *
    go_enter Tryz.func43, Tryz.ntmps43
    go_wp2_with (first
      | (go_at_call 136; refine hat.mono ?_; rintro e w1 ⟨rfl, hb1⟩)
      | (go_at_call 137; refine (HF.out _ hb1).mono ?_; rintro e _ ⟨rfl, rfl⟩))
    go_ret2
    exact ⟨rfl, hb1⟩
  | some u =>
    rw [hg] at HF
    simp only [Option.isSome_some] at HF
    obtain ⟨hlt, ⟨z, hz, hzk, hzv⟩, _⟩ := put_over k 0 x.xs u hg hrx
    clear hpf
    generalize x.xs = xs at *
    generalize posL k xs = p at *
    obtain ⟨b, o, rfl, hz1, hz2⟩ := hrd0.row hz
    rw [hzv] at hz2
    clear hz hzk hzv hz1 hrd0
    go_enter Tryz.func43, Tryz.ntmps43
    go_wp2_with (first
      | (go_at_call 136; refine hat.mono ?_; rintro e w1 ⟨rfl, hb1⟩; have hz3 := Below.cell_some hb1 hz2)
      | (go_at_call 137; refine (HF.out _ hb1).mono ?_; rintro e _ ⟨rfl, rfl⟩))
    go_ret2
    exact ⟨rfl, hb1⟩

set_option maxHeartbeats 800000 in
set_option maxRecDepth 100000 in
theorem rpscan14_calls (h : RPast base w C Rv rs Cv ls least) (hl : ls.length ≤ 1000000) (at_ : Int) (h0 : 0 ≤ at_) (h1 : 0 ≤ least) {i : Nat} {x : RV} (hi : rs[i]? = some x) (hix : (i : Int) = min (max at_ least) (ls.length : Int)) (hxl : x.xs.length ≤ 1000000)
    (f t : ByteArray) (hf : f.size ≤ 9223372036854775807) (ht : t.size ≤ 9223372036854775807) (most : Int) :
    Calls Tryz.prog 44 #[.pointer (some ⟨C, 0, none⟩), .int .u32 at_, .agg #[.string f, .string t], .int .i64 most] w fun e w' => ∃ v', e = .returned v' ∧ Below w.heap.size w w' ∧ Own Row.enc 2 44 w.heap.size w' v' ((rowsIn f t x.xs).take most.toNat) := by
  obtain ⟨Z, hZ⟩ : ∃ Z, (rowsIn f t x.xs).take most.toNat = Z := ⟨_, rfl⟩
  rw [hZ]
  have hb0 : Below w.heap.size w (w.alloc (.cells #[.string f, .string t] 47)) := (Below.refl _ w).alloc (Nat.le_refl _) _
  have k0 : (w.alloc (.cells #[.string f, .string t] 47)).cell? ⟨w.heap.size, 0, none⟩ = some (.string f) := by rw [heap_cell (alloc_new w _)]; rfl
  have k1 : (w.alloc (.cells #[.string f, .string t] 47)).cell? ⟨w.heap.size, 1, none⟩ = some (.string t) := by rw [heap_cell (alloc_new w _)]; rfl
  have hz0 := hb0.size
  have hxs : ∀ y ∈ x.xs, y.k.size ≤ 9223372036854775807 := fun y hy => by have := okKey_size14 ((h.each x (List.mem_of_getElem? hi)).2.2 y hy); omega
  have HAT : RowKit.Hid (∀ w1, Below w.heap.size w w1 → _) := Lib.hid fun w1 hb => rat14_calls (h.below hb) hl at_ h0 h1 hi hix
  have HSC : RowKit.Hid (∀ w1, Below w.heap.size w w1 → Calls Tryz.prog 138 #[x.v, .agg #[.string f, .string t], .int .i64 most] w1 fun e w' => ∃ v', e = .returned v' ∧ Below w1.heap.size w1 w' ∧ Own Row.enc 2 44 w1.heap.size w' v' Z) := Lib.hid fun w1 hb => by
    rw [← hZ]
    exact rscan14_calls (((h.each x (List.mem_of_getElem? hi)).1.below hb).rd row_len) hxl hxs f t hf ht most
  clear hZ h hxs
  go_enter Tryz.func44, Tryz.ntmps44
  go_upto_region 1 with fail
  generalize w.alloc (.cells #[.string f, .string t] 47) = W0 at *
  have hd0 := Below.step hb0 (Below.refl W0.heap.size W0).drew
  have j0 := Below.cell_some (Below.refl W0.heap.size W0).drew k0
  have j1 := Below.cell_some (Below.refl W0.heap.size W0).drew k1
  clear k0 k1 hb0
  go_region_held3 (fun w' => w'.cell? ⟨w.heap.size, 0, none⟩ = some (.string f) ∧ w'.cell? ⟨w.heap.size, 1, none⟩ = some (.string t)) (go_keep) ((first
    | (go_at_call 136; refine (HAT.out _ hd0).mono ?_; rintro e w1 ⟨rfl, hb1⟩; have hd1 := Below.step hd0 hb1; have m0 := Below.cell_some hb1 j0; have m1 := Below.cell_some hb1 j1)
    | (go_at_call 138; refine (HSC.out _ hd1).mono ?_; rintro e w2 ⟨v2, rfl, hb2, o2⟩; have hd2 := Below.step hd1 hb2; have n0 := Below.cell_some hb2 m0; have n1 := Below.cell_some hb2 m1)))
  all_goals
    go_wp2
    go_ret
    exact ⟨_, rfl, hd2, o2.lower hd1.size⟩
end

end Go.Proofs.YtanjgeacmpmjhaaGreatDoor

set_option linter.unusedVariables false
set_option linter.unusedSimpArgs false
set_option linter.unusedSectionVars false
namespace Go.Proofs.YtanjgeacmpmjhaaGreatDoor
open Go.RowKit

def hitC (f t : Str) (cs : List Change) : Bool := cs.any fun c => meet4 c.k c.k f t
def hitsC (f t : Str) (ls : List CV) : Bool := ls.any fun x => hitC f t x.cs
/-- Whether something of a span changed since a commit: the reference's answer. -/
def sinceR (at_ least : Int) (f t : Str) (ls : List CV) : Bool := decide (at_ < least) || hitsC f t (ls.drop at_.toNat)
theorem any_step {α : Type} (p : α → Bool) {l : List α} {m : Nat} {x : α} (h : l[m]? = some x) : (l.drop m).any p = (p x || (l.drop (m + 1)).any p) := by
  obtain ⟨hm, rfl⟩ := List.getElem?_eq_some_iff.1 h
  rw [List.drop_eq_getElem_cons hm, List.any_cons]

section
variable {base : Nat} {w w' : World} {C : Nat} {Rv : Value} {rs : List RV} {Cv : Value} {ls : List CV} {least : Int}
theorem RPast.chg (h : RPast base w C Rv rs Cv ls least) {i : Nat} {x : CV} (hi : ls[i]? = some x) : ∃ g c, Cv = .slice (some ⟨g, 0, none⟩) ls.length c ∧ ls.length ≤ c ∧ c ≤ 9223372036854775807 ∧ w.cell? ⟨g, i, none⟩ = some x.v := by
  have hp : 0 < ls.length := by have := (List.getElem?_eq_some_iff.1 hi).1; omega
  obtain ⟨A', c', e', hlc, hc⟩ := h.chs.slice
  obtain ⟨g, cap, cur, hv, -⟩ := Own.some_block h.chs hp
  subst hv
  injection e' with e1 _ e3
  subst e3
  obtain ⟨b, o, e, hcell⟩ := (h.chs.rd cv_len).at_ hi
  injection e with e
  injection e with e1 e2
  subst e1 e2
  have := hcell 0 _ rfl
  simp only [Nat.zero_add, Nat.mul_one, Nat.add_zero] at this
  exact ⟨g, cap, rfl, hlc, hc, this⟩

set_option maxHeartbeats 1000000 in
set_option maxRecDepth 100000 in
theorem rsince14_calls (h : RPast base w C Rv rs Cv ls least) (hl : ls.length ≤ 1000000) (at_ : Int) (h0 : 0 ≤ at_) (h4 : at_ ≤ 4294967295) (f t : ByteArray) (hf : f.size ≤ 9223372036854775807) (ht : t.size ≤ 9223372036854775807) :
    Calls Tryz.prog 46 #[.pointer (some ⟨C, 0, none⟩), .int .u32 at_, .agg #[.string f, .string t]] w fun e w' => e = .returned (.bool (sinceR at_ least f t ls)) ∧ Below w.heap.size w w' := by
  obtain ⟨E, hE⟩ : ∃ E, sinceR at_ least f t ls = E := ⟨_, rfl⟩
  rw [hE]
  have HE := Lib.hid hE
  clear hE
  have hb0 : Below w.heap.size w (w.alloc (.cells #[.string f, .string t] 47)) := (Below.refl _ w).alloc (Nat.le_refl _) _
  have k0 : (w.alloc (.cells #[.string f, .string t] 47)).cell? ⟨w.heap.size, 0, none⟩ = some (.string f) := by rw [heap_cell (alloc_new w _)]; rfl
  have k1 : (w.alloc (.cells #[.string f, .string t] 47)).cell? ⟨w.heap.size, 1, none⟩ = some (.string t) := by rw [heap_cell (alloc_new w _)]; rfl
  have h2 := h.below hb0
  have c2 := h2.c2
  by_cases hlt0 : at_ < least
  · have HT : RowKit.Hid (E = true) := by rw [← HE.out]; exact Lib.hid (by simp [sinceR, hlt0])
    clear h h2
    go_enter Tryz.func46, Tryz.ntmps46
    go_wp2
    go_ret
    exact ⟨ret_bool HT.out.symm, hb0⟩
  have HE2 : RowKit.Hid (hitsC f t (ls.drop at_.toNat) = E) := by rw [← HE.out]; exact Lib.hid (by simp [sinceR, hlt0])
  obtain ⟨a, ha⟩ : ∃ a : Nat, at_ = (a : Int) := ⟨at_.toNat, by omega⟩
  subst ha
  rw [Int.toNat_natCast] at HE2
  have hw : IntKind.i64.wrap (a : Int) = (a : Int) := by rw [IntKind.wrap_i64]; omega
  have hc1 := h2.c1
  obtain ⟨Ac, cc, hcv, hlc, hc⟩ := h2.chs.slice
  subst hcv
  clear HE
  go_enter Tryz.func46, Tryz.ntmps46
  go_wp2
  generalize w.alloc (.cells #[.string f, .string t] 47) = W0 at *
  clear h
  go_loopw [7] (fun iv wr => ∃ m : Nat, a ≤ m ∧ m ≤ max a ls.length ∧ iv = .int .i64 m ∧ hitsC f t (ls.drop m) = E ∧ Below W0.heap.size W0 wr) (fun iv _ => ls.length - (intOf iv).toNat)
  case atStart => exact ⟨a, Nat.le_refl _, by omega, rfl, HE2.out, Below.refl _ _⟩
  case round =>
    obtain ⟨m, ham, hm, rfl, hh, hb⟩ := hrel
    have h3 := h2.below hb
    have d1 := h3.c1
    by_cases hlt : m < ls.length
    · have hx := List.getElem?_eq_getElem hlt
      obtain ⟨g, cg, hcv, _, _, hxc⟩ := h3.chg hx
      injection hcv with e1 _ e3
      subst e1 e3
      have hstep := any_step (fun x : CV => hitC f t x.cs) hx
      have hoc := h3.eachC _ (List.getElem_mem hlt)
      have hok := h3.okC _ (List.getElem_mem hlt)
      generalize ls[m] = x at *
      obtain ⟨xv, cs⟩ := x
      simp only at hxc hstep hoc hok
      obtain ⟨Ax, cx, rfl, hlx, hcx⟩ := hoc.slice
      have hHIT : hitC f t cs = true ∨ hitsC f t (ls.drop (m + 1)) = E ∧ hitC f t cs = false := by
        unfold hitsC at hh ⊢
        rw [hstep] at hh
        cases hq : hitC f t cs
        · rw [hq] at hh; exact .inr ⟨by simpa using hh, rfl⟩
        · exact .inl rfl
      have hTR : hitC f t cs = true → E = true := fun hq => by
        unfold hitsC at hh
        rw [hstep, hq] at hh
        exact hh.symm
      have HH := Lib.hid hHIT
      have HTR := Lib.hid hTR
      have hrd := hoc.rd change_len
      have HB := Lib.hid hb
      have q0 := Below.cell_some hb k0
      have q1 := Below.cell_some hb k1
      clear hHIT hTR hstep hh hx hb hoc
      obtain ⟨wo, hwo⟩ : ∃ wo, wo = wr := ⟨_, rfl⟩
      subst hwo
      go_wp2
      go_loopw [8] (fun jv wr2 => ∃ j : Nat, j ≤ cs.length ∧ jv = .int .i64 j ∧ hitC f t (cs.drop j) = hitC f t cs ∧ Below wo.heap.size wo wr2) (fun jv _ => cs.length - (intOf jv).toNat)
      case atStart => exact ⟨0, Nat.zero_le _, rfl, rfl, Below.refl _ _⟩
      case round =>
        obtain ⟨j, hj, rfl, hhj, hbj⟩ := hrel
        have r1 := Below.cell_some hbj d1
        have rx := Below.cell_some hbj hxc
        by_cases hlj : j < cs.length
        · have hy := List.getElem?_eq_getElem hlj
          obtain ⟨b, o, rfl, y1, y2, y3⟩ := (hrd.below hbj).change hy
          have hst := any_step (fun c : Change => meet4 c.k c.k f t) hy
          have hks := hok _ (List.getElem_mem hlj)
          generalize cs[j] = y at *
          have s0 := Below.cell_some hbj q0
          have s1 := Below.cell_some hbj q1
          have hmt := rmeet_calls y.k y.k f t wr hks hks hf ht
          rw [rmeet4_eq] at hmt
          unfold hitC at hhj
          rw [hst] at hhj
          have HBJ := Lib.hid hbj
          cases hmm : meet4 y.k y.k f t
          · rw [hmm] at hmt hhj
            have HN := Lib.hid (show hitC f t (cs.drop (j + 1)) = hitC f t cs by unfold hitC; simpa using hhj)
            clear hhj hst hy hbj
            go_wp2_with (go_at_call 140; refine hmt.mono ?_; rintro e w5 ⟨rfl, hb5⟩)
            go_roundw
            case rel => exact ⟨j + 1, by omega, by go_num, HN.out, Below.step HBJ.out hb5⟩
            case measure => simp [intOf]; omega
          · rw [hmm] at hmt hhj
            have HT := Lib.hid (HTR.out (by unfold hitC; simpa using hhj.symm))
            clear hhj hst hy hbj
            go_wp2_with (go_at_call 140; refine hmt.mono ?_; rintro e w5 ⟨rfl, hb5⟩)
            go_ret
            exact ⟨ret_bool HT.out.symm, Below.step hb0 (Below.step HB.out (Below.step HBJ.out hb5))⟩
        · have hje : j = cs.length := by omega
          subst hje
          rw [List.drop_length] at hhj
          have HN := Lib.hid (HH.out.resolve_left (by rw [← hhj]; simp [hitC])).1
          have HBJ := Lib.hid hbj
          clear hhj hbj
          go_wp2
          go_roundw
          case rel => exact ⟨m + 1, by omega, by omega, by go_num, HN.out, Below.step HB.out HBJ.out⟩
          case measure => simp [intOf]; omega
    · have hz : hitsC f t (ls.drop m) = false := by rw [List.drop_of_length_le (by omega)]; rfl
      have HT := Lib.hid (hz.symm.trans hh)
      clear hz hh
      go_wp2
      go_ret
      exact ⟨ret_bool HT.out, Below.step hb0 hb⟩
end

end Go.Proofs.YtanjgeacmpmjhaaGreatDoor
