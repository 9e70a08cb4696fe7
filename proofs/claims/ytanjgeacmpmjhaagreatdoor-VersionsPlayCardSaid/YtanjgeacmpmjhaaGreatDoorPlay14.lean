import Derived.Test.YtanjgeacmpmjhaaGreatDoorMgVersionsPlay28
import Derived.Test.YtanjgeacmpmjhaaGreatDoorR14g
import Derived.Test.YtanjgeacmpmjhaaGreatDoorMgVersionsPlay43
set_option linter.unusedVariables false
set_option linter.unusedSimpArgs false
set_option linter.unusedSectionVars false
namespace Go.Proofs.YtanjgeacmpmjhaaGreatDoor
open Go.RowKit Go.Shelf

/-! ### what an act turned, and a past -/
theorem OwnO.turnF {α : Type} {enc : α → List Value} {k : Nat} {E : TypeId} {base : Nat} {w w' : World} {v : Value} {xs : List α} {F : Nat → Prop} (h : OwnO enc k E base w v xs) (t : Turn F w w') (hF : ∀ g, v.ownBlock = some g → ¬ F g) : OwnO enc k E base w' v xs := by
  rcases h with ⟨rfl, rfl⟩ | ⟨g, o, cap, cur, rfl, hb, hh, h1⟩
  · exact .inl ⟨rfl, rfl⟩
  · exact .inr ⟨g, o, cap, cur, rfl, hb, t.heap hh (hF g rfl), h1⟩
theorem PastP.turnF {base : Nat} {w w' : World} {B : Nat} {hist : List (List Change)} {trim : Nat} {F : Nat → Prop} (h : PastP base w B hist trim) (t : Turn F w w') (hF : ∀ g, F g → ∃ cur E, w.heap[g]? = some (.cells cur E (0, 0)) ∧ E ≠ 149 ∧ E ≠ 142) : PastP base w' B hist trim := by
  obtain ⟨M, n, D, H, h⟩ := h
  have hm := h.map
  refine ⟨M, n, D, H, t.heap h.obj fun f => ?_, ⟨?_, hm.low, hm.has, fun x hx => ?_, hm.apart⟩, h.past, h.low, h.cnt, h.len⟩
  · obtain ⟨cur, E, e, _, h2⟩ := hF _ f
    have := h.obj.symm.trans e
    simp only [Option.some.injEq, Obj.cells.injEq] at this
    exact h2 this.2.1.symm
  · obtain ⟨es, clock, h1, h2⟩ := hm.own
    refine ⟨es, clock, t.heap h1 fun f => ?_, h2⟩
    obtain ⟨cur, E, e, _⟩ := hF _ f
    rw [h1] at e; cases e
  · obtain ⟨v, hv, ho⟩ := hm.elem x hx
    refine ⟨v, hv, ho.turnF t fun g hg f => ?_⟩
    obtain ⟨cur, E, e, h1, _⟩ := hF _ f
    obtain ⟨_, _, cur', hc⟩ := ho.lt g hg
    have := hc.symm.trans e
    simp only [Option.some.injEq, Obj.cells.injEq] at this
    exact h1 this.2.1.symm
theorem PastP.turnT {base : Nat} {w w' : World} {B : Nat} {hist : List (List Change)} {trim : Nat} (h : PastP base w B hist trim) {ts : List TypeId} (t : TurnT base w w' ts) (hts : ∀ E ∈ ts, E ≠ 149 ∧ E ≠ 142) : PastP base w' B hist trim := by
  obtain ⟨F, t, hF⟩ := t
  exact h.turnF t fun g f => by
    obtain ⟨_, cur, E, e, hE⟩ := hF g f
    exact ⟨cur, E, e, (hts E hE).1, (hts E hE).2⟩
theorem PastP.lower {base base' : Nat} {w : World} {B : Nat} {hist : List (List Change)} {trim : Nat} (h : PastP base w B hist trim) (hb : base' ≤ base) : PastP base' w B hist trim := by
  obtain ⟨M, n, D, H, h⟩ := h
  exact ⟨M, n, D, H, h.obj, ⟨h.map.own, Nat.le_trans hb h.map.low, h.map.has, fun x hx => let ⟨v, hv, ho⟩ := h.map.elem x hx; ⟨v, hv, ho.lower hb⟩, h.map.apart⟩, h.past, Nat.le_trans hb h.low, h.cnt, h.len⟩
/-- An act on a past turns its own rows and its own block alone, and what is no cells. -/
theorem PStep.turn {base : Nat} {w w' : World} (s : PStep base w w') : Turn (fun g => ¬ Safe base w g) w w' :=
  ⟨s.os, s.tape, s.output, s.size, fun i hi h => s.block i hi (Classical.not_not.1 h)⟩
theorem PStep.heapC {base : Nat} {w w' : World} (s : PStep base w w') {b : Nat} {cur : Array Value} {E : TypeId} {fr : Nat × Nat} (h : w.heap[b]? = some (.cells cur E fr)) (h1 : E ≠ 149) (h2 : E ≠ 142) : w'.heap[b]? = some (.cells cur E fr) :=
  (s.block b (Array.getElem?_eq_some_iff.1 h).1 (.inr ⟨_, _, _, h, h1, h2⟩)).trans h
theorem Own.pstepC {α : Type} {enc : α → List Value} {k : Nat} {E : TypeId} {b base : Nat} {w w' : World} {v : Value} {xs : List α} (h : Own enc k E b w v xs) (s : PStep base w w') (h1 : E ≠ 149) (h2 : E ≠ 142) : Own enc k E b w' v xs :=
  h.turn s.turn fun g hg f => f (.inr ⟨_, _, _, (h.typed g hg).2.choose_spec, h1, h2⟩)

/-! ### the reference's past, told by its commits -/
def RPastP (base : Nat) (w : World) (C : Nat) (hist : List (List Change)) (trim : Nat) : Prop :=
  ∃ Rv rs Cv ls, RPast base w C Rv rs Cv ls (trim : Int) ∧ ls.map CV.cs = hist ∧ ∀ (i : Nat) (x : RV), rs[i]? = some x → x.xs = rowsN hist i
theorem rowsN_min (hist : List (List Change)) (m : Nat) : rowsN hist (min m hist.length) = rowsN hist m := by
  rcases Nat.le_total m hist.length with h | h
  · rw [Nat.min_eq_left h]
  · rw [Nat.min_eq_right h]; exact rowsN_ge hist (Nat.le_refl _) h
section
variable {base : Nat} {w w' : World} {C : Nat} {hist : List (List Change)} {trim : Nat}
theorem RPastP.below (h : RPastP base w C hist trim) (hb : Below w.heap.size w w') : RPastP base w' C hist trim := by
  obtain ⟨Rv, rs, Cv, ls, h, h1, h2⟩ := h
  exact ⟨Rv, rs, Cv, ls, h.below hb, h1, h2⟩
theorem RPastP.turnF {F : Nat → Prop} (h : RPastP base w C hist trim) (t : Turn F w w') (hF : ∀ g cur T, F g → w.heap[g]? = some (.cells cur T (0, 0)) → T ∉ [146, 56, 44, 45, 128]) : RPastP base w' C hist trim := by
  obtain ⟨Rv, rs, Cv, ls, h, h1, h2⟩ := h
  exact ⟨Rv, rs, Cv, ls, h.turnF t hF, h1, h2⟩
theorem RPastP.len {Rv : Value} {rs : List RV} {Cv : Value} {ls : List CV} (h1 : ls.map CV.cs = hist) : ls.length = hist.length := by rw [← h1, List.length_map]
theorem RPastP.now (h : RPastP base w C hist trim) (hl : hist.length ≤ 1000000) :
    Calls Tryz.prog 40 #[.pointer (some ⟨C, 0, none⟩)] w fun e w' => e = .returned (.int .u32 (hist.length : Int)) ∧ w = w' := by
  obtain ⟨Rv, rs, Cv, ls, h, h1, h2⟩ := h
  have hll : ls.length = hist.length := by rw [← h1, List.length_map]
  rw [← hll]
  exact rnow14_calls h (by omega)
theorem RPastP.at_ {Rv : Value} {rs : List RV} {Cv : Value} {ls : List CV} (h : RPast base w C Rv rs Cv ls (trim : Int)) (h1 : ls.map CV.cs = hist) (h2 : ∀ (i : Nat) (x : RV), rs[i]? = some x → x.xs = rowsN hist i) (a : Nat) :
    ∃ (i : Nat) (x : RV), rs[i]? = some x ∧ (i : Int) = min (max (a : Int) (trim : Int)) (ls.length : Int) ∧ x.xs = rowsN hist (max a trim) := by
  have hll : ls.length = hist.length := by rw [← h1, List.length_map]
  have hlt : min (max a trim) ls.length < rs.length := by rw [h.len]; omega
  refine ⟨min (max a trim) ls.length, _, List.getElem?_eq_getElem hlt, by omega, ?_⟩
  rw [h2 _ _ (List.getElem?_eq_getElem hlt), hll, rowsN_min]
theorem RPastP.get (h : RPastP base w C hist trim) (hl : hist.length ≤ 1000000) (hf : hist.flatten.length ≤ 1000000) (a : Nat) (k : ByteArray) :
    Calls Tryz.prog 43 #[.pointer (some ⟨C, 0, none⟩), .int .u32 a, .string k] w fun e w' => e = .returned (.tuple #[.int .u32 ((getL k (rowsN hist (max a trim))).getD 0), .bool (getL k (rowsN hist (max a trim))).isSome]) ∧ Below w.heap.size w w' := by
  obtain ⟨Rv, rs, Cv, ls, h, h1, h2⟩ := h
  have hll : ls.length = hist.length := by rw [← h1, List.length_map]
  obtain ⟨i, x, hx, hi, hxs⟩ := RPastP.at_ h h1 h2 a
  rw [← hxs]
  have := rowsN_length hist (max a trim)
  exact rpget14_calls h (by omega) a (by omega) (by omega) hx hi (by rw [hxs]; omega) k
theorem RPastP.scan (h : RPastP base w C hist trim) (hl : hist.length ≤ 1000000) (hf : hist.flatten.length ≤ 1000000) (a : Nat) (f t : ByteArray) (hfs : f.size ≤ 9223372036854775807) (hts : t.size ≤ 9223372036854775807) (most : Int) :
    Calls Tryz.prog 44 #[.pointer (some ⟨C, 0, none⟩), .int .u32 a, .agg #[.string f, .string t], .int .i64 most] w fun e w' => ∃ v', e = .returned v' ∧ Below w.heap.size w w' ∧ Own Row.enc 2 44 w.heap.size w' v' ((rowsIn f t (rowsN hist (max a trim))).take most.toNat) := by
  obtain ⟨Rv, rs, Cv, ls, h, h1, h2⟩ := h
  have hll : ls.length = hist.length := by rw [← h1, List.length_map]
  obtain ⟨i, x, hx, hi, hxs⟩ := RPastP.at_ h h1 h2 a
  rw [← hxs]
  have := rowsN_length hist (max a trim)
  exact rpscan14_calls h (by omega) a (by omega) (by omega) hx hi (by rw [hxs]; omega) f t hfs hts most
theorem sinceR_eq {ls : List CV} (h1 : ls.map CV.cs = hist) (a trim : Nat) (f t : Str) : sinceR a trim f t ls = (decide (a < trim) || sinceH hist a f t) := by
  unfold sinceR sinceH hitsC hitC
  rw [← h1, Int.toNat_natCast, ← List.map_drop, List.any_map]
  congr 1
  rw [decide_eq_decide]
  omega
theorem RPastP.since (h : RPastP base w C hist trim) (hl : hist.length ≤ 1000000) (a : Nat) (h4 : a ≤ 4294967295) (f t : ByteArray) (hfs : f.size ≤ 9223372036854775807) (hts : t.size ≤ 9223372036854775807) :
    Calls Tryz.prog 46 #[.pointer (some ⟨C, 0, none⟩), .int .u32 a, .agg #[.string f, .string t]] w fun e w' => e = .returned (.bool (decide (a < trim) || sinceH hist a f t)) ∧ Below w.heap.size w w' := by
  obtain ⟨Rv, rs, Cv, ls, h, h1, h2⟩ := h
  have hll : ls.length = hist.length := by rw [← h1, List.length_map]
  rw [← sinceR_eq h1]
  exact rsince14_calls h (by omega) a (by omega) (by omega) f t hfs hts
/-! ### trimming, and committing: codes, and what is left, under names that no walk opens -/
def okT (hist : List (List Change)) (trim a : Nat) : Bool := decide (trim ≤ a ∧ a ≤ hist.length)
def eT (hist : List (List Change)) (trim a : Nat) : Int := if okT hist trim a then 0 else 1
def tT (hist : List (List Change)) (trim a : Nat) : Nat := if okT hist trim a then a else trim
def nC (hist : List (List Change)) (cs : List Change) : Int := if cs.all okChange then (hist.length : Int) + 1 else 0
def eC14 (cs : List Change) : Int := if cs.all okChange then 0 else 1
def hC (hist : List (List Change)) (cs : List Change) : List (List Change) := if cs.all okChange then hist ++ [cs] else hist
theorem hC_length (hist : List (List Change)) (cs : List Change) : (hC hist cs).length ≤ hist.length + 1 := by
  unfold hC; split <;> simp
theorem hC_flat (hist : List (List Change)) (cs : List Change) : (hC hist cs).flatten.length ≤ hist.flatten.length + cs.length := by
  unfold hC; split <;> simp
theorem PastP.trimA {B : Nat} (h : PastP base w B hist trim) (hl : hist.flatten.length ≤ 1000000) (a : Nat) :
    Calls Tryz.prog 35 #[.pointer (some ⟨B, 0, none⟩), .int .u32 a] w fun e w' => e = .returned (.int .i64 (eT hist trim a)) ∧ PastP base w' B hist (tT hist trim a) ∧ PStep base w w' := by
  refine (ptrim_P h a hl).mono ?_
  rintro e w' ⟨⟨h1, h2, rfl, hP⟩ | ⟨h1, rfl, hP⟩, s⟩
  · have hk : okT hist trim a = true := decide_eq_true ⟨h1, h2⟩
    unfold eT tT; rw [hk]; exact ⟨rfl, hP, s⟩
  · have hk : okT hist trim a = false := decide_eq_false h1
    unfold eT tT; rw [hk]; exact ⟨rfl, hP, s⟩
theorem RPastP.trimA (h : RPastP base w C hist trim) (hl : hist.length ≤ 1000000) (a : Nat) :
    Calls Tryz.prog 36 #[.pointer (some ⟨C, 0, none⟩), .int .u32 a] w fun e w' => e = .returned (.int .i64 (eT hist trim a)) ∧ RPastP base w' C hist (tT hist trim a) ∧ TurnT base w w' [146] := by
  obtain ⟨Rv, rs, Cv, ls, h, h1, h2⟩ := h
  have hll : ls.length = hist.length := by rw [← h1, List.length_map]
  refine (rtrim14_calls h (by omega) a).mono ?_
  rintro e w' ⟨rfl, hP, t⟩
  have ht : TurnT base w w' [146] := ⟨_, t, fun g e => by subst e; exact ⟨h.low, _, _, h.obj, by simp⟩⟩
  by_cases hk : trim ≤ a ∧ a ≤ hist.length
  · have hk' : okT hist trim a = true := decide_eq_true hk
    have hn : ¬ ((ls.length : Int) < (a : Int) ∨ (a : Int) < (trim : Int)) := by omega
    rw [if_neg hn] at hP ⊢
    unfold eT tT; rw [hk']
    exact ⟨rfl, ⟨Rv, rs, Cv, ls, hP, h1, h2⟩, ht⟩
  · have hk' : okT hist trim a = false := decide_eq_false hk
    have hn : ((ls.length : Int) < (a : Int) ∨ (a : Int) < (trim : Int)) := by omega
    rw [if_pos hn] at hP ⊢
    unfold eT tT; rw [hk']
    exact ⟨rfl, ⟨Rv, rs, Cv, ls, hP, h1, h2⟩, ht⟩
theorem PastP.commitA {B : Nat} (h : PastP base w B hist trim) {b : Nat} {vc : Value} {cs : List Change} (o : Own Change.enc 3 128 b w vc cs) (hk : ∀ c ∈ cs, c.k.size ≤ 9223372036854775807) (hl : hist.flatten.length + cs.length ≤ 1000000) (hl2 : hist.length ≤ 1000000) :
    Calls Tryz.prog 37 #[.pointer (some ⟨B, 0, none⟩), vc] w fun e w' => e = .returned (.tuple #[.int .u32 (nC hist cs), .int .i64 (eC14 cs)]) ∧ PastP base w' B (hC hist cs) trim ∧ PStep base w w' := by
  refine (pcommit_P h ⟨o.rd change_len, fun g hg _ => .inr ⟨_, _, _, (o.typed g hg).2.choose_spec, by decide, by decide⟩⟩ hk hl hl2).mono ?_
  rintro e w' ⟨⟨h1, rfl, hP⟩ | ⟨h1, rfl, hP⟩, s⟩
  · unfold nC eC14 hC; rw [h1]; exact ⟨by simp, hP, s⟩
  · unfold nC eC14 hC; rw [h1]; exact ⟨by simp, hP, s⟩
theorem RPastP.commitA (h : RPastP base w C hist trim) (hbase : base ≤ w.heap.size) {vc : Value} {cs : List Change} (hv : ∀ wx, Below base w wx → Rd Change.enc 3 wx vc cs) (hk : ∀ c ∈ cs, c.k.size ≤ 9223372036854775807) (hl : hist.flatten.length + cs.length ≤ 1000000) (hl2 : hist.length ≤ 100000) :
    Calls Tryz.prog 38 #[.pointer (some ⟨C, 0, none⟩), vc] w fun e w' => e = .returned (.tuple #[.int .u32 (nC hist cs), .int .i64 (eC14 cs)]) ∧ RPastP base w' C (hC hist cs) trim ∧ TurnT base w w' [146, 56, 45] := by
  obtain ⟨Rv, rs, Cv, ls, h, h1, h2⟩ := h
  have hll : ls.length = hist.length := by rw [← h1, List.length_map]
  have hlt : ls.length < rs.length := by rw [h.len]; omega
  have hlast := List.getElem?_eq_getElem hlt
  have hxs := h2 _ _ hlast
  generalize rs[ls.length] = x at *
  have hrl := rowsN_length hist ls.length
  refine (rcommit14_calls h hbase (by omega) hv hk hlast (by rw [hxs]; omega)).mono ?_
  rintro e w' (⟨ho, rfl, hP, hb⟩ | ⟨ho, rfl, Rv', v', Cv', v2, hP, t⟩)
  · unfold nC eC14 hC; rw [ho]; exact ⟨by simp, ⟨Rv, rs, Cv, ls, hP, h1, h2⟩, TurnT.of_belowA _ hb⟩
  · unfold nC eC14 hC; rw [ho]
    refine ⟨by simp [hll], ⟨Rv', _, Cv', _, hP, by simp [h1], fun i y hy => ?_⟩, t⟩
    simp only [if_true]
    by_cases hi : i < rs.length
    · rw [List.getElem?_append_left hi] at hy
      rw [rowsN_snoc_old _ _ (by have := h.len; omega)]
      exact h2 i y hy
    · rw [List.getElem?_append_right (by omega)] at hy
      have hi2 := (List.getElem?_eq_some_iff.1 hy).1
      simp only [List.length_singleton] at hi2
      have hl3 := h.len
      have e : i - rs.length = 0 := by omega
      rw [e] at hy
      simp only [List.getElem?_cons_zero, Option.some.injEq] at hy
      subst hy
      rw [rowsN_snoc_new _ _ (by omega)]
      show doCs cs x.xs = _
      rw [hxs, hll]

theorem retW_get {H : Hist} (hp : Past hist trim H) (k : Str) {n : Nat} (hn : trim ≤ n) : retW (lastW n (H k)) = ((getL k (rowsN hist n)).getD 0, (getL k (rowsN hist n)).isSome) := by
  have h := hp.find k n hn
  unfold findW at h
  rw [← h]
  cases hw : lastW n (H k) with
  | none => rfl
  | some y =>
    have hm : y ∈ H k := by
      unfold lastW at hw
      have := List.mem_of_find?_eq_some hw
      simpa using this
    cases hg : y.g with
    | false => simp [retW, toldW, hg]
    | true => simp [retW, toldW, hg, hp.zero k y hm hg]
theorem PastP.getA {B : Nat} (h : PastP base w B hist trim) (hl : hist.flatten.length ≤ 1000000) (a : Nat) (key : ByteArray) (hk : okS key) :
    Calls Tryz.prog 42 #[.pointer (some ⟨B, 0, none⟩), .int .u32 a, .string key] w fun e w' => e = .returned (.tuple #[.int .u32 ((getL key (rowsN hist (max a trim))).getD 0), .bool (getL key (rowsN hist (max a trim))).isSome]) ∧ Below w.heap.size w w' := by
  obtain ⟨M, n, D, H, h⟩ := h
  have := pget_calls h hl (a : Int) key hk
  rw [show max (a : Int) (trim : Int) = ((max a trim : Nat) : Int) by omega, retW_get h.past key (Nat.le_max_right _ _)] at this
  exact this
theorem PastP.scanA {B : Nat} (h : PastP base w B hist trim) (hl : hist.flatten.length ≤ 1000000) (a : Nat) (f t : ByteArray) (most : Int) :
    Calls Tryz.prog 41 #[.pointer (some ⟨B, 0, none⟩), .int .u32 a, .agg #[.string f, .string t], .int .i64 most] w fun e w' => ∃ A c, e = .returned (.slice A ((rowsIn f t (rowsN hist (max a trim))).take most.toNat).length c) ∧ Below w.heap.size w w' ∧ Own Row.enc 2 44 w.heap.size w' (.slice A ((rowsIn f t (rowsN hist (max a trim))).take most.toNat).length c) ((rowsIn f t (rowsN hist (max a trim))).take most.toNat) := by
  obtain ⟨M, n, D, H, h⟩ := h
  refine (pscan_calls h hl a f t most).mono ?_
  rintro e w' ⟨v', rfl, hb, o⟩
  obtain ⟨A, c, rfl, _, _⟩ := o.slice
  exact ⟨A, c, rfl, hb, o⟩
end

/-- The play: the program's past, the reference's, and the Book. -/
structure PlayV (base : Nat) (w : World) (B : Nat) (hp : List (List Change)) (tp : Nat) (C : Nat) (hr : List (List Change)) (tr : Nat) (K n : Nat) (vR : Value) (hsR : List Hd) (vC : Value) (hsC : List Hd) : Prop where
  p : PastP base w B hp tp
  r : RPastP base w C hr tr
  k : BookRC base w K n vR hsR vC hsC
section
variable {base : Nat} {w w' : World} {B : Nat} {hp hp' : List (List Change)} {tp tp' : Nat} {C : Nat} {hr hr' : List (List Change)} {tr tr' : Nat} {K n : Nat} {vR : Value} {hsR : List Hd} {vC : Value} {hsC : List Hd}
theorem PlayV.below (h : PlayV base w B hp tp C hr tr K n vR hsR vC hsC) (hb : Below w.heap.size w w') : PlayV base w' B hp tp C hr tr K n vR hsR vC hsC :=
  ⟨h.p.below hb, h.r.below hb, h.k.below hb⟩
theorem PlayV.pstep (h : PlayV base w B hp tp C hr tr K n vR hsR vC hsC) (s : PStep base w w') (p' : PastP base w' B hp' tp') : PlayV base w' B hp' tp' C hr tr K n vR hsR vC hsC := by
  refine ⟨p', h.r.turnF s.turn fun g cur T f e hm => f (.inr ⟨_, _, _, e, fun h2 => ?_, fun h2 => ?_⟩), h.k.keepF s.turn (fun g cur T f e hm => f (.inr ⟨_, _, _, e, fun h2 => ?_, fun h2 => ?_⟩)) (fun g hb f => f (.inr ⟨_, _, _, (h.k.pRow.fil.typed hb).2.choose_spec, by decide, by decide⟩)) (fun g hb f => f (.inr ⟨_, _, _, (h.k.pChange.fil.typed hb).2.choose_spec, by decide, by decide⟩))⟩
  all_goals
    rw [h2] at hm
    exact absurd hm (by decide)
theorem PlayV.rstep (h : PlayV base w B hp tp C hr tr K n vR hsR vC hsC) {ts : List TypeId} (t : TurnT base w w' ts) (hts : ∀ E ∈ ts, E ∉ [149, 142, bookT, 206, 210, 44, 128]) (r' : RPastP base w' C hr' tr') : PlayV base w' B hp tp C hr' tr' K n vR hsR vC hsC := by
  have hp' := h.p.turnT t fun E hE => ⟨fun e => hts E hE (by rw [e]; simp), fun e => hts E hE (by rw [e]; simp)⟩
  obtain ⟨F, t, hF⟩ := t
  have key : ∀ g cur T, F g → w.heap[g]? = some (.cells cur T (0, 0)) → T ∉ [149, 142, bookT, 206, 210, 44, 128] := fun g cur T f e => by
    obtain ⟨_, cur', E, e', hE⟩ := hF g f
    have := e.symm.trans e'
    simp only [Option.some.injEq, Obj.cells.injEq] at this
    rw [this.2.1]
    exact hts E hE
  refine ⟨hp', r', h.k.keepF t (fun g cur T f e hm => key g cur T f e (by simp only [List.mem_cons, List.not_mem_nil, or_false] at hm ⊢; rcases hm with h1 | h1 | h1 <;> simp [h1])) (fun g hb f => key g _ _ f (h.k.pRow.fil.typed hb).2.choose_spec (by simp)) (fun g hb f => key g _ _ f (h.k.pChange.fil.typed hb).2.choose_spec (by simp))⟩
theorem PlayV.rT (h : RPastP base w C hr tr) {ts : List TypeId} (t : TurnT base w w' ts) (hts : ∀ E ∈ ts, E ∉ [146, 56, 44, 45, 128]) : RPastP base w' C hr tr := by
  obtain ⟨F, t, hF⟩ := t
  refine h.turnF t fun g cur T f e => ?_
  obtain ⟨_, cur', E, e', hE⟩ := hF g f
  have := e.symm.trans e'
  simp only [Option.some.injEq, Obj.cells.injEq] at this
  rw [this.2.1]
  exact hts E hE
theorem PlayV.tellRow (h : PlayV base w B hp tp C hr tr K n vR hsR vC hsC) (hlen : hsR.length < 100000) (hn : n < 100000) (hbase : base ≤ w.heap.size) {A : Option Addr} {m c : Nat} {zs : List Row} (o : Own Row.enc 2 44 base w (.slice A m c) zs) (hz : zs.length ≤ 1000000)
    (hoff : ∀ g, (Value.slice A m c).ownBlock = some g → ¬ Blk hsR g) :
    Calls Tryz.prog 22 #[.pointer (some ⟨K, 0, none⟩), .slice A m c] w fun e w' => e = .returned (.tuple #[]) ∧
      (∃ v', PlayV base w' B hp tp C hr tr K (n + 1) v' (hsR ++ [⟨.slice A m c, nilV, n + 1⟩]) vC hsC) ∧ TurnT base w w' [bookT, 206] :=
  (h.k.tellRow hlen hn hbase o hz hoff).mono fun e w' ⟨he, ⟨v', k'⟩, t⟩ => ⟨he, ⟨v', h.p.turnT t (by decide), PlayV.rT h.r t (by decide), k'⟩, t⟩
theorem PlayV.tellChange (h : PlayV base w B hp tp C hr tr K n vR hsR vC hsC) (hlen : hsC.length < 100000) (hn : n < 100000) (hbase : base ≤ w.heap.size) {A : Option Addr} {m c : Nat} {zs : List Change} (o : Own Change.enc 3 128 base w (.slice A m c) zs) (hz : zs.length ≤ 1000000)
    (hoff : ∀ g, (Value.slice A m c).ownBlock = some g → ¬ Blk hsC g) :
    Calls Tryz.prog 27 #[.pointer (some ⟨K, 0, none⟩), .slice A m c] w fun e w' => e = .returned (.tuple #[]) ∧
      (∃ v', PlayV base w' B hp tp C hr tr K (n + 1) vR hsR v' (hsC ++ [⟨.slice A m c, nilV, n + 1⟩])) ∧ TurnT base w w' [bookT, 210] :=
  (h.k.tellChange hlen hn hbase o hz hoff).mono fun e w' ⟨he, ⟨v', k'⟩, t⟩ => ⟨he, ⟨v', h.p.turnT t (by decide), PlayV.rT h.r t (by decide), k'⟩, t⟩
theorem PlayV.freshR (h : PlayV base w B hp tp C hr tr K n vR hsR vC hsC) {a : Value} {zs : List Row} (o : Own Row.enc 2 44 w.heap.size w' a zs) : ∀ g, a.ownBlock = some g → ¬ Blk hsR g :=
  fun g hg hb => by have := (Array.getElem?_eq_some_iff.1 (h.k.pRow.fil.typed hb).2.choose_spec).1; have := o.base_le g hg; omega
theorem PlayV.freshC (h : PlayV base w B hp tp C hr tr K n vR hsR vC hsC) {a : Value} {zs : List Change} (o : Own Change.enc 3 128 w.heap.size w' a zs) : ∀ g, a.ownBlock = some g → ¬ Blk hsC g :=
  fun g hg hb => by have := (Array.getElem?_eq_some_iff.1 (h.k.pChange.fil.typed hb).2.choose_spec).1; have := o.base_le g hg; omega
end
end Go.Proofs.YtanjgeacmpmjhaaGreatDoor
