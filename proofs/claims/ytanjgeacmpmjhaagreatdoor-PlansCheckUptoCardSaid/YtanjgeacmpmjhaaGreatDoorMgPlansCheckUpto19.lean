import Derived.Test.YtanjgeacmpmjhaaGreatDoorIns
import Derived.Test.YtanjgeacmpmjhaaGreatDoorProg
import Derived.Test.YtanjgeacmpmjhaaGreatDoorKinds
import Derived.Test.YtanjgeacmpmjhaaGreatDoorMapP
import Derived.Test.YtanjgeacmpmjhaaGreatDoorMgPlansCheckUpto2
import Derived.Shelf.Abstract
import Derived.Test.YtanjgeacmpmjhaaGreatDoorMgPlansCheckUpto9
import Derived.Test.YtanjgeacmpmjhaaGreatDoorJoinP
import Derived.Test.YtanjgeacmpmjhaaGreatDoorTwSpan
import Derived.Test.YtanjgeacmpmjhaaGreatDoorMgPlansCheckUpto0
import Derived.Test.YtanjgeacmpmjhaaGreatDoorApp
import Derived.Test.YtanjgeacmpmjhaaGreatDoorBk0
import Derived.Deep.RegionHeld3
import Derived.Deep.RegionLaw
import Derived.StillTailTactics
import Derived.Lib.SmallJoins
import Derived.Test.YtanjgeacmpmjhaaGreatDoorOwn
set_option linter.unusedVariables false
set_option linter.unusedSimpArgs false
namespace Go.Proofs.YtanjgeacmpmjhaaGreatDoor
open Go.RowKit

/-- Place i is taken away. -/
def cutL {α : Type} (xs : List α) (i : Nat) : List α := xs.take i ++ xs.drop (i + 1)
theorem cutL_length {α : Type} (xs : List α) (i : Nat) (h : i < xs.length) : (cutL xs i).length = xs.length - 1 := by simp [cutL]; omega

def zrow : Value := .agg #[.string ⟨#[]⟩, .int .u32 0]
theorem zero_row (w : World) : (zeroValue 44).run Tryz.prog w = .ok zrow w := Tryz.zeroValue44 w

set_option maxHeartbeats 1000000 in
set_option maxRecDepth 100000 in
theorem del_own (g cap i : Nat) (cur : List Value) (xs : List Row) (w : World) (hi : i < xs.length) (hlc : xs.length ≤ cap) (hc : cap ≤ maxLen)
    (hg : w.heap[g]? = some (.cells cur.toArray 44 (0, 0))) (hsz : cur.length = cap * 2) (ht : cur.take (xs.length * 2) = xs.flatMap Row.enc) :
    Calls Tryz.prog 182 #[.slice (some ⟨g, 0, none⟩) xs.length cap, .int .i64 i, .int .i64 ((i : Int) + 1)] w fun e w' =>
      e = .returned (.slice (some ⟨g, 0, none⟩) (xs.length - 1) cap) ∧ w' = w.drew.setRow g (over (over cur (i * 2) ((xs.drop (i + 1)).flatMap Row.enc)) ((xs.length - 1) * 2) zrow.cells.toList).toArray := by
  unfold maxLen at hc
  obtain ⟨i0, hi0, hz0, hzs, hzb⟩ := info_parts info_rowi
  obtain ⟨A, hA, hsrc⟩ : ∃ A : Addr, (if cap = i + 1 then some (⟨g, 0, none⟩ : Addr) else some ⟨g, (i + 1) * 2, none⟩) = some A ∧ Hid (∀ j v, ((xs.drop (i + 1)).flatMap Row.enc)[j]? = some v → w.drew.cell? (A.add j) = some v) := by
    by_cases h : cap = i + 1
    · refine ⟨_, if_pos h, fun j v hj => ?_⟩
      have := (List.getElem?_eq_some_iff.1 hj).1
      rw [flat_length row_len, List.length_drop] at this
      omega
    · refine ⟨_, if_neg h, fun j v hj => ?_⟩
      rw [Addr.add_lit, World.cell?_drew]
      have : cur[(i + 1) * 2 + j]? = some v := by
        rw [← flat_drop row_len, ← ht, List.getElem?_drop, List.getElem?_take] at hj
        split at hj
        · exact hj
        · cases hj
      simp [World.cell?, hg, this]
  have hl1 : ((xs.drop (i + 1)).flatMap Row.enc).length = (xs.length - (i + 1)) * 2 := by rw [flat_length row_len, List.length_drop]
  have hf1 : Hid (i * 2 + ((xs.drop (i + 1)).flatMap Row.enc).length ≤ cur.length) := by
    show _ ≤ _
    rw [hl1]; omega
  have ho1 : Hid (∀ v ∈ (xs.drop (i + 1)).flatMap Row.enc, v.oneCell' = true) := fun v hv => by
    obtain ⟨y, _, hy⟩ := List.mem_flatMap.1 hv
    exact row_one y v hy
  obtain ⟨W1, hW1⟩ : ∃ W1, W1 = w.drew.setRow g (over cur (i * 2) ((xs.drop (i + 1)).flatMap Row.enc)).toArray := ⟨_, rfl⟩
  have hg1 : W1.heap[g]? = some (.cells (over cur (i * 2) ((xs.drop (i + 1)).flatMap Row.enc)).toArray 44 (0, 0)) := by rw [hW1]; exact setRow_heap _ _ _ _ _ _ hg
  have hcl := fun ty c => run_clear_one (P := Tryz.prog) (w := W1) 56 ty 44 zrow under_rows zero_row g ((xs.length - 1) * 2) c _ _ hg1 (by rw [over_length hf1.out, hsz]; show _ + 2 ≤ _; omega) (by
    intro v hv
    have : v ∈ [Value.string ⟨#[]⟩, .int .u32 0] := hv
    simp only [List.mem_cons, List.not_mem_nil, or_false] at this
    rcases this with rfl | rfl <;> rfl)
  generalize hW2 : W1.setRow g _ = W2 at hcl
  have X := Lib.hid (show W2 = w.drew.setRow g (over (over cur (i * 2) ((xs.drop (i + 1)).flatMap Row.enc)) ((xs.length - 1) * 2) zrow.cells.toList).toArray by rw [← hW2, hW1, setRow_setRow])
  have H1 := Lib.hid hW1
  clear hW1 hW2 hg1
  have e1 : i + (xs.length - (i + 1)) = xs.length - 1 := by omega
  have e2 : xs.length - (xs.length - 1) = 1 := by omega
  have e3 : ¬ cap = xs.length - 1 := by omega
  have hb3 : i ≤ xs.length := by omega
  have hb6 : (i : Int) + 1 ≤ (xs.length : Int) := by omega
  have hb7 : i + 1 ≤ xs.length := by omega
  have hb8 : (i : Int) < (xs.length : Int) := by omega
  have hb4 : i ≤ cap := by omega
  have hb5 : i + 1 ≤ cap := by omega
  have hw1 : IntKind.i64.wrap ((i : Int) + 1) = (i : Int) + 1 := by rw [IntKind.wrap_i64]; omega
  have hb1 : (0 : Int) ≤ (i : Int) + 1 := by omega
  have htn : ((i : Int) + 1).toNat = i + 1 := by omega
  go_enter Tryz.func182, Tryz.ntmps182
  go_wp2_with fail
  go_region_law (refine step_append_k rfl (.tmp 22) (.tmp 25) 56 rfl 44 i0 2 under_rows hi0 hzs g i cap A (xs.length - (i + 1)) (cap - (i + 1)) (by simp [Act.eval, Act.put]) (by simp [Act.eval, Act.put]) cur 44 hg ((xs.drop (i + 1)).flatMap Row.enc) hl1 hsrc.out (by omega) hf1.out ho1.out ?_; intro W3 hW3; obtain rfl := hW3.out.trans H1.out.symm)
  go_wp2
  go_ret
  exact ⟨rfl, X.out⟩

set_option maxHeartbeats 400000 in
theorem delete_calls (base i : Nat) (v : Value) (xs : List Row) (w : World) (hown : Own Row.enc 2 44 base w v xs) (hi : i < xs.length) :
    Calls Tryz.prog 182 #[v, .int .i64 i, .int .i64 ((i : Int) + 1)] w fun e w' =>
      ∃ v', e = .returned v' ∧ Own Row.enc 2 44 base w' v' (cutL xs i) ∧ w.grownBy w' v.ownBlock ∧ v'.ownBlock = v.ownBlock := by
  obtain ⟨g, cap, cur, rfl, hbg, hg, hlc, hcm, hsz, ht⟩ := hown.some_block (by omega)
  refine (del_own g cap i cur.toList xs w hi hlc hcm hg (by simpa using hsz) ht).mono ?_
  rintro e w' ⟨rfl, rfl⟩
  have hl1 : ((xs.drop (i + 1)).flatMap Row.enc).length = (xs.length - (i + 1)) * 2 := by rw [flat_length row_len, List.length_drop]
  have hl2 : cur.toList.length = cap * 2 := by simpa using hsz
  have hf1 : i * 2 + ((xs.drop (i + 1)).flatMap Row.enc).length ≤ cur.toList.length := by rw [hl1, hl2]; omega
  have hz : zrow.cells.toList.length = 2 := rfl
  have hlen := cutL_length xs i hi
  refine ⟨_, rfl, ?_, ?_, rfl⟩
  · rw [← hlen]
    refine Own.turned (old := cur) hg hbg (by omega) hcm ?_ row_len ?_
    · show (List.toArray _).size = _
      rw [List.size_toArray, over_length (by rw [over_length hf1, hz, hlen]; omega), over_length hf1, hl2]
    · show List.take _ (List.toArray _).toList = _
      rw [hlen, List.toList_toArray]
      have h1 : (cur.toList.take (i * 2)) = (xs.take i).flatMap Row.enc := by
        rw [← flat_take row_len, ← ht, List.take_take, Nat.min_eq_left (by omega)]
      unfold over
      rw [h1, List.append_assoc, List.take_left' (by
        rw [List.length_take, List.length_append, List.length_append, List.length_drop, flat_length row_len, List.length_take, hl1, hl2]; omega), List.take_left' (by
        rw [List.length_append, flat_length row_len, List.length_take, hl1]; omega)]
      simp [cutL]
  · have h1 := grownBy_setRow w.drew g (over (over cur.toList (i * 2) ((xs.drop (i + 1)).flatMap Row.enc)) ((xs.length - 1) * 2) zrow.cells.toList).toArray
    exact ⟨h1.os, h1.tape, h1.output, h1.size, h1.block⟩

end Go.Proofs.YtanjgeacmpmjhaaGreatDoor

set_option linter.unusedVariables false
set_option linter.unusedSimpArgs false
namespace Go.Proofs.YtanjgeacmpmjhaaGreatDoor
open Go.RowKit Go.Shelf

set_option maxHeartbeats 400000 in
theorem find1_calls (k : ByteArray) (v : Int) (w : World) :
    Calls Tryz.prog 188 #[.agg #[.string k, .int .u32 v]] w fun e w' => e = .returned (.string k) ∧ Below w.heap.size w w' := by
  go_enter Tryz.func188, Tryz.ntmps188
  go_wp2
  go_ret
  exact ⟨rfl, (Below.refl _ _).alloc (Nat.le_refl _) _⟩

set_option maxHeartbeats 400000 in
theorem place1_calls (k key : ByteArray) (v : Int) (B : Nat) (w : World) (c0 : w.cell? ⟨B, 0, none⟩ = some (.func (.func 188) #[] #[])) :
    Calls Tryz.prog 232 #[.agg #[.string k, .int .u32 v], .string key, .pointer (some ⟨B, 0, none⟩)] w fun e w' => e = .returned (.int .i64 (scmp k key)) ∧ Below w.heap.size w w' := by
  have hlt : B < w.heap.size := World.block_lt_of_cell? w _ c0
  have hne : ¬ w.heap.size = B := by omega
  have eg := enters_of Tryz.func188 (by kernel_rfl) rfl
  go_enter Tryz.func232, Tryz.ntmps232
  go_wp2_with (first | (go_at_call 188; refine (find1_calls _ _ _).mono ?_; rintro e w1 ⟨rfl, hb1⟩) | (go_at_call 233; refine (compare_calls _ _ _).mono ?_; rintro e w2 ⟨rfl, rfl⟩))
  go_ret
  exact ⟨rfl, Below.step ((Below.refl _ _).alloc (Nat.le_refl _) _) hb1⟩

set_option maxHeartbeats 400000 in
theorem search_calls (key : ByteArray) (B : Nat) (v : Value) (xs : List Row) (w : World) (hv : Rd Row.enc 2 w v xs) (hr : Rising xs) (hl : xs.length ≤ 1000000000)
    (c0 : w.cell? ⟨B, 0, none⟩ = some (.func (.func 188) #[] #[])) :
    Calls Tryz.prog 231 #[v, .string key, .func (.func 232) #[] #[.pointer (some ⟨B, 0, none⟩)]] w
      fun e w' => e = .returned (.tuple #[.int .i64 (posL key xs), .bool (getL key xs).isSome]) ∧ Below w.heap.size w w' := by
  have eg := enters_of Tryz.func232 (by kernel_rfl) rfl
  obtain ⟨A, c, rfl, hlc, hc⟩ := hv.shape
  have hple := posL_le key xs
  have HS := Lib.hid (fun i x h => pos_search (k := key) hr i x h)
  have HF := Lib.hid (pos_found (k := key) hr)
  clear hr
  go_enter Tryz.func231, Tryz.ntmps231
  go_wp2
  go_loopw [9, 10] (fun iv jv wr => ∃ i j : Nat, iv = .int .i64 i ∧ jv = .int .i64 j ∧ i ≤ posL key xs ∧ posL key xs ≤ j ∧ j ≤ xs.length ∧ Below w.heap.size w wr) (fun iv jv _ => (intOf jv - intOf iv).toNat)
  case atStart => exact ⟨0, xs.length, rfl, rfl, Nat.zero_le _, hple, Nat.le_refl _, Below.refl _ _⟩
  case round =>
    obtain ⟨i, j, rfl, rfl, hip, hpj, hj, hb⟩ := hrel
    by_cases hij : i < j
    · have hh : (i + j) / 2 < xs.length := by omega
      have hh1 : i ≤ (i + j) / 2 := by omega
      have hh2 : (i + j) / 2 < j := by omega
      obtain ⟨b, o, rfl, hx1, hx2⟩ := (hv.below hb).row (List.getElem?_eq_getElem hh)
      have hS := HS.out _ _ (List.getElem?_eq_getElem hh)
      generalize xs[(i + j) / 2] = x at *
      have hcall := place1_calls x.k key x.v B wr (Below.cell_some hb c0)
      have hneg := scmp_neg x.k key
      generalize scmp x.k key = m at *
      by_cases hlt : slt x.k key = true
      · have hp := hS.1 hlt
        rw [hlt] at hneg
        have hm : m < 0 := of_decide_eq_true hneg
        clear hneg hS hlt
        go_wp2_with (go_at_call 232; refine hcall.mono ?_; rintro e w1 ⟨rfl, hb1⟩; clear hx1 hx2)
        go_roundw
        case rel => exact ⟨(i + j) / 2 + 1, j, by go_num, rfl, by omega, hpj, hj, Below.step hb hb1⟩
        case measure => simp [intOf]; omega
      · have hp : ¬ (i + j) / 2 < posL key xs := fun h => hlt (hS.2 h)
        have hm : ¬ m < 0 := fun h => by rw [decide_eq_true h] at hneg; exact hlt hneg.symm
        clear hneg hS hlt
        go_wp2_with (go_at_call 232; refine hcall.mono ?_; rintro e w1 ⟨rfl, hb1⟩; clear hx1 hx2)
        go_roundw
        case rel => exact ⟨i, (i + j) / 2, rfl, by go_num, hip, by omega, by omega, Below.step hb hb1⟩
        case measure => simp [intOf]; omega
    · have hi : i = posL key xs := by omega
      by_cases hn : i < xs.length
      · obtain ⟨b, o, rfl, hx1, hx2⟩ := (hv.below hb).row (List.getElem?_eq_getElem hn)
        have hX := List.getElem?_eq_getElem hn
        generalize xs[i] = x at *
        have hcall := place1_calls x.k key x.v B wr (Below.cell_some hb c0)
        have hz := scmp_zero x.k key
        generalize scmp x.k key = m at *
        have HR : (getL key xs).isSome = (m == 0) := by
          rw [hz, Bool.eq_iff_iff, Option.isSome_iff_ne_none, ← HF.out, decide_eq_true_eq, ← hi]
          constructor
          · rintro ⟨y, hy, e⟩
            rw [hX] at hy
            injection hy with hy
            rw [hy]; exact e
          · intro e
            exact ⟨x, hX, e⟩
        have HR' := Lib.hid HR
        have Hi := Lib.hid hi
        clear hz HR hi hX
        go_wp2_with (go_at_call 232; refine hcall.mono ?_; rintro e w1 ⟨rfl, hb1⟩; clear hx1 hx2)
        go_ret2
        exact ⟨by rw [HR'.out, ← Hi.out]; rfl, Below.step hb hb1⟩
      · have HR : (getL key xs).isSome = false := by
          rw [Bool.eq_false_iff, Ne, Option.isSome_iff_ne_none, ← HF.out]
          rintro ⟨y, hy, _⟩
          have := (List.getElem?_eq_some_iff.1 hy).1
          omega
        have HR' := Lib.hid HR
        have Hi := Lib.hid hi
        clear HR hi
        go_wp2
        go_ret2
        exact ⟨by rw [HR'.out, ← Hi.out]; rfl, hb⟩

end Go.Proofs.YtanjgeacmpmjhaaGreatDoor

set_option linter.unusedVariables false
set_option linter.unusedSimpArgs false
namespace Go.Proofs.YtanjgeacmpmjhaaGreatDoor
open Go.RowKit Go.Shelf

theorem cmpLaysSpan (blk off size : Nat) (w : World) : CmpLays Tryz.prog 222 #[] Span.enc 2 cfSpan blk off size w := fun m os dk hs x y => by
  refine (by_calls x.f x.t y.f y.t _).mono ?_
  rintro e w' ⟨rfl, os', rfl⟩
  exact ⟨rfl, 0, os', rfl⟩

/-- slices.SortFunc at a row of one's own. -/
theorem sortSpan_calls {base : Nat} {w : World} {v : Value} {xs : List Span} (h : Own Span.enc 2 276 base w v xs) (hl : xs.length ≤ 1000000000) :
    Calls Tryz.prog 221 #[v, .func (.func 222) #[] #[]] w fun e w' =>
      ∃ ys, e = .returned (.tuple #[]) ∧ Own Span.enc 2 276 base w' v ys ∧ (∀ y, y ∈ ys ↔ y ∈ xs) ∧ ys.length = xs.length ∧ (ys.Pairwise fun a b => sle a.f b.f = true) ∧ w.grownBy w' v.ownBlock := by
  rcases Nat.eq_zero_or_pos xs.length with h0 | hp
  · have hx : xs = [] := List.length_eq_zero_iff.1 h0
    subst hx
    obtain ⟨A, c, rfl, _, _⟩ := h.slice
    refine (AnyF.slices_SortFunc_none sortSpan A c _ w).mono ?_
    rintro e w' ⟨rfl, rfl⟩
    exact ⟨[], rfl, h, fun _ => Iff.rfl, rfl, List.Pairwise.nil, World.grownBy.refl _ _⟩
  · obtain ⟨g, cap, cur, rfl, _⟩ := h.some_block hp
    obtain ⟨hH, hg⟩ := h.holdsK span_len hp
    have hc := AnyQ.slices_SortFunc sortSpan 2 Tryz.isAgg276 Tryz.sizeOf276 Span.enc span_len span_one cfSpan swoSpan 222 #[] g 0 cap xs.toArray w
      (enters_of Tryz.func222 (by kernel_rfl) rfl) (cmpLaysSpan _ _ _ _) hH hg (by simp; omega)
    refine Calls.mono hc ?_
    rintro e w' ⟨rfl, d, n, os, hp', hs, rfl⟩
    obtain ⟨m1, m2⟩ := permIn_mem hp'
    obtain ⟨o1, o2⟩ := sortWorld_own h span_len hp n os d (by simpa using m1)
    refine ⟨d.toList, rfl, o1, fun y => by rw [m2], by simpa using m1, ?_, o2⟩
    have := sortedIn_pairwise (d := d) (by rw [m1]; exact hs)
    exact this.imp fun h => by rw [ltSpan] at h; exact not_slt.1 h

theorem joinStep_meet {out : List Span} {x l : Span} (hl : out[out.length - 1]? = some l) (hm : meet4 x.f x.t l.f l.t = true) : joinStep out x = out.set (out.length - 1) ⟨l.f, smax l.t x.t⟩ := by
  rcases List.eq_nil_or_concat out with rfl | ⟨o, y, rfl⟩
  · simp at hl
  · rw [List.concat_eq_append] at *
    have e : l = y := by simpa using hl.symm
    subst e
    rw [joinStep_snoc, if_pos hm, List.length_append, List.length_singleton, Nat.add_sub_cancel, List.set_append_right _ _ (Nat.le_refl _), Nat.sub_self]
    rfl
theorem joinStep_no {out : List Span} {x l : Span} (hl : out[out.length - 1]? = some l) (hm : meet4 x.f x.t l.f l.t = false) : joinStep out x = out ++ [x] := by
  rcases List.eq_nil_or_concat out with rfl | ⟨o, y, rfl⟩
  · simp at hl
  · rw [List.concat_eq_append] at *
    have e : l = y := by simpa using hl.symm
    subst e
    rw [joinStep_snoc, if_neg (by rw [hm]; exact Bool.false_ne_true)]
theorem joinStep_length (out : List Span) (x : Span) : (joinStep out x).length ≤ out.length + 1 := by
  unfold joinStep
  cases out.getLast? with
  | none => simp
  | some l =>
    simp only
    split <;> simp <;> omega
theorem joinAll_length (xs : List Span) : (joinAll xs).length ≤ xs.length := by
  have : ∀ (xs o : List Span), (xs.foldl joinStep o).length ≤ o.length + xs.length := fun xs => by
    induction xs with
    | nil => intro o; simp
    | cons x xs ih => intro o; rw [List.foldl_cons]; have := ih (joinStep o x); have := joinStep_length o x; simp only [List.length_cons]; omega
  simpa [joinAll] using this xs []
theorem joinAll_snoc (xs : List Span) (k : Nat) (x : Span) (h : xs[k]? = some x) : joinAll (xs.take (k + 1)) = joinStep (joinAll (xs.take k)) x := by
  obtain ⟨hl, he⟩ := List.getElem?_eq_some_iff.1 h
  rw [List.take_succ_eq_append_getElem hl, he]
  unfold joinAll
  rw [List.foldl_append]; rfl
theorem full_snoc (xs : List Span) (k : Nat) (x : Span) (h : xs[k]? = some x) : full (xs.take (k + 1)) = if sle x.f x.t = true then full (xs.take k) ++ [x] else full (xs.take k) := by
  obtain ⟨hl, he⟩ := List.getElem?_eq_some_iff.1 h
  rw [List.take_succ_eq_append_getElem hl, he]
  unfold full
  rw [List.filter_append]
  cases hx : sle x.f x.t <;> simp [hx]

end Go.Proofs.YtanjgeacmpmjhaaGreatDoor

set_option linter.unusedVariables false
set_option linter.unusedSimpArgs false
namespace Go.Proofs.YtanjgeacmpmjhaaGreatDoor

/-- The rows of a span. -/
def rowsIn (f t : Str) (xs : List Row) : List Row := xs.filter fun x => sin x.k f t

theorem drop_pos {k : Str} : ∀ {l : List Row}, Rising l → l.drop (posL k l) = l.filter fun x => !slt x.k k
  | [], _ => rfl
  | x :: l, hr => by
    rw [posL_cons]
    cases hx : slt x.k k with
    | true => simp [hx, drop_pos hr.tail]
    | false =>
      have hall : ∀ y ∈ l, slt y.k k = false := fun y hy => by
        cases h : slt y.k k with
        | false => rfl
        | true => rw [slt_trans (hr.head hy) h] at hx; cases hx
      simp [hx]
      exact (List.filter_eq_self.2 fun y hy => by simp [hall y hy]).symm

theorem take_to {t : Str} : ∀ {l : List Row}, Rising l → l.takeWhile (fun x => sle x.k t) = l.filter fun x => sle x.k t
  | [], _ => rfl
  | x :: l, hr => by
    cases hx : sle x.k t with
    | true => simp [hx, take_to hr.tail]
    | false =>
      have hall : ∀ y ∈ l, sle y.k t = false := fun y hy => by
        cases h : sle y.k t with
        | false => rfl
        | true => rw [sle_trans (sle_of_slt (hr.head hy)) h] at hx; cases hx
      simp [hx]
      exact hall

theorem scan_list {f t : Str} {xs : List Row} (hr : Rising xs) : (xs.drop (posL f xs)).takeWhile (fun x => sle x.k t) = rowsIn f t xs := by
  have hr' : Rising (xs.drop (posL f xs)) := List.Pairwise.sublist (List.drop_sublist _ _) hr
  rw [take_to hr', drop_pos hr, List.filter_filter]
  unfold rowsIn sin
  congr 1
  funext x
  rw [Bool.and_comm]
  rfl

theorem rowsIn_empty {f t : Str} {xs : List Row} (h : meet4 f t f t = false) : rowsIn f t xs = [] := by
  unfold rowsIn
  rw [List.filter_eq_nil_iff]
  intro x _ hx
  unfold sin at hx
  rw [Bool.and_eq_true] at hx
  have hft := sle_trans hx.1 hx.2
  rw [(meet4_true (a := f) (b := t) (c := f) (d := t)).2 ⟨hft, hft, hft, hft⟩] at h
  cases h

theorem tw_hit {α : Type} {p : α → Bool} : ∀ {zs : List α} {k : Nat} {x : α}, zs[k]? = some x → k ≤ (zs.takeWhile p).length → p x = true → (zs.takeWhile p)[k]? = some x
  | y :: zs, 0, x, h, _, hp => by
    simp only [List.getElem?_cons_zero, Option.some.injEq] at h
    subst h
    simp [hp]
  | y :: zs, k + 1, x, h, hk, hp => by
    simp only [List.getElem?_cons_succ] at h
    cases hy : p y with
    | false => simp [hy] at hk
    | true =>
      simp only [List.takeWhile_cons, hy, ↓reduceIte, List.length_cons, List.getElem?_cons_succ] at hk ⊢
      exact tw_hit h (by omega) hp
theorem tw_miss {α : Type} {p : α → Bool} : ∀ {zs : List α} {k : Nat} {x : α}, zs[k]? = some x → k ≤ (zs.takeWhile p).length → p x = false → (zs.takeWhile p).length = k
  | y :: zs, 0, x, h, _, hp => by
    simp only [List.getElem?_cons_zero, Option.some.injEq] at h
    subst h
    simp [hp]
  | y :: zs, k + 1, x, h, hk, hp => by
    simp only [List.getElem?_cons_succ] at h
    cases hy : p y with
    | false => simp [hy] at hk
    | true =>
      simp only [List.takeWhile_cons, hy, ↓reduceIte, List.length_cons] at hk ⊢
      rw [tw_miss h (by omega) hp]

theorem lt8_z : ∀ (n : Nat) (l : List UInt8), (∀ c ∈ l, okRune c.toNat = true) → l.length ≤ n → lt8 (List.replicate n 122) l = false
  | _, [], _, _ => lt8_nil _
  | 0, c :: l, _, h => by simp at h
  | n + 1, c :: l, hc, hl => by
    have h1 := hc c (by simp)
    have h2 := lt8_z n l (fun d hd => hc d (by simp [hd])) (by simpa using hl)
    unfold okRune at h1
    simp only [Bool.or_eq_true, Bool.and_eq_true, decide_eq_true_eq] at h1
    rw [List.replicate_succ]
    simp only [lt8, h2, Bool.and_false, Bool.or_false, decide_eq_false_iff_not, UInt8.lt_iff_toNat_lt]
    show ¬ 122 < c.toNat
    omega

abbrev z17 : Str := ⟨#[122, 122, 122, 122, 122, 122, 122, 122, 122, 122, 122, 122, 122, 122, 122, 122, 122]⟩

theorem sin_all {k : Str} (h : okKey k = true) : sin k ⟨#[]⟩ z17 = true := by
  unfold okKey at h
  simp only [Bool.and_eq_true, decide_eq_true_eq, List.all_eq_true] at h
  obtain ⟨⟨_, h1⟩, h2⟩ := h
  have hl : k.l.length ≤ 17 := by
    show k.data.toList.length ≤ 17
    rw [Array.length_toList]
    show k.size ≤ 17
    omega
  unfold sin
  rw [Bool.and_eq_true]
  constructor
  · show (!lt8 k.l []) = true
    rw [lt8_nil]; rfl
  · show (!lt8 (List.replicate 17 122) k.l) = true
    rw [lt8_z 17 _ h2 hl]; rfl

theorem rowsIn_all {m : List Row} (h : ∀ x ∈ m, okKey x.k = true) : rowsIn ⟨#[]⟩ z17 m = m := by
  unfold rowsIn
  rw [List.filter_eq_self]
  exact fun x hx => sin_all (h x hx)

/-- The first ones of a span, as many as there may be: one more is looked at. -/
theorem rowsIn_snoc (f t : Str) (n : Nat) (m : List Row) (k : Nat) (x : Row) (h : m[k]? = some x) :
    (rowsIn f t (m.take (k + 1))).take n = if sin x.k f t = true ∧ ((rowsIn f t (m.take k)).take n).length < n then (rowsIn f t (m.take k)).take n ++ [x] else (rowsIn f t (m.take k)).take n := by
  have h1 : rowsIn f t (m.take (k + 1)) = rowsIn f t (m.take k) ++ (if sin x.k f t then [x] else []) := by
    unfold rowsIn
    rw [List.take_add_one, h, List.filter_append]
    cases hx : sin x.k f t <;> simp [hx]
  rw [h1]
  generalize rowsIn f t (m.take k) = F
  rw [List.length_take]
  cases sin x.k f t with
  | false => simp
  | true =>
    simp only [↓reduceIte, true_and]
    by_cases hn : F.length < n
    · have h2 : min n F.length < n := by omega
      rw [if_pos h2, List.take_append, List.take_of_length_le (by omega), List.take_of_length_le (by simp; omega)]
    · have h2 : ¬ min n F.length < n := by omega
      rw [if_neg h2, List.take_append_of_le_length (by omega)]

end Go.Proofs.YtanjgeacmpmjhaaGreatDoor

set_option linter.unusedVariables false
set_option linter.unusedSimpArgs false
namespace Go.Proofs.YtanjgeacmpmjhaaGreatDoor

theorem NF_single {x : Span} (h : sle x.f x.t = true) : NF [x] := ⟨fun y hy => by rw [List.mem_singleton.1 hy]; exact h, List.pairwise_singleton ..⟩
theorem NF_two {x y : Span} (hx : sle x.f x.t = true) (hy : sle y.f y.t = true) (h : slt x.t y.f = true) : NF [x, y] :=
  ⟨fun z hz => by rcases List.mem_cons.1 hz with rfl | hz; · exact hx
                  · rw [List.mem_singleton.1 hz]; exact hy, by simp [h]⟩
theorem cov_two (x y : Span) (k : Str) (b : Bool) : cov [x, y] k b ↔ x.has k b ∨ y.has k b := by rw [cov_cons, cov_single]
theorem no_has {x : Span} (h : slt x.t x.f = true) (k : Str) (b : Bool) : ¬ x.has k b := fun hh => slt_sle_absurd h (sle_trans (Span.has_sle hh).1 (Span.has_sle hh).2)

theorem meet_eq_false {a b : Span} (h : ¬ (sle a.f a.t = true ∧ sle b.f b.t = true ∧ sle a.f b.t = true ∧ sle b.f a.t = true)) : meet4 a.f a.t b.f b.t = false := by
  cases hm : meet4 a.f a.t b.f b.t with
  | false => rfl
  | true => exact (h (meet4_true.1 hm)).elim

/-! SpansInside -/
theorem inside_in {a b : Span} (ha : sle a.f a.t = true) (h1 : sin b.f a.f a.t = true) (h2 : sin b.t a.f a.t = true) (h3 : sle b.f b.t = true) : meet4 a.f a.t b.f b.t = true ∧ joinF [a, b] = [a] := by
  unfold sin at h1 h2
  rw [Bool.and_eq_true] at h1 h2
  refine ⟨meet4_true.2 ⟨ha, h3, h2.1, h1.2⟩, (joinF_of (NF_single ha) fun k b' => ?_).symm⟩
  rw [cov_single, cov_two]
  refine ⟨.inl, fun h => h.elim id fun hb => ⟨sle_trans h1.1 hb.1, ?_⟩⟩
  have := hb.2
  split
  · rename_i hq; rw [if_pos hq] at this; exact slt_of_slt_sle this h2.2
  · rename_i hq; rw [if_neg hq] at this; exact sle_trans this h2.2

theorem inside_none {a b : Span} (ha : sle a.f a.t = true) (h : sle b.f b.t = false) : meet4 a.f a.t b.f b.t = false ∧ joinF [a, b] = [a] := by
  refine ⟨meet_eq_false fun hh => by rw [h] at hh; exact absurd hh.2.1 Bool.false_ne_true, (joinF_of (NF_single ha) fun k b' => ?_).symm⟩
  rw [cov_single, cov_two]
  exact ⟨.inl, fun hh => hh.elim id fun hb => (no_has (not_sle.1 h) k b' hb).elim⟩

theorem inside_low {a b : Span} (ha : sle a.f a.t = true) (hb : sle b.f b.t = true) (h : slt b.t a.f = true) : meet4 a.f a.t b.f b.t = false ∧ joinF [a, b] = [b, a] := by
  refine ⟨meet_eq_false fun hh => slt_sle_absurd h hh.2.2.1, (joinF_of (NF_two hb ha h) fun k b' => ?_).symm⟩
  rw [cov_two, cov_two]; exact or_comm

theorem inside_high {a b : Span} (ha : sle a.f a.t = true) (hb : sle b.f b.t = true) (h : slt a.t b.f = true) : meet4 a.f a.t b.f b.t = false ∧ joinF [a, b] = [a, b] :=
  ⟨meet_eq_false fun hh => slt_sle_absurd h hh.2.2.2, (joinF_of (NF_two ha hb h) fun k b' => Iff.rfl).symm⟩

/-- What two that meet have together, in whichever order they begin. -/
def hull (a b : Span) : Span := ⟨smin a.f b.f, smax a.t b.t⟩
theorem smax_comm (a b : Str) : smax a b = smax b a := by
  unfold smax
  cases h : slt a b
  · cases h' : slt b a
    · simp [slt_total h h']
    · simp
  · simp [slt_asymm h]
theorem smin_le_left (a b : Str) : sle (smin a b) a = true := by
  unfold smin
  split
  · rename_i h; exact sle_of_slt h
  · exact sle_refl _
theorem has_hull2 {a b : Span} (h : meet4 a.f a.t b.f b.t = true) (k : Str) (c : Bool) : (hull a b).has k c ↔ a.has k c ∨ b.has k c := by
  obtain ⟨h1, h2, h3, h4⟩ := meet4_true.1 h
  unfold hull smin
  split
  · rename_i hlt
    rw [smax_comm a.t b.t, has_hull (x := a) (l := b) (sle_of_slt hlt) h3]
    exact or_comm
  · rename_i hlt
    exact has_hull (x := b) (l := a) (by simpa [sle] using hlt) h4 k c
theorem hull_full {a b : Span} (h : sle a.f a.t = true) : sle (hull a b).f (hull a b).t = true := sle_trans (smin_le_left _ _) (sle_trans h (smax_ge_left _ _))

theorem inside_meet {a b : Span} (ha : sle a.f a.t = true) (hb : sle b.f b.t = true) (h1 : slt b.t a.f = false) (h2 : slt a.t b.f = false) : meet4 a.f a.t b.f b.t = true ∧ (joinF [a, b]).length = 1 := by
  have hm : meet4 a.f a.t b.f b.t = true := meet4_true.2 ⟨ha, hb, not_slt.1 h1, not_slt.1 h2⟩
  refine ⟨hm, ?_⟩
  rw [← joinF_of (NF_single (hull_full (b := b) ha)) fun k c => by rw [cov_single, cov_two, has_hull2 hm]]
  rfl

/-! SpansCut -/
theorem cut_join {a : Span} {k : Str} (h1 : sle a.f k = true) (h2 : sle k a.t = true) : joinF [⟨k, a.t⟩, ⟨a.f, k⟩] = [a] := by
  refine (joinF_of (NF_single (sle_trans h1 h2)) fun p c => ?_).symm
  rw [cov_single, cov_two]
  unfold Span.has
  simp only
  constructor
  · rintro ⟨a1, a2⟩
    rcases sle_or_slt k p with hk | hk
    · exact .inl ⟨hk, a2⟩
    · refine .inr ⟨a1, ?_⟩
      split
      · exact hk
      · exact sle_of_slt hk
  · rintro (⟨a1, a2⟩ | ⟨a1, a2⟩)
    · exact ⟨sle_trans h1 a1, a2⟩
    · refine ⟨a1, ?_⟩
      split
      · rename_i hc; rw [if_pos hc] at a2; exact slt_of_slt_sle a2 h2
      · rename_i hc; rw [if_neg hc] at a2; exact sle_trans a2 h2

theorem cut_meet {a x : Span} {k : Str} (h1 : sle a.f k = true) (h2 : sle k a.t = true) : meet4 x.f x.t a.f a.t = (meet4 x.f x.t a.f k || meet4 x.f x.t k a.t) := by
  rw [Bool.eq_iff_iff, Bool.or_eq_true, meet4_true, meet4_true, meet4_true]
  constructor
  · rintro ⟨g1, g2, g3, g4⟩
    rcases sle_or_slt x.f k with hk | hk
    · exact .inl ⟨g1, h1, hk, g4⟩
    · exact .inr ⟨g1, h2, g3, sle_trans (sle_of_slt hk) g1⟩
  · rintro (⟨g1, g2, g3, g4⟩ | ⟨g1, g2, g3, g4⟩)
    · exact ⟨g1, sle_trans h1 h2, sle_trans g3 h2, g4⟩
    · exact ⟨g1, sle_trans h1 h2, g3, sle_trans h1 g4⟩
theorem cut_two {a : Span} {k : Str} (h1 : sle a.f k = true) (h2 : sle k a.t = true) : meet4 a.f k k a.t = true := meet4_true.2 ⟨h1, h2, sle_trans h1 h2, sle_refl _⟩

/-! SpansBoth -/
theorem meet_self (a : Span) : meet4 a.f a.t a.f a.t = sle a.f a.t := by
  rw [Bool.eq_iff_iff, meet4_true]
  exact ⟨fun h => h.1, fun h => ⟨h, h, h, h⟩⟩
theorem both_in {a b : Span} {k : Str} (h1 : sin k a.f a.t = true) (h2 : sin k b.f b.t = true) : meet4 a.f a.t b.f b.t = true := by
  unfold sin at h1 h2
  rw [Bool.and_eq_true] at h1 h2
  exact meet4_true.2 ⟨sle_trans h1.1 h1.2, sle_trans h2.1 h2.2, sle_trans h1.1 h2.2, sle_trans h2.1 h1.2⟩

/-! SpansOps -/
theorem sin_self (k a : Str) : sin k a a = decide (k = a) := by
  rw [Bool.eq_iff_iff]
  unfold sin
  rw [Bool.and_eq_true, decide_eq_true_eq]
  exact ⟨fun h => (sle_antisymm h.1 h.2).symm, fun h => by rw [h]; exact ⟨sle_refl _, sle_refl _⟩⟩

/-! SpansWhole -/
theorem NF.next {xs : List Span} (h : NF xs) {i : Nat} {x y : Span} (hx : xs[i]? = some x) (hy : xs[i + 1]? = some y) : slt x.t y.f = true := by
  obtain ⟨h1, e1⟩ := List.getElem?_eq_some_iff.1 hx
  obtain ⟨h2, e2⟩ := List.getElem?_eq_some_iff.1 hy
  have := List.pairwise_iff_getElem.1 h.2 i (i + 1) h1 h2 (by omega)
  rw [e1, e2] at this
  exact this

end Go.Proofs.YtanjgeacmpmjhaaGreatDoor

set_option linter.unusedVariables false
set_option linter.unusedSimpArgs false
namespace Go.Proofs.YtanjgeacmpmjhaaGreatDoor
open Go.RowKit

theorem alloc_at (w : World) (o : Obj) : (w.alloc o).heap[w.heap.size]? = some o := by
  show (w.heap.push o)[w.heap.size]? = _
  rw [Array.getElem?_push_size]

/-- A map of rows that lies at block B. -/
structure MapAt (base : Nat) (w : World) (B : Nat) (v : Value) (xs : List Row) : Prop where
  obj : w.heap[B]? = some (.cells #[v, .bool true] 124 (0, 0))
  own : Own Row.enc 2 44 base w v xs
  rise : Rising xs
  apart : v.ownBlock ≠ some B
  low : base ≤ B

/-- What an act on the map at B, whose rows lay at v, may have turned. -/
structure Step (w w' : World) (B : Nat) (v v' : Value) : Prop where
  os : w'.os = w.os
  tape : w'.tape = w.tape
  output : w'.output = w.output
  size : w.heap.size ≤ w'.heap.size
  block : ∀ k, k < w.heap.size → k ≠ B → v.ownBlock ≠ some k → w'.heap[k]? = w.heap[k]?
  new : ∀ g, v'.ownBlock = some g → v.ownBlock = some g ∨ w.heap.size ≤ g

theorem Step.of_below {w w' : World} (h : Below w.heap.size w w') (B : Nat) (v : Value) : Step w w' B v v := ⟨h.os, h.tape, h.output, h.size, fun k hk _ _ => h.block k hk, fun _ h => .inl h⟩
theorem Step.refl (w : World) (B : Nat) (v : Value) : Step w w B v v := .of_below (Below.refl _ _) B v

theorem Step.trans {w w1 w2 : World} {B : Nat} {v v1 v2 : Value} (h : Step w w1 B v v1) (k : Step w1 w2 B v1 v2) : Step w w2 B v v2 :=
  ⟨k.os.trans h.os, k.tape.trans h.tape, k.output.trans h.output, Nat.le_trans h.size k.size,
    fun i hi hB hv => (k.block i (Nat.lt_of_lt_of_le hi h.size) hB (fun e => by
      rcases h.new i e with e | e
      · exact hv e
      · omega)).trans (h.block i hi hB hv),
    fun g e => by
      rcases k.new g e with e | e
      · exact h.new g e
      · exact .inr (Nat.le_trans h.size e)⟩

theorem MapAt.lt {base : Nat} {w : World} {B : Nat} {v : Value} {xs : List Row} (h : MapAt base w B v xs) : B < w.heap.size := (Array.getElem?_eq_some_iff.1 h.obj).1

theorem Step.below {base : Nat} {w w' : World} {B : Nat} {v v' : Value} {xs : List Row} (h : Step w w' B v v') (hm : MapAt base w B v xs) : Below base w w' := by
  have := hm.lt
  have := hm.low
  exact ⟨h.os, h.tape, h.output, h.size, fun k hk => h.block k (by omega) (by omega) (fun e => by have := hm.own.base_le k e; omega)⟩

theorem MapAt.below {base : Nat} {w w' : World} {B : Nat} {v : Value} {xs : List Row} (h : MapAt base w B v xs) (hb : Below w.heap.size w w') : MapAt base w' B v xs :=
  ⟨(hb.block B h.lt).trans h.obj, h.own.below hb, h.rise, h.apart, h.low⟩

theorem MapAt.c0 {base : Nat} {w : World} {B : Nat} {v : Value} {xs : List Row} (h : MapAt base w B v xs) : w.cell? ⟨B, 0, none⟩ = some v := by simp [World.cell?, h.obj]
theorem MapAt.c1 {base : Nat} {w : World} {B : Nat} {v : Value} {xs : List Row} (h : MapAt base w B v xs) : w.cell? ⟨B, 1, none⟩ = some (.bool true) := by simp [World.cell?, h.obj]
theorem MapAt.f0 {base : Nat} {w : World} {B : Nat} {v : Value} {xs : List Row} (h : MapAt base w B v xs) : w.frozen? ⟨B, 0, none⟩ = false := by simp [World.frozen?, h.obj]

set_option maxHeartbeats 400000 in
theorem there_calls {base : Nat} {w : World} {B : Nat} {v : Value} {xs : List Row} (h : MapAt base w B v xs) :
    Calls Tryz.prog 86 #[.pointer (some ⟨B, 0, none⟩)] w fun e w' => e = .returned (.bool true) ∧ w = w' := by
  have c1 := h.c1
  go_enter Tryz.func86, Tryz.ntmps86
  go_wp2
  go_ret
  exact ⟨rfl, rfl⟩

set_option maxHeartbeats 400000 in
theorem there_nil {w : World} :
    Calls Tryz.prog 86 #[.pointer none] w fun e w' => e = .returned (.bool false) ∧ w = w' := by
  go_enter Tryz.func86, Tryz.ntmps86
  go_wp2
  go_ret
  exact ⟨rfl, rfl⟩

set_option maxHeartbeats 400000 in
theorem there_unmade {w : World} {B : Nat} (c1 : w.cell? ⟨B, 1, none⟩ = some (.bool false)) :
    Calls Tryz.prog 86 #[.pointer (some ⟨B, 0, none⟩)] w fun e w' => e = .returned (.bool false) ∧ w = w' := by
  go_enter Tryz.func86, Tryz.ntmps86
  go_wp2
  go_ret
  exact ⟨rfl, rfl⟩

set_option maxHeartbeats 400000 in
theorem place_calls (key : ByteArray) (v : Value) (xs : List Row) (w : World) (hv : Rd Row.enc 2 w v xs) (hr : Rising xs) (hl : xs.length ≤ 1000000000) :
    Calls Tryz.prog 187 #[v, .string key, .func (.func 188) #[] #[]] w
      fun e w' => e = .returned (.tuple #[.int .i64 (posL key xs), .bool (getL key xs).isSome]) ∧ Below w.heap.size w w' := by
  have hcall := fun W (hb : Below w.heap.size w W) B c0 => search_calls key B v xs W (hv.below hb) hr hl c0
  go_enter Tryz.func187, Tryz.ntmps187
  go_wp2_with (go_at_call 231; refine (hcall _ ((Below.refl _ w).alloc (Nat.le_refl _) _) _ (World.cell?_alloc_at (w := w) _ _ w.heap.size 0 rfl)).mono ?_; rintro e w1 ⟨rfl, hb1⟩)
  go_ret2
  exact ⟨rfl, Below.step ((Below.refl _ w).alloc (Nat.le_refl _) _) hb1⟩

set_option maxHeartbeats 400000 in
theorem find_calls {base : Nat} {w : World} {B : Nat} {v : Value} {xs : List Row} (h : MapAt base w B v xs) (hl : xs.length ≤ 1000000000) (key : ByteArray) :
    Calls Tryz.prog 93 #[.pointer (some ⟨B, 0, none⟩), .string key] w
      fun e w' => e = .returned (.tuple #[.int .i64 (posL key xs), .bool (getL key xs).isSome]) ∧ Below w.heap.size w w' := by
  have c0 := h.c0
  have hcall := place_calls key v xs w (h.own.rd row_len) h.rise hl
  go_enter Tryz.func93, Tryz.ntmps93
  go_wp2_with (go_at_call 187; refine hcall.mono ?_; rintro e w1 ⟨rfl, hb1⟩)
  go_ret2
  exact ⟨rfl, hb1⟩

set_option maxHeartbeats 400000 in
theorem ask_calls {base : Nat} {w : World} {B : Nat} {v : Value} {xs : List Row} (h : MapAt base w B v xs) (key : ByteArray) (hk : key.size ≤ 9223372036854775807) :
    Calls Tryz.prog 81 #[.pointer (some ⟨B, 0, none⟩), .string key] w
      fun e w' => e = .returned (.int .i64 (if okKey key then 0 else 1)) ∧ Below w.heap.size w w' := by
  have hcall := check_calls key w hk
  generalize okKey key = b at *
  cases b
  all_goals
    go_enter Tryz.func81, Tryz.ntmps81
    go_wp2_with (first | (go_at_call 86; refine (there_calls h).mono ?_; rintro e w1 ⟨rfl, rfl⟩) | (go_at_call 89; refine hcall.mono ?_; rintro e w1 ⟨rfl, hb1⟩))
    go_ret
    exact ⟨rfl, hb1⟩

set_option maxHeartbeats 400000 in
theorem ask_nil {w : World} (key : ByteArray) :
    Calls Tryz.prog 81 #[.pointer none, .string key] w fun e w' => e = .returned (.int .i64 2) ∧ w = w' := by
  go_enter Tryz.func81, Tryz.ntmps81
  go_wp2_with (go_at_call 86; refine there_nil.mono ?_; rintro e w1 ⟨rfl, rfl⟩)
  go_ret
  exact ⟨rfl, rfl⟩

set_option maxHeartbeats 400000 in
theorem ask_unmade {w : World} {B : Nat} (c1 : w.cell? ⟨B, 1, none⟩ = some (.bool false)) (key : ByteArray) :
    Calls Tryz.prog 81 #[.pointer (some ⟨B, 0, none⟩), .string key] w fun e w' => e = .returned (.int .i64 2) ∧ w = w' := by
  go_enter Tryz.func81, Tryz.ntmps81
  go_wp2_with (go_at_call 86; refine (there_unmade c1).mono ?_; rintro e w1 ⟨rfl, rfl⟩)
  go_ret
  exact ⟨rfl, rfl⟩

set_option maxHeartbeats 400000 in
theorem new_calls (w : World) :
    Calls Tryz.prog 9 #[] w fun e w' => e = .returned (.pointer (some ⟨w.heap.size, 0, none⟩)) ∧ Below w.heap.size w w' ∧ MapAt w.heap.size w' w.heap.size (.slice none 0 0) [] := by
  go_enter Tryz.func9, Tryz.ntmps9
  go_wp2
  go_ret
  exact ⟨rfl, (Below.refl _ w).alloc (Nat.le_refl _) _, alloc_at _ _, .nil _ _ _ _ _, List.Pairwise.nil, by simp [Value.ownBlock], Nat.le_refl _⟩

end Go.Proofs.YtanjgeacmpmjhaaGreatDoor

set_option linter.unusedVariables false
set_option linter.unusedSimpArgs false
namespace Go.Proofs.YtanjgeacmpmjhaaGreatDoor

/-- one pass over those that are there: each that meets is taken in. -/
def Pass (x0 : Span) (out0 : List Span) (k : Nat) (x : Span) (rest : List Span) (again : Bool) : Prop :=
  rest.Sublist (out0.take k) ∧ sle x.f x.t = true ∧ (∀ p c, x.has p c ∨ cov rest p c ↔ x0.has p c ∨ cov (out0.take k) p c) ∧
    (again = false → x = x0 ∧ rest = out0.take k ∧ ∀ o ∈ rest, meet4 x.f x.t o.f o.t = false) ∧ (again = true → rest.length < k)

theorem Pass.start {x : Span} (hx : sle x.f x.t = true) (out : List Span) : Pass x out 0 x [] false :=
  ⟨by simp, hx, fun p c => by simp, fun _ => ⟨rfl, by simp, by simp⟩, fun h => by cases h⟩

theorem Pass.take {x0 x o : Span} {out0 rest : List Span} {k : Nat} {again : Bool} (h : Pass x0 out0 k x rest again) (ho : out0[k]? = some o) (hm : meet4 x.f x.t o.f o.t = true) : Pass x0 out0 (k + 1) (hull x o) rest true := by
  obtain ⟨h1, h2, h3, h4, h5⟩ := h
  obtain ⟨hl, he⟩ := List.getElem?_eq_some_iff.1 ho
  have ht : out0.take (k + 1) = out0.take k ++ [o] := by rw [List.take_succ_eq_append_getElem hl, he]
  refine ⟨?_, hull_full h2, fun p c => ?_, (fun h => by cases h), fun _ => ?_⟩
  · rw [ht]; exact h1.trans (List.sublist_append_left _ _)
  · rw [has_hull2 hm, ht, cov_append, cov_single, ← or_assoc, ← h3 p c, or_right_comm]
  · cases again
    · rw [(h4 rfl).2.1, List.length_take]; omega
    · have := h5 rfl; omega

theorem Pass.keep {x0 x o : Span} {out0 rest : List Span} {k : Nat} {again : Bool} (h : Pass x0 out0 k x rest again) (ho : out0[k]? = some o) (hm : meet4 x.f x.t o.f o.t = false) : Pass x0 out0 (k + 1) x (rest ++ [o]) again := by
  obtain ⟨h1, h2, h3, h4, h5⟩ := h
  obtain ⟨hl, he⟩ := List.getElem?_eq_some_iff.1 ho
  have ht : out0.take (k + 1) = out0.take k ++ [o] := by rw [List.take_succ_eq_append_getElem hl, he]
  refine ⟨?_, h2, fun p c => ?_, fun ha => ?_, fun ha => ?_⟩
  · rw [ht]; exact h1.append (List.Sublist.refl _)
  · rw [ht, cov_append, cov_append, cov_single, ← or_assoc, h3 p c, or_assoc]
  · obtain ⟨e1, e2, e3⟩ := h4 ha
    refine ⟨e1, by rw [ht, e2], fun y hy => ?_⟩
    rcases List.mem_append.1 hy with hy | hy
    · exact e3 y hy
    · rw [List.mem_singleton.1 hy]; exact hm
  · have := h5 ha; simp; omega

/-- all passes: what is there, and the one that is put, have what they had. -/
def Mid (x0 : Span) (out0 : List Span) (x : Span) (out : List Span) : Prop := NF out ∧ sle x.f x.t = true ∧ ∀ p c, x.has p c ∨ cov out p c ↔ x0.has p c ∨ cov out0 p c
theorem Mid.start {x : Span} {out : List Span} (h : NF out) (hx : sle x.f x.t = true) : Mid x out x out := ⟨h, hx, fun _ _ => Iff.rfl⟩
theorem Mid.pass {X0 x0 x : Span} {OUT0 out0 rest : List Span} {again : Bool} (hm : Mid X0 OUT0 x0 out0) (h : Pass x0 out0 out0.length x rest again) : Mid X0 OUT0 x rest ∧ (again = true → rest.length < out0.length) ∧ (again = false → ∀ o ∈ rest, meet4 x.f x.t o.f o.t = false) := by
  obtain ⟨h1, h2, h3, h4, h5⟩ := h
  rw [List.take_length] at h1 h3 h4
  exact ⟨⟨hm.1.sub h1, h2, fun p c => (h3 p c).trans (hm.2.2 p c)⟩, h5, fun ha => (h4 ha).2.2⟩

theorem ins_spec {x : Span} {out : List Span} {k : Nat} (h : NF out) (hx : sle x.f x.t = true) (hno : ∀ o ∈ out, meet4 x.f x.t o.f o.t = false) (hlo : ∀ o ∈ out.take k, slt o.f x.f = true) (hhi : ∀ o, out[k]? = some o → slt o.f x.f = false) :
    NF (out.take k ++ [x] ++ out.drop k) ∧ ∀ p c, cov (out.take k ++ [x] ++ out.drop k) p c ↔ x.has p c ∨ cov out p c := by
  have hlo' : ∀ o ∈ out.take k, slt o.t x.f = true := fun o ho => by
    have hm := hno o (List.mem_of_mem_take ho)
    have hf := h.1 o (List.mem_of_mem_take ho)
    rcases sle_or_slt x.f o.t with hle | hlt
    · rw [meet4_true.2 ⟨hx, hf, hle, sle_trans (sle_of_slt (hlo o ho)) hx⟩] at hm; cases hm
    · exact hlt
  have hhi' : ∀ o ∈ out.drop k, slt x.t o.f = true := fun o ho => by
    have hm := hno o (List.mem_of_mem_drop ho)
    have hf := h.1 o (List.mem_of_mem_drop ho)
    have hge : sle x.f o.f = true := by
      cases hd : out.drop k with
      | nil => rw [hd] at ho; cases ho
      | cons y ys =>
        have hy : out[k]? = some y := by
          have := List.getElem?_drop (xs := out) (i := k) (j := 0)
          rw [hd] at this
          simpa using this.symm
        have hyx := hhi y hy
        rw [hd] at ho
        rcases List.mem_cons.1 ho with rfl | ho
        · exact not_slt.1 hyx
        · have hp : (y :: ys).Pairwise fun x y => slt x.t y.f = true := hd ▸ h.2.sublist (List.drop_sublist k out)
          have := (List.pairwise_cons.1 hp).1 o ho
          exact sle_trans (not_slt.1 hyx) (sle_trans (h.1 y (List.mem_of_mem_drop (hd ▸ List.mem_cons_self ..))) (sle_of_slt this))
    rcases sle_or_slt o.f x.t with hle | hlt
    · rw [meet4_true.2 ⟨hx, hf, sle_trans hge hf, hle⟩] at hm; cases hm
    · exact hlt
  constructor
  · refine ⟨fun y hy => ?_, ?_⟩
    · rcases List.mem_append.1 hy with hy | hy
      · rcases List.mem_append.1 hy with hy | hy
        · exact h.1 y (List.mem_of_mem_take hy)
        · rw [List.mem_singleton.1 hy]; exact hx
      · exact h.1 y (List.mem_of_mem_drop hy)
    · rw [List.pairwise_append, List.pairwise_append]
      refine ⟨⟨h.2.sublist (List.take_sublist k out), List.pairwise_singleton .., fun a ha b hb => by rw [List.mem_singleton.1 hb]; exact hlo' a ha⟩, h.2.sublist (List.drop_sublist k out), fun a ha b hb => ?_⟩
      rcases List.mem_append.1 ha with ha | ha
      · have := slt_of_slt_sle (hlo' a ha) hx
        exact slt_trans this (hhi' b hb)
      · rw [List.mem_singleton.1 ha]; exact hhi' b hb
  · intro p c
    rw [cov_append, cov_append, cov_single]
    have : cov out p c ↔ cov (out.take k) p c ∨ cov (out.drop k) p c := by rw [← cov_append, List.take_append_drop]
    rw [this]
    constructor
    · rintro ((h | h) | h)
      · exact .inr (.inl h)
      · exact .inl h
      · exact .inr (.inr h)
    · rintro (h | h | h)
      · exact .inl (.inr h)
      · exact .inl (.inl h)
      · exact .inr h

/-- what is there behind so many of them. -/
def Joined (l : List Span) (i : Nat) (out : List Span) : Prop := NF out ∧ ∀ p c, cov out p c ↔ cov (l.take i) p c
theorem Joined.start (l : List Span) : Joined l 0 [] := ⟨NF.nil, fun p c => by simp⟩
theorem Joined.skip {l out : List Span} {i : Nat} {x : Span} (h : Joined l i out) (hx : l[i]? = some x) (hn : sle x.f x.t = false) : Joined l (i + 1) out := by
  obtain ⟨hl, he⟩ := List.getElem?_eq_some_iff.1 hx
  refine ⟨h.1, fun p c => ?_⟩
  rw [h.2, List.take_succ_eq_append_getElem hl, he, cov_append, cov_single]
  exact ⟨.inl, fun hh => hh.elim id fun hb => (no_has (not_sle.1 hn) p c hb).elim⟩
theorem Joined.ins {l out0 out : List Span} {i k : Nat} {x0 x : Span} (h : Joined l i out0) (hx : l[i]? = some x0) (hm : Mid x0 out0 x out) (hno : ∀ o ∈ out, meet4 x.f x.t o.f o.t = false) (hlo : ∀ o ∈ out.take k, slt o.f x.f = true) (hhi : ∀ o, out[k]? = some o → slt o.f x.f = false) :
    Joined l (i + 1) (out.take k ++ [x] ++ out.drop k) := by
  obtain ⟨hl, he⟩ := List.getElem?_eq_some_iff.1 hx
  obtain ⟨n1, n2⟩ := ins_spec hm.1 hm.2.1 hno hlo hhi
  refine ⟨n1, fun p c => ?_⟩
  rw [n2, hm.2.2, h.2, List.take_succ_eq_append_getElem hl, he, cov_append, cov_single]
  exact or_comm
theorem Joined.done {l out : List Span} (h : Joined l l.length out) : out = joinF l := joinF_of h.1 fun p c => by rw [h.2, List.take_length]

end Go.Proofs.YtanjgeacmpmjhaaGreatDoor

set_option linter.unusedVariables false
set_option linter.unusedSimpArgs false
namespace Go.Proofs.YtanjgeacmpmjhaaGreatDoor
open Go.RowKit

/-- May an op be? -/
def okOp (q : Int) (k t : ByteArray) (d : Int) : Bool :=
  decide (1 ≤ q) && decide (q ≤ 4) && okKey k && (if q = 4 then okKey t else t.toList.isEmpty) && (d == 0 || q == 2)

/-- An op that lies in a cell of its own. -/
def OpB (w : World) (B : Nat) (q : Int) (k t : ByteArray) (d : Int) : Prop := w.heap[B]? = some (.cells #[.int .u8 q, .string k, .string t, .int .u32 d] 172 (0, 0))
theorem OpB.alloc (w : World) (q : Int) (k t : ByteArray) (d : Int) : OpB (w.alloc (.cells #[.int .u8 q, .string k, .string t, .int .u32 d] 172)) w.heap.size q k t d := alloc_at _ _
theorem OpB.below {w w' : World} {B : Nat} {q : Int} {k t : ByteArray} {d : Int} (h : OpB w B q k t d) (hb : Below w.heap.size w w') : OpB w' B q k t d :=
  (hb.block B (Array.getElem?_eq_some_iff.1 h).1).trans h
theorem OpB.cells {w : World} {B : Nat} {q : Int} {k t : ByteArray} {d : Int} (h : OpB w B q k t d) :
    w.cell? ⟨B, 0, none⟩ = some (.int .u8 q) ∧ w.cell? ⟨B, 1, none⟩ = some (.string k) ∧ w.cell? ⟨B, 2, none⟩ = some (.string t) ∧ w.cell? ⟨B, 3, none⟩ = some (.int .u32 d) := by
  unfold OpB at h
  simp [World.cell?, h]

set_option maxHeartbeats 1600000 in
set_option maxRecDepth 100000 in
theorem opcheck_calls (q : Int) (k t : ByteArray) (d : Int) (hk : k.size ≤ 9223372036854775807) (ht : t.size ≤ 9223372036854775807) (w : World) :
    Calls Tryz.prog 153 #[.agg #[.int .u8 q, .string k, .string t, .int .u32 d]] w fun e w' => e = .returned (.bool (okOp q k t d)) ∧ Below w.heap.size w w' := by
  have hck := fun W => check_calls k W hk
  have hct := fun W => check_calls t W ht
  unfold okOp
  have hB0 := Lib.hid (OpB.alloc w q k t d)
  have hw0 : Below w.heap.size w (w.alloc (.cells #[.int .u8 q, .string k, .string t, .int .u32 d] 172)) := (Below.refl _ w).alloc (Nat.le_refl _) _
  by_cases h4 : q = 4
  · have h4b : (q == 4) = true := by simpa using h4
    have h1 : 1 ≤ q := by omega
    have hq4 : q ≤ 4 := by omega
    have h2 : (q == 2) = false := by subst h4; rfl
    rw [if_pos h4]
    clear h4
    generalize okKey k = bk at *
    generalize okKey t = bt at *
    cases hd : d == 0 <;> cases bk <;> cases bt
    all_goals
      go_enter Tryz.func153, Tryz.ntmps153
      go_wp2_with (go_at_call 89; first | (have := hB1; refine (hck w1).mono ?_; rintro e w2 ⟨rfl, hb2⟩; obtain ⟨v0, v1, v2, v3⟩ := (hB1.out.below hb2).cells; have hw2 := Below.step hw1 hb2) | (refine (hct _).mono ?_; rintro e w1 ⟨rfl, hb1⟩; have hB1 := Lib.hid (hB0.out.below hb1); obtain ⟨u0, u1, u2, u3⟩ := hB1.out.cells; have hw1 := Below.step hw0 hb1))
      go_ret
      first
        | exact ⟨ret_bool (by simp [h1, hq4, h2]), hw2⟩
        | exact ⟨ret_bool (by simp [h1, hq4, h2]), hw1⟩
  · have h4b : (q == 4) = false := by simpa using h4
    rw [if_neg h4]
    generalize okKey k = bk at *
    clear hct
    by_cases h1 : 1 ≤ q
    · by_cases hq4 : q ≤ 4
      · cases ht0 : t.toList.isEmpty <;> cases hd : d == 0 <;> cases h2 : q == 2 <;> cases bk
        all_goals
          go_enter Tryz.func153, Tryz.ntmps153
          go_wp2_with (go_at_call 89; refine (hck _).mono ?_; rintro e w2 ⟨rfl, hb2⟩; obtain ⟨v0, v1, v2, v3⟩ := (hB0.out.below hb2).cells; have hw2 := Below.step hw0 hb2)
          go_ret
          exact ⟨ret_bool (by simp [h1, hq4]), hw2⟩
      · go_enter Tryz.func153, Tryz.ntmps153
        go_wp2_with (go_at_call 89; refine (hck _).mono ?_; rintro e w2 ⟨rfl, hb2⟩; obtain ⟨v0, v1, v2, v3⟩ := (hB0.out.below hb2).cells; have hw2 := Below.step hw0 hb2)
        go_ret
        have e4 : decide (q ≤ 4) = false := by simpa using hq4
        exact ⟨ret_bool (by simp only [e4, Bool.and_false, Bool.false_and]), hw0⟩
    · go_enter Tryz.func153, Tryz.ntmps153
      go_wp2_with (go_at_call 89; refine (hck _).mono ?_; rintro e w2 ⟨rfl, hb2⟩; obtain ⟨v0, v1, v2, v3⟩ := (hB0.out.below hb2).cells; have hw2 := Below.step hw0 hb2)
      go_ret
      have e1 : decide (1 ≤ q) = false := by simpa using h1
      exact ⟨ret_bool (by simp only [e1, Bool.and_false, Bool.false_and]), hw0⟩

end Go.Proofs.YtanjgeacmpmjhaaGreatDoor

set_option linter.unusedVariables false
set_option linter.unusedSimpArgs false
set_option linter.unusedSectionVars false
namespace Go.Proofs.YtanjgeacmpmjhaaGreatDoor
open Go.RowKit

abbrev okS2 (x : Span) : Prop := x.f.size ≤ 9223372036854775807 ∧ x.t.size ≤ 9223372036854775807
theorem hull_ok {x y : Span} (hx : okS2 x) (hy : okS2 y) : okS2 (hull x y) := by
  unfold hull smin smax
  refine ⟨?_, ?_⟩
  · simp only; split
    · exact hy.1
    · exact hx.1
  · simp only; split
    · exact hy.2
    · exact hx.2

set_option maxHeartbeats 400000 in
theorem rjoin_calls (a b c d : ByteArray) (w : World) (ha : a.size ≤ 9223372036854775807) (hb : b.size ≤ 9223372036854775807) (hc : c.size ≤ 9223372036854775807) (hd : d.size ≤ 9223372036854775807) :
    Calls Tryz.prog 225 #[.agg #[.string a, .string b], .agg #[.string c, .string d]] w fun e w' => e = .returned (.agg #[.string (hull ⟨a, b⟩ ⟨c, d⟩).f, .string (hull ⟨a, b⟩ ⟨c, d⟩).t]) ∧ Below w.heap.size w w' := by
  have b1 : Below w.heap.size w (w.alloc (.cells #[.string a, .string b] 47)) := (Below.refl _ w).alloc (Nat.le_refl _) _
  have b2 : Below (w.heap.size + 1) (w.alloc (.cells #[.string a, .string b] 47)) ((w.alloc (.cells #[.string a, .string b] 47)).alloc (.cells #[.string c, .string d] 47)) := (Below.refl _ _).alloc (by simp) _
  have b3 : Below (w.heap.size + 1 + 1) ((w.alloc (.cells #[.string a, .string b] 47)).alloc (.cells #[.string c, .string d] 47)) (((w.alloc (.cells #[.string a, .string b] 47)).alloc (.cells #[.string c, .string d] 47)).alloc (.cells #[.string ⟨#[]⟩, .string ⟨#[]⟩] 47)) := (Below.refl _ _).alloc (by simp) _
  have o0 := (b3.block w.heap.size (by omega)).trans ((b2.block w.heap.size (by omega)).trans (alloc_new w (.cells #[.string a, .string b] 47)))
  have o1 := (b3.block (w.heap.size + 1) (by omega)).trans (alloc_newH (w := w.alloc (.cells #[.string a, .string b] 47)) (by simp) (.cells #[.string c, .string d] 47))
  have o2 : (((w.alloc (.cells #[.string a, .string b] 47)).alloc (.cells #[.string c, .string d] 47)).alloc (.cells #[.string ⟨#[]⟩, .string ⟨#[]⟩] 47)).heap[w.heap.size + 1 + 1]? = some (.cells #[.string ⟨#[]⟩, .string ⟨#[]⟩] 47 (0, 0)) := alloc_newH (by simp) _
  have hB : Below w.heap.size w (((w.alloc (.cells #[.string a, .string b] 47)).alloc (.cells #[.string c, .string d] 47)).alloc (.cells #[.string ⟨#[]⟩, .string ⟨#[]⟩] 47)) := (b1.trans (b2.mono (by omega))).trans (b3.mono (by omega))
  have hS : (((w.alloc (.cells #[.string a, .string b] 47)).alloc (.cells #[.string c, .string d] 47)).alloc (.cells #[.string ⟨#[]⟩, .string ⟨#[]⟩] 47)).heap.size = w.heap.size + 3 := by simp
  clear b1 b2 b3
  generalize hW : (((w.alloc (.cells #[.string a, .string b] 47)).alloc (.cells #[.string c, .string d] 47)).alloc (.cells #[.string ⟨#[]⟩, .string ⟨#[]⟩] 47)) = W at *
  have HW := Lib.hid hW
  clear hW
  have hlast : ∀ (W' : World) (x y : ByteArray), Below w.heap.size w W' → W'.heap[w.heap.size + 1 + 1]? = some (.cells #[.string ⟨#[]⟩, .string ⟨#[]⟩] 47 (0, 0)) →
      ((W'.setCell ⟨w.heap.size + 1 + 1, 0, none⟩ (.string x)).setCell ⟨w.heap.size + 1 + 1, 1, none⟩ (.string y)).heap[w.heap.size + 1 + 1]? = some (.cells #[.string x, .string y] 47 (0, 0)) ∧
      Below w.heap.size w ((W'.setCell ⟨w.heap.size + 1 + 1, 0, none⟩ (.string x)).setCell ⟨w.heap.size + 1 + 1, 1, none⟩ (.string y)) := fun W' x y hb ho =>
    ⟨Joins.block_setCell (i := 1) (Joins.block_setCell (i := 0) ho (.string x)) (.string y), (hb.setCell (by simp; omega) _).setCell (by simp; omega) _⟩
  have HLAST := Lib.hid hlast
  clear hlast
  have l1 := fun W' => less_calls c a W' hc ha
  have l2 := fun W' => less_calls b d W' hb hd
  have n01 : ¬ w.heap.size = w.heap.size + 1 := by omega
  have n10 : ¬ w.heap.size + 1 = w.heap.size := by omega
  have n02 : ¬ w.heap.size = w.heap.size + 1 + 1 := by omega
  have n20 : ¬ w.heap.size + 1 + 1 = w.heap.size := by omega
  have n12 : ¬ w.heap.size + 1 = w.heap.size + 1 + 1 := by omega
  have n21 : ¬ w.heap.size + 1 + 1 = w.heap.size + 1 := by omega
  unfold hull smin smax
  simp only
  cases h1 : slt c a <;> cases h2 : slt b d
  all_goals
    simp only [h1, h2] at l1 l2
    go_enter Tryz.func225, Tryz.ntmps225
    go_wp2_with fail
    rw [HW.out]
    clear HW
    have a0 := heap_cell o0 0
    have a1 := heap_cell o0 1
    have a2 := heap_cell o1 0
    have a3 := heap_cell o1 1
    simp only [List.getElem?_toArray, List.getElem?_cons_zero, List.getElem?_cons_succ] at a0 a1 a2 a3
    go_wp2_with (first
      | (go_at_call 181; refine (l1 _).mono ?_; rintro e w1 ⟨rfl, hb1⟩; clear l1; replace o0 := (hb1.block _ (by omega)).trans o0; replace o1 := (hb1.block _ (by omega)).trans o1; replace o2 := (hb1.block _ (by omega)).trans o2; replace hB := Below.step hB hb1; have hs1 : w.heap.size + 3 ≤ w1.heap.size := (by have := hb1.size; omega)
         clear hb1 hS a0 a1 a2 a3; have a0 := heap_cell o0 0; have a1 := heap_cell o0 1; have a2 := heap_cell o1 0; have a3 := heap_cell o1 1; simp only [List.getElem?_toArray, List.getElem?_cons_zero, List.getElem?_cons_succ] at a0 a1 a2 a3; have f0 := heap_free o0 0; have f1 := heap_free o0 1)
      | (go_at_call 181; refine (l2 _).mono ?_; rintro e w2 ⟨rfl, hb2⟩; clear l2
         have p0 := (hb2.block w.heap.size (by first | omega | (simp; omega))).trans (by first | exact o0 | exact Joins.block_setCell (i := 0) o0 (.string c))
         have p1 := (hb2.block (w.heap.size + 1) (by first | omega | (simp; omega))).trans (by first | exact o1 | exact (Turn.setCell w1 w.heap.size 0 (.string c)).heap o1 (by omega))
         have p2 := (hb2.block (w.heap.size + 1 + 1) (by first | omega | (simp; omega))).trans (by first | exact o2 | exact (Turn.setCell w1 w.heap.size 0 (.string c)).heap o2 (by omega))
         have hB2 : Below w.heap.size w w2 := Below.step (by first | exact hB | exact hB.setCell (Nat.le_refl _) _) hb2
         clear hb2 o0 o1 o2 hB a0 a1 a2 a3 f0 f1
         try simp only [List.setIfInBounds_toArray, List.set_cons_zero] at p0
         have a0 := heap_cell p0 0; have a1 := heap_cell p0 1; have a2 := heap_cell p1 0; have a3 := heap_cell p1 1; simp only [List.getElem?_toArray, List.getElem?_cons_zero, List.getElem?_cons_succ] at a0 a1 a2 a3; have f1 := heap_free p0 1; have f2 := heap_free p2 0; have f3 := heap_free p2 1; have r0 := heap_cell p2 0; have r1 := heap_cell p2 1; simp only [List.getElem?_toArray, List.getElem?_cons_zero, List.getElem?_cons_succ] at r0 r1))
    first
      | (have h2' : slt b d = false := h2
         have hq := fun x y => HLAST.out _ x y hB2 p2
         exact bodyPost_ret (results_cell_row rfl _ _ (w.heap.size + 1 + 1) _ _ _ _ rfl (hq _ _).1 Tryz.underlying47 rfl (by kernel_rfl)) rfl ⟨rfl, (hq _ _).2⟩)
      | (have hq := fun x y => HLAST.out _ x y (hB2.setCell (Nat.le_refl _) (.string d) (p := ⟨w.heap.size, 1, none⟩)) ((Turn.setCell w2 w.heap.size 1 (.string d)).heap p2 (by omega))
         exact bodyPost_ret (results_cell_row rfl _ _ (w.heap.size + 1 + 1) _ _ _ _ rfl (hq _ _).1 Tryz.underlying47 rfl (by kernel_rfl)) rfl ⟨rfl, (hq _ _).2⟩)

end Go.Proofs.YtanjgeacmpmjhaaGreatDoor

set_option linter.unusedVariables false
set_option linter.unusedSimpArgs false
namespace Go.Proofs.YtanjgeacmpmjhaaGreatDoor
open Go.RowKit

theorem insL_get {α : Type} (xs : List α) (i : Nat) (x : α) (h : i ≤ xs.length) : (insL xs i x)[i]? = some x := by
  unfold insL
  rw [List.getElem?_append_right (by simp; omega)]
  simp [show i - min i xs.length = 0 by omega]

/-- The map's row is another one from now on. -/
theorem MapAt.store {base : Nat} {w : World} {B : Nat} {v v' : Value} {ys : List Row} (ho : w.heap[B]? = some (.cells #[v, .bool true] 124 (0, 0))) (hown : Own Row.enc 2 44 base w v' ys) (hr : Rising ys) (hap : v'.ownBlock ≠ some B) (hlow : base ≤ B) (u : Value) :
    MapAt base (w.setCell ⟨B, 0, none⟩ v') B v' ys ∧ Step w (w.setCell ⟨B, 0, none⟩ v') B u u := by
  rw [setCell_eq_setRow w B 0 _ _ (0, 0) v' ho]
  have hg := grownBy_setRow w B (#[v, Value.bool true].setIfInBounds 0 v')
  exact ⟨⟨setRow_heap _ _ _ _ _ _ ho, hown.kept' hg (.inr hap), hr, hap, hlow⟩, hg.os, hg.tape, hg.output, hg.size, fun k hk hB _ => hg.block k hk (fun e => hB (by injection e)), fun _ h => .inl h⟩

theorem MapAt.value {base : Nat} {w : World} {B g n cap : Nat} {ys : List Row} (h : MapAt base w B (.slice (some ⟨g, 0, none⟩) n cap) ys) (i : Nat) (key : ByteArray) (m m' : Int) (hy : ys[i]? = some ⟨key, m⟩) (hr : Rising (ys.set i ⟨key, m'⟩)) :
    MapAt base (w.setCell ⟨g, i * 2 + 1, none⟩ (.int .u32 m')) B (.slice (some ⟨g, 0, none⟩) n cap) (ys.set i ⟨key, m'⟩) ∧ Step w (w.setCell ⟨g, i * 2 + 1, none⟩ (.int .u32 m')) B (.slice (some ⟨g, 0, none⟩) n cap) (.slice (some ⟨g, 0, none⟩) n cap) := by
  obtain ⟨h1, h2⟩ := h.own.cell row_len i ⟨key, m⟩ ⟨key, m'⟩ 1 (.int .u32 m') hy rfl (by decide)
  have hne : B ≠ g := fun e => h.apart (by rw [e]; rfl)
  refine ⟨⟨(h2 B hne).trans h.obj, h1, hr, h.apart, h.low⟩, ?_⟩
  obtain ⟨g', cap', cur, hv, _, hg, _⟩ := h.own.some_block (by have := (List.getElem?_eq_some_iff.1 hy).1; omega)
  injection hv with e1 e2 e3
  injection e1 with e1
  injection e1 with e1
  subst e1
  rw [setCell_eq_setRow w g (i * 2 + 1) cur _ (0, 0) _ hg]
  have hg' := grownBy_setRow w g (cur.setIfInBounds (i * 2 + 1) (.int .u32 m'))
  exact ⟨hg'.os, hg'.tape, hg'.output, hg'.size, fun k hk _ hv => hg'.block k hk (fun e => hv e.symm), fun _ h => .inl h⟩

theorem Step.of_grown {w w1 w3 : World} {B : Nat} {v v3 : Value} (hb : Below w.heap.size w w1) (hg : w1.grownBy w3 v.ownBlock) (hat : v3.ownBlock = v.ownBlock ∨ ∃ g, v3.ownBlock = some g ∧ w1.heap.size ≤ g) : Step w w3 B v v3 :=
  ⟨hg.os.trans hb.os, hg.tape.trans hb.tape, hg.output.trans hb.output, Nat.le_trans hb.size hg.size, fun k hk _ hv => (hg.block k (Nat.lt_of_lt_of_le hk hb.size) (fun e => hv e.symm)).trans (hb.block k hk),
    fun g e => by
      rcases hat with h | ⟨g', h, hle⟩
      · exact .inl (h ▸ e)
      · rw [h] at e; injection e with e; subst e; exact .inr (Nat.le_trans hb.size hle)⟩

set_option maxHeartbeats 400000 in
theorem set_calls {base : Nat} {w : World} {B : Nat} {v : Value} {xs : List Row} (h : MapAt base w B v xs) (hl : xs.length ≤ 1000000) (key : ByteArray) (n : Int) :
    Calls Tryz.prog 82 #[.pointer (some ⟨B, 0, none⟩), .string key, .int .u32 n] w
      fun e w' => ∃ v', e = .returned (.tuple #[]) ∧ MapAt base w' B v' (putL key n xs) ∧ Step w w' B v v' := by
  have hfind := find_calls h (by omega) key
  have hrise := putL_rising (k := key) (v := n) h.rise
  cases hget : getL key xs with
  | none =>
    have hput0 := put_at key 0 xs hget h.rise
    have hput := put_at key n xs hget h.rise
    have hrise0 := putL_rising (k := key) (v := 0) h.rise
    rw [hput0] at hrise0
    have hple := posL_le key xs
    have hset : putL key n xs = (insL xs (posL key xs) ⟨key, 0⟩).set (posL key xs) ⟨key, n⟩ := by
      rw [hput]
      unfold insL
      rw [List.set_append_right _ _ (by rw [List.length_take]; omega), List.length_take, Nat.min_eq_left hple, Nat.sub_self, List.set_cons_zero]
    have hins := insL_get xs _ (⟨key, 0⟩ : Row) hple
    have hlen := insL_length xs _ (⟨key, 0⟩ : Row) hple
    change Rising (insL xs (posL key xs) ⟨key, 0⟩) at hrise0
    rw [hset] at hrise ⊢
    clear hput hput0 hset
    have hraw := fun (w1 : World) (h1 : MapAt base w1 B v xs) => insert_calls base (posL key xs) w1.heap.size v xs ⟨key, 0⟩ (w1.alloc (.cells (Row.enc ⟨key, 0⟩).toArray 44)) (h1.own.below ((Below.refl _ w1).alloc (Nat.le_refl _) _)) hple (by omega) (alloc_at _ _) (fun e => by have := h1.own.lt _ e; omega) (by have := h1.low; have := h1.lt; simp; omega)
    generalize insL xs (posL key xs) ⟨key, 0⟩ = ys at *
    rw [hget] at hfind
    have hcalls : ∀ w1 : World, MapAt base w1 B v xs → Calls Tryz.prog 180 #[v, .int .i64 (posL key xs), .slice (some ⟨w1.heap.size, 0, none⟩) 1 1] (w1.alloc (.cells (Row.enc ⟨key, 0⟩).toArray 44)) fun e w3 =>
      ∃ g cap, e = .returned (.slice (some ⟨g, 0, none⟩) ys.length cap) ∧ ys.length ≤ cap ∧ cap ≤ maxLen ∧ w3.cell? ⟨B, 0, none⟩ = some v ∧ w3.frozen? ⟨B, 0, none⟩ = false ∧ w3.cell? ⟨g, posL key xs * 2 + 1, none⟩ = some (.int .u32 0) ∧ w3.frozen? ⟨g, posL key xs * 2 + 1, none⟩ = false ∧ g ≠ B ∧
      MapAt base (w3.setCell ⟨B, 0, none⟩ (.slice (some ⟨g, 0, none⟩) ys.length cap)) B (.slice (some ⟨g, 0, none⟩) ys.length cap) ys ∧ Step w1 (w3.setCell ⟨B, 0, none⟩ (.slice (some ⟨g, 0, none⟩) ys.length cap)) B v (.slice (some ⟨g, 0, none⟩) ys.length cap) := by
      intro w1 h1
      refine (hraw w1 h1).mono ?_
      rintro e w3 ⟨v3, rfl, own3, gr3, hat3⟩
      obtain ⟨g, cap, cur, rfl, hcap, hcm, hg3, hx3⟩ := own3.lies row_len _ _ hins
      have hlt1 := h1.lt
      have hgB : g ≠ B := fun e => by
        subst e
        rcases hat3 with e | ⟨g', e, hle⟩
        · exact h1.apart (e ▸ rfl)
        · injection e with e
          subst e
          simp at hle
          omega
      have hb1 : Below w1.heap.size w1 (w1.alloc (.cells (Row.enc ⟨key, 0⟩).toArray 44)) := (Below.refl _ w1).alloc (Nat.le_refl _) _
      have s3 : Step w1 w3 B v (.slice (some ⟨g, 0, none⟩) ys.length cap) := .of_grown hb1 gr3 hat3
      have hB3 : w3.heap[B]? = some (.cells #[v, .bool true] 124 (0, 0)) :=
        (gr3.block B (Nat.lt_of_lt_of_le hlt1 hb1.size) (fun e => h1.apart e.symm)).trans ((hb1.block B hlt1).trans h1.obj)
      obtain ⟨h4, s4⟩ := MapAt.store hB3 own3 hrise0 (fun e => hgB (by injection e)) h1.low (.slice (some ⟨g, 0, none⟩) ys.length cap)
      exact ⟨g, cap, rfl, hcap, hcm, by simp [World.cell?, hB3], by simp [World.frozen?, hB3], by simp [World.cell?, hg3, hx3 1 _ rfl], by simp [World.frozen?, hg3], hgB, h4, s3.trans s4⟩
    go_enter Tryz.func82, Tryz.ntmps82
    go_wp2_with (first
      | (go_at_call 93; refine hfind.mono ?_; rintro e w1 ⟨rfl, hb1⟩; have h1 := h.below hb1; have c0 := h1.c0; have f0 := h1.f0)
      | (go_at_call 180; refine (hcalls _ h1).mono ?_; rintro e w3 ⟨g, cap, rfl, hcap, hcm, c3, f3, c5, f5, hgB, h4, s4⟩))
    go_end0
    rw [hlen] at h4 s4
    obtain ⟨h5, s5⟩ := h4.value _ key 0 n hins hrise
    exact ⟨_, rfl, h5, (Step.of_below hb1 B v).trans (s4.trans s5)⟩
  | some u =>
    obtain ⟨hlt, ⟨x, hx, hxk, hxv⟩, hput, _⟩ := put_over key n xs u hget h.rise
    obtain ⟨xk, xv⟩ := x
    simp only at hxk hxv
    subst hxk hxv
    rw [hput] at hrise ⊢
    rw [hget] at hfind
    obtain ⟨g, cap, cur, rfl, hcap, hcm, hg, hx3⟩ := h.own.lies row_len _ _ hx
    have c5 : w.cell? ⟨g, posL xk xs * 2 + 1, none⟩ = some (.int .u32 xv) := by simp [World.cell?, hg, hx3 1 _ rfl]
    have hf5 : ∀ w1, Below w.heap.size w w1 → w1.frozen? ⟨g, posL xk xs * 2 + 1, none⟩ = false := fun w1 hb => by
      have := (hb.block g (Array.getElem?_eq_some_iff.1 hg).1).trans hg
      simp [World.frozen?, this]
    clear hput
    go_enter Tryz.func82, Tryz.ntmps82
    go_wp2_with (go_at_call 93; refine hfind.mono ?_; rintro e w1 ⟨rfl, hb1⟩; have h1 := h.below hb1; have c0 := h1.c0; have f0 := h1.f0; have c6 := Below.cell_some hb1 c5; have f6 := hf5 _ hb1)
    go_end0
    obtain ⟨h5, s5⟩ := h1.value _ xk xv n hx hrise
    exact ⟨_, rfl, h5, (Step.of_below hb1 B _).trans s5⟩

end Go.Proofs.YtanjgeacmpmjhaaGreatDoor

set_option linter.unusedVariables false
set_option linter.unusedSimpArgs false
set_option linter.unusedSectionVars false
namespace Go.Proofs.YtanjgeacmpmjhaaGreatDoor
open Go.RowKit

set_option maxHeartbeats 1600000 in
set_option maxRecDepth 100000 in
/-- The reference's check of an op. -/
theorem rcheck02_calls (q : Int) (k t : ByteArray) (d : Int) (hk : k.size ≤ 9223372036854775807) (ht : t.size ≤ 9223372036854775807) (w : World) :
    Calls Tryz.prog 161 #[.agg #[.int .u8 q, .string k, .string t, .int .u32 d]] w fun e w' => e = .returned (.bool (okOp q k t d)) ∧ Below w.heap.size w w' := by
  have hck := fun W => rcheck_calls k W hk
  have hct := fun W => rcheck_calls t W ht
  unfold okOp
  have hB0 := Lib.hid (OpB.alloc w q k t d)
  have hw0 : Below w.heap.size w (w.alloc (.cells #[.int .u8 q, .string k, .string t, .int .u32 d] 172)) := (Below.refl _ w).alloc (Nat.le_refl _) _
  generalize okKey k = bk at *
  generalize okKey t = bt at *
  cases bk
  · simp only [Bool.and_false, Bool.false_and]
    go_enter Tryz.func161, Tryz.ntmps161
    go_wp2_with (go_at_call 83; refine (hck _).mono ?_; rintro e w1 ⟨rfl, hb1⟩; have hB1 := Lib.hid (hB0.out.below hb1); obtain ⟨u0, u1, u2, u3⟩ := hB1.out.cells; have hw1 := Below.step hw0 hb1)
    go_ret
    exact ⟨rfl, hw1⟩
  by_cases h4 : q = 4
  · subst h4
    cases hd : d == 0 <;> cases bt
    all_goals
      go_enter Tryz.func161, Tryz.ntmps161
      go_wp2_with (go_at_call 83; first | (have := hB1; refine (hct w1).mono ?_; rintro e w2 ⟨rfl, hb2⟩; obtain ⟨v0, v1, v2, v3⟩ := (hB1.out.below hb2).cells; have hw2 := Below.step hw1 hb2) | (refine (hck _).mono ?_; rintro e w1 ⟨rfl, hb1⟩; have hB1 := Lib.hid (hB0.out.below hb1); obtain ⟨u0, u1, u2, u3⟩ := hB1.out.cells; have hw1 := Below.step hw0 hb1))
      go_ret
      exact ⟨ret_bool (by simp), hw2⟩
  clear hct
  rw [if_neg h4]
  have h4b : (q == 4) = false := by simpa using h4
  by_cases h1 : q = 1
  · subst h1
    cases hd : d == 0 <;> cases ht0 : t.toList.isEmpty
    all_goals
      go_enter Tryz.func161, Tryz.ntmps161
      go_wp2_with (go_at_call 83; refine (hck _).mono ?_; rintro e w1 ⟨rfl, hb1⟩; have hB1 := Lib.hid (hB0.out.below hb1); obtain ⟨u0, u1, u2, u3⟩ := hB1.out.cells; have hw1 := Below.step hw0 hb1)
      go_ret
      exact ⟨ret_bool (by simp), hw1⟩
  have h1b : (q == 1) = false := by simpa using h1
  by_cases h3 : q = 3
  · subst h3
    cases hd : d == 0 <;> cases ht0 : t.toList.isEmpty
    all_goals
      go_enter Tryz.func161, Tryz.ntmps161
      go_wp2_with (go_at_call 83; refine (hck _).mono ?_; rintro e w1 ⟨rfl, hb1⟩; have hB1 := Lib.hid (hB0.out.below hb1); obtain ⟨u0, u1, u2, u3⟩ := hB1.out.cells; have hw1 := Below.step hw0 hb1)
      go_ret
      exact ⟨ret_bool (by simp), hw1⟩
  have h3b : (q == 3) = false := by simpa using h3
  by_cases h2 : q = 2
  · subst h2
    cases ht0 : t.toList.isEmpty
    all_goals
      go_enter Tryz.func161, Tryz.ntmps161
      go_wp2_with (go_at_call 83; refine (hck _).mono ?_; rintro e w1 ⟨rfl, hb1⟩; have hB1 := Lib.hid (hB0.out.below hb1); obtain ⟨u0, u1, u2, u3⟩ := hB1.out.cells; have hw1 := Below.step hw0 hb1)
      go_ret
      exact ⟨ret_bool (by simp), hw1⟩
  have h2b : (q == 2) = false := by simpa using h2
  have hno : (decide (1 ≤ q) && decide (q ≤ 4)) = false := by
    rw [Bool.eq_false_iff]; simp only [ne_eq, Bool.and_eq_true, decide_eq_true_eq]; omega
  rw [hno]
  go_enter Tryz.func161, Tryz.ntmps161
  go_wp2_with (go_at_call 83; refine (hck _).mono ?_; rintro e w1 ⟨rfl, hb1⟩; have hB1 := Lib.hid (hB0.out.below hb1); obtain ⟨u0, u1, u2, u3⟩ := hB1.out.cells; have hw1 := Below.step hw0 hb1)
  go_ret
  exact ⟨ret_bool (by simp), hw1⟩

set_option maxHeartbeats 400000 in
/-- The reference's span of an op. -/
theorem rof_calls (q : Int) (k t : ByteArray) (d : Int) (w : World) :
    Calls Tryz.prog 162 #[.agg #[.int .u8 q, .string k, .string t, .int .u32 d]] w fun e w' => e = .returned (.agg #[.string k, .string (spanOf q k t)]) ∧ Below w.heap.size w w' := by
  unfold spanOf
  by_cases hq : q = 4
  · rw [if_pos hq]
    subst hq
    go_enter Tryz.func162, Tryz.ntmps162
    go_wp2
    refine bodyPost_ret (v := .agg #[.string k, .string t]) (by simp [results, Tryz.results162, go_sem]) rfl ⟨rfl, ?_⟩
    exact ((Below.refl _ _).alloc (Nat.le_refl _) _).alloc (by simp) _
  · have hb2 : (q == 4) = false := by simpa using hq
    rw [if_neg hq]
    go_enter Tryz.func162, Tryz.ntmps162
    go_wp2
    refine bodyPost_ret (v := .agg #[.string k, .string k]) (by simp [results, Tryz.results162, go_sem]) rfl ⟨rfl, ?_⟩
    exact ((Below.refl _ _).alloc (Nat.le_refl _) _).alloc (by simp) _

end Go.Proofs.YtanjgeacmpmjhaaGreatDoor
