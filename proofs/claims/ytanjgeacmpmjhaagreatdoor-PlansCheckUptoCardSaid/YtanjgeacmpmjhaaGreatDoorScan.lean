import Derived.RangeFuncNested
import Derived.RangeFuncBound
import Derived.RangeFuncCalls
import Derived.RangeFuncLeaves
import Derived.OwnWalkIn
import Derived.TacticsInMore
import Derived.LoopNIn
import Derived.LoopIn
import Derived.Test.YtanjgeacmpmjhaaGreatDoorMgPlansCheckUpto19
import Derived.Test.YtanjgeacmpmjhaaGreatDoorMgPlansCheckUpto2
set_option linter.unusedVariables false
set_option linter.unusedSimpArgs false
namespace Go.Proofs.YtanjgeacmpmjhaaGreatDoor
open Go.RowKit Go.Shelf

attribute [local go_sem] Oper.semAt_some

/-- What a round keeps: what lay below n₀, and the block of the span. -/
def KpS (n₀ bs : Nat) (W W' : World) : Prop := Below n₀ W W' ∧ ∀ c t fr, W.heap[bs]? = some (.cells c t fr) → W'.heap[bs]? = some (.cells c t fr)
theorem kpS_t {n₀ bs : Nat} {A B C : World} (h : KpS n₀ bs A B) (k : KpS n₀ bs B C) : KpS n₀ bs A C := ⟨h.1.trans k.1, fun c t fr e => k.2 c t fr (h.2 c t fr e)⟩
theorem kpS_b {n₀ bs : Nat} {w : World} (hn : n₀ ≤ w.heap.size) (W : World) (l : Nat) (o o' : Obj) (hl : w.heap.size ≤ l) (h : W.heap[l]? = some o) (hc : o.isCells = false) (hw : o.isWalk = false) : KpS n₀ bs W (W.putObj l o') := by
  refine ⟨belowK_b hn W l o o' hl h hc hw, fun c t fr e => ?_⟩
  by_cases hbl : bs = l
  · subst hbl
    rw [h] at e
    injection e with e
    subst e
    cases hc
  · exact (World.putObj_heap_other hbl).trans e

theorem grown_of_below {W W' : World} (h : Below W.heap.size W W') : W.grownBy W' none := ⟨h.os, h.tape, h.output, h.size, fun k hk _ => h.block k hk⟩

theorem abides_below {β : Type} {n : Nat} {J : β → World → Prop} (hJ : AbidesFrom n J) {s : β} {W W' : World} (h : J s W) (hb : Below W.heap.size W W') : J s W' :=
  hJ s W W' none h (grown_of_below hb) (fun r e => by cases e)

set_option maxHeartbeats 1000000 in
set_option maxRecDepth 100000 in
theorem in1_in (n : Nat) (hn : 1 ≤ n) (l bm bs B n₀ base m₀ : Nat) (v : Value) (xs : List Row) (f t : ByteArray) (hl : xs.length ≤ 1000000) (hm₀ : n₀ ≤ m₀) (J Jx : List Row → World → Prop) (hJ : AbidesFrom m₀ J)
    (hY : ∀ pre x W, J pre W → pre.length < (rowsIn f t xs).length → YieldAt Fence.wide (n - 1) Tryz.prog l #[.agg #[.string x.k, .int .u32 x.v]] W fun e W' =>
      (e = .returned (.bool true) ∧ J (pre ++ [x]) W' ∧ KpS n₀ bs W W') ∨ (e = .returned (.bool false) ∧ Jx (pre ++ [x]) W'))
    (W : World) (hW : m₀ ≤ W.heap.size) (hM : MapAt base W B v xs) (hB : B < n₀) (hbm : W.cell? ⟨bm, 0, none⟩ = some (.pointer (some ⟨B, 0, none⟩)))
    (hbs : W.heap[bs]? = some (.cells #[.string f, .string t] 47 (0, 0))) (hown : ∀ g, v.ownBlock = some g → g < n₀) (h0 : J [] W) :
    CallsIn Fence.wide n Tryz.prog 186 #[.func (.yield l) #[] #[], .pointer (some ⟨bm, 0, none⟩), .pointer (some ⟨bs, 0, none⟩)] W fun e W' => (∃ v, e = .returned v) ∧
      ((∃ ys, ys = rowsIn f t xs ∧ J ys W') ∨ (∃ pre, pre <+: rowsIn f t xs ∧ Jx pre W')) := by
  have hmeet := fun W => meet_calls f t f t W
  have c0 : W.cell? ⟨bs, 0, none⟩ = some (.string f) := by simp [World.cell?, hbs]
  have c1 : W.cell? ⟨bs, 1, none⟩ = some (.string t) := by simp [World.cell?, hbs]
  cases hmt : meet4 f t f t with
  | false =>
    rw [hmt] at hmeet
    refine callsIn_of_wp Tryz.func186 rfl trivial ?_ rfl
    simp only [Tryz.ntmps186, List.size_toArray, List.length_cons, List.length_nil, Nat.reduceAdd, Nat.reduceSub, Array.replicate_succ, Array.replicate_zero, List.push_toArray, List.append_toArray, List.nil_append, List.cons_append]
    gi_wp2_with (first
      | (refine ⟨trivial, ?_⟩; gi_at_call 86; refine (callsIn_wide.2 (there_calls hM)).mono ?_; rintro e w1 ⟨rfl, rfl⟩)
      | (refine ⟨trivial, ?_⟩; gi_at_call 139; refine (callsIn_wide.2 (hmeet _)).mono ?_; rintro e w1 ⟨rfl, hb1⟩))
    refine bodyPost_ret (results_none rfl _ _ _) rfl ?_
    exact ⟨⟨_, rfl⟩, .inl ⟨_, rfl, by rw [rowsIn_empty hmt]; exact abides_below hJ h0 hb1⟩⟩
  | true =>
    rw [hmt] at hmeet
    obtain ⟨A, c, rfl, hlc, hc⟩ := hM.own.slice
    have hys := scan_list (f := f) (t := t) hM.rise
    have hple := posL_le f xs
    by_cases hlt : posL f xs < xs.length
    · obtain ⟨g, cap, cur, hv, _, hg, _, _, _, hcur⟩ := hM.own.some_block (by omega)
      injection hv with hA _ hcap
      subst hA hcap
      have hgn : g < n₀ := hown g rfl
      have hbs' : W.heap[bs]? = some (.cells #[.string f, .string t] 47 (0, 0)) := hbs
      have hcell : ∀ i x, xs[i]? = some x → W.cell? ⟨g, i * 2, none⟩ = some (.string x.k) ∧ W.cell? ⟨g, i * 2 + 1, none⟩ = some (.int .u32 x.v) := fun i x hx => by
        have h0 := flat_get row_len xs i x 0 _ hx rfl
        have h1 := flat_get row_len xs i x 1 _ hx rfl
        rw [← hcur, List.getElem?_take] at h0 h1
        split at h0
        · split at h1
          · simp [World.cell?, hg]
            exact ⟨by simpa using h0, by simpa using h1⟩
          · cases h1
        · cases h0
      have hcp : ¬ c = posL f xs := by omega
      refine callsIn_of_wp Tryz.func186 rfl trivial ?_ rfl
      simp only [Tryz.ntmps186, List.size_toArray, List.length_cons, List.length_nil, Nat.reduceAdd, Nat.reduceSub, Array.replicate_succ, Array.replicate_zero, List.push_toArray, List.append_toArray, List.nil_append, List.cons_append]
      gi_wp2_with (first
        | (refine ⟨trivial, ?_⟩; gi_at_call 86; refine (callsIn_wide.2 (there_calls hM)).mono ?_; rintro e w1 ⟨rfl, rfl⟩)
        | (refine ⟨trivial, ?_⟩; gi_at_call 139; refine (callsIn_wide.2 (hmeet _)).mono ?_; rintro e w1 ⟨rfl, hb1⟩; have c0' := Below.cell_some hb1 c0; have cm' := Below.cell_some hb1 hbm; have hM1 := hM.below hb1)
        | (refine ⟨trivial, ?_⟩; gi_at_call 93; refine (callsIn_wide.2 (find_calls hM1 (by omega) f)).mono ?_; rintro e w2 ⟨rfl, hb2⟩; have cm2 := Below.cell_some hb2 cm'; have cv2 := (hM1.below hb2).c0))
      gi_loopw [31] (fun i wr => ∃ k : Nat, k ≤ (rowsIn f t xs).length ∧ k ≤ xs.length - posL f xs ∧ i = .int .i64 k ∧ J ((rowsIn f t xs).take k) wr ∧ Below n₀ W wr ∧ wr.heap[bs]? = some (.cells #[.string f, .string t] 47 (0, 0)))
        (fun i _ => xs.length - (intOf i).toNat)
      case atStart => exact ⟨0, Nat.zero_le _, Nat.zero_le _, rfl, by simpa using abides_below hJ (abides_below hJ h0 hb1) hb2, (hb1.mono (by omega)).trans (hb2.mono (by have := hb1.size; omega)), by
        have hlt0 := (Array.getElem?_eq_some_iff.1 hbs).1
        rw [hb2.block bs (Nat.lt_of_lt_of_le hlt0 hb1.size), hb1.block bs hlt0]; exact hbs⟩
      case round =>
        obtain ⟨k, hk1, hk2, rfl, hJk, hBk, hbk⟩ := hrel
        have c1' : wr.cell? ⟨bs, 1, none⟩ = some (.string t) := by simp [World.cell?, hbk]
        by_cases hkl : k < xs.length - posL f xs
        · have hx := List.getElem?_eq_getElem (l := xs) (i := posL f xs + k) (by omega)
          have hz : (xs.drop (posL f xs))[k]? = some xs[posL f xs + k] := by rw [List.getElem?_drop]; exact hx
          obtain ⟨hx1, hx2⟩ := hcell _ _ hx
          replace hx1 := (hBk.cell (p := ⟨g, _, none⟩) hgn).trans hx1
          replace hx2 := (hBk.cell (p := ⟨g, _, none⟩) hgn).trans hx2
          rw [Nat.add_mul] at hx1 hx2
          generalize xs[posL f xs + k] = x at *
          have hba : Below wr.heap.size wr (wr.alloc (.cells #[.string x.k, .int .u32 x.v] 44)) := (Below.refl _ wr).alloc (Nat.le_refl _) _
          have hJa := abides_below hJ hJk hba
          have c1a := Below.cell_some hba c1'
          have hgw : n₀ ≤ wr.heap.size := by have := hBk.size; omega
          cases hs : slt t x.k with
          | true =>
            have hs2 : sle x.k t = false := by simp [sle, hs]
            have hend := tw_miss hz (by rw [hys]; exact hk1) (by simp [sle, hs])
            rw [hys] at hend
            have HE := Lib.hid hend
            clear hend hz hx hys
            gi_wp2
            refine ⟨fun _ h => (by cases h), ?_⟩
            gi_wp2
            refine bodyPost_ret (results_none rfl _ _ _) rfl ?_
            refine ⟨⟨_, rfl⟩, .inl ⟨_, rfl, ?_⟩⟩
            rw [List.take_of_length_le (by rw [HE.out]; exact Nat.le_refl _)] at hJa
            exact hJa
          | false =>
            have hs2 : sle x.k t = true := by simp [sle, hs]
            have hhit := tw_hit hz (by rw [hys]; exact hk1) (by simp [sle, hs])
            rw [hys] at hhit
            have hklt := (List.getElem?_eq_some_iff.1 hhit).1
            have hsn : (rowsIn f t xs).take (k + 1) = (rowsIn f t xs).take k ++ [x] := by rw [List.take_add_one, hhit]; rfl
            obtain ⟨fn, tmps, assign, body, hy, hR⟩ := hY _ x _ hJa (by rw [List.length_take]; omega)
            have HS := Lib.hid hsn
            clear hhit hsn hz hx hys
            gi_wp2
            refine hR.mono ?_
            rintro e W3 (⟨rfl, hJ3, hk3, hk4⟩ | ⟨rfl, hJx3⟩)
            · gi_wp2
              go_roundw
              case rel => exact ⟨k + 1, by omega, by omega, by go_num, by rw [HS.out]; exact hJ3, hBk.trans ((hba.mono hgw).trans hk3), hk4 _ _ _ ((hba.block bs (Array.getElem?_eq_some_iff.1 hbk).1).trans hbk)⟩
              case measure => simp [intOf]; omega
            · gi_wp2
              refine bodyPost_ret (results_none rfl _ _ _) rfl ?_
              exact ⟨⟨_, rfl⟩, .inr ⟨_, by rw [← HS.out]; exact List.take_prefix _ _, hJx3⟩⟩
        · have hend : (rowsIn f t xs).take k = rowsIn f t xs := by
            rw [List.take_of_length_le]
            rw [← hys]
            have := (List.takeWhile_sublist (p := fun x => sle x.k t) (l := xs.drop (posL f xs))).length_le
            rw [List.length_drop] at this
            omega
          rw [hend] at hJk
          clear hend hys
          gi_wp2
          go_end0
          exact ⟨⟨_, rfl⟩, .inl ⟨_, rfl, hJk⟩⟩
    · have he : posL f xs = xs.length := by omega
      have hnil : rowsIn f t xs = [] := by
        rw [← hys, he]; simp
      rw [hnil]
      clear hys
      have hcc : c = xs.length ∨ ¬ c = xs.length := Decidable.em _
      rw [he] at *
      rcases hcc with rfl | hcc
      all_goals
        refine callsIn_of_wp Tryz.func186 rfl trivial ?_ rfl
        simp only [Tryz.ntmps186, List.size_toArray, List.length_cons, List.length_nil, Nat.reduceAdd, Nat.reduceSub, Array.replicate_succ, Array.replicate_zero, List.push_toArray, List.append_toArray, List.nil_append, List.cons_append]
        gi_wp2_with (first
          | (refine ⟨trivial, ?_⟩; gi_at_call 86; refine (callsIn_wide.2 (there_calls hM)).mono ?_; rintro e w1 ⟨rfl, rfl⟩)
          | (refine ⟨trivial, ?_⟩; gi_at_call 139; refine (callsIn_wide.2 (hmeet _)).mono ?_; rintro e w1 ⟨rfl, hb1⟩; have c0' := Below.cell_some hb1 c0; have cm' := Below.cell_some hb1 hbm; have hM1 := hM.below hb1)
          | (refine ⟨trivial, ?_⟩; gi_at_call 93; refine (callsIn_wide.2 (find_calls hM1 (by omega) f)).mono ?_; rintro e w2 ⟨rfl, hb2⟩; have cm2 := Below.cell_some hb2 cm'; have cv2 := (hM1.below hb2).c0))
        gi_loopw [31] (fun i wr => i = .int .i64 0 ∧ J [] wr) (fun _ _ => 0)
        case atStart => exact ⟨rfl, abides_below hJ (abides_below hJ h0 hb1) hb2⟩
        case round =>
          obtain ⟨rfl, hJk⟩ := hrel
          gi_wp2
          go_end0
          exact ⟨⟨_, rfl⟩, .inl ⟨_, rfl, hJk⟩⟩

end Go.Proofs.YtanjgeacmpmjhaaGreatDoor
