import Derived.Test.YtanjgeacmpmjhaaGreatDoorVerC
set_option linter.unusedVariables false
set_option linter.unusedSimpArgs false
namespace Go.Proofs.YtanjgeacmpmjhaaGreatDoor
open Go.RowKit Go.Shelf

theorem grownBy_setCell_at (W : World) (b i : Nat) (v : Value) : W.grownBy (W.setCell ⟨b, i, none⟩ v) (some b) := by
  have h := (Below.refl b W).setCell (p := ⟨b, i, none⟩) (Nat.le_refl _) v
  exact ⟨h.os, h.tape, h.output, h.size, fun k _ hk => heap_setCell_other W _ k v (fun e => hk (by rw [e]))⟩

section
variable {base : Nat} {w : World} {B M n : Nat} {D : DataW Value} {hist : List (List Change)} {trim : Nat} {H : Hist}

theorem SMap.congr {H' : Hist} (h : SMap Tryz.prog 9 klS okS Was.enc 3 149 base w M n D H) (e : ∀ k, okS k → H k = H' k) : SMap Tryz.prog 9 klS okS Was.enc 3 149 base w M n D H' where
  own := h.own
  low := h.low
  has x hx := by rw [← e x hx]; exact h.has x hx
  elem x hx := by rw [← e x hx]; exact h.elem x hx
  apart := h.apart

/-- the iterator went on. -/
theorem SMap.iter {w3 : World} {r cnt : Nat} {left : Lit → Bool} (h : SMap Tryz.prog 9 klS okS Was.enc 3 149 base w M n D H) (hr : w.ranges Tryz.prog 9 rS M r n D left cnt) (hg : w.grownBy w3 (some r)) :
    SMap Tryz.prog 9 klS okS Was.enc 3 149 base w3 M n D H := by
  refine h.kept hg (fun e => hr.ne (by injection e with e; exact e.symm)) (fun x v hx hv => .inr fun e => ?_)
  obtain ⟨v', hv', ho⟩ := h.elem x hx
  rw [hv] at hv'
  injection hv' with hv'
  subst hv'
  obtain ⟨_, _, cur, hc⟩ := ho.lt r e
  obtain ⟨es, clock, since, seen, c0, _, _, _, _, hi, _⟩ := hr
  rw [hc] at hi
  cases hi

theorem safe_iter {r cnt : Nat} {left : Lit → Bool} (hr : w.ranges Tryz.prog 9 rS M r n D left cnt) (hb : base ≤ r) : ¬ Safe base w r := by
  obtain ⟨es, clock, since, seen, c0, _, _, _, _, hi, _⟩ := hr
  rintro (h1 | ⟨cur, E, fr, h1, _⟩)
  · omega
  · rw [hi] at h1; cases h1

theorem obj_set2 {b : Nat} {v0 v1 v2 : Value} {t : TypeId} (h : w.heap[b]? = some (.cells #[v0, v1, v2] t (0, 0))) (u : Value) : (w.setCell ⟨b, 2, none⟩ u).heap[b]? = some (.cells #[v0, v1, u] t (0, 0)) := heap_setCell_same w b 2 _ t u h
theorem obj_set1 {b : Nat} {v0 v1 v2 : Value} {t : TypeId} (h : w.heap[b]? = some (.cells #[v0, v1, v2] t (0, 0))) (u : Value) : (w.setCell ⟨b, 1, none⟩ u).heap[b]? = some (.cells #[v0, u, v2] t (0, 0)) := heap_setCell_same w b 1 _ t u h

/-- a store into one of the past's own cells. -/
theorem PastAt.map_set (h : PastAt base w B M n D hist trim H) (i : Nat) (u : Value) : SMap Tryz.prog 9 klS okS Was.enc 3 149 base (w.setCell ⟨B, i, none⟩ u) M n D H :=
  h.map.kept (grownBy_setCell_at w B i u) (fun e => h.neM (by injection e)) (fun x v hx hv => .inr (h.offB hx hv))

set_option maxHeartbeats 1000000 in
set_option maxRecDepth 100000 in
theorem ptrim_bad (h : PastAt base w B M n D hist trim H) (at' : Nat) (hl : hist.flatten.length ≤ 1000000) (hbad : ¬ (trim ≤ at' ∧ at' ≤ hist.length)) :
    Calls Tryz.prog 35 #[.pointer (some ⟨B, 0, none⟩), .int .u32 at'] w
      fun e w' => e = .returned (.int .i64 1) ∧ w = w' := by
  have c1 := h.c1
  have c2 := h.c2
  by_cases hgt : hist.length < at'
  · go_enter Tryz.func35, Tryz.ntmps35
    go_wp2_with (go_at_call 132; refine (pthere_calls h).mono ?_; rintro e w1 ⟨rfl, rfl⟩)
    go_ret
    exact ⟨rfl, rfl⟩
  · have hlt : at' < trim := by omega
    clear hbad
    go_enter Tryz.func35, Tryz.ntmps35
    go_wp2_with (go_at_call 132; refine (pthere_calls h).mono ?_; rintro e w1 ⟨rfl, rfl⟩)
    go_ret
    exact ⟨rfl, rfl⟩

set_option maxHeartbeats 1000000 in
set_option maxRecDepth 100000 in
theorem ptrim_U {U : Nat → Prop} (h : PastAt base w B M n D hist trim H) (hUB : U B) (hUM : U M) (hUD : OwnD U D) (hnew : ∀ i, w.heap.size ≤ i → U i) (at' : Nat) (hl : hist.flatten.length ≤ 1000000) (h1 : trim ≤ at') (h2 : at' ≤ hist.length) :
    Calls Tryz.prog 35 #[.pointer (some ⟨B, 0, none⟩), .int .u32 at'] w
      fun e w' => e = .returned (.int .i64 0) ∧ PastU base U w' B hist at' ∧ PStepU base U w w' := by
  have c1 := h.c1
  have c2 := h.c2
  have c0 := h.c0
  have f2 := h.f 2
  have hng : ¬ (hist.length < at') := by omega
  have hnl : ¬ (at' < trim) := by omega
  have hob := obj_set2 h.obj (.int .u32 at')
  have hmp := h.map_set 2 (.int .u32 at')
  have hps : PStepU base U w (w.setCell ⟨B, 2, none⟩ (.int .u32 at')) := .grown (grownBy_setCell_at w B 2 _) (fun g e => by injection e with e; subst e; exact ⟨safe_past h.obj h.low, hUB⟩)
  have c0' : (w.setCell ⟨B, 2, none⟩ (.int .u32 at')).cell? ⟨B, 0, none⟩ = some (.map (some M)) := by simp [World.cell?, hob]
  go_enter Tryz.func35, Tryz.ntmps35
  go_wp2_with (first
    | (go_at_call 132; refine (pthere_calls h).mono ?_; rintro e w1 ⟨rfl, rfl⟩)
    | (at_range; refine wpList_range_own _ rfl _ 140 rfl 9 147 keyS.law map_under rS M n D rfl hmp.own ?_; intro w2 hrg2 hg2 hs2))
  go_frame
  have hsz : (w.setCell ⟨B, 2, none⟩ (.int .u32 at')).heap.size = w.heap.size := by simp
  have hBlt := h.lt
  have hbase : base ≤ w.heap.size := by have := h.low; omega
  have hn0 := h.cnt
  have hob2 : w2.heap[B]? = some (.cells #[.map (some M), .int .u32 (hist.length : Int), .int .u32 (at' : Int)] 142 (0, 0)) := (hg2.block B (by rw [hsz]; exact hBlt) (by simp)).trans hob
  have hmp2 := hmp.kept hg2 (by simp) (fun x v _ _ => by cases v.ownBlock <;> simp)
  have hps2 : PStepU base U w w2 := hps.trans (.grown hg2 (fun g e => by cases e))
  have hS2 : ∀ k, okS k → H k = if Maps.has D (klS k) then H k else trimW at' (H k) := fun k hk => by
    cases hh : Maps.has D (klS k) with
    | true => rfl
    | false =>
      have hnil : H k = [] := Classical.byContradiction fun e => by
        rw [(h.map.has k hk).2 e] at hh
        cases hh
      rw [hnil, trimW_nil.2 rfl]
      rfl
  clear hg2 hs2 hmp hps hob c0' c0 c1 c2 f2
  have hR : w.heap.size ≤ (w.setCell ⟨B, 2, none⟩ (.int .u32 at')).heap.size := by omega
  clear hsz
  generalize (w.setCell ⟨B, 2, none⟩ (.int .u32 at')).heap.size = R at *
  go_loopw [5] (fun _ wr => ∃ left cnt D' H', wr.ranges Tryz.prog 9 rS M R n D' left cnt ∧ SMap Tryz.prog 9 klS okS Was.enc 3 149 base wr M n D' H' ∧ wr.heap[B]? = some (.cells #[.map (some M), .int .u32 (hist.length : Int), .int .u32 (at' : Int)] 142 (0, 0)) ∧ PStepU base U w wr ∧ OwnD U D' ∧
    (∀ k, okS k → H' k = if left (klS k) then H k else trimW at' (H k))) (fun _ wr => wr.rangeLeft M R)
  case atStart => exact ⟨_, _, _, _, hrg2, hmp2, hob2, hps2, hUD, hS2⟩
  case round =>
    clear hrg2 hmp2 hob2 hps2 hS2
    clear w2
    obtain ⟨left, cnt, D', H', hrg, hSM, hob, hps, hOD, hS⟩ := hrel
    have hrgX := hrg
    go_wp2_with (first
        | (at_next; refine wpList_next_S keyS rfl _ rfl rfl hrg (fun hc0 hl0 => ?done) (fun x A len cap w3 cnt' hok hlk hat hhas hrg3 hlt3 hg3 hs3 hen => ?more)
           case' more =>
             obtain ⟨v, hv, ho⟩ := (hSM.iter hrg hg3).elem x hok
             have hHx : H' x = H x := by have := hS x hok; rwa [hlk] at this
             have hHne : H x ≠ [] := by rw [← hHx]; exact (hSM.has x hok).1 hhas
             have hlen := Nat.le_trans (h.len x) hl
             have e1 := hat
             rw [hv] at e1
             injection e1 with e1
             subst e1
             rw [hHx] at ho
             obtain ⟨A', c', e1, hlc, hcm, hcell⟩ := ho.rd was_len
             injection e1 with e1 e2 e3
             subst e1 e2 e3
             have hpos : 0 < (H x).length := List.length_pos_iff.2 hHne
             obtain ⟨b, o, rfl, hcl⟩ := hcell hpos))
    rotate_left
    · have hfin : PastU base U wr B hist at' := ⟨M, n, D', fun k => trimW at' (H k), ⟨hob, hSM.congr (fun k hk => by rw [hS k hk, hl0]; rfl), h.past.trim h1 h2, h.low, h.cnt, fun k => by
        have := h.len k
        show ((H k).drop _).length ≤ _
        rw [List.length_drop]
        omega⟩, hUB, hUM, hOD⟩
      clear hS hSM hob hrg
      go_ret
      exact ⟨rfl, hfin, hps⟩
    · have hSM3 := hSM.iter hrg hg3
      have hne := hrg.ne
      have hMlt := h.map.own.lt
      have hbR := hrg.lt
      have hob3 : w3.heap[B]? = some (.cells #[.map (some M), .int .u32 (hist.length : Int), .int .u32 (at' : Int)] 142 (0, 0)) := (hg3.block B (Array.getElem?_eq_some_iff.1 hob).1 (fun e => by injection e with e; omega)).trans hob
      have hps3 : PStepU base U w w3 := hps.trans (.grown hg3 (fun g e => by injection e with e; subst e; exact ⟨safe_iter hrg (by omega), hnew _ hR⟩))
      have hB0 : w3.cell? ⟨B, 0, none⟩ = some (.map (some M)) := by simp [World.cell?, hob3]
      have hX := hrgX.left_eq
      clear hrg hSM hg3 hps hob
      go_loopw [7] (fun i w4 => ∃ j : Nat, i = .int .i64 j ∧ w4 = w3 ∧ j < (H x).length ∧ ∀ (q : Nat) (y : Was), j < q → (H x)[q]? = some y → (at' : Int) < y.at_) (fun i _ => (intOf i).toNat)
      case atStart => exact ⟨(H x).length - 1, by congr 1; omega, rfl, by omega, fun q y hq hy => by have := (List.getElem?_eq_some_iff.1 hy).1; omega⟩
      case round =>
        obtain ⟨j, rfl, rfl, hj, hq⟩ := hrel
        have hx := List.getElem?_eq_getElem hj
        have hc0 := hcl j _ hx 0 _ rfl
        rw [Nat.add_zero] at hc0
        by_cases hstop : j = 0 ∨ (H x)[j].at_ ≤ at'
        · have htr : trimAt at' (H x) = j := trimAt_of hj hq (hstop.imp id fun h => ⟨_, hx, h⟩)
          have hBd : Below wr.heap.size wr wr.drew := ⟨rfl, rfl, rfl, Nat.le_refl _, fun _ _ => rfl⟩
          have hrgd : wr.drew.ranges Tryz.prog 9 rS M R n D' (fun z => left z && !z.sameKey (klS x)) cnt' := hrg3
          replace hSM3 := hSM3.below hBd
          replace ho := ho.below hBd
          replace hps3 := hps3.trans (.of_below hBd)
          replace hob3 : wr.drew.heap[B]? = _ := hob3
          have hoj := ho.drop was_len j (by omega) (o + j * 3) rfl
          have hcj : j < cap := by omega
          obtain ⟨w5, hmu, hrg5, hg5, hs5⟩ := ranges_store (n := n) keyS map_under (by unfold maxLen; omega) hok hrgd hhas (val := .slice (some ⟨b, o + j * 3, none⟩) ((H x).length - j) (cap - j)) (d := .held (.slice (some ⟨b, o + j * 3, none⟩) ((H x).length - j) (cap - j))) (ps := []) rfl
          have hSM5 := hSM3.put keyS hok hv (ys := (H x).drop j) (by exact ⟨rfl, rfl, rfl, Nat.le_refl _, fun _ _ _ => rfl⟩) hoj (fun e => by
            have : ((H x).drop j).length = 0 := by rw [e]; rfl
            rw [List.length_drop] at this
            omega) (.inl rfl) hrg5.owns hg5
          have hob5 := (hg5.block B (Array.getElem?_eq_some_iff.1 hob3).1 (fun e => h.neM (by injection e with e; exact e.symm))).trans hob3
          have hps5 : PStepU base U w w5 := hps3.trans (.grown hg5 (fun g e => by
            injection e with e
            subst e
            obtain ⟨es, clock, hb, _⟩ := hSM3.own
            exact ⟨safe_map hb hSM3.low, hUM⟩))
          have hOD5 : OwnD U (D'.put (klS x) (.held (.slice (some ⟨b, o + j * 3, none⟩) ((H x).length - j) (cap - j)))) := hOD.put hSM3.own.isMap hok (fun g hg => hOD x _ g hok hv (by simpa [Value.ownBlock] using hg))
          have hS5 : ∀ k, okS k → updS H' x ((H x).drop j) k = if (left (klS k) && !(klS k).sameKey (klS x)) then H k else trimW at' (H k) := fun k hk => by
            unfold updS
            rw [same_str]
            by_cases e : x = k
            · subst e
              rw [if_pos rfl, decide_eq_true rfl, Bool.not_true, Bool.and_false, ← htr]
              rfl
            · rw [if_neg e, decide_eq_false (fun e' => e e'.symm), Bool.not_false, Bool.and_true]
              exact hS k hk
          have hgoal : (∃ left cnt D' H', w5.ranges Tryz.prog 9 rS M R n D' left cnt ∧ SMap Tryz.prog 9 klS okS Was.enc 3 149 base w5 M n D' H' ∧ w5.heap[B]? = some (.cells #[.map (some M), .int .u32 (hist.length : Int), .int .u32 (at' : Int)] 142 (0, 0)) ∧ PStepU base U w w5 ∧ OwnD U D' ∧
              (∀ k, okS k → H' k = if left (klS k) then H k else trimW at' (H k))) ∧ w5.rangeLeft M R < cnt :=
            ⟨⟨_, _, _, _, hrg5, hSM5, hob5, hps5, hOD5, hS5⟩, by rw [hrg5.left_eq]; exact hlt3⟩
          have hle : 0 < j → ¬ (at' : Int) < (H x)[j].at_ := fun h0 => by
            rcases hstop with e | e
            · omega
            · omega
          clear hstop hq hx htr hoj hrg5 hg5 hs5 hSM5 hob5 hps5 hS5 hSM3 hps3 hS hOD5 hOD
          generalize (H x)[j] = y at *
          by_cases hj0 : 0 < j
          · have hle' := hle hj0
            go_wp2
            go_region
            all_goals
              go_wp2
              exact ⟨hgoal.1, by rw [hX]; exact hgoal.2⟩
          · go_wp2
            go_region
            all_goals
              go_wp2
              exact ⟨hgoal.1, by rw [hX]; exact hgoal.2⟩
        · have hj0 : 0 < j := by omega
          have hgt : (at' : Int) < (H x)[j].at_ := by omega
          have hqn : ∀ (q : Nat) (y : Was), j - 1 < q → (H x)[q]? = some y → (at' : Int) < y.at_ := fun q y hq' hy => by
            rcases Nat.lt_or_ge j q with h' | h'
            · exact hq q y h' hy
            · have : q = j := by omega
              subst this
              rw [hx] at hy
              injection hy with hy
              rw [← hy]
              exact hgt
          clear hstop hq hx
          generalize (H x)[j] = y at *
          go_wp2
          go_roundw
          case rel => exact ⟨j - 1, by congr 1; omega, trivial, by omega, hqn⟩
          case measure => simp [intOf]; omega
theorem ptrim_ok (h : PastAt base w B M n D hist trim H) (at' : Nat) (hl : hist.flatten.length ≤ 1000000) (h1 : trim ≤ at') (h2 : at' ≤ hist.length) :
    Calls Tryz.prog 35 #[.pointer (some ⟨B, 0, none⟩), .int .u32 at'] w
      fun e w' => e = .returned (.int .i64 0) ∧ PastP base w' B hist at' ∧ PStep base w w' := by
  refine (ptrim_U (U := fun _ => True) h trivial trivial (OwnD.all _) (fun _ _ => trivial) at' hl h1 h2).mono ?_
  rintro e w' ⟨rfl, hP, hs⟩
  exact ⟨rfl, hP.past, hs.step⟩
end

end Go.Proofs.YtanjgeacmpmjhaaGreatDoor
