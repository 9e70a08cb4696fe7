import Derived.Test.YtanjgeacmpmjhaaGreatDoorBkSpanK
import Derived.Test.YtanjgeacmpmjhaaGreatDoorUSort
import Derived.Test.YtanjgeacmpmjhaaGreatDoorLOth
import Derived.Test.YtanjgeacmpmjhaaGreatDoorMgLocksPlay2
set_option linter.unusedVariables false
set_option linter.unusedSimpArgs false
set_option linter.unusedSectionVars false
namespace Go.Proofs.YtanjgeacmpmjhaaGreatDoor
open Go.RowKit

theorem FilSpan.nil (base : Nat) (w : World) : FilSpan base w [] 0 := fun j h hj => by simp at hj
theorem FilSpan.snoc {base : Nat} {w : World} {hs : List Hd} {x : Hd} {xs : List Span} (h : FilSpan base w hs 0) (ho : Own Span.enc 2 47 base w x.l xs) (hl : xs.length ≤ 1000000) : FilSpan base w (hs ++ [x]) 0 := fun j y hj => by
  by_cases hlt : j < hs.length
  · rw [List.getElem?_append_left hlt] at hj
    exact h j y hj
  · rw [List.getElem?_append_right (by omega)] at hj
    obtain ⟨_, e⟩ := List.getElem?_eq_some_iff.1 hj
    simp at e
    subst e
    exact ⟨xs, ho, hl, fun h => absurd h (Nat.not_lt_zero _)⟩
theorem PreSpan.nil (base : Nat) (w : World) : PreSpan base w nilV [] := ⟨.nil _ _ _ _ _, by simp, fun h hm => (by cases hm), .nil _ _, .nil⟩
theorem PreSpan.keepF {base : Nat} {w w' : World} {v : Value} {hs : List Hd} {F : Nat → Prop} (h : PreSpan base w v hs) (t : Turn F w w') (h1 : ∀ g cur, w.heap[g]? = some (.cells cur 231 (0, 0)) → ¬ F g) (h2 : ∀ g, Blk hs g → ¬ F g) : PreSpan base w' v hs :=
  ⟨h.own.turn t fun g hg => h1 g _ (h.own.typed g hg).2.choose_spec, h.len, h.nn, h.fil.turn t h2, h.sep⟩
theorem PreSpan.below {base : Nat} {w w' : World} {v : Value} {hs : List Hd} (h : PreSpan base w v hs) (hb : Below w.heap.size w w') : PreSpan base w' v hs :=
  h.keepF (F := fun _ => False) (.of_below hb) (fun _ _ _ => id) (fun _ _ => id)
set_option maxHeartbeats 400000 in
/-- A list is told. -/
theorem PreSpan.tell {base : Nat} {w : World} {B n : Nat} {cs : Array Value} {v : Value} {hs : List Hd} (h : PreSpan base w v hs) (hobj : w.heap[B]? = some (.cells cs bookT (0, 0))) (hc0 : cs[0]? = some (.int .i64 n)) (hcs : cs[7]? = some v)
    (hB : base ≤ B) (hlen : hs.length < 100000) (hn : n < 100000) (hbase : base ≤ w.heap.size) {A : Option Addr} {m c : Nat} {xs : List Span} (ho : Own Span.enc 2 47 base w (.slice A m c) xs) (hxl : xs.length ≤ 1000000)
    (hoff : ∀ g, (Value.slice A m c).ownBlock = some g → ¬ Blk hs g) :
    Calls Tryz.prog 60 #[.pointer (some ⟨B, 0, none⟩), .slice A m c] w fun e w' => e = .returned (.tuple #[]) ∧
      (∃ v', w'.heap[B]? = some (.cells ((cs.setIfInBounds 0 (.int .i64 ((n + 1 : Nat) : Int))).setIfInBounds 7 v') bookT (0, 0)) ∧ PreSpan base w' v' (hs ++ [⟨.slice A m c, nilV, n + 1⟩])) ∧ TurnT base w w' [bookT, 231] := by
  have hk := keepSpan_calls hobj hc0 hcs h.own (by omega) (by omega) hbase A m c
  have FIN : ∀ w' : World, (∃ v', w'.heap[B]? = some (.cells ((cs.setIfInBounds 0 (.int .i64 ((n : Int) + 1))).setIfInBounds 7 v') bookT (0, 0)) ∧
      Own Hd.enc 3 231 base w' v' (hs ++ [⟨.slice A m c, nilV, n + 1⟩]) ∧ Turn (fun g => g = B ∨ v.ownBlock = some g) w w' ∧ (∀ g, v'.ownBlock = some g → v.ownBlock = some g ∨ w.heap.size ≤ g)) →
      (∃ v', w'.heap[B]? = some (.cells ((cs.setIfInBounds 0 (.int .i64 ((n + 1 : Nat) : Int))).setIfInBounds 7 v') bookT (0, 0)) ∧ PreSpan base w' v' (hs ++ [⟨.slice A m c, nilV, n + 1⟩])) ∧ TurnT base w w' [bookT, 231] := by
    rintro w' ⟨v', o', own', t, -⟩
    have hT : TurnT base w w' [bookT, 231] := ⟨_, t, fun g hg => hg.elim (fun e => ⟨by omega, cs, bookT, (by rw [e]; exact hobj), by simp⟩) (fun e => ⟨(h.own.typed g e).1, _, _, (h.own.typed g e).2.choose_spec, by simp⟩)⟩
    have hT2 : 47 ∉ [bookT, 231] := by decide
    refine ⟨⟨v', o', own', by simp; omega, fun x hx => ?_, ?_, ?_⟩, hT⟩
    · rcases List.mem_append.1 hx with hx | hx
      · exact h.nn x hx
      · rw [List.mem_singleton.1 hx]; exact ⟨by simp only; omega, _, _, _, rfl⟩
    · exact (h.fil.turn hT.choose_spec.1 fun g hg => hT.spare (h.fil.typed hg).2.choose_spec hT2).snoc (hT.own ho hT2) hxl
    · exact h.sep.snoc fun a ha g hg e => hoff g e ⟨a, ha, hg⟩
  have HF := Lib.hid FIN
  clear FIN h hobj hc0 hcs ho hoff
  go_enter Tryz.func60, Tryz.ntmps60
  go_wp2_with (go_at_call 150; refine hk.mono ?_; rintro e w1 ⟨rfl, hP⟩)
  go_end0
  exact ⟨rfl, HF.out _ hP⟩

end Go.Proofs.YtanjgeacmpmjhaaGreatDoor

set_option linter.unusedVariables false
set_option linter.unusedSimpArgs false
set_option linter.unusedSectionVars false
namespace Go.Proofs.YtanjgeacmpmjhaaGreatDoor
open Go.RowKit

theorem Rd.int {w : World} {A : Option Addr} {n c : Nat} {xs : List Int} (h : Rd encU 1 w (.slice A n c) xs) {i : Nat} {x : Int} (hi : xs[i]? = some x) :
    ∃ b o, A = some ⟨b, o, none⟩ ∧ w.cell? ⟨b, o + i, none⟩ = some (.int .u32 x) := by
  obtain ⟨b, o, hA, hc⟩ := h.at_ hi
  exact ⟨b, o, hA, by have := hc 0 _ rfl; rwa [Nat.mul_one, Nat.add_zero] at this⟩

set_option maxHeartbeats 400000 in
theorem sameIds_calls (v u : Value) (xs ys : List Int) (w : World) (hv : Rd encU 1 w v xs) (hu : Rd encU 1 w u ys) :
    Calls Tryz.prog 51 #[v, u] w fun e w' => e = .returned (.bool (decide (xs = ys))) ∧ Below w.heap.size w w' := by
  obtain ⟨A, c, rfl, hl, hc⟩ := hv.shape
  obtain ⟨B, d, rfl, hl', hc'⟩ := hu.shape
  by_cases hn : xs.length = ys.length
  · have hnb : ((xs.length : Int) != ys.length) = false := by simp [hn]
    have HN := Lib.hid hn
    clear hn
    go_enter Tryz.func51, Tryz.ntmps51
    go_wp2
    go_loopw [5] (fun i wr => ∃ k : Nat, k ≤ xs.length ∧ i = .int .i64 k ∧ xs.take k = ys.take k ∧ Below w.heap.size w wr) (fun i _ => xs.length - (intOf i).toNat)
    case atStart => exact ⟨0, Nat.zero_le _, rfl, rfl, Below.refl _ _⟩
    case round =>
      obtain ⟨k, hk, rfl, heq, hb⟩ := hrel
      have HE := Lib.hid heq
      clear heq
      by_cases hlt : k < xs.length
      · have hlt2 : k < ys.length := by have := HN.out; omega
        obtain ⟨b, o, rfl, hx1⟩ := (hv.below hb).int (List.getElem?_eq_getElem hlt)
        obtain ⟨b', o', rfl, hy1⟩ := (hu.below hb).int (List.getElem?_eq_getElem hlt2)
        have HT1 := Lib.hid (List.take_succ_eq_append_getElem hlt)
        have HT2 := Lib.hid (List.take_succ_eq_append_getElem hlt2)
        have HX := Lib.hid (List.getElem?_eq_getElem hlt)
        have HY := Lib.hid (List.getElem?_eq_getElem hlt2)
        generalize xs[k] = x at *
        generalize ys[k] = y at *
        replace hx1 := fun p : Later wr => Later.cell p hx1
        replace hy1 := fun p : Later wr => Later.cell p hy1
        by_cases hxy : x = y
        · subst hxy
          go_wp2
          refine wp_region_later (by kernel_rfl) (by kernel_rfl) ?_
          repeat (quiet_step (fail))
          refine wpQuiet_nil ?_
          rintro _ ⟨p, rfl⟩
          clear hx1 hy1
          go_wp2
          go_roundw
          case rel => exact ⟨k + 1, by omega, by go_num, by rw [HT1.out, HT2.out, HE.out], Below.step hb p.ok⟩
          case measure => simp [intOf]; omega
        · have hxb : (x != y) = true := by simpa using hxy
          go_wp2
          refine wp_region_later (by kernel_rfl) (by kernel_rfl) ?_
          repeat (quiet_step (fail))
          refine wpQuiet_nil ?_
          rintro _ ⟨p, rfl⟩
          clear hx1 hy1
          go_wp2
          go_ret
          refine ⟨ret_bool (decide_eq_false fun h => hxy ?_).symm, Below.step hb p.ok⟩
          have h1 := HX.out
          have h2 := HY.out
          rw [h, h2] at h1
          exact (Option.some.inj h1).symm
      · go_wp2
        go_ret
        have := HE.out
        rw [List.take_of_length_le (by omega), List.take_of_length_le (by have := HN.out; omega)] at this
        exact ⟨ret_bool (by simp [this]), hb⟩
  · have hnb : ((xs.length : Int) != ys.length) = true := by simp; omega
    go_enter Tryz.func51, Tryz.ntmps51
    go_wp2
    go_ret
    exact ⟨ret_bool (by simp; intro h; exact hn (by rw [h])), Below.refl _ _⟩

end Go.Proofs.YtanjgeacmpmjhaaGreatDoor

set_option linter.unusedVariables false
set_option linter.unusedSimpArgs false
set_option linter.unusedSectionVars false
namespace Go.Proofs.YtanjgeacmpmjhaaGreatDoor
open Go.RowKit Go.Sort Go.Shelf Go.Lib

theorem compactU_spec (d : Array Int) (hs : ∀ i j, i < j → j < d.size → d[i]! ≤ d[j]!) : ∀ m, m ≤ d.size →
    (∀ x, x ∈ compactUpTo d m ↔ ∃ i, i < m ∧ d[i]! = x) ∧ (compactUpTo d m).Pairwise (· < ·) ∧ (0 < m → ∀ x ∈ compactUpTo d m, x ≤ d[m - 1]!)
  | 0, _ => ⟨fun x => ⟨fun h => absurd h (by simp [compactUpTo]), fun ⟨i, hi, _⟩ => absurd hi (Nat.not_lt_zero _)⟩, by simp [compactUpTo], fun h => absurd h (Nat.lt_irrefl _)⟩
  | m + 1, hm => by
    obtain ⟨h1, h2, h3⟩ := compactU_spec d hs m (by omega)
    rw [compactUpTo_succ]
    by_cases hk : keeps d m = true
    · rw [if_pos hk]
      have hlt : ∀ x ∈ compactUpTo d m, x < d[m]! := fun x hx => by
        obtain ⟨i, hi, _⟩ := (h1 x).1 hx
        have hx1 := h3 (by omega) x hx
        have hle := hs (m - 1) m (by omega) (by omega)
        have hne : d[m]! ≠ d[m - 1]! := by
          unfold keeps at hk
          simp only [Bool.or_eq_true, decide_eq_true_eq, bne_iff_ne, beq_iff_eq, ne_eq] at hk
          rcases hk with hk | hk
          · omega
          · first | exact hk | (simpa using hk)
        omega
      refine ⟨fun x => ?_, ?_, fun _ x hx => ?_⟩
      · rw [List.mem_append, List.mem_singleton, h1]
        constructor
        · rintro (⟨i, hi, e⟩ | rfl)
          · exact ⟨i, by omega, e⟩
          · exact ⟨m, by omega, rfl⟩
        · rintro ⟨i, hi, e⟩
          by_cases him : i = m
          · subst him; exact .inr e.symm
          · exact .inl ⟨i, by omega, e⟩
      · rw [List.pairwise_append]
        exact ⟨h2, by simp, fun a ha b hb => by rw [List.mem_singleton.1 hb]; exact hlt a ha⟩
      · rw [Nat.add_sub_cancel]
        rcases List.mem_append.1 hx with hx | hx
        · have := hlt x hx; omega
        · rw [List.mem_singleton.1 hx]; exact Int.le_refl _
    · rw [if_neg hk, List.append_nil]
      have hm0 : 0 < m ∧ d[m]! = d[m - 1]! := by
        unfold keeps at hk
        simp only [Bool.or_eq_true, decide_eq_true_eq, bne_iff_ne, beq_iff_eq, ne_eq, not_or, Decidable.not_not] at hk
        exact ⟨by omega, by first | exact hk.2 | (simpa using hk.2)⟩
      refine ⟨fun x => ?_, h2, fun _ x hx => ?_⟩
      · rw [h1]
        constructor
        · rintro ⟨i, hi, e⟩
          exact ⟨i, by omega, e⟩
        · rintro ⟨i, hi, e⟩
          by_cases him : i = m
          · subst him
            exact ⟨i - 1, by omega, by rw [← hm0.2]; exact e⟩
          · exact ⟨i, by omega, e⟩
      · rw [Nat.add_sub_cancel, hm0.2]
        exact h3 hm0.1 x hx

theorem OwnU.pre {base : Nat} {w : World} {A : Option Addr} {c : Nat} {l r : List Int} (h : OwnU base w (.slice A (l ++ r).length c) (l ++ r)) (hp : 0 < l.length) : OwnU base w (.slice A l.length c) l := by
  obtain ⟨g, cap, cur, hv, hb, hg, hlc, hcm, hsz, ht⟩ := h.some_block (by simp; omega)
  injection hv with h1 h2 h3
  subst h1 h3
  refine ⟨flat_length encU_len _, .inr ⟨g, c, cur, rfl, hb, hg, by rw [List.length_append] at hlc; omega, hcm, hsz, ?_⟩⟩
  rw [flat_U, Nat.mul_one] at ht ⊢
  have := congrArg (List.take l.length) ht
  rw [List.take_take, Nat.min_eq_left (by simp)] at this
  rw [this, List.map_append, List.take_left' (by simp)]

set_option maxHeartbeats 1000000 in
theorem ucomp_empty (A : Option Addr) (c : Nat) (w : World) : Calls Tryz.prog 149 #[.slice A 0 c] w fun e w' => e = .returned (.slice A 0 c) ∧ w' = w := by
  go_enter Tryz.func149, Tryz.ntmps149
  go_wp2
  go_ret
  exact ⟨rfl, rfl⟩

/-- slices.Compact at uint32, of what rises: each once. -/
theorem ucomp_calls {base : Nat} {w : World} {v : Value} {l : List Int} (h : OwnU base w v l) (hs : l.Pairwise (· ≤ ·)) (hl : l.length ≤ 1000000) :
    Calls Tryz.prog 149 #[v] w fun e w' => ∃ (v' : Value) (l' : List Int), e = .returned v' ∧ OwnU base w' v' l' ∧ l'.Pairwise (· < ·) ∧ (∀ x, x ∈ l' ↔ x ∈ l) ∧ w.grownBy w' v.ownBlock := by
  obtain ⟨A, c, rfl, hlc, hcm⟩ := h.slice
  by_cases h0 : l.length = 0
  · obtain rfl : l = [] := List.length_eq_zero_iff.1 h0
    refine (ucomp_empty A c w).mono ?_
    rintro e w' ⟨rfl, rfl⟩
    exact ⟨_, [], rfl, h, .nil, fun _ => Iff.rfl, ⟨rfl, rfl, rfl, Nat.le_refl _, fun _ _ _ => rfl⟩⟩
  · obtain ⟨g, cap, cur, hv, _⟩ := h.some_block (by omega)
    injection hv with hA _ hcap
    subst hA hcap
    obtain ⟨hH, hg⟩ := OwnU.holds h (by omega)
    have hc := AnyE.slices_Compact compactU eU (fun _ => rfl) (EqlAt.intD _ _ .u32) (NeqAt.intD _ _ .u32) 0 (fun w => show (zeroValue 42).run Tryz.prog w = .ok (eU 0) w by simp [Tryz.zeroValue42]) g 0 c l.toArray w hH (by simp; omega) (by simpa using hlc)
    simp only [List.size_toArray] at hc
    have hsd : ∀ i j, i < j → j < l.toArray.size → l.toArray[i]! ≤ l.toArray[j]! := fun i j hij hj => by
      have hj' : j < l.length := by simpa using hj
      rw [List.pairwise_iff_getElem] at hs
      have := hs i j (by omega) hj' hij
      rw [getElem!_pos _ i (by simp; omega), getElem!_pos _ j (by simp; omega)]
      simpa using this
    obtain ⟨c1, c2, c3⟩ := compactU_spec l.toArray hsd l.length (by simp)
    generalize hcl : compactUpTo l.toArray l.length = l' at *
    have hl' : l'.length ≤ l.length := by
      rw [← hcl]
      unfold compactUpTo
      rw [List.length_map]
      exact Nat.le_trans (List.length_filter_le _ _) (by simp)
    have hmem : ∀ x, x ∈ l' ↔ x ∈ l := fun x => by
      rw [c1, List.mem_iff_getElem]
      constructor
      · rintro ⟨i, hi, e⟩
        exact ⟨i, hi, by rw [← e, getElem!_pos _ i (by simpa using hi)]; simp⟩
      · rintro ⟨i, hi, e⟩
        exact ⟨i, hi, by rw [getElem!_pos _ i (by simpa using hi)]; simpa using e⟩
    have hp : 0 < l'.length := by
      have : l[0]'(by omega) ∈ l' := (hmem _).2 (List.getElem_mem _)
      exact List.length_pos_of_mem this
    refine Calls.mono (P := Tryz.prog) hc ?_
    rintro e w' ⟨rfl, q, rfl⟩
    obtain ⟨ho, hgr⟩ := ownU_put h (by omega) q (l' ++ List.replicate (l.length - l'.length) 0).toArray (by simp; omega)
    rw [List.toList_toArray] at ho
    have ho' : OwnU base (putRow eU (Sort.ahead w q) g 0 (l' ++ List.replicate (l.length - l'.length) 0).toArray) (.slice (some ⟨g, 0, none⟩) (l' ++ List.replicate (l.length - l'.length) 0).length c) (l' ++ List.replicate (l.length - l'.length) 0) := by
      have : (l' ++ List.replicate (l.length - l'.length) (0 : Int)).length = l.length := by simp; omega
      rw [this]; exact ho
    exact ⟨_, l', rfl, ho'.pre hp, c2, hmem, hgr⟩

end Go.Proofs.YtanjgeacmpmjhaaGreatDoor

set_option linter.unusedVariables false
set_option linter.unusedSimpArgs false
set_option linter.unusedSectionVars false
namespace Go.Proofs.YtanjgeacmpmjhaaGreatDoor
open Go.RowKit

attribute [local go_sem] Oper.semAt_some

theorem lboxed_new {W : World} {n : Nat} (t : TypeId) (v : Value) (h : n = W.heap.size) : Boxed (W.alloc (.cells #[v] t)) n t v := by subst h; exact Boxed.new W t v
theorem lalloc_at {W : World} {n : Nat} (o : Obj) (h : n = W.heap.size) : (W.alloc o).heap[n]? = some o := by subst h; exact World.alloc_heap_new W o
theorem lcells_own {β : Type} (B : Nat) (t : TypeId) (cs : Array Value) : _root_.Go.Own (fun (_ : β) W => W.heap[B]? = some (.cells cs t (0, 0))) := fun s X Y row hs hg hrow =>
  (hg.block B (Array.getElem?_eq_some_iff.1 hs).1 (fun e' => by obtain ⟨o, ho, hc⟩ := hrow B e'.symm; rw [show X.heap[B]? = _ from hs] at ho; cases ho; cases hc)).trans hs

set_option maxHeartbeats 400000 in
theorem may_calls (who : Int) (f t : ByteArray) (w : World) :
    Calls Tryz.prog 142 #[.int .u32 who, .agg #[.string f, .string t]] w fun e w' => e = .returned (.bool (mayL who f t)) ∧ Below w.heap.size w w' := by
  have hb : Below w.heap.size w (w.alloc (.cells #[.string f, .string t] 47)) := (Below.refl _ w).alloc (Nat.le_refl _) _
  have hme : meet4 f t f t = sle f t := by
    rw [Bool.eq_iff_iff, meet4_true]
    exact ⟨fun h => h.1, fun h => ⟨h, h, h, h⟩⟩
  have hm := fun W => meet_calls f t f t W
  rw [hme] at hm
  unfold mayL
  by_cases h0 : who = 0
  · subst h0
    go_enter Tryz.func142, Tryz.ntmps142
    go_wp2
    go_ret
    exact ⟨by simp, hb⟩
  · have hw : (who != 0) = true := by simp [h0]
    go_enter Tryz.func142, Tryz.ntmps142
    go_wp2_with (go_at_call 139; refine (hm _).mono ?_; rintro e w1 ⟨rfl, hb1⟩)
    go_ret
    exact ⟨by simp [h0], Below.step hb hb1⟩

set_option maxHeartbeats 400000 in
theorem othersf_calls (B : Nat) (who : Int) (n : Nat) (w : World) :
    CallsIn Fence.wide n Tryz.prog 147 #[.pointer (some ⟨B, 0, none⟩), .int .u32 who] w fun e w' =>
      e = .returned (.func (.func 215) #[] #[.pointer (some ⟨w.heap.size, 0, none⟩), .pointer (some ⟨w.heap.size + 1, 0, none⟩)]) ∧ w' = (w.alloc (.cells #[.pointer (some ⟨B, 0, none⟩)] 83)).alloc (.cells #[.int .u32 who] 42) := by
  refine callsIn_wide.2 ?_
  go_enter Tryz.func147, Tryz.ntmps147
  go_wp2
  go_ret
  exact ⟨rfl, rfl⟩

theorem ot_stops (n : Nat) (hn : 1 ≤ n) (bt bw : Nat) {base B M nn L : Nat} {D : DataW Value} {T : Tab} (who : Int) {w0 w : World} (h : TabAt base w0 B M nn D T) (hL : ∀ o, (T o).length ≤ L) (hLb : L ≤ 1000000) (hB0 : Below w0.heap.size w0 w)
    (hbtl : bt < w.heap.size) (hbt : w.cell? ⟨bt, 0, none⟩ = some (.pointer (some ⟨B, 0, none⟩))) (hbw : w.heap[bw]? = some (.cells #[.int .u32 who] 42 (0, 0))) :
    SeqStopsK Fence.wide n Tryz.prog 215 #[.pointer (some ⟨bt, 0, none⟩), .pointer (some ⟨bw, 0, none⟩)] oItem (KpU w0.heap.size bw) (OtAll T who nn) (fun _ => True) (nn * L) w :=
  fun l J Jx W hW hJ _ hY h0 => ot_in n hn l bt bw who h hL hLb W.heap.size (Nat.le_trans hB0.size hW.size) J Jx hJ hY W (Nat.le_refl _) (hB0.trans (hW.mono hB0.size)) (Below.cell_some hW hbt) ((hW.block bw (Array.getElem?_eq_some_iff.1 hbw).1).trans hbw) h0

/-- those in the way, as they come. -/
def hitsL (f t : Str) (al : Bool) (pre : List (Int × Lock)) : List Int := (pre.filter fun p => hitL al f t p.2).map (·.1)
theorem hitsL_snoc (f t : Str) (al : Bool) (pre : List (Int × Lock)) (x : Int × Lock) : hitsL f t al (pre ++ [x]) = hitsL f t al pre ++ (if hitL al f t x.2 then [x.1] else []) := by
  unfold hitsL
  rw [List.filter_append, List.map_append]
  congr 1
  cases h : hitL al f t x.2 <;> simp [h]
theorem hitsL_oList {f t : Str} {al : Bool} {T : Tab} {who : Int} {c : Nat} (hc : ∀ o, ((T o).filter (hitL al f t)).length ≤ c) : ∀ ks : List Int, (hitsL f t al (oList T who ks)).length ≤ ks.length * c
  | [] => by simp [oList, hitsL]
  | o :: ks => by
    have ih := hitsL_oList (who := who) hc ks
    have h1 := hc o
    have e : oList T who (o :: ks) = (if o = who then [] else (T o).map fun l => (o, l)) ++ oList T who ks := List.flatMap_cons
    unfold hitsL at *
    rw [e, List.filter_append, List.map_append, List.length_append, List.length_cons, Nat.add_mul, Nat.one_mul]
    have h2 : (((if o = who then [] else (T o).map fun l => (o, l)).filter fun p : Int × Lock => hitL al f t p.2).map (·.1)).length ≤ c := by
      split
      · simp
      · rw [List.length_map, List.filter_map, List.length_map]
        exact h1
    omega
theorem hitsL_all {f t : Str} {al : Bool} {T : Tab} {who : Int} {nn : Nat} {ys : List (Int × Lock)} (h : OtAll T who nn ys) (o : Int) : o ∈ hitsL f t al ys ↔ InWay T who f t al o := by
  obtain ⟨ks, rfl, _, hall⟩ := h
  unfold hitsL InWay
  rw [List.mem_map]
  constructor
  · rintro ⟨p, hp, rfl⟩
    obtain ⟨hp, hh⟩ := List.mem_filter.1 hp
    obtain ⟨_, h2, h3⟩ := oList_mem.1 hp
    exact ⟨h2, p.2, h3, hh⟩
  · rintro ⟨h1, x, hx, hh⟩
    exact ⟨(o, x), List.mem_filter.2 ⟨oList_mem.2 ⟨hall o (fun e => by rw [e] at hx; cases hx), h1, hx⟩, hh⟩, rfl⟩

end Go.Proofs.YtanjgeacmpmjhaaGreatDoor
