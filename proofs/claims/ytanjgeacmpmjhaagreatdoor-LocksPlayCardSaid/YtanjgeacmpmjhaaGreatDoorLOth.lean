import Derived.Test.YtanjgeacmpmjhaaGreatDoorMgLocksPlay22
import Derived.Sort.MapsRangeIn
set_option linter.unusedVariables false
set_option linter.unusedSimpArgs false
set_option linter.unusedSectionVars false
namespace Go.Proofs.YtanjgeacmpmjhaaGreatDoor
open Go.RowKit

attribute [local go_sem] Oper.semAt_some

/-! ### those that have spans, but one, one behind the other -/
def oList (T : Tab) (who : Int) (ks : List Int) : List (Int × Lock) := ks.flatMap fun o => if o = who then [] else (T o).map fun l => (o, l)
theorem oList_snoc (T : Tab) (who : Int) (ks : List Int) (o : Int) : oList T who (ks ++ [o]) = oList T who ks ++ (if o = who then [] else (T o).map fun l => (o, l)) := by
  unfold oList
  rw [List.flatMap_append, List.flatMap_singleton]
theorem oList_len {T : Tab} {who : Int} {L : Nat} (hL : ∀ o, (T o).length ≤ L) : ∀ ks : List Int, (oList T who ks).length ≤ ks.length * L
  | [] => by simp [oList]
  | o :: ks => by
    have ih := oList_len (who := who) hL ks
    have h1 := hL o
    have e : oList T who (o :: ks) = (if o = who then [] else (T o).map fun l => (o, l)) ++ oList T who ks := List.flatMap_cons
    rw [e, List.length_append, List.length_cons, Nat.add_mul, Nat.one_mul]
    split
    · rw [List.length_nil]; omega
    · rw [List.length_map]; omega
theorem oList_mem {T : Tab} {who : Int} {ks : List Int} {p : Int × Lock} : p ∈ oList T who ks ↔ p.1 ∈ ks ∧ p.1 ≠ who ∧ p.2 ∈ T p.1 := by
  unfold oList
  rw [List.mem_flatMap]
  constructor
  · rintro ⟨o, ho, hp⟩
    split at hp
    · cases hp
    · rename_i hne
      obtain ⟨l, hl, rfl⟩ := List.mem_map.1 hp
      exact ⟨ho, hne, hl⟩
  · rintro ⟨h1, h2, h3⟩
    refine ⟨p.1, h1, ?_⟩
    rw [if_neg h2]
    exact List.mem_map.2 ⟨p.2, h3, rfl⟩

/-- What a round keeps: what lay below n₀, the block at b, the maps and what ranges over them. -/
structure KpU (n₀ b : Nat) (W W' : World) : Prop where
  low : Below n₀ W W'
  box : ∀ c t fr, W.heap[b]? = some (.cells c t fr) → W'.heap[b]? = some (.cells c t fr)
  walk : KeepsWalks W W'
theorem kpU_t {n₀ b : Nat} {A B C : World} (h : KpU n₀ b A B) (k : KpU n₀ b B C) : KpU n₀ b A C := ⟨h.low.trans k.low, fun c t fr e => k.box c t fr (h.box c t fr e), h.walk.trans k.walk⟩
theorem kpU_b {n₀ b : Nat} {w : World} (hn : n₀ ≤ w.heap.size) (W : World) (l : Nat) (o o' : Obj) (hl : w.heap.size ≤ l) (h : W.heap[l]? = some o) (hc : o.isCells = false) (hw : o.isWalk = false) : KpU n₀ b W (W.putObj l o') := by
  refine ⟨belowK_b hn W l o o' hl h hc hw, fun c t fr e => ?_, KeepsWalks.putObj _ h hw⟩
  by_cases hbl : b = l
  · subst hbl
    rw [h] at e
    injection e with e
    subst e
    cases hc
  · exact (World.putObj_heap_other hbl).trans e

theorem KeepsWalks.ranges' {W W' : World} {M r n cnt : Nat} {D : DataW Value} {left : Lit → Bool} (h : W.ranges Tryz.prog 42 rS M r n D left cnt) (k : KeepsWalks W W') : W'.ranges Tryz.prog 42 rS M r n D left cnt := by
  obtain ⟨es, clock, since, seen, c0, hb, F, hs, hD, hr, rest⟩ := h
  exact ⟨es, clock, since, seen, c0, k.same _ _ hb rfl, F, hs, hD, k.same _ _ hr rfl, rest⟩

section
variable {H : Type} {F : Fence} {n : Nat} {P : Program} (w : World) {ops : Array Oper} {rest : List Oper} {o : Oper} {a : Act} {Q : Exit → Act → World → Prop}
variable {κ : Type} [DecidableEq κ] {tk : TypeId} {kv : κ → Value} {kl : κ → Lit} {ok : κ → Prop}
/-- THE STEP of 'for x, s := range m', inside a fence. -/
theorem wpListIn_next_S (K : KeyOk P tk kv kl ok) (hg : o.guard = none) (it : Operand) (hop : o.op = Op.next it false) {r : Nat} {left : Lit → Bool} {cnt M nn : Nat} {D : DataW Value} (hit : a.eval it = .pointer (some ⟨r, 0, none⟩)) (h : w.ranges P tk rS M r nn D left cnt)
    (hDone : cnt = 0 → (∀ l, left l = false) → wpListIn F n P ops Q rest (a.put o.dst (.tuple #[.bool false])) w)
    (hMore : ∀ (x : κ) (A : Option Addr) (len cap : Nat) (w' : World) (cnt' : Nat), ok x → left (kl x) = true → D.atKey (kl x) nilD = .held (.slice A len cap) → Maps.has D (kl x) = true → w'.ranges P tk rS M r nn D (fun z => left z && !z.sameKey (kl x)) cnt' → cnt' < cnt →
      w.grownBy w' (some r) → w'.heap.size = w.heap.size → (Instr.entry (.pointer (some ⟨r, 0, none⟩))).run P w' = .ok (.tuple #[kv x, .slice A len cap]) w' → wpListIn F n P ops Q rest (a.put o.dst (.tuple #[.bool true, kv x, .slice A len cap])) w') :
    wpListIn F n P ops Q (o :: rest) a w :=
  wpListIn_next_ranges (α := κ) (β := Option Addr × Nat × Nat) w hg it hop tk K.law rS kv (fun q => .slice q.1 q.2.1 q.2.2) (fun key l hkey => by obtain ⟨x, _, e, _⟩ := K.back key l hkey; exact ⟨x, e⟩)
    (fun v y hy => by obtain ⟨_, A, len, cap, e⟩ := rS_inv (d := y.1) (ps := y.2) hy; exact ⟨(A, len, cap), e⟩) M r nn D left cnt hit h hDone
    (fun x c l y w' cnt' hkey hlk hv hat hrg hlt hgr hsz hen => by
      obtain ⟨A, len, cap⟩ := c
      obtain ⟨x', hok, e1, e2⟩ := K.back _ _ hkey
      obtain rfl := K.vinj _ _ e1
      subst e2
      obtain ⟨hd, _⟩ := rS_inv (d := y.1) (ps := y.2) hv
      have hh : Maps.has D (kl x) = true := Maps.has_true_of_atKey hat
      exact hMore x A len cap w' cnt' hok hlk ((hat nilD).trans hd) hh hrg hlt hgr hsz hen)
end

def OtAll (T : Tab) (who : Int) (nn : Nat) (ys : List (Int × Lock)) : Prop := ∃ ks, ys = oList T who ks ∧ ks.length ≤ nn ∧ ∀ o, T o ≠ [] → o ∈ ks

abbrev oItem (x : Int × Lock) : Array Value := #[.int .u32 x.1, .agg #[.string x.2.f, .string x.2.t, .bool x.2.a]]

set_option maxHeartbeats 1000000 in
set_option maxRecDepth 100000 in
theorem ot_in (n : Nat) (hn : 1 ≤ n) (l bt bw : Nat) {base B M nn L : Nat} {D : DataW Value} {T : Tab} (who : Int) {w0 : World} (h : TabAt base w0 B M nn D T) (hL : ∀ o, (T o).length ≤ L) (hLb : L ≤ 1000000) (m₀ : Nat) (hm₀ : w0.heap.size ≤ m₀) (J Jx : List (Int × Lock) → World → Prop) (hJ : AbidesFrom m₀ J)
    (hY : ∀ pre x W, J pre W → pre.length < nn * L → YieldAt Fence.wide (n - 1) Tryz.prog l (oItem x) W fun e W' =>
      (e = .returned (.bool true) ∧ J (pre ++ [x]) W' ∧ KpU w0.heap.size bw W W') ∨ (e = .returned (.bool false) ∧ Jx (pre ++ [x]) W'))
    (W : World) (hW : m₀ ≤ W.heap.size) (hB0 : Below w0.heap.size w0 W) (hbt : W.cell? ⟨bt, 0, none⟩ = some (.pointer (some ⟨B, 0, none⟩))) (hbw : W.heap[bw]? = some (.cells #[.int .u32 who] 42 (0, 0))) (h0 : J [] W) :
    CallsIn Fence.wide n Tryz.prog 215 #[.func (.yield l) #[] #[], .pointer (some ⟨bt, 0, none⟩), .pointer (some ⟨bw, 0, none⟩)] W fun e W' => (∃ v, e = .returned v) ∧
      ((∃ ys, OtAll T who nn ys ∧ J ys W') ∨ (∃ pre, True ∧ Jx pre W')) := by
  have hT := h.below hB0
  have c0 := hT.c0
  refine callsIn_of_wp Tryz.func215 rfl trivial ?_ rfl
  simp only [Tryz.ntmps215, List.size_toArray, List.length_cons, List.length_nil, Nat.reduceAdd, Nat.reduceSub, Array.replicate_succ, Array.replicate_zero, List.push_toArray, List.append_toArray, List.nil_append, List.cons_append]
  gi_wp2_with (gi_at_range; refine wpListIn_range_own _ rfl _ 156 rfl 42 159 keyU.law lmap_under rS M nn D rfl hT.map.own ?_; intro w2 hrg2 hg2 hs2)
  go_frame
  have hb2 : Below w0.heap.size w0 w2 := hB0.grown hg2 hB0.size (fun k e => by cases e)
  have hJ2 : J (oList T who []) w2 := hJ [] W w2 none h0 hg2 (fun r e => by cases e)
  have hbw2 : w2.heap[bw]? = some (.cells #[.int .u32 who] 42 (0, 0)) := (hg2.block bw (Array.getElem?_eq_some_iff.1 hbw).1 (by simp)).trans hbw
  have hcnt := hrg2.owns.size_le
  have hS2 : ∀ o, T o ≠ [] → Maps.has D (klU o) = true ∨ o ∈ ([] : List Int) := fun o ho => .inl ((h.map.has o (h.dom o ho)).2 ho)
  have hbwlt : bw < W.heap.size := (Array.getElem?_eq_some_iff.1 hbw).1
  have hJb : ∀ {s : List (Int × Lock)} {X Y : World}, J s X → Below X.heap.size X Y → J s Y := fun {s X Y} hs hb => hJ s X Y none hs ⟨hb.os, hb.tape, hb.output, hb.size, fun k hk _ => hb.block k hk⟩ (fun r e => by cases e)
  have hW0 : w0.heap.size ≤ W.heap.size := hB0.size
  clear hg2 hs2 hbw c0
  gi_loopw [13] (fun _ wr => ∃ (ks : List Int) (left : Lit → Bool) (cnt : Nat), wr.ranges Tryz.prog 42 rS M W.heap.size nn D left cnt ∧ J (oList T who ks) wr ∧ Below w0.heap.size w0 wr ∧ wr.heap[bw]? = some (.cells #[.int .u32 who] 42 (0, 0)) ∧ ks.length + cnt ≤ nn ∧ (∀ o, T o ≠ [] → left (klU o) = true ∨ o ∈ ks)) (fun _ wr => wr.rangeLeft M W.heap.size)
  case atStart => exact ⟨[], _, _, hrg2, hJ2, hb2, hbw2, by simpa using hcnt, hS2⟩
  case round =>
    clear hrg2 hJ2 hb2 hbw2 hcnt hS2
    obtain ⟨ks, left, cnt, hrg, hJk, hBk, hbk, hle, hS⟩ := hrel
    have hX := hrg.left_eq
    gi_wp2_with (gi_at_next; refine wpListIn_next_S _ keyU rfl _ rfl rfl hrg ?_ ?_; rotate_left; intro x A len cap w3 cnt' hok hlk hat hhas hrg3 hlt hg3 hs3 hen; rotate_left; intro hc0 hl0)
    · -- all have come
      go_end0
      exact ⟨⟨_, rfl⟩, .inl ⟨_, ⟨ks, rfl, by omega, fun o ho => (hS o ho).resolve_left (by rw [hl0]; simp)⟩, hJk⟩⟩
    · have hB3 : Below w0.heap.size w0 w3 := hBk.grown hg3 hBk.size (fun k e => by cases e; exact hW0)
      have hJ3 : J (oList T who ks) w3 := hJ _ wr w3 (some W.heap.size) hJk hg3 (fun r e => by cases e; exact ⟨hW, hrg.iter_walk⟩)
      have hbk3 : w3.heap[bw]? = some (.cells #[.int .u32 who] 42 (0, 0)) := (hg3.block bw (Array.getElem?_eq_some_iff.1 hbk).1 (fun e => by injection e with e; omega)).trans hbk
      obtain ⟨v, hv, ho⟩ := h.map.elem x hok
      rw [hat] at hv
      injection hv with hv
      subst hv
      obtain ⟨A', c', ee, hlc, hcm, hcell⟩ := ho.rd lock_len
      injection ee with ee1 ee2 ee3
      subst ee1 ee2 ee3
      have hlx := hL x
      have hSn : ∀ o, T o ≠ [] → (left (klU o) && !(klU o).sameKey (klU x)) = true ∨ o ∈ ks ++ [x] := fun o ho => by
        by_cases e : o = x
        · subst e; exact .inr (by simp)
        · rcases hS o ho with h1 | h1
          · refine .inl ?_
            rw [h1, same_u, decide_eq_false e]; rfl
          · exact .inr (by simp [h1])
      clear hrg hJk hBk hbk hS hhas hlk hat hg3 hs3 hen
      by_cases hxw : x = who
      · obtain rfl : who = x := hxw.symm
        gi_loopw [20] (fun i wr => ∃ j : Nat, i = .int .i64 j ∧ j ≤ (T who).length ∧ wr.ranges Tryz.prog 42 rS M W.heap.size nn D (fun z => left z && !z.sameKey (klU who)) cnt' ∧ J (oList T who ks) wr ∧ Below w0.heap.size w0 wr ∧ wr.heap[bw]? = some (.cells #[.int .u32 who] 42 (0, 0))) (fun i _ => (T who).length - (intOf i).toNat)
        case atStart => exact ⟨0, rfl, Nat.zero_le _, hrg3, hJ3, hB3, hbk3⟩
        case round =>
          clear hrg3 hJ3 hB3 hbk3
          obtain ⟨j, rfl, hj, hrq, hJq, hBq, hbq⟩ := hrel
          by_cases hlt2 : j < (T who).length
          · obtain ⟨b, o, rfl, hcl⟩ := hcell (by omega)
            have hxj := List.getElem?_eq_getElem hlt2
            have e0 := hcl _ _ hxj 0 _ rfl
            have e1 := hcl _ _ hxj 1 _ rfl
            have e2 := hcl _ _ hxj 2 _ rfl
            have HT := Lib.hid (List.take_succ_eq_append_getElem hlt2)
            generalize (T who)[j] = y at *
            obtain ⟨yf, yt, ya⟩ := y
            simp only [Nat.add_zero] at e0 e1 e2
            replace e0 := (hBq.cell (p := ⟨b, o + j * 3, none⟩) (World.block_lt_of_cell? w0 _ e0)).trans e0
            replace e1 := (hBq.cell (p := ⟨b, o + j * 3 + 1, none⟩) (World.block_lt_of_cell? w0 _ e1)).trans e1
            replace e2 := (hBq.cell (p := ⟨b, o + j * 3 + 2, none⟩) (World.block_lt_of_cell? w0 _ e2)).trans e2
            have hba : Below wr.heap.size wr (wr.alloc (.cells #[.string yf, .string yt, .bool ya] 162)) := (Below.refl _ _).alloc (Nat.le_refl _) _
            have hwa : (wr.alloc (.cells #[.string yf, .string yt, .bool ya] 162)).heap[bw]? = some (.cells #[.int .u32 who] 42 (0, 0)) := (hba.block bw (Array.getElem?_eq_some_iff.1 hbq).1).trans hbq
            have hw1 : (wr.alloc (.cells #[.string yf, .string yt, .bool ya] 162)).cell? ⟨bw, 0, none⟩ = some (.int .u32 who) := by simp [World.cell?, hwa]
            have hbA : Below w0.heap.size w0 (wr.alloc (.cells #[.string yf, .string yt, .bool ya] 162)) := hBq.trans (hba.mono hBq.size)
            have hrA := KeepsWalks.ranges' hrq (KeepsWalks.alloc _ (.cells #[.string yf, .string yt, .bool ya] 162))
            have hJA := hJb hJq hba
            have hxb : (who != who) = false := by simp
            gi_wp2
            refine ⟨fun _ h => (by cases h), ?_⟩
            gi_wp2
            go_roundw
            case rel => exact ⟨j + 1, by go_num, by omega, hrA, hJA, hbA, hwa⟩
            case measure => simp [intOf]; omega
          · have hjl : j = (T who).length := by omega
            subst hjl
            gi_wp2
            go_roundw
            case rel => exact ⟨ks ++ [who], _, cnt', hrq, by rw [oList_snoc]; rw [if_pos rfl, List.append_nil]; exact hJq, hBq, hbq, by rw [List.length_append, List.length_singleton]; omega, hSn⟩
            case measure => rw [hrq.left_eq, hX]; exact hlt
      · gi_loopw [20] (fun i wr => ∃ j : Nat, i = .int .i64 j ∧ j ≤ (T x).length ∧ wr.ranges Tryz.prog 42 rS M W.heap.size nn D (fun z => left z && !z.sameKey (klU x)) cnt' ∧ J (oList T who ks ++ ((T x).take j).map fun l => (x, l)) wr ∧ Below w0.heap.size w0 wr ∧ wr.heap[bw]? = some (.cells #[.int .u32 who] 42 (0, 0))) (fun i _ => (T x).length - (intOf i).toNat)
        case atStart => exact ⟨0, rfl, Nat.zero_le _, hrg3, by simpa using hJ3, hB3, hbk3⟩
        case round =>
          clear hrg3 hJ3 hB3 hbk3
          obtain ⟨j, rfl, hj, hrq, hJq, hBq, hbq⟩ := hrel
          by_cases hlt2 : j < (T x).length
          · obtain ⟨b, o, rfl, hcl⟩ := hcell (by omega)
            have hxj := List.getElem?_eq_getElem hlt2
            have e0 := hcl _ _ hxj 0 _ rfl
            have e1 := hcl _ _ hxj 1 _ rfl
            have e2 := hcl _ _ hxj 2 _ rfl
            have HT := Lib.hid (List.take_succ_eq_append_getElem hlt2)
            generalize (T x)[j] = y at *
            obtain ⟨yf, yt, ya⟩ := y
            simp only [Nat.add_zero] at e0 e1 e2
            replace e0 := (hBq.cell (p := ⟨b, o + j * 3, none⟩) (World.block_lt_of_cell? w0 _ e0)).trans e0
            replace e1 := (hBq.cell (p := ⟨b, o + j * 3 + 1, none⟩) (World.block_lt_of_cell? w0 _ e1)).trans e1
            replace e2 := (hBq.cell (p := ⟨b, o + j * 3 + 2, none⟩) (World.block_lt_of_cell? w0 _ e2)).trans e2
            have hba : Below wr.heap.size wr (wr.alloc (.cells #[.string yf, .string yt, .bool ya] 162)) := (Below.refl _ _).alloc (Nat.le_refl _) _
            have hwa : (wr.alloc (.cells #[.string yf, .string yt, .bool ya] 162)).heap[bw]? = some (.cells #[.int .u32 who] 42 (0, 0)) := (hba.block bw (Array.getElem?_eq_some_iff.1 hbq).1).trans hbq
            have hw1 : (wr.alloc (.cells #[.string yf, .string yt, .bool ya] 162)).cell? ⟨bw, 0, none⟩ = some (.int .u32 who) := by simp [World.cell?, hwa]
            have hbA : Below w0.heap.size w0 (wr.alloc (.cells #[.string yf, .string yt, .bool ya] 162)) := hBq.trans (hba.mono hBq.size)
            have hrA := KeepsWalks.ranges' hrq (KeepsWalks.alloc _ (.cells #[.string yf, .string yt, .bool ya] 162))
            have hJA := hJb hJq hba
            have y0 : (wr.alloc (.cells #[.string yf, .string yt, .bool ya] 162)).cell? ⟨wr.heap.size, 0, none⟩ = some (.string yf) := World.cell?_alloc_at (w := wr) _ _ wr.heap.size 0 rfl
            have y1 : (wr.alloc (.cells #[.string yf, .string yt, .bool ya] 162)).cell? ⟨wr.heap.size, 1, none⟩ = some (.string yt) := World.cell?_alloc_at (w := wr) _ _ wr.heap.size 1 rfl
            have y2 : (wr.alloc (.cells #[.string yf, .string yt, .bool ya] 162)).cell? ⟨wr.heap.size, 2, none⟩ = some (.bool ya) := World.cell?_alloc_at (w := wr) _ _ wr.heap.size 2 rfl
            have hcountlt : (oList T who ks ++ ((T x).take j).map fun l => (x, l)).length < nn * L := by
              have h1 := oList_len (who := who) hL ks
              have h2 := hL x
              have h3 : (ks.length + 1) * L ≤ nn * L := Nat.mul_le_mul_right _ (by omega)
              rw [Nat.add_mul, Nat.one_mul] at h3
              rw [List.length_append, List.length_map, List.length_take]
              omega
            obtain ⟨fn, tmps, assign, body, hy, hR⟩ := hY _ (x, ⟨yf, yt, ya⟩) _ hJA hcountlt
            have hxb : (x != who) = true := by simp [hxw]
            clear hcountlt
            gi_wp2
            refine hR.mono ?_
            rintro e W3 (⟨rfl, hJ4, hk4⟩ | ⟨rfl, hJx4⟩)
            · gi_wp2
              go_roundw
              case rel => exact ⟨j + 1, by go_num, by omega, KeepsWalks.ranges' hrA hk4.walk, by rw [HT.out, List.map_append, ← List.append_assoc]; exact hJ4, hbA.trans hk4.low, hk4.box _ _ _ hwa⟩
              case measure => simp [intOf]; omega
            · gi_wp2
              refine bodyPost_ret (results_none rfl _ _ _) rfl ?_
              exact ⟨⟨_, rfl⟩, .inr ⟨_, trivial, hJx4⟩⟩
          · have hjl : j = (T x).length := by omega
            subst hjl
            gi_wp2
            go_roundw
            case rel => exact ⟨ks ++ [x], _, cnt', hrq, by rw [oList_snoc]; rw [if_neg hxw]; rw [List.take_length] at hJq; exact hJq, hBq, hbq, by rw [List.length_append, List.length_singleton]; omega, hSn⟩
            case measure => rw [hrq.left_eq, hX]; exact hlt

end Go.Proofs.YtanjgeacmpmjhaaGreatDoor
