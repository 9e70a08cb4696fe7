import Derived.Test.YtanjgeacmpmjhaaGreatDoorVer
import Derived.Test.YtanjgeacmpmjhaaGreatDoorScan2
import Derived.Test.YtanjgeacmpmjhaaGreatDoorMgVersionsPlay28
import Derived.RegionIn
set_option linter.unusedVariables false
set_option linter.unusedSimpArgs false
namespace Go.Proofs.YtanjgeacmpmjhaaGreatDoor
open Go.RowKit Go.Shelf

attribute [local go_sem] Oper.semAt_some

theorem map_under : Tryz.prog.underlying 140 = some (.map 9 147) := by kernel_rfl
theorem run_map_neq (M : Nat) (w : World) : (binOp .neq 140 (.map (some M)) (.map none)).run Tryz.prog w = .ok (.bool true) w := by
  have h : ∀ d : Nat, (Op.equalIn (d + 1) 140 (.map (some M)) (.map none)).run Tryz.prog w = .ok false w := fun d => by
    simp [Op.equalIn, run_underlying map_under]
  have h' := h 9999
  rw [show (9999 : Nat) + 1 = Op.maxDepth from rfl] at h'
  simp [binOp, Op.equal, h']

section
variable {base : Nat} {w : World} {B M n : Nat} {D : DataW Value} {hist : List (List Change)} {trim : Nat} {H : Hist}

set_option maxHeartbeats 400000 in
set_option maxRecDepth 100000 in
theorem pthere_calls (h : PastAt base w B M n D hist trim H) :
    Calls Tryz.prog 132 #[.pointer (some ⟨B, 0, none⟩)] w fun e w' => e = .returned (.bool true) ∧ w = w' := by
  have c0 := h.c0
  have hmn := run_map_neq M w
  go_enter Tryz.func132, Tryz.ntmps132
  go_wp2
  go_ret
  exact ⟨rfl, rfl⟩

set_option maxHeartbeats 400000 in
theorem pthere_nil (w : World) :
    Calls Tryz.prog 132 #[.pointer none] w fun e w' => e = .returned (.bool false) ∧ w = w' := by
  go_enter Tryz.func132, Tryz.ntmps132
  go_wp2
  go_ret
  exact ⟨rfl, rfl⟩

set_option maxHeartbeats 400000 in
theorem now_calls (h : PastAt base w B M n D hist trim H) :
    Calls Tryz.prog 39 #[.pointer (some ⟨B, 0, none⟩)] w fun e w' => e = .returned (.int .u32 (hist.length : Int)) ∧ w = w' := by
  have c1 := h.c1
  go_enter Tryz.func39, Tryz.ntmps39
  go_wp2_with (go_at_call 132; refine (pthere_calls h).mono ?_; rintro e w1 ⟨rfl, rfl⟩)
  go_ret
  exact ⟨rfl, rfl⟩
end

set_option maxHeartbeats 400000 in
theorem pnew_calls (w : World) : Calls Tryz.prog 33 #[] w fun e w' => e = .returned (.pointer (some ⟨w.heap.size + 1, 0, none⟩)) ∧ Below w.heap.size w w' ∧ PastP w.heap.size w' (w.heap.size + 1) [] 0 := by
  have hmm := @run_makeMap Tryz.prog
  go_enter Tryz.func33, Tryz.ntmps33
  go_wp2

  go_ret
  refine ⟨by simp, ((Below.refl _ w).alloc (Nat.le_refl _) _).alloc (by simp) _, w.heap.size, 0, .map [], fun _ => [], ?_⟩
  refine ⟨alloc_at' _ (by simp), ?_, Past.new, by omega, by simp, fun _ => by simp⟩
  exact (SMap.made w (Nat.le_refl _)).below ((Below.refl _ _).alloc (Nat.le_refl _) _)

/-! ### backward over a slice -/
abbrev bItem (x : Int × Was) : Array Value := #[.int .i64 x.1, .agg #[.int .u32 x.2.at_, .int .u32 x.2.v, .bool x.2.g]]
def bList (l : List Was) : List (Int × Was) := (l.zipIdx.map fun p => ((p.2 : Int), p.1)).reverse
theorem bList_length (l : List Was) : (bList l).length = l.length := by simp [bList]
theorem bList_get (l : List Was) (k : Nat) (hk : k < l.length) : (bList l)[k]? = some (((l.length - 1 - k : Nat) : Int), l[l.length - 1 - k]'(by omega)) := by
  unfold bList
  rw [List.getElem?_reverse (by simpa using hk)]
  simp [List.getElem?_zipIdx]
theorem bList_take (l : List Was) (k : Nat) (hk : k < l.length) : (bList l).take (k + 1) = (bList l).take k ++ [(((l.length - 1 - k : Nat) : Int), l[l.length - 1 - k]'(by omega))] := by
  rw [List.take_add_one, bList_get l k hk]; rfl

set_option maxHeartbeats 1000000 in
set_option maxRecDepth 100000 in
theorem back_stops (n : Nat) (hn : 1 ≤ n) (bs n₀ : Nat) (v : Value) (l : List Was) (hl : l.length ≤ 1000000) (w : World) (hr : Rd Was.enc 3 w v l) (hn₀ : ∀ b, v.ownBlock = some b → 0 < l.length → b < n₀) (hbs : w.heap[bs]? = some (.cells #[v] 147 (0, 0))) (hn₁ : n₀ ≤ w.heap.size) :
    SeqStopsK Fence.wide n Tryz.prog 235 #[.pointer (some ⟨bs, 0, none⟩)] bItem (KpS n₀ bs) (fun ys => ys = bList l) (fun pre => pre <+: bList l) l.length w := by
  intro q J Jx W hW hJ _ hY h0
  obtain ⟨A, c, rfl, hlc, hc, hcell⟩ := hr
  have hbs1 : W.heap[bs]? = some (.cells #[.slice A l.length c] 147 (0, 0)) := (hW.block bs (Array.getElem?_eq_some_iff.1 hbs).1).trans hbs
  have c0 : W.cell? ⟨bs, 0, none⟩ = some (.slice A l.length c) := by simp [World.cell?, hbs1]
  refine callsIn_of_wp Tryz.func235 rfl trivial ?_ rfl
  simp only [Tryz.ntmps235, List.size_toArray, List.length_cons, List.length_nil, Nat.reduceAdd, Nat.reduceSub, Array.replicate_succ, Array.replicate_zero, List.push_toArray, List.append_toArray, List.nil_append, List.cons_append]
  gi_wp2
  gi_loopw [3] (fun i wr => ∃ k : Nat, k ≤ l.length ∧ i = .int .i64 ((l.length : Int) - 1 - k) ∧ J ((bList l).take k) wr ∧ Below n₀ W wr ∧ wr.heap[bs]? = some (.cells #[.slice A l.length c] 147 (0, 0)))
    (fun i _ => (intOf i + 1).toNat)
  case atStart => exact ⟨0, Nat.zero_le _, by go_num, by simpa using h0, Below.refl _ _, hbs1⟩
  case round =>
    obtain ⟨k, hk, rfl, hJk, hBk, hbk⟩ := hrel
    have c1 : wr.cell? ⟨bs, 0, none⟩ = some (.slice A l.length c) := by simp [World.cell?, hbk]
    by_cases hlt : k < l.length
    · obtain ⟨b, o, rfl, hcl⟩ := hcell (by omega)
      have hx := List.getElem?_eq_getElem (l := l) (i := l.length - 1 - k) (by omega)
      have hsn := bList_take l k hlt
      have hit := bList_get l k hlt
      have e0 := hcl _ _ hx 0 _ rfl
      have e1 := hcl _ _ hx 1 _ rfl
      have e2 := hcl _ _ hx 2 _ rfl
      have hbn : b < n₀ := hn₀ b rfl (by omega)
      replace e0 := (hBk.cell (p := ⟨b, _, none⟩) hbn).trans ((hW.cell (p := ⟨b, _, none⟩) (World.block_lt_of_cell? w _ e0)).trans e0)
      replace e1 := (hBk.cell (p := ⟨b, _, none⟩) hbn).trans ((hW.cell (p := ⟨b, _, none⟩) (World.block_lt_of_cell? w _ e1)).trans e1)
      replace e2 := (hBk.cell (p := ⟨b, _, none⟩) hbn).trans ((hW.cell (p := ⟨b, _, none⟩) (World.block_lt_of_cell? w _ e2)).trans e2)
      obtain ⟨fn, tmps, assign, body, hy, hR⟩ := hY _ (((l.length - 1 - k : Nat) : Int), l[l.length - 1 - k]) wr hJk (by rw [List.length_take, bList_length]; omega)
      rw [← hsn] at hR
      have HS := Lib.hid hsn
      clear hsn hit hx
      have hcast : (l.length : Int) - 1 - k = ((l.length - 1 - k : Nat) : Int) := by omega
      have hidx : l.length - 1 - k < l.length := by omega
      rw [hcast]
      clear hcast
      generalize hxx : l[l.length - 1 - k] = x at *
      generalize hmm : l.length - 1 - k = m at *
      simp only [Nat.add_zero] at e0
      have HM := Lib.hid hmm
      clear hmm hxx
      gi_wp2
      refine hR.mono ?_
      rintro e W3 (⟨rfl, hJ3, hk3, hk4⟩ | ⟨rfl, hJx3⟩)
      · gi_wp2
        go_roundw
        case rel => exact ⟨k + 1, by omega, by have := HM.out; congr 1; omega, hJ3, hBk.trans hk3, hk4 _ _ _ hbk⟩
        case measure => simp [intOf]
      · gi_wp2
        refine bodyPost_ret (results_none rfl _ _ _) rfl ?_
        exact ⟨⟨_, rfl⟩, .inr ⟨_, List.take_prefix _ _, hJx3⟩⟩
    · have hend : (bList l).take k = bList l := List.take_of_length_le (by rw [bList_length]; omega)
      rw [hend] at hJk
      clear hend
      gi_wp2
      go_end0
      exact ⟨⟨_, rfl⟩, .inl ⟨_, rfl, hJk⟩⟩

/-! ### what is found -/
def retW : Option Was → Int × Bool
  | some w => (w.v, !w.g)
  | none => (0, false)
theorem retW_told (o : Option Was) : toldW o = if (retW o).2 then some (retW o).1 else none := by
  cases o with
  | none => rfl
  | some w => cases hw : w.g <;> simp [retW, toldW, hw]

theorem bList_snd (l : List Was) : (bList l).map (·.2) = l.reverse := by
  unfold bList
  rw [List.map_reverse, List.map_map]
  congr 1
  have : ((fun x : Int × Was => x.2) ∘ fun p : Was × Nat => ((p.2 : Int), p.1)) = Prod.fst := rfl
  rw [this]
  simp
theorem lastW_none {mx : Int} {l : List Was} (h : ∀ y ∈ bList l, mx < y.2.at_) : lastW mx l = none := by
  unfold lastW
  rw [← bList_snd, List.find?_eq_none]
  intro w hw
  obtain ⟨y, hy, rfl⟩ := List.mem_map.1 hw
  have := h y hy
  simp; omega
theorem lastW_some {mx : Int} {l : List Was} {pre : List (Int × Was)} {x : Int × Was} (hp : pre ++ [x] <+: bList l) (hx : x.2.at_ ≤ mx) (h : ∀ y ∈ pre, mx < y.2.at_) : lastW mx l = some x.2 := by
  obtain ⟨rest, hr⟩ := hp
  unfold lastW
  rw [← bList_snd, ← hr, List.append_assoc, List.map_append, List.find?_append, List.find?_eq_none.2 (fun w hw => by
    obtain ⟨y, hy, rfl⟩ := List.mem_map.1 hw
    have := h y hy
    simp; omega)]
  simp [hx]

set_option maxHeartbeats 400000 in
theorem backward_in (n : Nat) (A : Option Addr) (m c : Nat) (w : World) :
    CallsIn Fence.wide n Tryz.prog 213 #[.slice A m c] w fun e w' =>
      e = .returned (.func (.func 235) #[] #[.pointer (some ⟨w.heap.size, 0, none⟩)]) ∧ w' = w.alloc (.cells #[.slice A m c] 147) := by
  refine callsIn_wide.2 ?_
  go_enter Tryz.func213, Tryz.ntmps213
  go_wp2
  go_ret
  exact ⟨rfl, rfl⟩

/-- The round that returned. -/
def FindX (S : Nat) (mx : Int) (c : Code) (ys : List (Int × Was)) (W : World) : Prop :=
  ∃ pre x, ys = pre ++ [x] ∧ c = .ret ∧ x.2.at_ ≤ mx ∧ (∀ y ∈ pre, mx < y.2.at_) ∧ Boxed W (S + 1) 42 (.int .u32 x.2.v) ∧ Boxed W (S + 1 + 1) 4 (.bool (!x.2.g))
theorem findX_own (S : Nat) (mx : Int) (c : Code) : _root_.Go.Own (FindX S mx c) := by
  rintro s A B row ⟨pre, x, e1, e2, e3, e4, e5, e6⟩ hg hr
  exact ⟨pre, x, e1, e2, e3, e4, boxed_own (β := Unit) _ _ (fun _ => .int .u32 x.2.v) () A B row e5 hg hr, boxed_own (β := Unit) _ _ (fun _ => .bool (!x.2.g)) () A B row e6 hg hr⟩

set_option maxHeartbeats 2000000 in
set_option maxRecDepth 100000 in
theorem pfind_calls {base : Nat} {w : World} {B M n : Nat} {D : DataW Value} {hist : List (List Change)} {trim : Nat} {H : Hist} (h : PastAt base w B M n D hist trim H) (hl : hist.flatten.length ≤ 1000000) (at' : Int) (key : ByteArray) (hk : okS key) :
    Calls Tryz.prog 135 #[.pointer (some ⟨B, 0, none⟩), .int .u32 at', .string key] w
      fun e w' => e = .returned (.tuple #[.int .u32 (retW (lastW (max at' trim) (H key))).1, .bool (retW (lastW (max at' trim) (H key))).2]) ∧ Below w.heap.size w w' := by
  refine (callsIn_wide (n := 3)).1 ?_
  refine callsIn_of_wp_marks Tryz.func135 rfl trivial ?_ rfl
  simp only [Tryz.ntmps135, List.size_toArray, List.length_cons, List.length_nil, Nat.reduceAdd, Nat.reduceSub, Array.replicate_succ, Array.replicate_zero, List.push_toArray, List.append_toArray, List.nil_append, List.cons_append]
  have c0 := h.c0
  have c2 := h.c2
  gi_wp2
  generalize hW0 : ((w.alloc (.cells #[.int .u32 at'] 42)).alloc (.cells #[.int .u32 0] 42)).alloc (.cells #[.bool false] 4) = W0
  have hsz : W0.heap.size = w.heap.size + 3 := by rw [← hW0]; simp
  have hB0 : Below w.heap.size w W0 := by rw [← hW0]; exact (((Below.refl _ w).alloc (Nat.le_refl _) _).alloc (by simp) _).alloc (by simp; omega) _
  have b1 : Boxed W0 w.heap.size 42 (.int .u32 at') := by rw [← hW0]; exact ((boxed_new' _ _ rfl).alloc _).alloc _
  have b2 : Boxed W0 (w.heap.size + 1) 42 (.int .u32 0) := by rw [← hW0]; exact (boxed_new' _ _ (by simp)).alloc _
  have b3 : Boxed W0 (w.heap.size + 1 + 1) 4 (.bool false) := by rw [← hW0]; exact boxed_new' _ _ (by simp)
  have h0 := h
  replace h := h.below hB0
  clear c0 c2 hW0
  have c0 := h.c0
  have c2 := h.c2
  have d1 := b1.cell
  have f1 := b1.frozen
  gi_region
  generalize hW1 : (W0.setCell ⟨w.heap.size, 0, none⟩ (.int .u32 (max at' trim))).drew = W1
  have hsz1 : W1.heap.size = w.heap.size + 3 := by rw [← hW1]; simpa using hsz
  have hB1 : Below w.heap.size w W1 := by
    rw [← hW1]
    have b := hB0.setCell (p := ⟨w.heap.size, 0, none⟩) (Nat.le_refl _) (.int .u32 (max at' trim))
    exact ⟨b.os, b.tape, b.output, b.size, b.block⟩
  have a1 : Boxed W1 w.heap.size 42 (.int .u32 (max at' trim)) := by rw [← hW1]; exact b1.set _
  have a2 : Boxed W1 (w.heap.size + 1) 42 (.int .u32 0) := by rw [← hW1]; exact b2.other (by omega) _
  have a3 : Boxed W1 (w.heap.size + 1 + 1) 4 (.bool false) := by rw [← hW1]; exact b3.other (by omega) _
  replace h := h0.below hB1
  clear c0 c2 d1 f1 b1 b2 b3 hW1 hB0 hsz
  clear W0
  have c0 := h.c0
  have hz : (zeroValue 147).run Tryz.prog W1 = .ok nilS W1 := by simp [Tryz.zeroValue147]
  obtain ⟨v, hrun, hat, hown⟩ := h.map.look keyS map_under hz hk
  have hRd := hown.rd was_len
  obtain ⟨A, c, rfl, hlc, hc⟩ := hown.shape
  gi_wp2_with (refine ⟨trivial, ?_⟩; gi_at_call 213; refine (backward_in _ _ _ _ _).mono ?_; rintro e w' ⟨rfl, rfl⟩)
  generalize hmx : max at' (trim : Int) = mx at *
  have HX := Lib.hid hmx
  clear hmx
  have hln : (H key).length ≤ 1000000 := Nat.le_trans (h.len key) hl
  have hlow : ∀ b, (Value.slice A (H key).length c).ownBlock = some b → 0 < (H key).length → b < w.heap.size := fun b e _ => by
    obtain ⟨v', e1, e2⟩ := h0.map.elem key hk
    rw [hat] at e1
    injection e1 with e1
    subst e1
    exact (e2.lt b e).2.1
  have hW2 : Below w.heap.size w (W1.alloc (.cells #[.slice A (H key).length c] 147)) := hB1.alloc (by omega) _
  have hab : W1.heap.size = w.heap.size + 3 := hsz1
  have hst := back_stops 2 (by omega) (w.heap.size + 3) w.heap.size (.slice A (H key).length c) (H key) hln (W1.alloc (.cells #[.slice A (H key).length c] 147)) (hRd.below ((Below.refl _ _).alloc (Nat.le_refl _) _)) hlow (alloc_at' _ hab.symm) hW2.size
  have a1' : Boxed (W1.alloc (.cells #[.slice A (H key).length c] 147)) w.heap.size 42 (.int .u32 mx) := a1.alloc _
  have a2' : Boxed (W1.alloc (.cells #[.slice A (H key).length c] 147)) (w.heap.size + 1) 42 (.int .u32 0) := a2.alloc _
  have a3' : Boxed (W1.alloc (.cells #[.slice A (H key).length c] 147)) (w.heap.size + 1 + 1) 4 (.bool false) := a3.alloc _
  have hs2 : (W1.alloc (.cells #[.slice A (H key).length c] 147)).heap.size = w.heap.size + 4 := by simp [hab]
  generalize (W1.alloc (.cells #[.slice A (H key).length c] 147)) = W2 at *
  clear hRd a1 a2 a3 hz hrun hat hown hB1 c0 h hsz1 hab
  clear W1
  refine wpIn_rangeFunc_ownH rfl (by omega) (gf := 235) (lb := #[.pointer (some ⟨w.heap.size + 3, 0, none⟩)]) rfl trivial (enters_of Tryz.func235 (by kernel_rfl) rfl)
    hst kpS_t (kpS_b (by omega)) (Below.refl _ _) (fun _ => rfl)
    (fun pre W => ((Boxed W w.heap.size 42 (.int .u32 mx) ∧ Boxed W (w.heap.size + 1) 42 (.int .u32 0)) ∧ Boxed W (w.heap.size + 1 + 1) 4 (.bool false)) ∧ (∀ y ∈ pre, mx < y.2.at_) ∧ Below w.heap.size W2 W)
    (fun c ys W => FindX w.heap.size mx c ys W ∧ Below w.heap.size W2 W)
    (OwnFrom.and (OwnFrom.and (OwnFrom.and (Own.from (boxed_own _ _ _) _) (Own.from (boxed_own _ _ _) _)) (Own.from (boxed_own _ _ _) _)) (OwnFrom.and (fun s A B row h _ _ => h) (ownFrom_below (by omega) (by omega))))
    (fun c => OwnFrom.and (Own.from (findX_own _ _ c) _) (ownFrom_below (by omega) (by omega)))
    ⟨⟨⟨a1', a2'⟩, a3'⟩, by simp, Below.refl _ _⟩
    (fun x a' W => ∃ Bx, (w.heap.size + 4 ≤ Bx ∧ W.heap[Bx]? = some (.cells #[.int .u32 x.2.at_, .int .u32 x.2.v, .bool x.2.g] 149 (0, 0))) ∧ a' = { tmps := #[.pointer (some ⟨B, 0, none⟩), .int .u32 at', .string key, undef, .pointer (some ⟨w.heap.size, 0, none⟩), undef, .pointer (some ⟨w.heap.size + 1, 0, none⟩), .pointer (some ⟨w.heap.size + 1 + 1, 0, none⟩), undef, .pointer (some ⟨Bx, 0, none⟩), .int .u32 at', .pointer (some ⟨B, 0, none⟩), .pointer (some ⟨B, 0, none⟩), .pointer (some ⟨B, 2, none⟩), .int .u32 trim, .int .u32 mx, .pointer (some ⟨B, 0, none⟩), .pointer (some ⟨B, 0, none⟩), .pointer (some ⟨B, 0, none⟩), .map (some M), .string key, .slice A (H key).length c,
      .func (.func 235) #[] #[.pointer (some ⟨w.heap.size + 3, 0, none⟩)], .int .i64 x.1, .agg #[.int .u32 x.2.at_, .int .u32 x.2.v, .bool x.2.g], undef, undef, undef, undef, undef, undef, undef, undef, undef], defers := [] })
    ?hAx ?assign ?body ?done ?stop
  case hAx =>
    rintro x a' s A C row ⟨Bx, ⟨h1, h2⟩, h3⟩ hg hr
    exact ⟨Bx, ⟨h1, cells_own (β := Unit) Bx _ _ () A C row h2 hg (fun r e => (hr r e).2)⟩, h3⟩
  case assign =>
    rintro l pre x W K ⟨⟨⟨h1, h2⟩, h3⟩, h4, hBe⟩ hK
    gi_wp2
    have hWs := hBe.size
    refine hK _ _ ((KeepsOthers.alloc _ _).from _) ⟨(Below.refl _ W).alloc (by omega) _, fun c t fr e => (Below.heap_alloc W _ _ (Array.getElem?_eq_some_iff.1 e).1).trans e⟩
      ⟨⟨⟨h1.alloc _, h2.alloc _⟩, h3.alloc _⟩, h4, hBe.alloc (by omega) _⟩ ⟨W.heap.size, ⟨by omega, alloc_at' _ rfl⟩, ?_⟩
    rfl
  case body =>
    rintro l pre x a' W hl' hr' ⟨⟨⟨h1, h2⟩, h3⟩, h4, hBe⟩ ⟨Bx, ⟨hBx, hX⟩, rfl⟩ hlt
    have e1 := h1.cell
    have e2 := h2.cell
    have e3 := h3.cell
    have g2 := h2.frozen
    have g3 := h3.frozen
    have hx0 : W.cell? ⟨Bx, 0, none⟩ = some (.int .u32 x.2.at_) := by simp [World.cell?, hX]
    have hx1 : W.cell? ⟨Bx, 1, none⟩ = some (.int .u32 x.2.v) := by simp [World.cell?, hX]
    have hx2 : W.cell? ⟨Bx, 2, none⟩ = some (.bool x.2.g) := by simp [World.cell?, hX]
    by_cases hq : x.2.at_ ≤ mx
    · gi_wp2
      gi_region
      all_goals
        gi_wp2
        refine ⟨(((KeepsOthers.setCell _ _ _).trans (KeepsOthers.setCell _ _ _)).trans (KeepsOthers.drew _)).from _, ⟨pre, x, rfl, rfl, hq, h4, (h2.set _).other (by omega) _, (h3.other (by omega) _).set _⟩, ?_⟩
        have b := (hBe.setCell (p := ⟨w.heap.size + 1, 0, none⟩) (by simp) (.int .u32 x.2.v)).setCell (p := ⟨w.heap.size + 1 + 1, 0, none⟩) (by simp; omega) (.bool (!x.2.g))
        exact ⟨b.os, b.tape, b.output, b.size, b.block⟩
    · have hkey : ∀ y ∈ pre ++ [x], mx < y.2.at_ := fun y hy => by
        rcases List.mem_append.1 hy with hy | hy
        · exact h4 y hy
        · rw [List.mem_singleton.1 hy]; omega
      gi_wp2
      refine ⟨KeepsFrom.refl _ _, ⟨Below.refl _ _, fun c t fr e => e⟩, ⟨⟨h1, h2⟩, h3⟩, ?_, hBe⟩
      first | exact hkey | exact fun a b hy => hkey (a, b) hy
  case done =>
    rintro D ys W hD rfl ⟨⟨⟨h1, h2⟩, h3⟩, h4, hBe⟩ hK
    have e2 := h2.cell
    have e3 := h3.cell
    have g2 := h2.frozen
    have g3 := h3.frozen
    gi_wp2
    have hfin := lastW_none (fun y hy => h4 y hy)
    have i2 : Boxed ((W.setCell ⟨w.heap.size + 1, 0, none⟩ (.int .u32 0)).setCell ⟨w.heap.size + 1 + 1, 0, none⟩ (.bool false)) (w.heap.size + 1) 42 (.int .u32 0) := (h2.set _).other (by omega) _
    have i3 : Boxed ((W.setCell ⟨w.heap.size + 1, 0, none⟩ (.int .u32 0)).setCell ⟨w.heap.size + 1 + 1, 0, none⟩ (.bool false)) (w.heap.size + 1 + 1) 4 (.bool false) := (h3.other (by omega) _).set _
    have hb2 := hW2.trans ((hBe.setCell (p := ⟨w.heap.size + 1, 0, none⟩) (by simp) (.int .u32 0)).setCell (p := ⟨w.heap.size + 1 + 1, 0, none⟩) (by simp; omega) (.bool false))
    have hK1 := (KeepsOthers.setCell W ⟨w.heap.size + 1, 0, none⟩ (.int .u32 0)).same D _ hK rfl
    have hK2 := (KeepsOthers.setCell (W.setCell ⟨w.heap.size + 1, 0, none⟩ (.int .u32 0)) ⟨w.heap.size + 1 + 1, 0, none⟩ (.bool false)).same D _ hK1 rfl
    generalize ((W.setCell ⟨w.heap.size + 1, 0, none⟩ (.int .u32 0)).setCell ⟨w.heap.size + 1 + 1, 0, none⟩ (.bool false)) = W9 at *
    refine ⟨by simp, .inl ⟨_, _, rfl, run_takeDeferred hK2, ?_⟩⟩
    have q2 := cell_kept i2.cell (grownBy_putObj' _ D (.deferred none)) (fun r e => by cases e; exact ⟨_, hK2, rfl⟩)
    have q3 := cell_kept i3.cell (grownBy_putObj' _ D (.deferred none)) (fun r e => by cases e; exact ⟨_, hK2, rfl⟩)
    refine ⟨.tuple #[.int .u32 0, .bool false], ?_, by rw [HX.out, hfin]; rfl, hb2.trans (belowK_b (w := w) (Nat.le_refl _) _ D _ _ (by omega) hK2 rfl rfl)⟩
    simp [results, Tryz.f135, go_sem, q2, q3]
  case stop =>
    rintro D c pre W hD hpre ⟨⟨pre, x, rfl, rfl, hx, hno, h2, h3⟩, hBe⟩ hK
    gi_wp2
    have hfin := lastW_some hpre hx hno
    have hb2 := hW2.trans hBe
    refine ⟨by simp, .inl ⟨_, _, rfl, run_takeDeferred hK, ?_⟩⟩
    have q2 := cell_kept h2.cell (grownBy_putObj' _ D (.deferred none)) (fun r e => by cases e; exact ⟨_, hK, rfl⟩)
    have q3 := cell_kept h3.cell (grownBy_putObj' _ D (.deferred none)) (fun r e => by cases e; exact ⟨_, hK, rfl⟩)
    refine ⟨.tuple #[.int .u32 x.2.v, .bool (!x.2.g)], ?_, by rw [HX.out, hfin]; rfl, hb2.trans (belowK_b (w := w) (Nat.le_refl _) _ D _ _ (by omega) hK rfl rfl)⟩
    simp [results, Tryz.f135, go_sem, q2, q3]

end Go.Proofs.YtanjgeacmpmjhaaGreatDoor
