import Derived.Test.YtanjgeacmpmjhaaGreatDoorUPdq
import Derived.Test.YtanjgeacmpmjhaaGreatDoorMgLocksPlay6
import Derived.Test.YtanjgeacmpmjhaaGreatDoorLayBitsLen
import Derived.Test.YtanjgeacmpmjhaaGreatDoorLayCompactU
import Derived.Shelf.Small.Bits
import Derived.Shelf.SlicesE.Compact
import Derived.Sort.AssemblyPlain
set_option linter.unusedVariables false
set_option linter.unusedSimpArgs false
set_option linter.unusedSectionVars false
namespace Go.Proofs.YtanjgeacmpmjhaaGreatDoor
open Go.RowKit Go.Sort Go.Shelf

abbrev encU (x : Int) : List Value := [eU x]
theorem encU_len (x : Int) : (encU x).length = 1 := rfl
theorem encU_one (x : Int) : ∀ u ∈ encU x, u.oneCell' = true := fun u hu => by
  rw [List.mem_singleton] at hu
  subst hu; rfl
theorem flat_U (l : List Int) : l.flatMap encU = l.map eU := by
  induction l with
  | nil => rfl
  | cons x l ih => rw [List.flatMap_cons, ih]; rfl

/-- A slice of whole numbers of one's own. -/
abbrev OwnU (base : Nat) (w : World) (v : Value) (l : List Int) : Prop := Own encU 1 42 base w v l

theorem OwnU.holds {base : Nat} {w : World} {g cap : Nat} {l : List Int} (h : OwnU base w (.slice (some ⟨g, 0, none⟩) l.length cap) l) (hp : 0 < l.length) : Holds eU w g 0 l.toArray ∧ g < w.heap.size := by
  obtain ⟨g', cap', cur, hv, hb, hg, hlc, hcm, hsz, ht⟩ := h.some_block hp
  injection hv with h1 h2 h3
  injection h1 with h1
  injection h1 with h1
  subst h1 h3
  rw [flat_U, Nat.mul_one] at ht
  refine ⟨fun j hj => ?_, (Array.getElem?_eq_some_iff.1 hg).1⟩
  have hj' : j < l.length := by simpa using hj
  refine ⟨?_, by simp [World.frozen?, hg]⟩
  have h1 : (cur.toList.take l.length)[j]? = (l.map eU)[j]? := by rw [ht]
  rw [List.getElem?_take_of_lt hj'] at h1
  simp only [World.cell?, hg, Nat.zero_add, Option.isSome_none, Bool.false_eq_true, if_false]
  rw [← Array.getElem?_toList, h1]
  simp [hj']

theorem ownU_put {base : Nat} {w : World} {g cap : Nat} {l : List Int} (h : OwnU base w (.slice (some ⟨g, 0, none⟩) l.length cap) l) (hp : 0 < l.length) (n : Nat) (d : Array Int) (hd : d.size = l.length) :
    OwnU base (putRow eU (Sort.ahead w n) g 0 d) (.slice (some ⟨g, 0, none⟩) l.length cap) d.toList ∧ w.grownBy (putRow eU (Sort.ahead w n) g 0 d) (some g) := by
  obtain ⟨g', cap', cur, hv, hb, hg, hlc, hcm, hsz, ht⟩ := h.some_block hp
  injection hv with h1 h2 h3
  injection h1 with h1
  injection h1 with h1
  subst h1 h3
  have hdl : d.toList.length = l.length := by simpa using hd
  have hheap : (putRow eU (Sort.ahead w n) g 0 d).heap[g]? = some (.cells (putCells eU 0 d cur) 42 (0, 0)) := by
    simp [putRow, mapBlock, Sort.ahead, Array.getElem?_modify, hg, onCells]
  constructor
  · rw [← hdl]
    refine ⟨flat_length encU_len _, .inr ⟨g, cap, _, rfl, hb, hheap, by rw [hdl]; exact hlc, hcm, by simpa [putCells] using hsz, ?_⟩⟩
    rw [flat_U, Nat.mul_one]
    apply List.ext_getElem?
    intro j
    by_cases hj : j < d.toList.length
    · have hjd : j < d.size := by simpa using hj
      have hjc : j < cur.size := by rw [hsz]; omega
      rw [List.getElem?_take_of_lt hj, Array.getElem?_toList]
      simp [putCells, hjd, hjc]
    · rw [List.getElem?_take_eq_none (by omega), List.getElem?_eq_none (by simp; simpa using hj)]
  · refine ⟨rfl, rfl, rfl, by simp [putRow, mapBlock, Sort.ahead], fun k hk hne => ?_⟩
    have : g ≠ k := fun e => hne (by rw [e])
    simp [putRow, mapBlock, Sort.ahead, Array.getElem?_modify, this]

/-- How many are sorted at most. -/
abbrev sortN : Nat := 1000000

set_option maxHeartbeats 1000000 in
set_option maxRecDepth 100000 in
theorem upins_calls (A : Option Addr) (cap : Nat) (w : World) : Calls Tryz.prog 236 #[.slice A 0 cap, .int .i64 0, .int .i64 0] w fun e w' => e = .returned (.tuple #[]) ∧ w' = w := by
  go_enter Tryz.func236, Tryz.ntmps236
  go_wp2
  go_loopw [6] (fun vi wr => vi = .int .i64 1 ∧ wr = w) (fun _ _ => 0)
  case atStart => exact ⟨rfl, rfl⟩
  case round =>
    obtain ⟨rfl, rfl⟩ := hrel
    go_wp2
    go_end0
    exact ⟨rfl, rfl⟩

set_option maxHeartbeats 1000000 in
set_option maxRecDepth 100000 in
/-- slices.pdqsortOrdered at uint32, of few. -/
theorem updq_calls (v : Value) (m : Nat) (lim : Int) (w : World) (hm : m ≤ 12) (Q : Ending → World → Prop)
    (hins : Calls Tryz.prog 236 #[v, .int .i64 0, .int .i64 m] w fun e w' => e = .returned (.tuple #[]) ∧ Q e w') :
    Calls Tryz.prog 216 #[v, .int .i64 0, .int .i64 m, .int .i64 lim] w fun e w' => e = .returned (.tuple #[]) ∧ Q (.returned (.tuple #[])) w' := by
  have HI := Lib.hid hins
  clear hins
  go_enter Tryz.func216, Tryz.ntmps216
  go_wp2
  go_loopw [1, 2, 3, 8, 9] (fun a b c d e wr => a = .int .i64 0 ∧ b = .int .i64 m ∧ c = .int .i64 lim ∧ d = .bool true ∧ e = .bool true ∧ wr = w) (fun _ _ _ _ _ _ => 0)
  case atStart => exact ⟨rfl, rfl, rfl, rfl, rfl, rfl⟩
  case round =>
    obtain ⟨rfl, rfl, rfl, rfl, rfl, rfl⟩ := hrel
    go_wp2_with (go_at_call 236; refine HI.out.mono ?_; rintro e w1 ⟨rfl, hQ⟩)
    (try simp only [Exit.inBlock, Exit.then])
    refine bodyPost_ret (results_none rfl _ _ _) rfl ?_
    exact ⟨rfl, hQ⟩

theorem RowU.own {base : Nat} {w W : World} {g cap : Nat} {l : List Int} {y : Array Int} (h : OwnU base w (.slice (some ⟨g, 0, none⟩) l.length cap) l) (hp : 0 < l.length) (hR : RowU w g 0 W y) (hy : y.size = l.length) :
    OwnU base W (.slice (some ⟨g, 0, none⟩) l.length cap) y.toList := by
  obtain ⟨g', cap', cur, hv, hb, hg, hlc, hcm, hsz, ht⟩ := h.some_block hp
  injection hv with h1 h2 h3
  injection h1 with h1
  injection h1 with h1
  subst h1 h3
  have hdl : y.toList.length = l.length := by simpa using hy
  obtain ⟨cur', hg', hsz'⟩ := hR.shape cur _ _ hg
  rw [← hdl]
  refine ⟨flat_length encU_len _, .inr ⟨g, cap, cur', rfl, hb, hg', by rw [hdl]; exact hlc, hcm, by rw [hsz']; simpa using hsz, ?_⟩⟩
  rw [flat_U, Nat.mul_one]
  have hcs : cur'.size = cap := by rw [hsz']; simpa using hsz
  apply List.ext_getElem?
  intro j
  by_cases hj : j < y.toList.length
  · have hjd : j < y.size := by simpa using hj
    have hjc : j < cur'.size := by omega
    have hcell := (hR.holds j hjd).1
    simp only [World.cell?, hg', Nat.zero_add, Option.isSome_none, Bool.false_eq_true, if_false] at hcell
    rw [List.getElem?_take_of_lt hj, Array.getElem?_toList, hcell]
    simp [hjd]
  · rw [List.getElem?_take_eq_none (by omega), List.getElem?_eq_none (by simp; simpa using hj)]

set_option maxHeartbeats 1000000 in
set_option maxRecDepth 100000 in
/-- slices.Sort at uint32: what is there, rising. -/
theorem usort_calls {base : Nat} {w : World} {v : Value} {l : List Int} (h : OwnU base w v l) (hl : l.length ≤ sortN) :
    Calls Tryz.prog 148 #[v] w fun e w' => e = .returned (.tuple #[]) ∧ ∃ l' : List Int, OwnU base w' v l' ∧ l'.Perm l ∧ l'.Pairwise (· ≤ ·) ∧ w.grownBy w' v.ownBlock := by
  have hl' : l.length ≤ 1000000 := hl
  obtain ⟨A, c, rfl, hlc, hcm⟩ := h.slice
  have hbl : ∀ W, Calls Tryz.prog 217 #[.int .u64 (l.length : Int)] W fun e w' => e = .returned (.int .i64 (Lib.bitLen l.length)) ∧ w' = W := fun W => by
    have := Any.bits_Len bitsLen (l.length : Int) W (by omega) (by omega)
    rw [Int.toNat_natCast] at this
    exact this
  have hp : Calls Tryz.prog 216 #[.slice A l.length c, .int .i64 0, .int .i64 (l.length : Nat), .int .i64 (Lib.bitLen l.length)] w
      fun e w' => e = .returned (.tuple #[]) ∧ ∃ l' : List Int, OwnU base w' (.slice A l.length c) l' ∧ l'.Perm l ∧ l'.Pairwise (· ≤ ·) ∧ w.grownBy w' (Value.slice A l.length c).ownBlock := by
    by_cases h0 : l.length = 0
    · obtain rfl : l = [] := List.length_eq_zero_iff.1 h0
      refine updq_calls _ _ _ w (by simp) (fun _ w' => ∃ l' : List Int, OwnU base w' (.slice A ([] : List Int).length c) l' ∧ l'.Perm [] ∧ l'.Pairwise (· ≤ ·) ∧ w.grownBy w' (Value.slice A ([] : List Int).length c).ownBlock) ?_
      refine (upins_calls A c w).mono ?_
      rintro e w' ⟨rfl, rfl⟩
      exact ⟨rfl, [], h, .refl _, .nil, ⟨rfl, rfl, rfl, Nat.le_refl _, fun _ _ _ => rfl⟩⟩
    · obtain ⟨g, cap, cur, hv, _⟩ := h.some_block (by omega)
      injection hv with hA _ hcap
      subst hA hcap
      obtain ⟨hH, hg⟩ := OwnU.holds h (by omega)
      have hbits : Lib.bitLen l.length ≤ 100 := by
        rw [bitLen_eq _ (by omega)]
        exact Nat.le_trans ((Sort.bitsLen_le_iff _ 62).2 (by omega)) (by omega)
      refine (updqF_calls c l.length (by omega) (l.length + 1) 0 l.length (Lib.bitLen l.length) (by omega) (RowU.refl hH hg) (by simp) (Nat.zero_le _) (Nat.le_refl _) hbits (.inl rfl)).mono ?_
      rintro e w' ⟨rfl, y, hR, hP, hS⟩
      have hys : y.size = l.length := by rw [hP.1]; simp
      refine ⟨rfl, y.toList, RowU.own h (by omega) hR hys, ?_, ?_, hR.grown⟩
      · have hperm := hP.2.2
        have e1 : y.extract 0 l.length = y := Array.extract_eq_self_of_le (by omega)
        have e2 : l.toArray.extract 0 l.length = l.toArray := by simp
        rw [e1, e2] at hperm
        simpa using hperm
      · rw [List.pairwise_iff_getElem]
        intro i j hi hj hij
        have hi' : i < y.size := by simpa using hi
        have hj' : j < y.size := by simpa using hj
        have := hS i j (Nat.zero_le _) hij (by omega)
        rw [getElem!_pos _ i hi', getElem!_pos _ j hj'] at this
        simp only [ltInt, decide_eq_false_iff_not] at this
        simp only [Array.getElem_toList]
        omega
  clear h
  go_enter Tryz.func148, Tryz.ntmps148
  go_wp2_with (first
    | (go_at_call 217; refine (hbl _).mono ?_; rintro e w1 ⟨rfl, rfl⟩)
    | (go_at_call 216; refine hp.mono ?_; rintro e w1 ⟨rfl, hres⟩))
  go_end0
  exact ⟨rfl, hres⟩

end Go.Proofs.YtanjgeacmpmjhaaGreatDoor
