import Derived.Test.YtimadkbdkdeepaaDoorProg
import Derived.Test.YtimadkbdkdeepaaDoorCmp
import Derived.Test.YtimadkbdkdeepaaDoorKinds
import Derived.Test.YtimadkbdkdeepaaDoorOwn
import Derived.Test.YtimadkbdkdeepaaDoorLaySortSpan
import Derived.Shelf.SlSortCmp.NoneTotal
set_option linter.unusedVariables false
set_option linter.unusedSimpArgs false
namespace Go.Proofs.YtimadkbdkdeepaaDoor
open Go.RowKit Go.Shelf

/-- A row of one's own, as the kit's sort wants it. -/
theorem Own.holdsK {α : Type} [Inhabited α] {enc : α → List Value} {k : Nat} {E : TypeId} {base : Nat} {w : World} {g cap : Nat} {xs : List α} (h : Own enc k E base w (.slice (some ⟨g, 0, none⟩) xs.length cap) xs) (hk : ∀ x, (enc x).length = k) (hp : 0 < xs.length) :
    Sort.HoldsK enc k w g 0 xs.toArray ∧ g < w.heap.size := by
  obtain ⟨g', cap', cur, hv, hb, hg, hlc, hcm, hsz, ht⟩ := h.some_block hp
  injection hv with h1 h2 h3
  injection h1 with h1
  injection h1 with h1
  subst h1 h3
  refine ⟨fun j hj => ?_, (Array.getElem?_eq_some_iff.1 hg).1⟩
  rw [Sort.size_flatK, List.size_toArray] at hj
  have hk0 : 0 < k := by rcases Nat.eq_zero_or_pos k with h | h; · subst h; simp at hj
                         · exact h
  have hq : j / k < xs.length := Nat.div_lt_of_lt_mul (by rwa [Nat.mul_comm] at hj)
  have hm : j % k < (enc xs[j / k]).length := by rw [hk]; exact Nat.mod_lt _ hk0
  have h1 := flat_get hk xs (j / k) _ (j % k) _ (List.getElem?_eq_getElem hq) (List.getElem?_eq_getElem hm)
  rw [Nat.mul_comm, Nat.div_add_mod] at h1
  have hc : cur[j]? = some (enc xs[j / k])[j % k] := by
    rw [← ht, List.getElem?_take, if_pos (by rw [Nat.mul_comm] at hj; rw [Nat.mul_comm]; exact hj)] at h1
    simpa using h1
  rw [Nat.zero_add]
  constructor
  · simp only [World.cell?, hg, Option.isSome_none, Bool.false_eq_true, if_false, hc]
    rw [Sort.get_flatK _ _ _ _ (by simpa using hj)]
    have e : xs.toArray[j / k]! = xs[j / k] := by simp [hq]
    rw [e, getElem!_pos (enc _) (j % k) hm]
    rfl
  · simp [World.frozen?, hg]

theorem sortWorld_own {α : Type} [Inhabited α] {enc : α → List Value} {k : Nat} {E : TypeId} {base : Nat} {w : World} {g cap : Nat} {xs : List α} (h : Own enc k E base w (.slice (some ⟨g, 0, none⟩) xs.length cap) xs) (hk : ∀ x, (enc x).length = k) (hp : 0 < xs.length)
    (n : Nat) (os : Array Obj) (d : Array α) (hd : d.size = xs.length) :
    Own enc k E base (sortWorldK enc k w g 0 n d os) (.slice (some ⟨g, 0, none⟩) xs.length cap) d.toList ∧ w.grownBy (sortWorldK enc k w g 0 n d os) (some g) := by
  obtain ⟨g', cap', cur, hv, hb, hg, hlc, hcm, hsz, ht⟩ := h.some_block hp
  injection hv with h1 h2 h3
  injection h1 with h1
  injection h1 with h1
  subst h1 h3
  have hlt := (Array.getElem?_eq_some_iff.1 hg).1
  have hheap : ∀ i, i < w.heap.size → (sortWorldK enc k w g 0 n d os).heap[i]? = (w.heap.modify g (Sort.onCells (Sort.putCells id 0 (Sort.flatK enc k d))))[i]? := fun i hi => by
    show ((w.heap.modify g (Sort.onCells (Sort.putCells id 0 (Sort.flatK enc k d)))) ++ os)[i]? = _
    rw [Array.getElem?_append_left (by simpa using hi)]
  have hdl : d.toList.length = xs.length := by simpa using hd
  constructor
  · have hself : (sortWorldK enc k w g 0 n d os).heap[g]? = some (.cells (Sort.putCells id 0 (Sort.flatK enc k d) cur) E (0, 0)) := by
      rw [hheap g hlt, Array.getElem?_modify, if_pos rfl, hg]
      rfl
    rw [← hdl]
    refine ⟨flat_length hk _, .inr ⟨g, cap, _, rfl, hb, hself, by rw [hdl]; exact hlc, hcm, by simpa [Sort.putCells] using hsz, ?_⟩⟩
    rw [hdl]
    apply List.ext_getElem?
    intro j
    by_cases hj : j < xs.length * k
    · have hk0 : 0 < k := by rcases Nat.eq_zero_or_pos k with h | h; · subst h; simp at hj
                             · exact h
      have hjc : j < cur.size := by rw [hsz]; exact Nat.lt_of_lt_of_le hj (Nat.mul_le_mul_right _ hlc)
      have hq : j / k < d.toList.length := by rw [hdl]; exact Nat.div_lt_of_lt_mul (by rwa [Nat.mul_comm] at hj)
      have hm : j % k < (enc d.toList[j / k]).length := by rw [hk]; exact Nat.mod_lt _ hk0
      have h1 := flat_get hk d.toList (j / k) _ (j % k) _ (List.getElem?_eq_getElem hq) (List.getElem?_eq_getElem hm)
      rw [Nat.mul_comm, Nat.div_add_mod] at h1
      have hF : j < (Sort.flatK enc k d).size := by rw [Sort.size_flatK, hd]; exact hj
      rw [h1, List.getElem?_take, if_pos hj, Array.getElem?_toList]
      unfold Sort.putCells
      rw [Array.getElem?_mapIdx, Array.getElem?_eq_getElem hjc, Option.map_some, if_pos ⟨Nat.zero_le _, by omega⟩, Nat.sub_zero, id, Sort.get_flatK _ _ _ _ (by rw [hd]; exact hj)]
      have e : d[j / k]! = d.toList[j / k] := by
        rw [getElem!_pos d (j / k) (by simpa using hq)]; simp
      rw [e, getElem!_pos (enc _) (j % k) hm]
    · rw [List.getElem?_eq_none (by simp; omega), List.getElem?_eq_none (by rw [flat_length hk, hdl]; omega)]
  · refine ⟨rfl, rfl, rfl, ?_, fun i hi hne => ?_⟩
    · show w.heap.size ≤ ((w.heap.modify g (Sort.onCells (Sort.putCells id 0 (Sort.flatK enc k d)))) ++ os).size
      simp
    · rw [hheap i hi, Array.getElem?_modify, if_neg (fun e => hne (by rw [e]))]

theorem permIn_mem {α : Type} [Inhabited α] {d d' : Array α} (h : Sort.PermIn 0 d.size d d') : d'.size = d.size ∧ ∀ y, y ∈ d'.toList ↔ y ∈ d.toList := by
  obtain ⟨h1, _, h3⟩ := h
  refine ⟨h1, fun y => ?_⟩
  have e1 : d'.extract 0 d.size = d' := by rw [← h1]; simp
  have e2 : d.extract 0 d.size = d := by simp
  rw [e1, e2] at h3
  exact h3.mem_iff

theorem sortedIn_pairwise {α : Type} [Inhabited α] {lt : α → α → Bool} {d : Array α} (h : Sort.SortedIn lt 0 d.size d) : d.toList.Pairwise fun a b => lt b a = false := by
  rw [List.pairwise_iff_getElem]
  intro i j hi hj hij
  have hi' : i < d.size := by simpa using hi
  have hj' : j < d.size := by simpa using hj
  have := h i j (Nat.zero_le _) hij hj'
  rw [getElem!_pos d i hi', getElem!_pos d j hj'] at this
  simpa using this

set_option maxHeartbeats 400000 in
theorem by_calls (a b c d : ByteArray) (w : World) :
    Calls Tryd.prog 46 #[.agg #[.string a, .string b], .agg #[.string c, .string d]] w fun e w' => e = .returned (.int .i64 (scmp a c)) ∧ ∃ os, w' = Sort.grow w os := by
  go_enter Tryd.func46, Tryd.ntmps46
  go_wp2_with (go_at_call 60; refine (compare_calls _ _ _).mono ?_; rintro e w' ⟨rfl, rfl⟩)
  go_ret
  exact ⟨rfl, _, by rw [Sort.alloc_eq_grow, Sort.alloc_eq_grow, Sort.grow_grow]⟩

def cfSpan (x y : Span) : Int := scmp x.f y.f
theorem ltSpan (x y : Span) : ltOf cfSpan x y = slt x.f y.f := scmp_neg _ _
theorem swoSpan : Sort.SWO (ltOf cfSpan) where
  irrefl x := by rw [ltSpan]; exact slt_irrefl _
  trans x y z h1 h2 := by rw [ltSpan] at *; exact slt_trans h1 h2
  ntrans x y z h1 h2 := by
    rw [ltSpan] at *
    rw [not_slt] at *
    exact sle_trans h2 h1

end Go.Proofs.YtimadkbdkdeepaaDoor
