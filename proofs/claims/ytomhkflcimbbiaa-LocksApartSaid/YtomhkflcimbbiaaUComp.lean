import Derived.Test.YtomhkflcimbbiaaUSort
set_option linter.unusedVariables false
set_option linter.unusedSimpArgs false
set_option linter.unusedSectionVars false
namespace Go.Proofs.Ytomhkflcimbbiaa
open Go.RowKit Go.Sort Go.Shelf Go.Lib

theorem compactU_spec (d : Array Int) (hs : ∀ i j, i < j → j < d.size → d[i]! ≤ d[j]!) : ∀ m, m ≤ d.size →
    (∀ x, x ∈ compactUpTo d m ↔ ∃ i, i < m ∧ d[i]! = x) ∧ (compactUpTo d m).Pairwise (· < ·) ∧ (0 < m → ∀ x ∈ compactUpTo d m, x ≤ d[m - 1]!)
  | 0, _ => ⟨fun x => ⟨fun h => absurd h (by simp [compactUpTo]), fun ⟨i, hi, _⟩ => absurd hi (Nat.not_lt_zero _)⟩, by simp [compactUpTo], fun h => absurd h (Nat.lt_irrefl _)⟩
  | m + 1, hm => by
    obtain ⟨h1, h2, h3⟩ := compactU_spec d hs m (by omega)
    rw [compactUpTo_succ]
    by_cases hk : keeps d m = true
    · rw [if_pos hk]
      have hlt : ∀ x ∈ compactUpTo d m, x < d[m]! := fun x hx => by
        obtain ⟨i, hi, _⟩ := (h1 x).1 hx
        have hx1 := h3 (by omega) x hx
        have hle := hs (m - 1) m (by omega) (by omega)
        have hne : d[m]! ≠ d[m - 1]! := by
          unfold keeps at hk
          simp only [Bool.or_eq_true, decide_eq_true_eq, bne_iff_ne, beq_iff_eq, ne_eq] at hk
          rcases hk with hk | hk
          · omega
          · first | exact hk | (simpa using hk)
        omega
      refine ⟨fun x => ?_, ?_, fun _ x hx => ?_⟩
      · rw [List.mem_append, List.mem_singleton, h1]
        constructor
        · rintro (⟨i, hi, e⟩ | rfl)
          · exact ⟨i, by omega, e⟩
          · exact ⟨m, by omega, rfl⟩
        · rintro ⟨i, hi, e⟩
          by_cases him : i = m
          · subst him; exact .inr e.symm
          · exact .inl ⟨i, by omega, e⟩
      · rw [List.pairwise_append]
        exact ⟨h2, by simp, fun a ha b hb => by rw [List.mem_singleton.1 hb]; exact hlt a ha⟩
      · rw [Nat.add_sub_cancel]
        rcases List.mem_append.1 hx with hx | hx
        · have := hlt x hx; omega
        · rw [List.mem_singleton.1 hx]; exact Int.le_refl _
    · rw [if_neg hk, List.append_nil]
      have hm0 : 0 < m ∧ d[m]! = d[m - 1]! := by
        unfold keeps at hk
        simp only [Bool.or_eq_true, decide_eq_true_eq, bne_iff_ne, beq_iff_eq, ne_eq, not_or, Decidable.not_not] at hk
        exact ⟨by omega, by first | exact hk.2 | (simpa using hk.2)⟩
      refine ⟨fun x => ?_, h2, fun _ x hx => ?_⟩
      · rw [h1]
        constructor
        · rintro ⟨i, hi, e⟩
          exact ⟨i, by omega, e⟩
        · rintro ⟨i, hi, e⟩
          by_cases him : i = m
          · subst him
            exact ⟨i - 1, by omega, by rw [← hm0.2]; exact e⟩
          · exact ⟨i, by omega, e⟩
      · rw [Nat.add_sub_cancel, hm0.2]
        exact h3 hm0.1 x hx

theorem OwnU.pre {base : Nat} {w : World} {A : Option Addr} {c : Nat} {l r : List Int} (h : OwnU base w (.slice A (l ++ r).length c) (l ++ r)) (hp : 0 < l.length) : OwnU base w (.slice A l.length c) l := by
  obtain ⟨g, cap, cur, hv, hb, hg, hlc, hcm, hsz, ht⟩ := h.some_block (by simp; omega)
  injection hv with h1 h2 h3
  subst h1 h3
  refine ⟨flat_length encU_len _, .inr ⟨g, c, cur, rfl, hb, hg, by rw [List.length_append] at hlc; omega, hcm, hsz, ?_⟩⟩
  rw [flat_U, Nat.mul_one] at ht ⊢
  have := congrArg (List.take l.length) ht
  rw [List.take_take, Nat.min_eq_left (by simp)] at this
  rw [this, List.map_append, List.take_left' (by simp)]

set_option maxHeartbeats 1000000 in
theorem ucomp_empty (A : Option Addr) (c : Nat) (w : World) : Calls Try.prog 34 #[.slice A 0 c] w fun e w' => e = .returned (.slice A 0 c) ∧ w' = w := by
  go_enter Try.func34, Try.ntmps34
  go_wp2
  go_ret
  exact ⟨rfl, rfl⟩

/-- slices.Compact at uint32, of what rises: each once. -/
theorem ucomp_calls {base : Nat} {w : World} {v : Value} {l : List Int} (h : OwnU base w v l) (hs : l.Pairwise (· ≤ ·)) (hl : l.length ≤ 1000000) :
    Calls Try.prog 34 #[v] w fun e w' => ∃ (v' : Value) (l' : List Int), e = .returned v' ∧ OwnU base w' v' l' ∧ l'.Pairwise (· < ·) ∧ (∀ x, x ∈ l' ↔ x ∈ l) ∧ w.grownBy w' v.ownBlock := by
  obtain ⟨A, c, rfl, hlc, hcm⟩ := h.slice
  by_cases h0 : l.length = 0
  · obtain rfl : l = [] := List.length_eq_zero_iff.1 h0
    refine (ucomp_empty A c w).mono ?_
    rintro e w' ⟨rfl, rfl⟩
    exact ⟨_, [], rfl, h, .nil, fun _ => Iff.rfl, ⟨rfl, rfl, rfl, Nat.le_refl _, fun _ _ _ => rfl⟩⟩
  · obtain ⟨g, cap, cur, hv, _⟩ := h.some_block (by omega)
    injection hv with hA _ hcap
    subst hA hcap
    obtain ⟨hH, hg⟩ := OwnU.holds h (by omega)
    have hc := AnyE.slices_Compact compactU eU (fun _ => rfl) (EqlAt.intD _ _ .u32) (NeqAt.intD _ _ .u32) 0 (fun w => show (zeroValue 22).run Try.prog w = .ok (eU 0) w by simp [Try.zeroValue22]) g 0 c l.toArray w hH (by simp; omega) (by simpa using hlc)
    simp only [List.size_toArray] at hc
    have hsd : ∀ i j, i < j → j < l.toArray.size → l.toArray[i]! ≤ l.toArray[j]! := fun i j hij hj => by
      have hj' : j < l.length := by simpa using hj
      rw [List.pairwise_iff_getElem] at hs
      have := hs i j (by omega) hj' hij
      rw [getElem!_pos _ i (by simp; omega), getElem!_pos _ j (by simp; omega)]
      simpa using this
    obtain ⟨c1, c2, c3⟩ := compactU_spec l.toArray hsd l.length (by simp)
    generalize hcl : compactUpTo l.toArray l.length = l' at *
    have hl' : l'.length ≤ l.length := by
      rw [← hcl]
      unfold compactUpTo
      rw [List.length_map]
      exact Nat.le_trans (List.length_filter_le _ _) (by simp)
    have hmem : ∀ x, x ∈ l' ↔ x ∈ l := fun x => by
      rw [c1, List.mem_iff_getElem]
      constructor
      · rintro ⟨i, hi, e⟩
        exact ⟨i, hi, by rw [← e, getElem!_pos _ i (by simpa using hi)]; simp⟩
      · rintro ⟨i, hi, e⟩
        exact ⟨i, hi, by rw [getElem!_pos _ i (by simpa using hi)]; simpa using e⟩
    have hp : 0 < l'.length := by
      have : l[0]'(by omega) ∈ l' := (hmem _).2 (List.getElem_mem _)
      exact List.length_pos_of_mem this
    refine Calls.mono (P := Try.prog) hc ?_
    rintro e w' ⟨rfl, q, rfl⟩
    obtain ⟨ho, hgr⟩ := ownU_put h (by omega) q (l' ++ List.replicate (l.length - l'.length) 0).toArray (by simp; omega)
    rw [List.toList_toArray] at ho
    have ho' : OwnU base (putRow eU (Sort.ahead w q) g 0 (l' ++ List.replicate (l.length - l'.length) 0).toArray) (.slice (some ⟨g, 0, none⟩) (l' ++ List.replicate (l.length - l'.length) 0).length c) (l' ++ List.replicate (l.length - l'.length) 0) := by
      have : (l' ++ List.replicate (l.length - l'.length) (0 : Int)).length = l.length := by simp; omega
      rw [this]; exact ho
    exact ⟨_, l', rfl, ho'.pre hp, c2, hmem, hgr⟩

end Go.Proofs.Ytomhkflcimbbiaa
