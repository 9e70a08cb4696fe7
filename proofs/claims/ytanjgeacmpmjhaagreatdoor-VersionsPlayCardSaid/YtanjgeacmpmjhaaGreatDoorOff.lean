import Derived.Test.YtanjgeacmpmjhaaGreatDoorOwn
set_option linter.unusedVariables false
set_option linter.unusedSimpArgs false
namespace Go.Proofs.YtanjgeacmpmjhaaGreatDoor
open Go.RowKit

/-- A slice of the call's own memory, that need not begin where its block does. -/
def OwnO {α : Type} (enc : α → List Value) (k : Nat) (E : TypeId) (base : Nat) (w : World) (v : Value) (xs : List α) : Prop :=
  (v = .slice none 0 0 ∧ xs = []) ∨ ∃ g o cap cur, v = .slice (some ⟨g, o, none⟩) xs.length cap ∧ base ≤ g ∧ w.heap[g]? = some (.cells cur E (0, 0)) ∧ xs.length ≤ cap ∧ cap ≤ 9223372036854775807 ∧ o + cap * k ≤ cur.size ∧
    (cur.toList.drop o).take (xs.length * k) = xs.flatMap enc

section
variable {α : Type} {enc : α → List Value} {k : Nat} {E : TypeId} {base : Nat} {w : World} {v : Value} {xs : List α}

theorem OwnO.nil (enc : α → List Value) (k : Nat) (E : TypeId) (base : Nat) (w : World) : OwnO enc k E base w (.slice none 0 0) [] := .inl ⟨rfl, rfl⟩

theorem OwnO.shape (h : OwnO enc k E base w v xs) : ∃ A c, v = .slice A xs.length c ∧ xs.length ≤ c ∧ c ≤ 9223372036854775807 := by
  rcases h with ⟨rfl, rfl⟩ | ⟨g, o, cap, cur, rfl, _, _, h1, h2, _⟩
  · exact ⟨none, 0, rfl, Nat.le_refl _, by omega⟩
  · exact ⟨_, cap, rfl, h1, h2⟩

theorem OwnO.rd (hk : ∀ x, (enc x).length = k) (h : OwnO enc k E base w v xs) : Rd enc k w v xs := by
  rcases h with ⟨rfl, rfl⟩ | ⟨g, o, cap, cur, rfl, _, hh, h1, h2, hsz, ht⟩
  · exact ⟨none, 0, rfl, Nat.le_refl _, by omega, fun h => absurd h (Nat.lt_irrefl _)⟩
  · refine ⟨_, cap, rfl, h1, h2, fun _ => ⟨g, o, rfl, fun i x hi j u hu => ?_⟩⟩
    have h3 := flat_get hk xs i x j u hi hu
    rw [← ht, List.getElem?_take] at h3
    split at h3
    · rw [List.getElem?_drop] at h3
      simp only [World.cell?, hh, Option.isSome_none, Bool.false_eq_true, if_false]
      rw [Nat.add_assoc]
      simpa using h3
    · cases h3

theorem OwnO.lt (h : OwnO enc k E base w v xs) (g : Nat) (hg : v.ownBlock = some g) : base ≤ g ∧ g < w.heap.size ∧ ∃ cur, w.heap[g]? = some (.cells cur E (0, 0)) := by
  rcases h with ⟨rfl, _⟩ | ⟨g', o, cap, cur, rfl, hb, hh, _⟩
  · simp [Value.ownBlock] at hg
  · have : g' = g := by simpa [Value.ownBlock] using hg
    subst this
    exact ⟨hb, (Array.getElem?_eq_some_iff.1 hh).1, cur, hh⟩

theorem OwnO.kept {w' : World} {row : Option Nat} (h : OwnO enc k E base w v xs) (hg : w.grownBy w' row) (hne : v.ownBlock = none ∨ v.ownBlock ≠ row) : OwnO enc k E base w' v xs := by
  rcases h with ⟨rfl, rfl⟩ | ⟨g, o, cap, cur, rfl, hb, hh, h1⟩
  · exact .inl ⟨rfl, rfl⟩
  · refine .inr ⟨g, o, cap, cur, rfl, hb, ?_, h1⟩
    rw [hg.block g (Array.getElem?_eq_some_iff.1 hh).1 (fun e => hne.elim (fun h => by simp [Value.ownBlock] at h) fun h => h (by rw [← e]; rfl))]
    exact hh

theorem OwnO.below {w' : World} (h : OwnO enc k E base w v xs) (hb : Below w.heap.size w w') : OwnO enc k E base w' v xs :=
  h.kept (row := none) ⟨hb.os, hb.tape, hb.output, hb.size, fun i hi _ => hb.block i hi⟩ (by cases v.ownBlock <;> simp)

theorem OwnO.lower {base' : Nat} (h : OwnO enc k E base w v xs) (hb : base' ≤ base) : OwnO enc k E base' w v xs := by
  rcases h with h | ⟨g, o, cap, cur, h1, h2, h3⟩
  · exact .inl h
  · exact .inr ⟨g, o, cap, cur, h1, Nat.le_trans hb h2, h3⟩

theorem OwnO.of_own (hk : ∀ x, (enc x).length = k) (h : Own enc k E base w v xs) : OwnO enc k E base w v xs := by
  rcases h.2 with ⟨rfl, h0⟩ | ⟨g, cap, cur, rfl, hb, hh, h1, h2, hsz, ht⟩
  · exact .inl ⟨rfl, List.length_eq_zero_iff.1 h0⟩
  · exact .inr ⟨g, 0, cap, cur, rfl, hb, hh, h1, by simpa [maxLen] using h2, by omega, by rw [List.drop_zero]; exact ht⟩

theorem flat_takeO (hk : ∀ x, (enc x).length = k) : ∀ (xs : List α) (i : Nat), (xs.flatMap enc).take (i * k) = (xs.take i).flatMap enc
  | [], i => by simp
  | x :: xs, 0 => by simp
  | x :: xs, i + 1 => by
    rw [List.flatMap_cons, List.take_succ_cons, List.flatMap_cons, ← flat_takeO hk xs i, List.take_append, List.take_of_length_le (by rw [hk, Nat.add_mul]; omega), hk, show (i + 1) * k - k = i * k by rw [Nat.add_mul]; omega]
theorem flat_dropO (hk : ∀ x, (enc x).length = k) : ∀ (xs : List α) (i : Nat), (xs.flatMap enc).drop (i * k) = (xs.drop i).flatMap enc
  | [], i => by simp
  | x :: xs, 0 => by simp
  | x :: xs, i + 1 => by
    rw [List.flatMap_cons, List.drop_succ_cons, ← flat_dropO hk xs i, List.drop_append, List.drop_of_length_le (by rw [hk, Nat.add_mul]; omega), hk, show (i + 1) * k - k = i * k by rw [Nat.add_mul]; omega, List.nil_append]

/-- 's[i:]'. -/
theorem OwnO.drop (hk : ∀ x, (enc x).length = k) {g o n cap : Nat} (h : OwnO enc k E base w (.slice (some ⟨g, o, none⟩) n cap) xs) (i : Nat) (hi : i ≤ xs.length) (o' : Nat) (ho : o' = o + i * k) :
    OwnO enc k E base w (.slice (some ⟨g, o', none⟩) (n - i) (cap - i)) (xs.drop i) := by
  rcases h with ⟨hv, _⟩ | ⟨g', o1, cap', cur, hv, hb, hh, h1, h2, hsz, ht⟩
  · cases hv
  · injection hv with e1 e2 e3
    injection e1 with e1
    injection e1 with e1 e4
    subst e1 e2 e3 e4 ho
    have hm : (cap - i) * k = cap * k - i * k := Nat.sub_mul _ _ _
    have hle : i * k ≤ cap * k := Nat.mul_le_mul_right _ (by omega)
    refine .inr ⟨g, o + i * k, cap - i, cur, by rw [List.length_drop], hb, hh, by rw [List.length_drop]; omega, by omega, by omega, ?_⟩
    rw [← flat_dropO hk, ← ht, List.drop_take, List.drop_drop, List.length_drop, Nat.sub_mul]

/-- 's[:i:i]'. -/
theorem OwnO.cut (hk : ∀ x, (enc x).length = k) {g o n cap : Nat} (h : OwnO enc k E base w (.slice (some ⟨g, o, none⟩) n cap) xs) (i : Nat) (hi : i ≤ xs.length) :
    OwnO enc k E base w (.slice (some ⟨g, o, none⟩) i i) (xs.take i) := by
  rcases h with ⟨hv, _⟩ | ⟨g', o1, cap', cur, hv, hb, hh, h1, h2, hsz, ht⟩
  · cases hv
  · injection hv with e1 e2 e3
    injection e1 with e1
    injection e1 with e1 e4
    subst e1 e2 e3 e4
    have hle : i * k ≤ cap * k := Nat.mul_le_mul_right _ (by omega)
    have hl : (xs.take i).length = i := by rw [List.length_take]; omega
    refine .inr ⟨g, o, i, cur, by rw [hl], hb, hh, by rw [hl]; exact Nat.le_refl _, by omega, by omega, ?_⟩
    rw [← flat_takeO hk, ← ht, List.take_take, hl, Nat.min_eq_left (Nat.mul_le_mul_right _ hi)]

/-- 'append(s, x)'. -/
theorem run_append_off {P : Program} (t ty : TypeId) (bytes : Nat) (z : Value) (y : α) (ht : P.underlying t = some (.slice E)) (hinfo : (P.info? E).map (fun i => (i.zero, i.size, i.bytes)) = some (some z, k, bytes)) (hz : z.cells.size = k) (hk0 : 0 < k) (hb0 : 0 < bytes)
    (hk : ∀ x, (enc x).length = k) (h1 : ∀ x, ∀ u ∈ enc x, u.oneCell' = true) (h : OwnO enc k E base w v xs) (hbase : base ≤ w.heap.size) (hl : (xs.length + 1) * bytes ≤ 140737488355328)
    (ad : Addr) (hnews : ∀ j u, (enc y)[j]? = some u → w.cell? (ad.add j) = some u) :
    ∃ v' w', (Builtin.append_ #[t, t] ty #[v, .slice (some ad) 1 1]).run P w = .ok v' w' ∧ OwnO enc k E base w' v' (xs ++ [y]) ∧ w.grownBy w' v.ownBlock ∧ (v'.ownBlock = v.ownBlock ∨ v'.ownBlock = some w.heap.size) := by
  rcases h with ⟨rfl, rfl⟩ | ⟨g, o, cap, cur, rfl, hb, hh, hc1, hc2, hsz, htk⟩
  · obtain ⟨i0, hi, hzz⟩ := Option.map_eq_some_iff.1 hinfo
    simp only [Prod.mk.injEq] at hzz
    obtain ⟨hz0, hz1, hz2⟩ := hzz
    have hle : 1 * bytes ≤ 140737488355328 := by simpa using hl
    obtain ⟨v', w', hr, hown, hg, _, hat⟩ := run_append_own_at (P := P) w base t ty E i0 z k bytes ht hi hz0 hz1 hz2 hz hk0 (.slice none 0 0) 0 [] (World.ownsRow_nil w base E k) ad 1 1 (enc y) (by rw [hk]; omega) hnews (h1 y) (by simp only [maxLen]; omega) (by simpa using hle) hbase
    refine ⟨v', w', hr, OwnO.of_own hk ?_, hg, hat⟩
    unfold Own
    simpa using hown
  · obtain ⟨i0, hi, hzz⟩ := Option.map_eq_some_iff.1 hinfo
    simp only [Prod.mk.injEq] at hzz
    obtain ⟨hz0, hz1, hz2⟩ := hzz
    have hlen : xs.length + 1 ≤ 140737488355328 := Nat.le_trans (Nat.le_mul_of_pos_right _ hb0) hl
    by_cases hroom : xs.length + 1 ≤ cap
    · have hfit : o + xs.length * k + (enc y).length ≤ cur.size := by
        have : (xs.length + 1) * k ≤ cap * k := Nat.mul_le_mul_right _ hroom
        rw [Nat.add_mul, Nat.one_mul] at this
        rw [hk]; omega
      have hcs : cur = cur.toList.toArray := by simp
      have hl1 := run_loadCells_list (P := P) w ad (enc y) hnews
      have hst := run_storeCells_at P g (o + xs.length * k) E (enc y) 0 cur w hh (by simpa using hfit) (h1 y)
      simp only [Nat.add_zero] at hst
      have he : (⟨g, o, none⟩ : Addr).add (xs.length * k) = ⟨g, o + xs.length * k, none⟩ := Addr.add_lit ..
      have hk1 : i0.size = (enc y).length := by rw [hz1, hk]
      refine ⟨.slice (some ⟨g, o, none⟩) (xs.length + 1) cap, w.setRow g (cur.toList.take (o + xs.length * k) ++ enc y ++ cur.toList.drop (o + xs.length * k + (enc y).length)).toArray, ?_, .inr ⟨g, o, cap, (cur.toList.take (o + xs.length * k) ++ enc y ++ cur.toList.drop (o + xs.length * k + (enc y).length)).toArray, by simp, hb, ?_, by simpa using hroom, hc2, ?_, ?_⟩, grownBy_setRow w g _, .inl rfl⟩
      · simp [Builtin.append_, run_underlying ht, sizeOf, typeInfo, hi, Builtin.lenOf, Builtin.firstCells, hk1, hl1, hroom]
        rw [show (enc y).length = k from hk y, he, hst]
        simp [hk]
      · exact setRow_heap w g cur _ E _ hh
      · simp; omega
      · rw [List.length_append, List.length_singleton, List.flatMap_append, List.flatMap_singleton, ← htk]
        apply List.ext_getElem?
        intro j
        simp only [List.getElem?_take, List.getElem?_drop, List.getElem?_append, List.length_take, List.length_drop, Array.length_toList, List.length_append]
        have hk' := hk y
        have hmul : (xs.length + 1) * k = xs.length * k + k := by rw [Nat.add_mul, Nat.one_mul]
        rw [hmul]
        have hmin : min (o + xs.length * k) cur.size = o + xs.length * k := by omega
        have hmin2 : min (xs.length * k) (cur.size - o) = xs.length * k := by omega
        rw [hmin, hmin2, hk']
        by_cases hj : j < xs.length * k
        · rw [if_pos (by omega), if_pos (by omega), if_pos (by omega), if_pos (by omega), if_pos hj, if_pos hj]
        · rw [if_neg (c := j < xs.length * k) hj]
          by_cases hj2 : j < xs.length * k + k
          · rw [if_pos hj2, if_pos (by omega), if_neg (by omega), show o + j - (o + xs.length * k) = j - xs.length * k by omega]
          · rw [if_neg hj2, List.getElem?_eq_none (by omega)]
    · have holds : ∀ j u, (xs.flatMap enc)[j]? = some u → w.cell? ((⟨g, o, none⟩ : Addr).add j) = some u := fun j u hu => by
        rw [Addr.add_lit]
        rw [← htk, List.getElem?_take] at hu
        split at hu
        · rw [List.getElem?_drop] at hu
          simp only [World.cell?, hh, Option.isSome_none, Bool.false_eq_true, if_false]
          simpa using hu
        · cases hu
      subst hz1 hz2
      have hr := run_append_grow (P := P) w t ty E i0 z ht hi hz0 ⟨g, o, none⟩ xs.length cap (xs.flatMap enc) (flat_length hk xs) holds ad 1 1 (enc y) (by rw [hk]; omega) hnews (by omega) (by omega) (growslice_fits (by omega) hl)
      have hge := grownCap_ge w (xs.length + 1) cap E
      have hcm := grownCap_le_maxLen w (xs.length + 1) cap E (by simp only [maxLen]; omega)
      refine ⟨_, _, hr, OwnO.of_own hk ⟨flat_length hk _, .inr ⟨w.heap.size, _, _, by rw [List.length_append, List.length_singleton], hbase, heap_alloc_new w.drew _, by rw [List.length_append, List.length_singleton]; exact hge, hcm, ?_, ?_⟩⟩, ⟨rfl, rfl, rfl, by simp, fun q hq _ => Below.heap_alloc w.drew _ q hq⟩, .inr rfl⟩
      · simp only [Array.size_append, List.size_toArray, size_zeroCells, hz, flat_length hk, hk, ← Nat.add_mul]
        rw [show xs.length * i0.size + i0.size = (xs.length + 1) * i0.size by rw [Nat.add_mul, Nat.one_mul], ← Nat.add_mul]
        congr 1
        omega
      · rw [List.length_append, List.length_singleton, List.flatMap_append, List.flatMap_singleton]
        simp only [Array.toList_append]
        have : (xs.flatMap enc ++ enc y).length = (xs.length + 1) * i0.size := by rw [List.length_append, flat_length hk, hk, Nat.add_mul, Nat.one_mul]
        rw [← this]
        exact List.take_left
end

end Go.Proofs.YtanjgeacmpmjhaaGreatDoor
