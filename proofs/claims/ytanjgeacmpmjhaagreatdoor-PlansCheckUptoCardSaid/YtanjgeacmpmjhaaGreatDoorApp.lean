import Derived.Test.YtanjgeacmpmjhaaGreatDoorBase
set_option linter.unusedVariables false
set_option linter.unusedSimpArgs false
namespace Go.Proofs.YtanjgeacmpmjhaaGreatDoor
open Go.RowKit

/-- A slice that was written out. -/
theorem rd_lit {α : Type} (enc : α → List Value) (k : Nat) (hk : ∀ x, (enc x).length = k) (E : TypeId) (xs : List α) (hl : xs.length ≤ 9223372036854775807) (W : World) : Rd enc k (W.alloc (.cells (xs.flatMap enc).toArray E)) (.slice (some ⟨W.heap.size, 0, none⟩) xs.length xs.length) xs :=
  ⟨_, xs.length, rfl, Nat.le_refl _, hl, fun _ => ⟨W.heap.size, 0, rfl, fun i x hi j u hu => by
    rw [World.cell?_alloc_at (w := W) _ _ W.heap.size _ rfl, Nat.zero_add]
    simpa using flat_get hk xs i x j u hi hu⟩⟩

theorem Rd.take {α : Type} {enc : α → List Value} {k : Nat} {w : World} {A : Option Addr} {n c : Nat} {xs : List α} (h : Rd enc k w (.slice A n c) xs) (j : Nat) (hj : j ≤ xs.length) : Rd enc k w (.slice A j c) (xs.take j) := by
  have e : (xs.take j).length = j := by rw [List.length_take]; omega
  have h' : Rd enc k w (.slice A n c) (xs.take j ++ xs.drop j) := by rw [List.take_append_drop]; exact h
  have := h'.shorter
  rwa [e] at this

section
variable {P : Program} {ops : Array Oper} {rest : List Oper} {o : Oper} {a : Act} {Q : Exit → Act → World → Prop}
/-- 'append(s, x)', the heap's size under a name. -/
theorem append_oneH {α : Type} {w0 W : World} (H : Nat) (hH : W.heap.size = H) (enc : α → List Value) (k : Nat) (E : TypeId) (t : TypeId) (bytes : Nat) (z : Value) (base : Nat) (v : Value) (xs : List α) (y : α) (hgd : o.guard = none) (s x : Operand)
    (ho : o.op = .call { callee := .builtin .append, args := #[s, x], argTypes := #[t, t] })
    (ht : P.underlying t = some (.slice E)) (hinfo : (P.info? E).map (fun i => (i.zero, i.size, i.bytes)) = some (some z, k, bytes)) (hz : z.cells.size = k) (hk0 : 0 < k) (hb0 : 0 < bytes)
    (henc : ∀ x, (enc x).length = k) (h1 : ∀ x, ∀ u ∈ enc x, u.oneCell' = true)
    (hs : a.eval s = v) (hx : a.eval x = .slice (some ⟨H, 0, none⟩) 1 1)
    (hown : Own enc k E base W v xs) (HB : Below base w0 W) (hbase : base ≤ W.heap.size) (hl : (xs.length + 1) * bytes ≤ 140737488355328)
    (h : ∀ v' w', Own enc k E base w' v' (xs ++ [y]) → Below base w0 w' → W.grownBy w' v.ownBlock → (v'.ownBlock = v.ownBlock ∨ ∃ g, v'.ownBlock = some g ∧ W.heap.size ≤ g) → wpList P ops Q rest (a.put o.dst v') w') :
    wpList P ops Q (o :: rest) a (W.alloc (.cells (enc y).toArray E)) := by
  subst hH
  exact append_one enc k E t bytes z base v xs y hgd s x ho ht hinfo hz hk0 hb0 henc h1 hs hx hown HB hbase hl h
end

section
variable {P : Program} {ops : Array Oper} {rest : List Oper} {o : Oper} {a : Act} {Q : Exit → Act → World → Prop}
/-- 'append(s, l..)': all of a slice that is read. -/
theorem append_all {α : Type} {w0 W : World} (enc : α → List Value) (k : Nat) (E : TypeId) (t : TypeId) (bytes : Nat) (z : Value) (base : Nat) (v : Value) (xs ys : List α) (A : Option Addr) (c : Nat) (hgd : o.guard = none) (s x : Operand)
    (ho : o.op = .call { callee := .builtin .append, args := #[s, x], argTypes := #[t, t] })
    (ht : P.underlying t = some (.slice E)) (hinfo : (P.info? E).map (fun i => (i.zero, i.size, i.bytes)) = some (some z, k, bytes)) (hz : z.cells.size = k) (hk0 : 0 < k) (hb0 : 0 < bytes)
    (henc : ∀ x, (enc x).length = k) (h1 : ∀ x, ∀ u ∈ enc x, u.oneCell' = true)
    (hs : a.eval s = v) (hx : a.eval x = .slice A ys.length c) (hrd : Rd enc k W (.slice A ys.length c) ys)
    (hown : Own enc k E base W v xs) (HB : Below base w0 W) (hbase : base ≤ W.heap.size) (hl : (xs.length + ys.length) * bytes ≤ 140737488355328)
    (h : ∀ v' w', Own enc k E base w' v' (xs ++ ys) → Below base w0 w' → W.grownBy w' v.ownBlock → wpList P ops Q rest (a.put o.dst v') w') :
    wpList P ops Q (o :: rest) a W := by
  obtain ⟨i0, hi, hzz⟩ := Option.map_eq_some_iff.1 hinfo
  simp only [Prod.mk.injEq] at hzz
  obtain ⟨hz0, hz1, hz2⟩ := hzz
  cases ys with
  | nil =>
    have hrun : (Builtin.append_ #[t, t] o.type #[v, .slice A ([] : List α).length c]).run P W = .ok v W := by
      obtain ⟨A1, c1, rfl, hle, _⟩ := hown.slice
      cases A <;> cases A1 <;> simp [Builtin.append_, run_underlying ht, sizeOf, typeInfo, hi, Builtin.lenOf, Builtin.firstCells, loadCells, loadCellsFrom, storeCells, hle]
    refine wpList_plain hgd fun K hK => ?_
    unfold Oper.wp execOp
    simp only [ho, resolve, invoke, builtin, Sem.run_bind, Sem.run_pure, Result.andThen_ok, List.map_toArray, List.map_cons, List.map_nil, hs, hx, hrun]
    exact hK _ _ (h v W (by simpa using hown) HB (World.grownBy.refl _ _))
  | cons y ys =>
    obtain ⟨A', c', hv, _, _, hr⟩ := hrd
    injection hv with e1 e2 e3
    subst e1
    obtain ⟨b, off, rfl, hcell⟩ := hr (by simp)
    have hlen : xs.length + (y :: ys).length ≤ 140737488355328 := Nat.le_trans (Nat.le_mul_of_pos_right _ hb0) hl
    refine wpList_append_own_at W hgd s x t ho base E i0 z k bytes ht hi hz0 hz1 hz2 hz hk0 v xs.length (xs.flatMap enc) hs hown ⟨b, off, none⟩ _ c ((y :: ys).flatMap enc) hx (flat_length henc _) (fun j u hj => ?_) (fun u hu => ?_) (by simp only [maxLen]; omega) hl hbase ?_
    · rw [Addr.add_lit]
      have hj' := (List.getElem?_eq_some_iff.1 hj).1
      rw [flat_length henc] at hj'
      have hq : j / k < (y :: ys).length := Nat.div_lt_of_lt_mul (by rwa [Nat.mul_comm] at hj')
      have hm : j % k < (enc (y :: ys)[j / k]).length := by rw [henc]; exact Nat.mod_lt _ hk0
      have h1 := flat_get henc (y :: ys) (j / k) _ (j % k) _ (List.getElem?_eq_getElem hq) (List.getElem?_eq_getElem hm)
      rw [Nat.mul_comm, Nat.div_add_mod] at h1
      rw [h1] at hj
      injection hj with hj
      subst hj
      have h2 := hcell (j / k) _ (List.getElem?_eq_getElem hq) (j % k) _ (List.getElem?_eq_getElem hm)
      rwa [Nat.add_assoc, Nat.mul_comm (j / k), Nat.div_add_mod] at h2
    · obtain ⟨y', _, hy⟩ := List.mem_flatMap.1 hu
      exact h1 y' u hy
    · intro v' w' hown' hg _ _
      refine h v' w' ?_ (HB.grown hg hbase (fun g hg' => Own.base_le hown g hg')) hg
      unfold Own
      rw [List.flatMap_append, List.length_append]
      exact hown'
end

theorem run_append_all {P : Program} {α : Type} {w0 W : World} (enc : α → List Value) (k : Nat) (E : TypeId) (t ty : TypeId) (bytes : Nat) (z : Value) (base : Nat) (v : Value) (xs ys : List α) (A : Option Addr) (c : Nat)
    (ht : P.underlying t = some (.slice E)) (hinfo : (P.info? E).map (fun i => (i.zero, i.size, i.bytes)) = some (some z, k, bytes)) (hz : z.cells.size = k) (hk0 : 0 < k) (hb0 : 0 < bytes)
    (henc : ∀ x, (enc x).length = k) (h1 : ∀ x, ∀ u ∈ enc x, u.oneCell' = true) (hrd : Rd enc k W (.slice A ys.length c) ys)
    (hown : Own enc k E base W v xs) (HB : Below base w0 W) (hbase : base ≤ W.heap.size) (hl : (xs.length + ys.length) * bytes ≤ 140737488355328) :
    ∃ v' w', (Builtin.append_ #[t, t] ty #[v, .slice A ys.length c]).run P W = .ok v' w' ∧ Own enc k E base w' v' (xs ++ ys) ∧ Below base w0 w' ∧ W.grownBy w' v.ownBlock := by
  obtain ⟨i0, hi, hzz⟩ := Option.map_eq_some_iff.1 hinfo
  simp only [Prod.mk.injEq] at hzz
  obtain ⟨hz0, hz1, hz2⟩ := hzz
  cases ys with
  | nil =>
    refine ⟨v, W, ?_, by simpa using hown, HB, World.grownBy.refl _ _⟩
    obtain ⟨A1, c1, rfl, hle, _⟩ := hown.slice
    cases A <;> cases A1 <;> simp [Builtin.append_, run_underlying ht, sizeOf, typeInfo, hi, Builtin.lenOf, Builtin.firstCells, loadCells, loadCellsFrom, storeCells, hle]
  | cons y ys =>
    obtain ⟨A', c', hv, _, _, hr⟩ := hrd
    injection hv with e1 e2 e3
    subst e1
    obtain ⟨b, off, rfl, hcell⟩ := hr (by simp)
    have hlen : xs.length + (y :: ys).length ≤ 140737488355328 := Nat.le_trans (Nat.le_mul_of_pos_right _ hb0) hl
    obtain ⟨v', w', hr, hown', hg, _, _⟩ := run_append_own_at (P := P) W base t ty E i0 z k bytes ht hi hz0 hz1 hz2 hz hk0 v xs.length (xs.flatMap enc) hown ⟨b, off, none⟩ (y :: ys).length c ((y :: ys).flatMap enc) (flat_length henc _) (fun j u hj => by
      rw [Addr.add_lit]
      have hj' := (List.getElem?_eq_some_iff.1 hj).1
      rw [flat_length henc] at hj'
      have hq : j / k < (y :: ys).length := Nat.div_lt_of_lt_mul (by rwa [Nat.mul_comm] at hj')
      have hm : j % k < (enc (y :: ys)[j / k]).length := by rw [henc]; exact Nat.mod_lt _ hk0
      have h1 := flat_get henc (y :: ys) (j / k) _ (j % k) _ (List.getElem?_eq_getElem hq) (List.getElem?_eq_getElem hm)
      rw [Nat.mul_comm, Nat.div_add_mod] at h1
      rw [h1] at hj
      injection hj with hj
      subst hj
      have h2 := hcell (j / k) _ (List.getElem?_eq_getElem hq) (j % k) _ (List.getElem?_eq_getElem hm)
      rwa [Nat.add_assoc, Nat.mul_comm (j / k), Nat.div_add_mod] at h2) (fun u hu => by
      obtain ⟨y', _, hy⟩ := List.mem_flatMap.1 hu
      exact h1 y' u hy) (by simp only [maxLen]; omega) hl hbase
    refine ⟨v', w', hr, ?_, HB.grown hg hbase (fun g hg' => Own.base_le hown g hg'), hg⟩
    unfold Own
    rw [List.flatMap_append, List.length_append]
    exact hown'

section
variable {P : Program} {ops : Array Oper} {o : Oper} {a : Act} {Q : Exit → Act → World → Prop} {K : Act → World → Prop}
/-- 'append(s, l..)', one step of a region that draws its order. -/
theorem step_append_all {E' : Prop} {α : Type} {w0 W : World} (enc : α → List Value) (k : Nat) (E : TypeId) (t : TypeId) (bytes : Nat) (z : Value) (base : Nat) (v : Value) (xs ys : List α) (A : Option Addr) (c : Nat) (hgd : o.guard = none) (s x : Operand)
    (ho : o.op = .call { callee := .builtin .append, args := #[s, x], argTypes := #[t, t] })
    (ht : P.underlying t = some (.slice E)) (hinfo : (P.info? E).map (fun i => (i.zero, i.size, i.bytes)) = some (some z, k, bytes)) (hz : z.cells.size = k) (hk0 : 0 < k) (hb0 : 0 < bytes)
    (henc : ∀ x, (enc x).length = k) (h1 : ∀ x, ∀ u ∈ enc x, u.oneCell' = true) (hs : a.eval s = v) (hx : a.eval x = .slice A ys.length c) (hrd : Rd enc k W (.slice A ys.length c) ys)
    (hown : Own enc k E base W v xs) (HB : Below base w0 W) (hbase : base ≤ W.heap.size) (hl : (xs.length + ys.length) * bytes ≤ 140737488355328)
    (h : ∀ v' w', Own enc k E base w' v' (xs ++ ys) → Below base w0 w' → K (a.put o.dst v') w') :
    if Region.wanted o (yielded ops a.tmps) = true then Oper.wp P o a W K Q else E' := by
  have hw : Region.wanted o (yielded ops a.tmps) = true := by simp [Region.wanted, hgd]
  rw [if_pos hw]
  obtain ⟨v', w', hr, hown', hb', _⟩ := run_append_all (P := P) (w0 := w0) (W := W) enc k E t o.type bytes z base v xs ys A c ht hinfo hz hk0 hb0 henc h1 hrd hown HB hbase hl
  unfold Oper.wp
  simp [execOp, ho, resolve, invoke, builtin, hs, hx, hr, Result.andThen]
  exact h _ _ hown' hb'
end

theorem Rd.drop {α : Type} {enc : α → List Value} {k : Nat} {w : World} {b o c : Nat} {xs : List α} (h : Rd enc k w (.slice (some ⟨b, o, none⟩) xs.length c) xs) (j : Nat) (hj : j ≤ xs.length) (off : Nat) (ho : off = o + j * k) : Rd enc k w (.slice (some ⟨b, off, none⟩) (xs.length - j) (c - j)) (xs.drop j) := by
  obtain ⟨A', c', hv, hl, hc, hr⟩ := h
  injection hv with e1 e2 e3
  subst e1 e3
  refine ⟨_, c - j, by rw [List.length_drop], by rw [List.length_drop]; omega, by omega, fun hp => ⟨b, off, rfl, fun i x hi u v hu => ?_⟩⟩
  rw [List.getElem?_drop] at hi
  obtain ⟨b', o', e, hcell⟩ := hr (Nat.lt_of_le_of_lt (Nat.zero_le _) (List.getElem?_eq_some_iff.1 hi).1)
  injection e with e
  injection e with e1 e2
  subst e1 e2
  have := hcell (j + i) x hi u v hu
  rw [Nat.add_mul] at this
  rw [ho]
  rwa [show o + j * k + i * k + u = o + (j * k + i * k) + u by omega]

theorem Rd.takeQ {α : Type} {enc : α → List Value} {k : Nat} {w : World} {A : Option Addr} {n c : Nat} {xs : List α} (h : Rd enc k w (.slice A n c) xs) (j : Nat) (hj : j ≤ xs.length) : Rd enc k w (.slice A j c) (xs.take j) := by
  have e : (xs.take j).length = j := by rw [List.length_take]; omega
  have h' : Rd enc k w (.slice A n c) (xs.take j ++ xs.drop j) := by rw [List.take_append_drop]; exact h
  have := h'.shorter
  rwa [e] at this

end Go.Proofs.YtanjgeacmpmjhaaGreatDoor
