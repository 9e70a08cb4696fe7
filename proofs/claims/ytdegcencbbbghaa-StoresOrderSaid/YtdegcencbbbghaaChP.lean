import Derived.Test.YtdegcencbbbghaaGoneP
set_option linter.unusedVariables false
set_option linter.unusedSimpArgs false
namespace Go.Proofs.Ytdegcencbbbghaa
open Go.RowKit

/-- What a change makes of what is there of a key. -/
def stepK (k : Str) (r : Option Int) (c : Change) : Option Int := if c.k = k then (if c.g then none else some c.v) else r

theorem getL_doC (k : Str) {m : List Row} (hr : Rising m) (c : Change) : getL k (doC m c) = stepK k (getL k m) c := by
  unfold doC stepK
  cases c.g with
  | true => simp only [↓reduceIte]; exact getL_del c.k k hr
  | false => simp only [Bool.false_eq_true, ↓reduceIte]; exact getL_put c.k c.v k m

theorem doC_rising {m : List Row} (hr : Rising m) (c : Change) : Rising (doC m c) := by
  unfold doC
  split
  · exact delL_rising hr
  · exact putL_rising hr

theorem doCs_rising : ∀ (cs : List Change) {m : List Row}, Rising m → Rising (doCs cs m)
  | [], _, h => h
  | c :: cs, _, h => doCs_rising cs (doC_rising h c)

theorem getL_doCs (k : Str) : ∀ (cs : List Change) {m : List Row}, Rising m → getL k (doCs cs m) = cs.foldl (stepK k) (getL k m)
  | [], _, _ => rfl
  | c :: cs, m, h => by
    show getL k (doCs cs (doC m c)) = cs.foldl (stepK k) (stepK k (getL k m) c)
    rw [getL_doCs k cs (doC_rising h c), getL_doC k h c]

theorem step_alt (k : Str) : ∀ cs : List Change, ((∀ c ∈ cs, c.k ≠ k) ∧ ∀ r, cs.foldl (stepK k) r = r) ∨ ((∃ c ∈ cs, c.k = k) ∧ ∃ q, ∀ r, cs.foldl (stepK k) r = q)
  | [] => .inl ⟨by simp, fun _ => rfl⟩
  | c :: cs => by
    rcases step_alt k cs with ⟨h1, h2⟩ | ⟨⟨d, hd, hk⟩, q, hq⟩
    · by_cases hc : c.k = k
      · refine .inr ⟨⟨c, by simp, hc⟩, if c.g then none else some c.v, fun r => ?_⟩
        rw [List.foldl_cons, h2]
        unfold stepK
        rw [if_pos hc]
      · refine .inl ⟨fun d hd => ?_, fun r => ?_⟩
        · rcases List.mem_cons.1 hd with rfl | hd
          · exact hc
          · exact h1 d hd
        · rw [List.foldl_cons, h2]
          unfold stepK
          rw [if_neg hc]
    · exact .inr ⟨⟨d, by simp [hd], hk⟩, q, fun r => by rw [List.foldl_cons]; exact hq _⟩

theorem doCs_twice (cs : List Change) {m : List Row} (hr : Rising m) : doCs cs (doCs cs m) = doCs cs m := by
  refine rising_ext (doCs_rising cs (doCs_rising cs hr)) (doCs_rising cs hr) fun k => ?_
  rw [getL_doCs k cs (doCs_rising cs hr), getL_doCs k cs hr]
  rcases step_alt k cs with ⟨_, h⟩ | ⟨_, q, h⟩
  · rw [h]
  · rw [h, h]

theorem doCs_append (cs ds : List Change) (m : List Row) : doCs (cs ++ ds) m = doCs ds (doCs cs m) := List.foldl_append

/-- What undoes a change. -/
def backC (m : List Row) (c : Change) : Change := ⟨c.k, (getL c.k m).getD 0, !(getL c.k m).isSome⟩

theorem step_back (k : Str) (m : List Row) : ∀ (cs : List Change) (r : Option Int), (cs.map (backC m)).foldl (stepK k) r = if ∃ c ∈ cs, c.k = k then getL k m else r
  | [], r => by simp
  | c :: cs, r => by
    rw [List.map_cons, List.foldl_cons, step_back k m cs]
    by_cases h : ∃ d ∈ cs, d.k = k
    · rw [if_pos h, if_pos (by obtain ⟨d, hd, e⟩ := h; exact ⟨d, by simp [hd], e⟩)]
    · rw [if_neg h]
      by_cases hc : c.k = k
      · have he : ∃ d ∈ c :: cs, d.k = k := ⟨c, by simp, hc⟩
        rw [if_pos he]
        unfold stepK backC
        simp only [hc, ↓reduceIte]
        cases getL k m <;> simp
      · have he : ¬ ∃ d ∈ c :: cs, d.k = k := by
          rintro ⟨d, hd, e⟩
          rcases List.mem_cons.1 hd with rfl | hd
          · exact hc e
          · exact h ⟨d, hd, e⟩
        rw [if_neg he]
        unfold stepK backC
        rw [if_neg hc]

theorem doCs_back (cs : List Change) {m : List Row} (hr : Rising m) : doCs (cs.map (backC m)) (doCs cs m) = m := by
  refine rising_ext (doCs_rising _ (doCs_rising cs hr)) hr fun k => ?_
  rw [getL_doCs k _ (doCs_rising cs hr), getL_doCs k cs hr, step_back]
  rcases step_alt k cs with ⟨h1, h⟩ | ⟨h1, q, h⟩
  · rw [if_neg (by rintro ⟨c, hc, e⟩; exact h1 c hc e), h]
  · rw [if_pos h1]

theorem back_ok {cs : List Change} {m : List Row} (h : cs.all okChange = true) : (cs.map (backC m)).all okChange = true := by
  rw [List.all_eq_true] at h ⊢
  intro d hd
  obtain ⟨c, hc, rfl⟩ := List.mem_map.1 hd
  have := h c hc
  unfold okChange at this ⊢
  rw [Bool.and_eq_true] at this
  unfold backC
  rw [Bool.and_eq_true]
  refine ⟨this.1, ?_⟩
  cases getL c.k m <;> simp

theorem RdOff.rebase {α : Type} {enc : α → List Value} {k : Nat} {w w' : World} {B : Nat} {v vc : Value} {ys : List α} (h : RdOff enc k w B v vc ys) (hr : Rd enc k w' vc ys) (hs : w.heap.size ≤ w'.heap.size) : RdOff enc k w' B v vc ys :=
  ⟨hr, h.2.imp id fun h b e => ⟨(h b e).ne, (h b e).own, Nat.lt_of_lt_of_le (h b e).lt hs⟩⟩

section
variable {P : Program} {ops : Array Oper} {rest : List Oper} {o : Oper} {a : Act} {Q : Exit → Act → World → Prop}
/-- 'append(s, l..)': all of a slice that is read. -/
theorem append_all {α : Type} {w0 W : World} (enc : α → List Value) (k : Nat) (E : TypeId) (t : TypeId) (bytes : Nat) (z : Value) (base : Nat) (v : Value) (xs ys : List α) (A : Option Addr) (c : Nat) (hgd : o.guard = none) (s x : Operand)
    (ho : o.op = .call { callee := .builtin .append, args := #[s, x], argTypes := #[t, t] })
    (ht : P.underlying t = some (.slice E)) (hinfo : (P.info? E).map (fun i => (i.zero, i.size, i.bytes)) = some (some z, k, bytes)) (hz : z.cells.size = k) (hk0 : 0 < k) (hb0 : 0 < bytes)
    (henc : ∀ x, (enc x).length = k) (h1 : ∀ x, ∀ u ∈ enc x, u.oneCell' = true)
    (hs : a.eval s = v) (hx : a.eval x = .slice A ys.length c) (hrd : Rd enc k W (.slice A ys.length c) ys)
    (hown : Own enc k E base W v xs) (HB : Below base w0 W) (hbase : base ≤ W.heap.size) (hl : (xs.length + ys.length) * bytes ≤ 140737488355328)
    (h : ∀ v' w', Own enc k E base w' v' (xs ++ ys) → Below base w0 w' → W.grownBy w' v.ownBlock → wpList P ops Q rest (a.put o.dst v') w') :
    wpList P ops Q (o :: rest) a W := by
  obtain ⟨i0, hi, hzz⟩ := Option.map_eq_some_iff.1 hinfo
  simp only [Prod.mk.injEq] at hzz
  obtain ⟨hz0, hz1, hz2⟩ := hzz
  cases ys with
  | nil =>
    have hrun : (Builtin.append_ #[t, t] o.type #[v, .slice A ([] : List α).length c]).run P W = .ok v W := by
      obtain ⟨A1, c1, rfl, hle, _⟩ := hown.slice
      cases A <;> cases A1 <;> simp [Builtin.append_, run_underlying ht, sizeOf, typeInfo, hi, Builtin.lenOf, Builtin.firstCells, loadCells, loadCellsFrom, storeCells, hle]
    refine wpList_plain hgd fun K hK => ?_
    unfold Oper.wp execOp
    simp only [ho, resolve, invoke, builtin, Sem.run_bind, Sem.run_pure, Result.andThen_ok, List.map_toArray, List.map_cons, List.map_nil, hs, hx, hrun]
    exact hK _ _ (h v W (by simpa using hown) HB (World.grownBy.refl _ _))
  | cons y ys =>
    obtain ⟨A', c', hv, _, _, hr⟩ := hrd
    injection hv with e1 e2 e3
    subst e1
    obtain ⟨b, off, rfl, hcell⟩ := hr (by simp)
    have hlen : xs.length + (y :: ys).length ≤ 140737488355328 := Nat.le_trans (Nat.le_mul_of_pos_right _ hb0) hl
    refine wpList_append_own_at W hgd s x t ho base E i0 z k bytes ht hi hz0 hz1 hz2 hz hk0 v xs.length (xs.flatMap enc) hs hown ⟨b, off, none⟩ _ c ((y :: ys).flatMap enc) hx (flat_length henc _) (fun j u hj => ?_) (fun u hu => ?_) (by simp only [maxLen]; omega) hl hbase ?_
    · rw [Addr.add_lit]
      have hj' := (List.getElem?_eq_some_iff.1 hj).1
      rw [flat_length henc] at hj'
      have hq : j / k < (y :: ys).length := Nat.div_lt_of_lt_mul (by rwa [Nat.mul_comm] at hj')
      have hm : j % k < (enc (y :: ys)[j / k]).length := by rw [henc]; exact Nat.mod_lt _ hk0
      have h1 := flat_get henc (y :: ys) (j / k) _ (j % k) _ (List.getElem?_eq_getElem hq) (List.getElem?_eq_getElem hm)
      rw [Nat.mul_comm, Nat.div_add_mod] at h1
      rw [h1] at hj
      injection hj with hj
      subst hj
      have h2 := hcell (j / k) _ (List.getElem?_eq_getElem hq) (j % k) _ (List.getElem?_eq_getElem hm)
      rwa [Nat.add_assoc, Nat.mul_comm (j / k), Nat.div_add_mod] at h2
    · obtain ⟨y', _, hy⟩ := List.mem_flatMap.1 hu
      exact h1 y' u hy
    · intro v' w' hown' hg _ _
      refine h v' w' ?_ (HB.grown hg hbase (fun g hg' => Own.base_le hown g hg')) hg
      unfold Own
      rw [List.flatMap_append, List.length_append]
      exact hown'
end

end Go.Proofs.Ytdegcencbbbghaa
