import Derived.Test.YtanjgeacmpmjhaaGreatDoorApp
import Derived.Test.YtanjgeacmpmjhaaGreatDoorOwn
import Derived.Deep.Cut
set_option linter.unusedVariables false
set_option linter.unusedSimpArgs false
set_option linter.unusedSectionVars false
namespace Go.Proofs.YtanjgeacmpmjhaaGreatDoor
open Go.RowKit

/-! ### what an act may have turned -/
/-- Nothing but these blocks, and what is new. -/
structure Turn (F : Nat → Prop) (w w' : World) : Prop where
  os : w'.os = w.os
  tape : w'.tape = w.tape
  output : w'.output = w.output
  size : w.heap.size ≤ w'.heap.size
  block : ∀ i, i < w.heap.size → ¬ F i → w'.heap[i]? = w.heap[i]?

theorem Turn.of_below {F : Nat → Prop} {w w' : World} (h : Below w.heap.size w w') : Turn F w w' := ⟨h.os, h.tape, h.output, h.size, fun i hi _ => h.block i hi⟩
theorem Turn.refl (F : Nat → Prop) (w : World) : Turn F w w := .of_below (Below.refl _ _)
theorem Turn.trans {F : Nat → Prop} {w w1 w2 : World} (h : Turn F w w1) (k : Turn F w1 w2) : Turn F w w2 :=
  ⟨k.os.trans h.os, k.tape.trans h.tape, k.output.trans h.output, Nat.le_trans h.size k.size, fun i hi hF => (k.block i (Nat.lt_of_lt_of_le hi h.size) hF).trans (h.block i hi hF)⟩
theorem Turn.mono {F G : Nat → Prop} {w w' : World} (h : Turn F w w') (hFG : ∀ i, i < w.heap.size → F i → G i) : Turn G w w' :=
  ⟨h.os, h.tape, h.output, h.size, fun i hi hG => h.block i hi fun hF => hG (hFG i hi hF)⟩
/-- the second act may turn what was new to the first one. -/
theorem Turn.step {F G : Nat → Prop} {w w1 w2 : World} (h : Turn F w w1) (k : Turn G w1 w2) (hG : ∀ i, i < w.heap.size → G i → F i) : Turn F w w2 :=
  ⟨k.os.trans h.os, k.tape.trans h.tape, k.output.trans h.output, Nat.le_trans h.size k.size, fun i hi hF => (k.block i (Nat.lt_of_lt_of_le hi h.size) fun g => hF (hG i hi g)).trans (h.block i hi hF)⟩
theorem Turn.of_grown {w w' : World} {row : Option Nat} (h : w.grownBy w' row) : Turn (fun g => row = some g) w w' := ⟨h.os, h.tape, h.output, h.size, fun i hi hF => h.block i hi fun e => hF e.symm⟩
theorem Turn.below {F : Nat → Prop} {w w' : World} {base : Nat} (h : Turn F w w') (hF : ∀ i, F i → base ≤ i) (hb : base ≤ w.heap.size) : Below base w w' := ⟨h.os, h.tape, h.output, h.size, fun i hi => h.block i (by omega) fun f => by have := hF i f; omega⟩
theorem Turn.heap {F : Nat → Prop} {w w' : World} {B : Nat} {o : Obj} (h : Turn F w w') (hB : w.heap[B]? = some o) (hF : ¬ F B) : w'.heap[B]? = some o := (h.block B (Array.getElem?_eq_some_iff.1 hB).1 hF).trans hB
theorem Turn.setCell (w : World) (b k : Nat) (u : Value) : Turn (fun g => g = b) w (w.setCell ⟨b, k, none⟩ u) :=
  ⟨rfl, rfl, rfl, by simp [World.setCell], fun i hi hne => by
    have : b ≠ i := fun e => hne e.symm
    simp [World.setCell, Array.getElem?_modify, this]⟩

section
variable {α : Type} {enc : α → List Value} {k : Nat} {E : TypeId} {base : Nat} {w w' : World} {v : Value} {xs ys : List α}
theorem Own.turn {F : Nat → Prop} (h : Own enc k E base w v xs) (t : Turn F w w') (hF : ∀ g, v.ownBlock = some g → ¬ F g) : Own enc k E base w' v xs := by
  refine ⟨h.1, ?_⟩
  rcases h.2 with h | ⟨g, cap, cur, rfl, h2, h3, h4⟩
  · exact .inl h
  · exact .inr ⟨g, cap, cur, rfl, h2, t.heap h3 (hF g rfl), h4⟩
theorem Own.typed (h : Own enc k E base w v xs) (g : Nat) (hg : v.ownBlock = some g) : base ≤ g ∧ ∃ cur, w.heap[g]? = some (.cells cur E (0, 0)) := by
  rcases h.2 with ⟨rfl, _⟩ | ⟨g', cap, cur, rfl, h2, h3, h4⟩
  · simp [Value.ownBlock] at hg
  · have : g' = g := by simpa [Value.ownBlock] using hg
    subst this
    exact ⟨h2, cur, h3⟩
theorem flat_takeB (hk : ∀ x, (enc x).length = k) : ∀ (xs : List α) (i : Nat), (xs.flatMap enc).take (i * k) = (xs.take i).flatMap enc
  | [], i => by simp
  | x :: xs, 0 => by simp
  | x :: xs, i + 1 => by
    rw [List.flatMap_cons, List.take_succ_cons, List.flatMap_cons, ← flat_takeB hk xs i, List.take_append, List.take_of_length_le (by rw [hk, Nat.add_mul]; omega), hk, show (i + 1) * k - k = i * k by rw [Nat.add_mul]; omega]
/-- The same row, told as a shorter one. -/
theorem Own.shorter (hk : ∀ x, (enc x).length = k) {A : Option Addr} {n c : Nat} (h : Own enc k E base w (.slice A n c) (xs ++ ys)) : Own enc k E base w (.slice A xs.length c) xs := by
  refine ⟨flat_length hk xs, ?_⟩
  rcases h.2 with ⟨h1, h2⟩ | ⟨g, cap, cur, h1, h2, h3, h4, h5, h6, h7⟩
  · injection h1 with e1 e2 e3
    subst e1 e3
    have : xs.length = 0 := by rw [List.length_append] at h2; omega
    exact .inl ⟨by rw [this], this⟩
  · injection h1 with e1 e2 e3
    subst e1 e3
    rw [List.length_append] at h4 h7
    refine .inr ⟨g, c, cur, rfl, h2, h3, by omega, h5, h6, ?_⟩
    have := congrArg (List.take (xs.length * k)) h7
    rw [List.take_take, Nat.min_eq_left (Nat.mul_le_mul_right _ (by omega)), flat_takeB hk, List.take_left] at this
    exact this
theorem Own.shorterN (hk : ∀ x, (enc x).length = k) {A : Option Addr} {n c : Nat} (h : Own enc k E base w (.slice A n c) xs) (i : Nat) (hi : i ≤ xs.length) : Own enc k E base w (.slice A i c) (xs.take i) := by
  have e : (xs.take i).length = i := by rw [List.length_take]; omega
  have h' : Own enc k E base w (.slice A n c) (xs.take i ++ xs.drop i) := by rw [List.take_append_drop]; exact h
  have := h'.shorter hk
  rwa [e] at this
/-- One of a row of one's own is written over, whole. -/
theorem flat_setAll (hk : ∀ x, (enc x).length = k) : ∀ (xs : List α) (i : Nat) (y : α), i < xs.length → (xs.flatMap enc).take (i * k) ++ enc y ++ (xs.flatMap enc).drop (i * k + k) = (xs.set i y).flatMap enc
  | x :: xs, 0, y, _ => by
    rw [List.set_cons_zero, List.flatMap_cons, List.flatMap_cons, Nat.zero_mul, List.take_zero, List.nil_append, Nat.zero_add, List.drop_append_of_le_length (by rw [hk]; exact Nat.le_refl _), List.drop_of_length_le (by rw [hk]; exact Nat.le_refl _), List.nil_append]
  | x :: xs, i + 1, y, hi => by
    have hkx := hk x
    have e : (i + 1) * k = (enc x).length + i * k := by rw [hkx, Nat.add_mul]; omega
    rw [List.set_cons_succ, List.flatMap_cons, List.flatMap_cons, e, Nat.add_assoc, List.take_append, List.take_of_length_le (by omega), List.drop_append, List.drop_of_length_le (by omega), List.nil_append,
      show (enc x).length + i * k - (enc x).length = i * k by omega, show (enc x).length + (i * k + k) - (enc x).length = i * k + k by omega, List.append_assoc, List.append_assoc, ← List.append_assoc _ (enc y), flat_setAll hk xs i y (by simpa using hi)]

theorem Own.setAt (hk : ∀ x, (enc x).length = k) {g n cap : Nat} (h : Own enc k E base w (.slice (some ⟨g, 0, none⟩) n cap) xs) (i : Nat) (y : α) (hi : i < xs.length) (cur : Array Value) (hg : w.heap[g]? = some (.cells cur E (0, 0))) :
    Own enc k E base (w.setRow g (cur.toList.take (i * k) ++ enc y ++ cur.toList.drop (i * k + k)).toArray) (.slice (some ⟨g, 0, none⟩) n cap) (xs.set i y) := by
  have hv := h.2
  rcases hv with ⟨hv, _⟩ | ⟨g', cap', cur', hv, h2, h3, h4, h5, h6, h7⟩
  · cases hv
  injection hv with e1 e2 e3
  injection e1 with e1
  injection e1 with e1
  subst e1 e2 e3
  have e := hg.symm.trans h3
  injection e with e
  injection e with e
  subst e
  have hle : (i + 1) * k ≤ xs.length * k := Nat.mul_le_mul_right _ (by omega)
  rw [Nat.add_mul, Nat.one_mul] at hle
  have hle2 : xs.length * k ≤ cap * k := Nat.mul_le_mul_right _ h4
  refine ⟨flat_length hk _, .inr ⟨g, cap, _, by rw [List.length_set], h2, setRow_heap w g cur _ E _ hg, by rw [List.length_set]; exact h4, h5, ?_, ?_⟩⟩
  · simp [hk]; omega
  · rw [List.length_set, ← flat_setAll hk xs i y hi, ← h7]
    apply List.ext_getElem?
    intro j
    have hky := hk y
    simp only [List.getElem?_take, List.getElem?_drop, List.getElem?_append, List.length_take, List.length_append, Array.length_toList]
    have hm1 : min (i * k) cur.size = i * k := by omega
    have hm2 : min (i * k) (min (xs.length * k) cur.size) = i * k := by omega
    rw [hm1, hm2, hky]
    by_cases c1 : j < i * k
    · simp [c1, show j < xs.length * k by omega, show j < i * k + k by omega]
    · by_cases c2 : j < i * k + k
      · simp [c1, c2, show j < xs.length * k by omega]
      · simp only [c1, c2, if_false, show i * k + k + (j - (i * k + k)) = j by omega]
end

theorem alloc_new (w : World) (o : Obj) : (w.alloc o).heap[w.heap.size]? = some o := by
  show (w.heap.push o)[w.heap.size]? = _
  rw [Array.getElem?_push_size]
theorem alloc_newH {w : World} {H : Nat} (h : w.heap.size = H) (o : Obj) : (w.alloc o).heap[H]? = some o := by subst h; exact alloc_new w o
theorem heap_cell {w : World} {g : Nat} {cs : Array Value} {E : TypeId} {fr : Nat × Nat} (h : w.heap[g]? = some (.cells cs E fr)) (i : Nat) : w.cell? ⟨g, i, none⟩ = cs[i]? := by simp [World.cell?, h]
theorem heap_free {w : World} {g : Nat} {cs : Array Value} {E : TypeId} (h : w.heap[g]? = some (.cells cs E (0, 0))) (i : Nat) : w.frozen? ⟨g, i, none⟩ = false := by simp [World.frozen?, h]

/-! ### lists that are kept -/
structure Hd where
  l : Value
  long : Value
  n : Nat
def Hd.enc (h : Hd) : List Value := [h.l, h.long, .int .i64 h.n]
theorem hd_len (x : Hd) : x.enc.length = 3 := rfl
abbrev nilV : Value := .slice none 0 0

/-- No two of them have a block in common. -/
def Sep (hs : List Hd) : Prop := hs.Pairwise fun a b => ∀ g, a.l.ownBlock = some g → b.l.ownBlock ≠ some g
theorem Sep.nil : Sep [] := List.Pairwise.nil
theorem Sep.snoc {hs : List Hd} {x : Hd} (h : Sep hs) (hx : ∀ a ∈ hs, ∀ g, a.l.ownBlock = some g → x.l.ownBlock ≠ some g) : Sep (hs ++ [x]) := by
  unfold Sep
  rw [List.pairwise_append]
  exact ⟨h, List.pairwise_singleton .., fun a ha b hb => by rw [List.mem_singleton.1 hb]; exact hx a ha⟩
theorem Sep.at_ {hs : List Hd} (h : Sep hs) {i j : Nat} {a b : Hd} (hij : i ≠ j) (ha : hs[i]? = some a) (hb : hs[j]? = some b) (g : Nat) (hg : a.l.ownBlock = some g) : b.l.ownBlock ≠ some g := by
  have hp := List.pairwise_iff_getElem.1 h
  obtain ⟨hi, rfl⟩ := List.getElem?_eq_some_iff.1 ha
  obtain ⟨hj, rfl⟩ := List.getElem?_eq_some_iff.1 hb
  rcases Nat.lt_or_gt_of_ne hij with hlt | hlt
  · exact hp i j hi hj hlt g hg
  · exact fun e => hp j i hj hi hlt g e hg

theorem Rd.hd {w : World} {A : Option Addr} {n c : Nat} {xs : List Hd} (h : Rd Hd.enc 3 w (.slice A n c) xs) {i : Nat} {x : Hd} (hi : xs[i]? = some x) :
    ∃ b o, A = some ⟨b, o, none⟩ ∧ w.cell? ⟨b, o + i * 3, none⟩ = some x.l ∧ w.cell? ⟨b, o + i * 3 + 1, none⟩ = some x.long ∧ w.cell? ⟨b, o + i * 3 + 2, none⟩ = some (.int .i64 x.n) := by
  obtain ⟨b, o, hA, hc⟩ := h.at_ hi
  exact ⟨b, o, hA, hc 0 _ rfl, hc 1 _ rfl, hc 2 _ rfl⟩

/-! ### 'append(s, x)': in place, or all new -/
theorem run_append_way {P : Program} {α : Type} {W : World} (enc : α → List Value) (k : Nat) (E : TypeId) (t ty : TypeId) (bytes : Nat) (z : Value) (base : Nat) (v : Value) (xs : List α) (y : α)
    (ht : P.underlying t = some (.slice E)) (hinfo : (P.info? E).map (fun i => (i.zero, i.size, i.bytes)) = some (some z, k, bytes)) (hz : z.cells.size = k) (hk0 : 0 < k) (hb0 : 0 < bytes)
    (henc : ∀ x, (enc x).length = k) (h1 : ∀ u ∈ enc y, u.oneCell' = true) (a : Addr) (hnews : ∀ j u, (enc y)[j]? = some u → W.cell? (a.add j) = some u)
    (hown : Own enc k E base W v xs) (hbase : base ≤ W.heap.size) (hl : (xs.length + 1) * bytes ≤ 140737488355328) :
    ∃ v' w', (Builtin.append_ #[t, t] ty #[v, .slice (some a) 1 1]).run P W = .ok v' w' ∧ Own enc k E base w' v' (xs ++ [y]) ∧
      ((∃ g c, v = .slice (some ⟨g, 0, none⟩) xs.length c ∧ v' = .slice (some ⟨g, 0, none⟩) (xs.length + 1) c ∧ Turn (fun i => i = g) W w') ∨ (Below W.heap.size W w' ∧ v'.ownBlock = some W.heap.size)) := by
  obtain ⟨i0, hi, hzz⟩ := Option.map_eq_some_iff.1 hinfo
  simp only [Prod.mk.injEq] at hzz
  obtain ⟨hz0, hz1, hz2⟩ := hzz
  have hlen : xs.length + 1 ≤ 140737488355328 := Nat.le_trans (Nat.le_mul_of_pos_right _ hb0) hl
  have hnl : (enc y).length = 1 * k := by rw [henc, Nat.one_mul]
  have h63 : xs.length + 1 ≤ maxLen := by simp only [maxLen]; omega
  obtain ⟨v', w', hr, h2, h3, h4, h5⟩ := run_append_own_at (P := P) W base t ty E i0 z k bytes ht hi hz0 hz1 hz2 hz hk0 v xs.length (xs.flatMap enc) hown a 1 1 (enc y) hnl hnews h1 h63 hl hbase
  have hown' : Own enc k E base w' v' (xs ++ [y]) := by
    unfold Own
    rw [List.flatMap_append, List.flatMap_singleton, List.length_append, List.length_singleton]
    exact h2
  refine ⟨v', w', hr, hown', ?_⟩
  rcases hown.2 with ⟨rfl, h0⟩ | ⟨g, cap, cur, rfl, hbg, hg, hnc, hcm, hcs, htake⟩
  · refine .inr ⟨⟨h3.os, h3.tape, h3.output, h3.size, fun i hi => h3.block i hi (by simp [Value.ownBlock])⟩, ?_⟩
    rcases h5 with h5 | h5
    · have hv := hown'.2
      rcases hv with ⟨_, hv⟩ | ⟨g, cap, cur, rfl, _⟩
      · simp at hv
      · simp [Value.ownBlock] at h5
    · exact h5
  · by_cases hroom : xs.length + 1 ≤ cap
    · have hfit : xs.length * i0.size + (enc y).length ≤ cur.size := by rw [hz1, hnl, hcs, ← Nat.add_mul]; exact Nat.mul_le_mul_right _ hroom
      have hr2 := run_append_room (P := P) W t ty E i0 ht hi g xs.length cap cur hg a 1 1 (enc y) (by rw [hz1]; exact hnl) hnews h1 hroom hfit
      rw [hr] at hr2
      injection hr2 with e1 e2
      exact .inl ⟨g, cap, rfl, e1, h3.os, h3.tape, h3.output, h3.size, fun i hi hne => h3.block i hi fun e => hne (by simpa [Value.ownBlock] using e)⟩
    · have holds : ∀ j u, (xs.flatMap enc)[j]? = some u → W.cell? ((⟨g, 0, none⟩ : Addr).add j) = some u := hown.cells (g := g) rfl
      have hr2 := run_append_grow (P := P) W t ty E i0 z ht hi hz0 ⟨g, 0, none⟩ xs.length cap (xs.flatMap enc) (by rw [hz1]; exact hown.1) holds a 1 1 (enc y) (by rw [hz1]; exact hnl) hnews (by omega) (by omega) (by rw [hz2]; exact growslice_fits (by omega) hl)
      rw [hr] at hr2
      injection hr2 with e1 e2
      subst e1 e2
      exact .inr ⟨⟨rfl, rfl, rfl, by simp, fun i hi => Below.heap_alloc W.drew _ i hi⟩, rfl⟩

/-- 'append(s, x)' at a walk, x boxed just now. -/
theorem append_wayH {P : Program} {ops : Array Oper} {rest : List Oper} {o : Oper} {a : Act} {Q : Exit → Act → World → Prop} {α : Type} {W : World} (H : Nat) (hH : W.heap.size = H) (enc : α → List Value) (k : Nat) (E : TypeId) (t : TypeId) (bytes : Nat) (z : Value) (base : Nat) (v : Value) (xs : List α) (y : α) (hgd : o.guard = none) (s x : Operand)
    (ho : o.op = .call { callee := .builtin .append, args := #[s, x], argTypes := #[t, t] })
    (ht : P.underlying t = some (.slice E)) (hinfo : (P.info? E).map (fun i => (i.zero, i.size, i.bytes)) = some (some z, k, bytes)) (hz : z.cells.size = k) (hk0 : 0 < k) (hb0 : 0 < bytes)
    (henc : ∀ x, (enc x).length = k) (h1 : ∀ u ∈ enc y, u.oneCell' = true)
    (hs : a.eval s = v) (hx : a.eval x = .slice (some ⟨H, 0, none⟩) 1 1)
    (hown : Own enc k E base W v xs) (hbase : base ≤ W.heap.size) (hl : (xs.length + 1) * bytes ≤ 140737488355328)
    (h : ∀ v' w', Own enc k E base w' v' (xs ++ [y]) →
      ((∃ g c, v = .slice (some ⟨g, 0, none⟩) xs.length c ∧ v' = .slice (some ⟨g, 0, none⟩) (xs.length + 1) c ∧ Turn (fun i => i = g) W w') ∨ (Below W.heap.size W w' ∧ ∃ g, v'.ownBlock = some g ∧ W.heap.size ≤ g)) → wpList P ops Q rest (a.put o.dst v') w') :
    wpList P ops Q (o :: rest) a (W.alloc (.cells (enc y).toArray E)) := by
  subst hH
  have hba : Below W.heap.size W (W.alloc (.cells (enc y).toArray E)) := (Below.refl _ W).alloc (Nat.le_refl _) _
  have hnews : ∀ j u, (enc y)[j]? = some u → (W.alloc (.cells (enc y).toArray E)).cell? ((⟨W.heap.size, 0, none⟩ : Addr).add j) = some u := fun j u hu => by
    rw [show (⟨W.heap.size, 0, none⟩ : Addr).add j = ⟨W.heap.size, j, none⟩ from by unfold Addr.add; split <;> simp_all]
    simp only [World.cell?, World.alloc, Array.getElem?_push_size, Option.isSome_none, Bool.false_eq_true, if_false]
    simpa using hu
  refine wpList_plain hgd fun K hK => ?_
  obtain ⟨v', w', hr, h2, h3⟩ := run_append_way (P := P) enc k E t o.type bytes z base v xs y ht hinfo hz hk0 hb0 henc h1 ⟨W.heap.size, 0, none⟩ hnews (hown.below hba) (Nat.le_trans hbase hba.size) hl
  unfold Oper.wp execOp
  simp only [ho, resolve, invoke, builtin, Sem.run_bind, Sem.run_pure, Result.andThen_ok, List.map_toArray, List.map_cons, List.map_nil, hs, hx, hr]
  refine hK _ _ (h v' w' h2 ?_)
  rcases h3 with ⟨g, c, e1, e2, e3⟩ | ⟨e1, e2⟩
  · exact .inl ⟨g, c, e1, e2, (Turn.of_below hba).step e3 fun _ _ h => h⟩
  · exact .inr ⟨Below.step hba e1, _, e2, hba.size⟩

/-- One more behind what was kept: the old list reads as it did (or as the head of the longer one). -/
theorem grow_step {α : Type} {enc : α → List Value} {k : Nat} {E : TypeId} {base : Nat} (hk : ∀ x, (enc x).length = k) {W1 wr w3 w' : World} {A2 : Option Addr} {m c2 : Nat} {lv v' : Value} {xs ys : List α} {y : α} {P : α → Prop}
    (hl : Own enc k E base wr (.slice A2 m c2) xs) (hxl : xs.length = m) (hx : ∀ x ∈ xs, P x) (hyP : ∀ x ∈ ys, P x) (hyl : m ≤ ys.length) (alt : lv = .slice A2 ys.length c2 ∨ ∃ g, lv.ownBlock = some g ∧ W1.heap.size ≤ g)
    (ht : Turn (fun g => (Value.slice A2 m c2).ownBlock = some g) W1 wr) (hlt : ∀ g, (Value.slice A2 m c2).ownBlock = some g → g < W1.heap.size) (hb : Below wr.heap.size wr w3)
    (ho : Own enc k E base w' v' (ys ++ [y])) (hyy : P y)
    (way : (∃ g c, lv = .slice (some ⟨g, 0, none⟩) ys.length c ∧ v' = .slice (some ⟨g, 0, none⟩) (ys.length + 1) c ∧ Turn (fun i => i = g) w3 w') ∨ (Below w3.heap.size w3 w' ∧ ∃ g, v'.ownBlock = some g ∧ w3.heap.size ≤ g)) :
    (∃ xs', Own enc k E base w' (.slice A2 m c2) xs' ∧ xs'.length = m ∧ ∀ x ∈ xs', P x) ∧ (∀ x ∈ ys ++ [y], P x) ∧ (v' = .slice A2 (ys.length + 1) c2 ∨ ∃ g, v'.ownBlock = some g ∧ W1.heap.size ≤ g) ∧ Turn (fun g => (Value.slice A2 m c2).ownBlock = some g) W1 w' := by
  have hall : ∀ x ∈ ys ++ [y], P x := fun x hx => by
    rcases List.mem_append.1 hx with h | h
    · exact hyP x h
    · rw [List.mem_singleton.1 h]; exact hyy
  have ht3 := ht.trans (.of_below hb)
  have hl3 := hl.below hb
  rcases way with ⟨g, c, e1, e2, tn⟩ | ⟨tb, g, hg, hge⟩
  · rcases alt with e | ⟨g', hg', hge⟩
    · rw [e] at e1
      injection e1 with a1 _ a3
      subst a1 a3 e2
      have hsh := ho.shorterN hk m (by simp; omega)
      refine ⟨⟨_, hsh, by simp; omega, fun x hx => hall x (List.mem_of_mem_take hx)⟩, hall, .inl rfl, ht3.step tn fun i _ e => by rw [e]; rfl⟩
    · have hgg : g' = g := by rw [e1] at hg'; simpa [Value.ownBlock] using hg'.symm
      subst hgg
      refine ⟨⟨xs, hl3.turn tn fun i hi e => by have := hlt i hi; omega, hxl, hx⟩, hall, .inr ⟨g', by rw [e2]; rfl, hge⟩, ht3.step tn fun i hi e => by omega⟩
  · exact ⟨⟨xs, hl3.below tb, hxl, hx⟩, hall, .inr ⟨g, hg, Nat.le_trans ht3.size hge⟩, ht3.trans (.of_below tb)⟩

section
variable {P : Program} {ops : Array Oper} {o : Oper} {a : Act} {w : World} {K : Act → World → Prop} {Q : Exit → Act → World → Prop}
/-- an append whose run is known, in a region that draws. -/
theorem step_append_runB {E : Prop} (hgd : o.guard = none) (s x : Operand) (sT : TypeId) (ho : o.op = .call { callee := .builtin .append, args := #[s, x], argTypes := #[sT, sT] }) {sv xv v' : Value} {w2 : World}
    (hs : a.eval s = sv) (hx : a.eval x = xv) (hrun : (Builtin.append_ #[sT, sT] o.type #[sv, xv]).run P w = .ok v' w2) (h : K (a.put o.dst v') w2) :
    if Region.wanted o (yielded ops a.tmps) = true then Oper.wp P o a w K Q else E := by
  have hw : Region.wanted o (yielded ops a.tmps) = true := by simp [Region.wanted, hgd]
  rw [if_pos hw]
  unfold Oper.wp
  simp [execOp, ho, resolve, invoke, builtin, hs, hx, hrun, Result.andThen]
  exact h
end
theorem hd_one {x : Hd} {A : Option Addr} {n c : Nat} {A2 : Option Addr} {n2 c2 : Nat} (hl : x.l = .slice A n c) (hg : x.long = .slice A2 n2 c2) : ∀ u ∈ x.enc, u.oneCell' = true := fun u hu => by
  simp only [Hd.enc, List.mem_cons, List.not_mem_nil, or_false] at hu
  rcases hu with rfl | rfl | rfl
  · rw [hl]; rfl
  · rw [hg]; rfl
  · rfl

abbrev bookT : TypeId := 41
/-- the blocks of what is kept. -/
def Blk (hs : List Hd) (g : Nat) : Prop := ∃ h ∈ hs, h.l.ownBlock = some g

theorem ne_typed {w : World} {g : Nat} {c1 c2 : Array Value} {E1 E2 : TypeId} {f1 f2 : Nat × Nat} {B : Nat} (hB : w.heap[B]? = some (.cells c1 E1 f1)) (hg : w.heap[g]? = some (.cells c2 E2 f2)) (hE : E1 ≠ E2) : B ≠ g := fun e => by
  subst e
  rw [hB] at hg
  injection hg with hg
  injection hg with _ hg
  exact hE hg

/-- the same lists, told with others behind. -/
def SameL (hs hs' : List Hd) : Prop := hs'.length = hs.length ∧ ∀ (j : Nat) (h : Hd), hs'[j]? = some h → ∃ h0 : Hd, hs[j]? = some h0 ∧ h.l = h0.l ∧ h.n = h0.n
theorem SameL.refl (hs : List Hd) : SameL hs hs := ⟨rfl, fun j h hj => ⟨h, hj, rfl, rfl⟩⟩


end Go.Proofs.YtanjgeacmpmjhaaGreatDoor
