import Derived.Test.YtanjgeacmpmjhaaGreatDoorBk0
set_option linter.unusedVariables false
set_option linter.unusedSimpArgs false
set_option linter.unusedSectionVars false
namespace Go.Proofs.YtanjgeacmpmjhaaGreatDoor
open Go.RowKit

/-! ### rows of one's own that may be clipped: the block may be longer than what the slice may grow to -/
def OwnK {α : Type} (enc : α → List Value) (k : Nat) (E : TypeId) (base : Nat) (w : World) (v : Value) (xs : List α) : Prop :=
  (v = .slice none 0 0 ∧ xs = []) ∨ ∃ g cap cur, v = .slice (some ⟨g, 0, none⟩) xs.length cap ∧ base ≤ g ∧ w.heap[g]? = some (.cells cur E (0, 0)) ∧ xs.length ≤ cap ∧ cap ≤ 9223372036854775807 ∧ cap * k ≤ cur.size ∧ cur.toList.take (xs.length * k) = xs.flatMap enc

section
variable {α : Type} {enc : α → List Value} {k : Nat} {E : TypeId} {base : Nat} {w w' : World} {v : Value} {xs : List α}
theorem OwnK.nil (enc : α → List Value) (k : Nat) (E : TypeId) (base : Nat) (w : World) : OwnK enc k E base w (.slice none 0 0) [] := .inl ⟨rfl, rfl⟩
theorem OwnK.of (h : Own enc k E base w v xs) : OwnK enc k E base w v xs := by
  rcases h.2 with ⟨rfl, h0⟩ | ⟨g, cap, cur, rfl, hb, hh, h1, h2, hsz, ht⟩
  · exact .inl ⟨rfl, List.length_eq_zero_iff.1 h0⟩
  · exact .inr ⟨g, cap, cur, rfl, hb, hh, h1, by simpa [maxLen] using h2, by omega, ht⟩
/-- clipped: 's[:n:c]'. -/
theorem OwnK.clip {A : Option Addr} {n c d : Nat} (h : OwnK enc k E base w (.slice A n c) xs) (h1 : n ≤ d) (h2 : d ≤ c) : OwnK enc k E base w (.slice A n d) xs := by
  rcases h with ⟨e, hx⟩ | ⟨g, cap, cur, e, hb, hh, q1, q2, q3, q4⟩
  · injection e with e1 e2 e3
    subst e1 e2 e3
    exact .inl ⟨by rw [show d = 0 by omega], hx⟩
  · injection e with e1 e2 e3
    subst e1 e2 e3
    exact .inr ⟨g, d, cur, rfl, hb, hh, h1, by omega, Nat.le_trans (Nat.mul_le_mul_right _ h2) q3, q4⟩
theorem OwnK.slice (h : OwnK enc k E base w v xs) : ∃ A c, v = .slice A xs.length c ∧ xs.length ≤ c ∧ c ≤ 9223372036854775807 := by
  rcases h with ⟨rfl, rfl⟩ | ⟨g, cap, cur, rfl, _, _, h1, h2, _⟩
  · exact ⟨none, 0, rfl, Nat.le_refl _, by omega⟩
  · exact ⟨_, cap, rfl, h1, h2⟩
theorem OwnK.typed (h : OwnK enc k E base w v xs) (g : Nat) (hg : v.ownBlock = some g) : base ≤ g ∧ ∃ cur, w.heap[g]? = some (.cells cur E (0, 0)) := by
  rcases h with ⟨rfl, _⟩ | ⟨g', cap, cur, rfl, hb, hh, _⟩
  · simp [Value.ownBlock] at hg
  · have : g' = g := by simpa [Value.ownBlock] using hg
    subst this
    exact ⟨hb, cur, hh⟩
theorem OwnK.lt (h : OwnK enc k E base w v xs) (g : Nat) (hg : v.ownBlock = some g) : g < w.heap.size := (Array.getElem?_eq_some_iff.1 (h.typed g hg).2.choose_spec).1
theorem OwnK.base_le (h : OwnK enc k E base w v xs) (g : Nat) (hg : v.ownBlock = some g) : base ≤ g := (h.typed g hg).1
theorem OwnK.turn {F : Nat → Prop} (h : OwnK enc k E base w v xs) (t : Turn F w w') (hF : ∀ g, v.ownBlock = some g → ¬ F g) : OwnK enc k E base w' v xs := by
  rcases h with h | ⟨g, cap, cur, rfl, hb, hh, h1⟩
  · exact .inl h
  · exact .inr ⟨g, cap, cur, rfl, hb, t.heap hh (hF g rfl), h1⟩
theorem OwnK.below (h : OwnK enc k E base w v xs) (hb : Below w.heap.size w w') : OwnK enc k E base w' v xs := h.turn (F := fun _ => False) (.of_below hb) fun _ _ => id
theorem OwnK.lower {base' : Nat} (h : OwnK enc k E base w v xs) (hb : base' ≤ base) : OwnK enc k E base' w v xs := by
  rcases h with h | ⟨g, cap, cur, rfl, h2, h3⟩
  · exact .inl h
  · exact .inr ⟨g, cap, cur, rfl, Nat.le_trans hb h2, h3⟩
theorem OwnK.rd (hk : ∀ x, (enc x).length = k) (h : OwnK enc k E base w v xs) : Rd enc k w v xs := by
  rcases h with ⟨rfl, rfl⟩ | ⟨g, cap, cur, rfl, _, hh, h1, h2, hsz, ht⟩
  · exact ⟨none, 0, rfl, Nat.le_refl _, by omega, fun h => absurd h (Nat.lt_irrefl _)⟩
  · refine ⟨_, cap, rfl, h1, h2, fun _ => ⟨g, 0, rfl, fun i x hi j u hu => ?_⟩⟩
    have h3 := flat_get hk xs i x j u hi hu
    rw [← ht, List.getElem?_take] at h3
    split at h3
    · simp only [World.cell?, hh, Option.isSome_none, Bool.false_eq_true, if_false]
      rw [Nat.zero_add]
      simpa using h3
    · cases h3
theorem OwnK.some_block (h : OwnK enc k E base w v xs) (hx : 0 < xs.length) : ∃ g cap cur, v = .slice (some ⟨g, 0, none⟩) xs.length cap ∧ base ≤ g ∧ w.heap[g]? = some (.cells cur E (0, 0)) := by
  rcases h with ⟨_, rfl⟩ | ⟨g, cap, cur, rfl, hb, hh, _⟩
  · exact absurd hx (Nat.lt_irrefl _)
  · exact ⟨g, cap, cur, rfl, hb, hh⟩
theorem OwnK.shorterN (hk : ∀ x, (enc x).length = k) {A : Option Addr} {n c : Nat} (h : OwnK enc k E base w (.slice A n c) xs) (i : Nat) (hi : i ≤ xs.length) : OwnK enc k E base w (.slice A i c) (xs.take i) := by
  have e : (xs.take i).length = i := by rw [List.length_take]; omega
  rcases h with ⟨hv, hx⟩ | ⟨g, cap, cur, hv, hb, hh, h1, h2, hsz, ht⟩
  · injection hv with e1 e2 e3
    subst e1 e3 hx
    have : i = 0 := by simpa using hi
    subst this
    exact .inl ⟨rfl, rfl⟩
  · injection hv with e1 e2 e3
    subst e1 e3
    refine .inr ⟨g, c, cur, by rw [e], hb, hh, by rw [e]; omega, h2, hsz, ?_⟩
    have := congrArg (List.take (i * k)) ht
    rw [List.take_take, Nat.min_eq_left (Nat.mul_le_mul_right _ hi), flat_takeB hk] at this
    rw [e]; exact this
theorem OwnK.cell (hk : ∀ x, (enc x).length = k) {g n cap : Nat} (h : OwnK enc k E base w (.slice (some ⟨g, 0, none⟩) n cap) xs) (i : Nat) (y y' : α) (j : Nat) (u : Value)
    (hy : xs[i]? = some y) (he : enc y' = (enc y).set j u) (hj : j < k) : OwnK enc k E base (w.setCell ⟨g, i * k + j, none⟩ u) (.slice (some ⟨g, 0, none⟩) n cap) (xs.set i y') := by
  have hi := (List.getElem?_eq_some_iff.1 hy).1
  rcases h with ⟨hv, _⟩ | ⟨g', cap', cur, hv, hb, hg, hlc, hcm, hsz, ht⟩
  · cases hv
  injection hv with h1 h2 h3
  injection h1 with h1
  injection h1 with h1
  subst h1 h2 h3
  rw [setCell_eq_setRow w g (i * k + j) cur E (0, 0) u hg]
  refine .inr ⟨g, cap, cur.setIfInBounds (i * k + j) u, by rw [List.length_set], hb, setRow_heap _ _ _ _ _ _ hg, by rw [List.length_set]; exact hlc, hcm, by simpa using hsz, ?_⟩
  rw [Array.toList_setIfInBounds, List.take_set, List.length_set, ht, flat_set hk xs i y y' j u hy he hj]

/-- 'append(s, x)': in place, or all new. -/
theorem run_append_wayK {P : Program} (t ty : TypeId) (bytes : Nat) (z : Value) (y : α) (ht : P.underlying t = some (.slice E)) (hinfo : (P.info? E).map (fun i => (i.zero, i.size, i.bytes)) = some (some z, k, bytes)) (hz : z.cells.size = k) (hk0 : 0 < k) (hb0 : 0 < bytes)
    (hk : ∀ x, (enc x).length = k) (h1 : ∀ u ∈ enc y, u.oneCell' = true) (h : OwnK enc k E base w v xs) (hbase : base ≤ w.heap.size) (hl : (xs.length + 1) * bytes ≤ 140737488355328)
    (ad : Addr) (hnews : ∀ j u, (enc y)[j]? = some u → w.cell? (ad.add j) = some u) :
    ∃ v' w', (Builtin.append_ #[t, t] ty #[v, .slice (some ad) 1 1]).run P w = .ok v' w' ∧ OwnK enc k E base w' v' (xs ++ [y]) ∧
      ((∃ g c, v = .slice (some ⟨g, 0, none⟩) xs.length c ∧ v' = .slice (some ⟨g, 0, none⟩) (xs.length + 1) c ∧ Turn (fun i => i = g) w w') ∨ (Below w.heap.size w w' ∧ v'.ownBlock = some w.heap.size)) := by
  rcases h with ⟨rfl, rfl⟩ | ⟨g, cap, cur, rfl, hb, hh, hc1, hc2, hsz, htk⟩
  · obtain ⟨v', w', hr, hown, hway⟩ := run_append_way (P := P) (W := w) enc k E t ty bytes z base (.slice none 0 0) [] y ht hinfo hz hk0 hb0 hk h1 ad hnews (Own.nil _ _ _ _ _) hbase hl
    refine ⟨v', w', hr, .of hown, ?_⟩
    rcases hway with ⟨g, c, e, _⟩ | hw
    · cases e
    · exact .inr hw
  · obtain ⟨i0, hi, hzz⟩ := Option.map_eq_some_iff.1 hinfo
    simp only [Prod.mk.injEq] at hzz
    obtain ⟨hz0, hz1, hz2⟩ := hzz
    have hlen : xs.length + 1 ≤ 140737488355328 := Nat.le_trans (Nat.le_mul_of_pos_right _ hb0) hl
    by_cases hroom : xs.length + 1 ≤ cap
    · have hfit : xs.length * k + (enc y).length ≤ cur.size := by
        have : (xs.length + 1) * k ≤ cap * k := Nat.mul_le_mul_right _ hroom
        rw [Nat.add_mul, Nat.one_mul] at this
        rw [hk]; omega
      have hl1 := run_loadCells_list (P := P) w ad (enc y) hnews
      have hst := run_storeCells_at P g (xs.length * k) E (enc y) 0 cur w hh (by simpa using hfit) h1
      simp only [Nat.add_zero] at hst
      have he : (⟨g, 0, none⟩ : Addr).add (xs.length * k) = ⟨g, xs.length * k, none⟩ := by rw [Addr.add_lit, Nat.zero_add]
      have hk1 : i0.size = (enc y).length := by rw [hz1, hk]
      refine ⟨.slice (some ⟨g, 0, none⟩) (xs.length + 1) cap, w.setRow g (cur.toList.take (xs.length * k) ++ enc y ++ cur.toList.drop (xs.length * k + (enc y).length)).toArray, ?_, .inr ⟨g, cap, (cur.toList.take (xs.length * k) ++ enc y ++ cur.toList.drop (xs.length * k + (enc y).length)).toArray, by simp, hb, ?_, by simpa using hroom, hc2, ?_, ?_⟩, .inl ⟨g, cap, rfl, rfl, ?_⟩⟩
      · simp [Builtin.append_, run_underlying ht, sizeOf, typeInfo, hi, Builtin.lenOf, Builtin.firstCells, hk1, hl1, hroom]
        rw [show (enc y).length = k from hk y, he, hst]
        simp [hk]
      · exact setRow_heap w g cur _ E _ hh
      · simp; omega
      · rw [List.length_append, List.length_singleton, List.flatMap_append, List.flatMap_singleton, ← htk]
        apply List.ext_getElem?
        intro j
        simp only [List.getElem?_take, List.getElem?_drop, List.getElem?_append, List.length_take, List.length_drop, Array.length_toList, List.length_append]
        have hk' := hk y
        have hmul : (xs.length + 1) * k = xs.length * k + k := by rw [Nat.add_mul, Nat.one_mul]
        rw [hmul]
        have hmin : min (xs.length * k) cur.size = xs.length * k := by omega
        rw [hmin, hk']
        by_cases hj : j < xs.length * k
        · rw [if_pos (by omega), if_pos (by omega), if_pos hj, if_pos hj]
        · rw [if_neg (c := j < xs.length * k) hj]
          by_cases hj2 : j < xs.length * k + k
          · rw [if_pos hj2, if_pos hj2]; try simp [hj]
          · rw [if_neg hj2]; try simp [hj]
            try omega
      · exact (Turn.of_grown (grownBy_setRow w g _)).mono fun i _ e => by injection e with e; exact e.symm
    · have holds : ∀ j u, (xs.flatMap enc)[j]? = some u → w.cell? ((⟨g, 0, none⟩ : Addr).add j) = some u := fun j u hu => by
        rw [Addr.add_lit, Nat.zero_add]
        rw [← htk, List.getElem?_take] at hu
        split at hu
        · simp only [World.cell?, hh, Option.isSome_none, Bool.false_eq_true, if_false]
          simpa using hu
        · cases hu
      subst hz1 hz2
      have hr := run_append_grow (P := P) w t ty E i0 z ht hi hz0 ⟨g, 0, none⟩ xs.length cap (xs.flatMap enc) (flat_length hk xs) holds ad 1 1 (enc y) (by rw [hk]; omega) hnews (by omega) (by omega) (growslice_fits (by omega) hl)
      have hge := grownCap_ge w (xs.length + 1) cap E
      have hcm := grownCap_le_maxLen w (xs.length + 1) cap E (by simp only [maxLen]; omega)
      refine ⟨_, _, hr, .of ⟨flat_length hk _, .inr ⟨w.heap.size, _, _, by rw [List.length_append, List.length_singleton], hbase, heap_alloc_new w.drew _, by rw [List.length_append, List.length_singleton]; exact hge, hcm, ?_, ?_⟩⟩, .inr ⟨⟨rfl, rfl, rfl, by simp, fun q hq => Below.heap_alloc w.drew _ q hq⟩, rfl⟩⟩
      · simp only [Array.size_append, List.size_toArray, size_zeroCells, hz, flat_length hk, hk, ← Nat.add_mul]
        rw [show xs.length * i0.size + i0.size = (xs.length + 1) * i0.size by rw [Nat.add_mul, Nat.one_mul], ← Nat.add_mul]
        congr 1
        omega
      · rw [List.length_append, List.length_singleton, List.flatMap_append, List.flatMap_singleton]
        simp only [Array.toList_append]
        have : (xs.flatMap enc ++ enc y).length = (xs.length + 1) * i0.size := by rw [List.length_append, flat_length hk, hk, Nat.add_mul, Nat.one_mul]
        rw [← this]
        exact List.take_left
end

/-- 'append(s, x)' at a walk, x boxed just now. -/
theorem append_wayHK {P : Program} {ops : Array Oper} {rest : List Oper} {o : Oper} {a : Act} {Q : Exit → Act → World → Prop} {α : Type} {W : World} (H : Nat) (hH : W.heap.size = H) (enc : α → List Value) (k : Nat) (E : TypeId) (t : TypeId) (bytes : Nat) (z : Value) (base : Nat) (v : Value) (xs : List α) (y : α) (hgd : o.guard = none) (s x : Operand)
    (ho : o.op = .call { callee := .builtin .append, args := #[s, x], argTypes := #[t, t] })
    (ht : P.underlying t = some (.slice E)) (hinfo : (P.info? E).map (fun i => (i.zero, i.size, i.bytes)) = some (some z, k, bytes)) (hz : z.cells.size = k) (hk0 : 0 < k) (hb0 : 0 < bytes)
    (henc : ∀ x, (enc x).length = k) (h1 : ∀ u ∈ enc y, u.oneCell' = true)
    (hs : a.eval s = v) (hx : a.eval x = .slice (some ⟨H, 0, none⟩) 1 1)
    (hown : OwnK enc k E base W v xs) (hbase : base ≤ W.heap.size) (hl : (xs.length + 1) * bytes ≤ 140737488355328)
    (h : ∀ v' w', OwnK enc k E base w' v' (xs ++ [y]) →
      ((∃ g c, v = .slice (some ⟨g, 0, none⟩) xs.length c ∧ v' = .slice (some ⟨g, 0, none⟩) (xs.length + 1) c ∧ Turn (fun i => i = g) W w') ∨ (Below W.heap.size W w' ∧ ∃ g, v'.ownBlock = some g ∧ W.heap.size ≤ g)) → wpList P ops Q rest (a.put o.dst v') w') :
    wpList P ops Q (o :: rest) a (W.alloc (.cells (enc y).toArray E)) := by
  subst hH
  have hba : Below W.heap.size W (W.alloc (.cells (enc y).toArray E)) := (Below.refl _ W).alloc (Nat.le_refl _) _
  have hnews : ∀ j u, (enc y)[j]? = some u → (W.alloc (.cells (enc y).toArray E)).cell? ((⟨W.heap.size, 0, none⟩ : Addr).add j) = some u := fun j u hu => by
    rw [show (⟨W.heap.size, 0, none⟩ : Addr).add j = ⟨W.heap.size, j, none⟩ from by unfold Addr.add; split <;> simp_all]
    simp only [World.cell?, World.alloc, Array.getElem?_push_size, Option.isSome_none, Bool.false_eq_true, if_false]
    simpa using hu
  refine wpList_plain hgd fun K hK => ?_
  obtain ⟨v', w', hr, h2, h3⟩ := run_append_wayK (P := P) t o.type bytes z y ht hinfo hz hk0 hb0 henc h1 (hown.below hba) (Nat.le_trans hbase hba.size) hl ⟨W.heap.size, 0, none⟩ hnews
  unfold Oper.wp execOp
  simp only [ho, resolve, invoke, builtin, Sem.run_bind, Sem.run_pure, Result.andThen_ok, List.map_toArray, List.map_cons, List.map_nil, hs, hx, hr]
  refine hK _ _ (h v' w' h2 ?_)
  rcases h3 with ⟨g, c, e1, e2, e3⟩ | ⟨e1, e2⟩
  · exact .inl ⟨g, c, e1, e2, (Turn.of_below hba).step e3 fun _ _ h => h⟩
  · exact .inr ⟨Below.step hba e1, _, e2, hba.size⟩

/-- One more behind what was kept: the old list reads as it did (or as the head of the longer one). -/
theorem grow_stepK {α : Type} {enc : α → List Value} {k : Nat} {E : TypeId} {base : Nat} (hk : ∀ x, (enc x).length = k) {W1 wr w3 w' : World} {A2 : Option Addr} {m c2 : Nat} {lv v' : Value} {xs ys : List α} {y : α} {P : α → Prop}
    (hl : OwnK enc k E base wr (.slice A2 m c2) xs) (hxl : xs.length = m) (hx : ∀ x ∈ xs, P x) (hyP : ∀ x ∈ ys, P x) (hyl : m ≤ ys.length) (alt : lv = .slice A2 ys.length c2 ∨ ∃ g, lv.ownBlock = some g ∧ W1.heap.size ≤ g)
    (ht : Turn (fun g => (Value.slice A2 m c2).ownBlock = some g) W1 wr) (hlt : ∀ g, (Value.slice A2 m c2).ownBlock = some g → g < W1.heap.size) (hb : Below wr.heap.size wr w3)
    (ho : OwnK enc k E base w' v' (ys ++ [y])) (hyy : P y)
    (way : (∃ g c, lv = .slice (some ⟨g, 0, none⟩) ys.length c ∧ v' = .slice (some ⟨g, 0, none⟩) (ys.length + 1) c ∧ Turn (fun i => i = g) w3 w') ∨ (Below w3.heap.size w3 w' ∧ ∃ g, v'.ownBlock = some g ∧ w3.heap.size ≤ g)) :
    (∃ xs', OwnK enc k E base w' (.slice A2 m c2) xs' ∧ xs'.length = m ∧ ∀ x ∈ xs', P x) ∧ (∀ x ∈ ys ++ [y], P x) ∧ (v' = .slice A2 (ys.length + 1) c2 ∨ ∃ g, v'.ownBlock = some g ∧ W1.heap.size ≤ g) ∧ Turn (fun g => (Value.slice A2 m c2).ownBlock = some g) W1 w' := by
  have hall : ∀ x ∈ ys ++ [y], P x := fun x hx => by
    rcases List.mem_append.1 hx with h | h
    · exact hyP x h
    · rw [List.mem_singleton.1 h]; exact hyy
  have ht3 := ht.trans (.of_below hb)
  have hl3 := hl.below hb
  rcases way with ⟨g, c, e1, e2, tn⟩ | ⟨tb, g, hg, hge⟩
  · rcases alt with e | ⟨g', hg', hge⟩
    · rw [e] at e1
      injection e1 with a1 _ a3
      subst a1 a3 e2
      have hsh := ho.shorterN hk m (by simp; omega)
      refine ⟨⟨_, hsh, by simp; omega, fun x hx => hall x (List.mem_of_mem_take hx)⟩, hall, .inl rfl, ht3.step tn fun i _ e => by rw [e]; rfl⟩
    · have hgg : g' = g := by rw [e1] at hg'; simpa [Value.ownBlock] using hg'.symm
      subst hgg
      refine ⟨⟨xs, hl3.turn tn fun i hi e => by have := hlt i hi; omega, hxl, hx⟩, hall, .inr ⟨g', by rw [e2]; rfl, hge⟩, ht3.step tn fun i hi e => by omega⟩
  · exact ⟨⟨xs, hl3.below tb, hxl, hx⟩, hall, .inr ⟨g, hg, Nat.le_trans ht3.size hge⟩, ht3.trans (.of_below tb)⟩

end Go.Proofs.YtanjgeacmpmjhaaGreatDoor
