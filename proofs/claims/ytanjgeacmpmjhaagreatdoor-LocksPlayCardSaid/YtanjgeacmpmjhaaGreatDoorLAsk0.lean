import Derived.Test.YtanjgeacmpmjhaaGreatDoorLWayC
import Derived.Test.YtanjgeacmpmjhaaGreatDoorMgLocksPlay14
set_option linter.unusedVariables false
set_option linter.unusedSimpArgs false
set_option linter.unusedSectionVars false
namespace Go.Proofs.YtanjgeacmpmjhaaGreatDoor
open Go.RowKit Go.Shelf

theorem info_lock : (Tryz.prog.info? 162).map (fun i => (i.zero, i.size, i.bytes)) = some (some (.agg #[.string ⟨#[]⟩, .string ⟨#[]⟩, .bool false]), 3, 40) := by kernel_rfl
theorem grownBy_setCell_at (W : World) (b i : Nat) (v : Value) : W.grownBy (W.setCell ⟨b, i, none⟩ v) (some b) := by
  have h := (Below.refl b W).setCell (p := ⟨b, i, none⟩) (Nat.le_refl _) v
  exact ⟨h.os, h.tape, h.output, h.size, fun k _ hk => heap_setCell_other W _ k v (fun e => hk (by rw [e]))⟩
theorem lock_one' (x : Lock) : ∀ u ∈ x.enc, u.oneCell' = true := by
  intro u hu
  simp [Lock.enc] at hu
  rcases hu with rfl | rfl | rfl <;> rfl

/-- A cell of a slice of the call's own memory is written. -/
theorem OwnO.cell {α : Type} {enc : α → List Value} {k : Nat} {E : TypeId} {base : Nat} {w : World} {g o n cap : Nat} {ys : List α} (h : OwnO enc k E base w (.slice (some ⟨g, o, none⟩) n cap) ys) (hk : ∀ x, (enc x).length = k) (i : Nat) (y y' : α) (j : Nat) (u : Value)
    (hy : ys[i]? = some y) (he : enc y' = (enc y).set j u) (hj : j < k) :
    OwnO enc k E base (w.setCell ⟨g, o + i * k + j, none⟩ u) (.slice (some ⟨g, o, none⟩) n cap) (ys.set i y') := by
  have hi := (List.getElem?_eq_some_iff.1 hy).1
  rcases h with ⟨h, _⟩ | ⟨g', o', cap', cur, hv, hb, hg, hlc, hcm, hsz, ht⟩
  · cases h
  injection hv with h1 h2 h3
  injection h1 with h1
  injection h1 with h1 h4
  subst h1 h2 h3 h4
  have hik : i * k + j < ys.length * k := by
    have : (i + 1) * k ≤ ys.length * k := Nat.mul_le_mul_right _ hi
    rw [Nat.add_mul] at this
    omega
  rw [setCell_eq_setRow w g (o + i * k + j) cur E (0, 0) u hg]
  refine .inr ⟨g, o, cap, cur.setIfInBounds (o + i * k + j) u, by rw [List.length_set], hb, setRow_heap _ _ _ _ _ _ hg, by rw [List.length_set]; exact hlc, hcm, by simpa using hsz, ?_⟩
  rw [← flat_set hk ys i y y' j u hy he hj, ← ht, Array.toList_setIfInBounds, List.length_set]
  apply List.ext_getElem?
  intro m
  simp only [List.getElem?_take, List.getElem?_drop, List.getElem?_set, List.length_take, List.length_drop, Array.length_toList]
  by_cases hm : m < ys.length * k
  · rw [if_pos hm]
    by_cases e : i * k + j = m
    · subst e
      have hlt : ys.length * k ≤ cap * k := Nat.mul_le_mul_right _ hlc
      rw [if_pos (by omega), if_pos (by omega), if_pos rfl, if_pos (by omega)]
    · rw [if_neg (by omega), if_neg e, if_pos hm]
  · rw [if_neg hm, if_neg (by omega), if_neg hm]

section
variable {κ α : Type} [DecidableEq κ] {P : Program} {tk : TypeId} {kv : κ → Value} {kl : κ → Lit} {ok : κ → Prop} {enc : α → List Value} {k : Nat} {E : TypeId} {base : Nat} {w : World} {M n : Nat} {D : DataW Value} {H : κ → List α}
/-- One key's slice is written in place. -/
theorem SMap.turned {w1 : World} (h : SMap P tk kl ok enc k E base w M n D H) (kinj : ∀ x y, kl x = kl y → x = y) {x : κ} (hx : ok x) {v : Value} {ys : List α} (hv : D.atKey (kl x) nilD = .held v) (hg : w.grownBy w1 v.ownBlock) (ho : OwnO enc k E base w1 v ys) (hne : ys ≠ []) (hne' : H x ≠ []) :
    SMap P tk kl ok enc k E base w1 M n D (updS H x ys) where
  own := h.own.kept hg (fun e => h.off hx hv e.symm)
  low := h.low
  has y hy := by
    unfold updS
    by_cases e : x = y
    · subst e
      rw [if_pos rfl]
      exact ⟨fun _ => hne, fun _ => (h.has x hx).2 hne'⟩
    · rw [if_neg e]
      exact h.has y hy
  elem y hy := by
    unfold updS
    by_cases e : x = y
    · subst e
      rw [if_pos rfl]
      exact ⟨v, hv, ho⟩
    · rw [if_neg e]
      obtain ⟨u, hu, hou⟩ := h.elem y hy
      refine ⟨u, hu, hou.kept hg ?_⟩
      cases hub : u.ownBlock with
      | none => exact .inl rfl
      | some g =>
        refine .inr fun e2 => ?_
        exact e (h.apart x y v u g hx hy hv hu e2.symm hub)
  apart := h.apart
end

section
variable {base : Nat} {w : World} {B M n : Nat} {D : DataW Value} {T : Tab}
/-- What 't.has[who] = append(l, lock{..})' does. -/
theorem ask_tail {W : World} (h : TabAt base W B M n D T) {who : Int} (hw : okU who) (hn : n ≤ 1000000) {v : Value} (hat : D.atKey (klU who) nilD = .held v) (hlen : (T who).length ≤ 1000000) (hbase : base ≤ W.heap.size) (y : Lock) :
    ∃ A' n2 c' w5 w6, (Builtin.append_ #[159, 159] 159 #[v, .slice (some ⟨W.heap.size, 0, none⟩) 1 1]).run Tryz.prog (W.alloc (.cells #[.string y.f, .string y.t, .bool y.a] 162)) = .ok (.slice A' n2 c') w5 ∧
      (Instr.mapUpdate 156 (.map (some M)) (.int .u32 who) (.slice A' n2 c')).run Tryz.prog w5 = .ok () w6 ∧
      TabP base w6 B (n + 1) (putT T who (T who ++ [y])) ∧ TStep base W w6 ∧
      (∀ i, i < W.heap.size → v.ownBlock ≠ some i → i ≠ M → w6.heap[i]? = W.heap[i]?) ∧ (∀ i, i < W.heap.size → v.ownBlock ≠ some i → w5.heap[i]? = W.heap[i]?) := by
  have hBa : Below W.heap.size W (W.alloc (.cells #[.string y.f, .string y.t, .bool y.a] 162)) := (Below.refl _ W).alloc (Nat.le_refl _) _
  have hM2 := h.map.below hBa
  obtain ⟨v0, hv0, ho⟩ := h.map.elem who hw
  rw [hat] at hv0
  injection hv0 with e0
  subst e0
  have ho2 := ho.below hBa
  have hcell : ∀ j u, y.enc[j]? = some u → (W.alloc (.cells #[.string y.f, .string y.t, .bool y.a] 162)).cell? ((⟨W.heap.size, 0, none⟩ : Addr).add j) = some u := fun j u hj => by
    rw [Addr.add_lit]
    refine (World.cell?_alloc_at (w := W) _ _ W.heap.size _ rfl).trans ?_
    have : (#[Value.string y.f, .string y.t, .bool y.a] : Array Value)[0 + j]? = y.enc[j]? := by
      rw [Nat.zero_add]
      simp [Lock.enc]
    rw [this]
    exact hj
  have hsz : (W.alloc (.cells #[.string y.f, .string y.t, .bool y.a] 162)).heap.size = W.heap.size + 1 := by simp
  have hps1 : TStep base W (W.alloc (.cells #[.string y.f, .string y.t, .bool y.a] 162)) := .of_below hBa
  have hal := fun i (hi : i < W.heap.size) => hBa.block i hi
  generalize (W.alloc (.cells #[.string y.f, .string y.t, .bool y.a] 162)) = Wa at *
  obtain ⟨v', w5, hrun, ho5, hg5, hat5⟩ := run_append_off 159 159 40 _ y locks_under info_lock rfl (by decide) (by decide) lock_len lock_one' ho2 (by omega) (by omega) ⟨W.heap.size, 0, none⟩ hcell
  obtain ⟨A', c', rfl, _, _⟩ := ho5.shape
  have hat' : (Value.slice A' (T who ++ [y]).length c').ownBlock = v.ownBlock ∨ ∃ g, (Value.slice A' (T who ++ [y]).length c').ownBlock = some g ∧ Wa.heap.size ≤ g := by
    rcases hat5 with e | e
    · exact .inl e
    · exact .inr ⟨_, e, Nat.le_refl _⟩
  obtain ⟨w6, hmu, hM6, hg6⟩ := hM2.store keyU lmap_under (by unfold maxLen; omega) hw hat hg5 ho5 (by simp) hat'
  have hMlt := h.map.own.lt
  have hoth : ∀ i, i < W.heap.size → v.ownBlock ≠ some i → i ≠ M → w6.heap[i]? = W.heap[i]? := fun i hi h1 h2 => by
    rw [hg6.block i (by have := hg5.size; omega) (fun e => h2 (by injection e)), hg5.block i (by omega) (fun e => h1 e.symm)]
    exact hal i hi
  refine ⟨A', _, c', w5, w6, hrun, hmu, ⟨M, _, (hoth B h.lt (h.offB hw hat) (fun e => h.neM e.symm)).trans h.obj, hM6, h.low, fun o ho => ?_⟩, (hps1.trans (.grown hg5 (fun g e => ?_))).trans (.grown hg6 (fun g e => ?_)), hoth, fun i hi h1 => (hg5.block i (by omega) (fun e => h1 e.symm)).trans (hal i hi)⟩
  · by_cases e : who = o
    · subst e; exact hw
    · unfold putT at ho
      rw [if_neg e] at ho
      exact h.dom o ho
  · obtain ⟨hb, _, cur, hc⟩ := ho2.lt g e
    exact ⟨hb, .inr ⟨_, _, hc⟩⟩
  · injection e with e
    subst e
    have hM5 := hM2.own.kept hg5 (fun e => hM2.off hw hat e.symm)
    obtain ⟨es, clock, hb, _⟩ := hM5
    exact ⟨hM2.low, .inl ⟨_, _, hb⟩⟩

/-- What 'l[i].alone = ..' does. -/
theorem ask_set {W : World} (h : TabAt base W B M n D T) {who : Int} (hw : okU who) {g o n2 cap : Nat} (hat : D.atKey (klU who) nilD = .held (.slice (some ⟨g, o, none⟩) n2 cap)) {i : Nat} {x : Lock} (hi : (T who)[i]? = some x) (al : Bool) :
    TabP base (W.setCell ⟨g, o + i * 3 + 2, none⟩ (.bool al)) B n (putT T who ((T who).set i ⟨x.f, x.t, al⟩)) ∧ TStep base W (W.setCell ⟨g, o + i * 3 + 2, none⟩ (.bool al)) := by
  obtain ⟨v0, hv0, ho⟩ := h.map.elem who hw
  rw [hat] at hv0
  injection hv0 with e0
  subst e0
  have ho2 := ho.cell lock_len i x ⟨x.f, x.t, al⟩ 2 (.bool al) hi rfl (by decide)
  have hg : W.grownBy (W.setCell ⟨g, o + i * 3 + 2, none⟩ (.bool al)) (Value.slice (some ⟨g, o, none⟩) n2 cap).ownBlock := grownBy_setCell_at W g _ _
  obtain ⟨hgb, _, cur, hgc⟩ := ho.lt g rfl
  have hlen := (List.getElem?_eq_some_iff.1 hi).1
  refine ⟨⟨M, D, (hg.block B h.lt (fun e => h.offB hw hat e.symm)).trans h.obj, ?_, h.low, fun o' ho' => ?_⟩, .grown hg fun g' e => ?_⟩
  · exact h.map.turned keyU.inj hw hat hg ho2 (fun e => by have := congrArg List.length e; simp at this; rw [this] at hlen; simp at hlen) (fun e => by rw [e] at hlen; simp at hlen)
  · by_cases e : who = o'
    · subst e; exact hw
    · unfold putT at ho'
      rw [if_neg e] at ho'
      exact h.dom o' ho'
  · have e : g = g' := by simpa [Value.ownBlock] using e
    subst e
    exact ⟨hgb, .inr ⟨_, _, hgc⟩⟩
end
section
variable {P : Program} {ops : Array Oper} {o : Oper} {a : Act} {w : World} {K : Act → World → Prop} {Q : Exit → Act → World → Prop}
/-- an append whose run is known, in a region that draws. -/
theorem step_append_run {E : Prop} (hgd : o.guard = none) (s x : Operand) (sT : TypeId) (ho : o.op = .call { callee := .builtin .append, args := #[s, x], argTypes := #[sT, sT] }) {sv xv v' : Value} {w2 : World}
    (hs : a.eval s = sv) (hx : a.eval x = xv) (hrun : (Builtin.append_ #[sT, sT] o.type #[sv, xv]).run P w = .ok v' w2) (h : K (a.put o.dst v') w2) :
    if Region.wanted o (yielded ops a.tmps) = true then Oper.wp P o a w K Q else E := by
  have hw : Region.wanted o (yielded ops a.tmps) = true := by simp [Region.wanted, hgd]
  rw [if_pos hw]
  unfold Oper.wp
  simp [execOp, ho, resolve, invoke, builtin, hs, hx, hrun, Result.andThen]
  exact h
end
end Go.Proofs.YtanjgeacmpmjhaaGreatDoor
