import Derived.Test.YtanjgeacmpmjhaaGreatDoorOff
import Derived.Maps.RangeWalk
import Derived.Maps.OwnSet
set_option linter.unusedVariables false
set_option linter.unusedSimpArgs false
namespace Go.Proofs.YtanjgeacmpmjhaaGreatDoor
open Go.RowKit Go.ChangeMaps Go.MapKept
open Go.Maps (Keyed)
open Go.WideElems (Fit rd rg pl rd_val)
set_option linter.unusedSectionVars false

/-! ### a map of slices of the call's own -/
/-- How an element reads: as the slice that it is. -/
def rS : Value → Option (DataW Value × List MemPlace)
  | .slice A n c => some (.held (.slice A n c), [])
  | _ => none
abbrev nilS : Value := .slice none 0 0
abbrev nilD : DataW Value := .held nilS

theorem rS_inv {v : Value} {d : DataW Value} {ps : List MemPlace} (h : rS v = some (d, ps)) : d = .held v ∧ ∃ A n c, v = .slice A n c := by
  unfold rS at h
  split at h
  · injection h with h
    injection h with h1 h2
    exact ⟨h1.symm, _, _, _, rfl⟩
  · cases h

/-- The keys: kv: as values, kl: as they read. -/
structure KeyOk {κ : Type} (P : Program) (tk : TypeId) (kv : κ → Value) (kl : κ → Lit) (ok : κ → Prop) : Prop where
  law : Keyed P tk
  of : ∀ x, ok x → keyOf P tk (kv x) = some (kl x)
  inj : ∀ x y, kl x = kl y → x = y
  back : ∀ v l, keyOf P tk v = some l → ∃ x, ok x ∧ v = kv x ∧ kl x = l
  vinj : ∀ x y, kv x = kv y → x = y

theorem keyOk_string {P : Program} {tk : TypeId} (h : P.underlying tk = some .string) : KeyOk P tk Value.string (fun s : ByteArray => Lit.string s.data.toList) (fun s => s.size ≤ maxLen) where
  law := Maps.string_keyed h
  of s hs := WideMaps.keyOf_string_mk h hs
  inj a b e := by
    injection e with e
    cases a; cases b
    congr
    exact Array.toList_inj.1 e
  back v l e := by
    cases v <;> simp [keyOf, h, mapKey] at e
    obtain ⟨h1, rfl⟩ := e
    exact ⟨_, h1, rfl, rfl⟩
  vinj a b e := by injection e

theorem keyOk_int {P : Program} {tk : TypeId} {q : IntKind} (h : P.underlying tk = some (.int q)) : KeyOk P tk (Value.int q) (fun n : Int => Lit.int q n) (fun n => (Lit.int q n).wf = true) where
  law := Maps.int_keyed h
  of n hn := Maps.keyOf_int_mk h hn
  inj a b e := by injection e
  back v l e := by
    obtain ⟨x, rfl, rfl, hw⟩ := Maps.keyOf_int_inv h e
    exact ⟨x, hw, rfl, rfl⟩
  vinj a b e := by injection e

/-- one key's slice is another one from now on. -/
def updS {κ α : Type} [DecidableEq κ] (H : κ → List α) (x : κ) (ys : List α) : κ → List α := fun y => if x = y then ys else H y

section
variable {κ α : Type} [DecidableEq κ] {P : Program} {tk : TypeId} {kv : κ → Value} {kl : κ → Lit} {ok : κ → Prop} {enc : α → List Value} {k : Nat} {E : TypeId}

/-- A MAP OF SLICES AT BLOCK M: at each key x the slice that owns 'H x'; no two keys' slices lie in one block. -/
structure SMap (P : Program) (tk : TypeId) (kl : κ → Lit) (ok : κ → Prop) (enc : α → List Value) (k : Nat) (E : TypeId) (base : Nat) (w : World) (M n : Nat) (D : DataW Value) (H : κ → List α) : Prop where
  own : w.ownsMap P tk rS M n D
  low : base ≤ M
  has : ∀ x, ok x → (Maps.has D (kl x) = true ↔ H x ≠ [])
  elem : ∀ x, ok x → ∃ v, D.atKey (kl x) nilD = .held v ∧ OwnO enc k E base w v (H x)
  apart : ∀ x y v u g, ok x → ok y → D.atKey (kl x) nilD = .held v → D.atKey (kl y) nilD = .held u → v.ownBlock = some g → u.ownBlock = some g → x = y

variable {base : Nat} {w : World} {M n : Nat} {D : DataW Value} {H : κ → List α}

theorem SMap.made (w : World) (hb : base ≤ w.heap.size) : SMap P tk kl ok enc k E base (w.alloc (.map #[] 0)) w.heap.size 0 (.map []) (fun _ : κ => ([] : List α)) where
  own := World.ownsMap_made w P tk rS
  low := hb
  has x _ := by simp [Maps.has]
  elem x _ := ⟨nilS, rfl, OwnO.nil _ _ _ _ _⟩
  apart x y v u g _ _ h1 _ h3 _ := by
    have : nilD = .held v := h1
    injection this with e
    rw [← e] at h3
    cases h3

/-- No key's slice lies in the map's own block. -/
theorem SMap.off (h : SMap P tk kl ok enc k E base w M n D H) {x : κ} (hx : ok x) {v : Value} (hv : D.atKey (kl x) nilD = .held v) : v.ownBlock ≠ some M := fun e => by
  obtain ⟨v', hv', ho⟩ := h.elem x hx
  rw [hv] at hv'
  injection hv' with hv'
  subst hv'
  obtain ⟨_, _, cur, hc⟩ := ho.lt M e
  obtain ⟨es, clock, hb, _⟩ := h.own
  rw [hb] at hc
  cases hc

theorem SMap.kept {w' : World} {row : Option Nat} (h : SMap P tk kl ok enc k E base w M n D H) (hg : w.grownBy w' row) (hM : some M ≠ row) (hrow : ∀ x v, ok x → D.atKey (kl x) nilD = .held v → v.ownBlock = none ∨ v.ownBlock ≠ row) : SMap P tk kl ok enc k E base w' M n D H where
  own := h.own.kept hg hM
  low := h.low
  has := h.has
  elem x hx := by
    obtain ⟨v, hv, ho⟩ := h.elem x hx
    exact ⟨v, hv, ho.kept hg (hrow x v hx hv)⟩
  apart := h.apart

theorem SMap.below {w' : World} (h : SMap P tk kl ok enc k E base w M n D H) (hb : Below w.heap.size w w') : SMap P tk kl ok enc k E base w' M n D H :=
  h.kept (row := none) ⟨hb.os, hb.tape, hb.output, hb.size, fun i hi _ => hb.block i hi⟩ (by simp) (fun x v _ _ => by cases v.ownBlock <;> simp)

/-- 'm[x]'. -/
theorem SMap.look (h : SMap P tk kl ok enc k E base w M n D H) (K : KeyOk P tk kv kl ok) {t te : TypeId} (ht : P.underlying t = some (.map tk te)) (hz : (zeroValue te).run P w = .ok nilS w) {x : κ} (hx : ok x) :
    ∃ v, (Instr.lookup t (.map (some M)) (kv x) false).run P w = .ok v w ∧ D.atKey (kl x) nilD = .held v ∧ OwnO enc k E base w v (H x) := by
  obtain ⟨v, ps, hrun, hv⟩ := h.own.lookup K.law ht hz (zd := nilD) (zp := []) rfl (K.of x hx)
  obtain ⟨hd, _⟩ := rS_inv hv
  obtain ⟨v', hv', ho⟩ := h.elem x hx
  rw [hd] at hv'
  injection hv' with e
  subst e
  exact ⟨v, hrun, hd, ho⟩

/-- what a store makes of the entries. -/
theorem SMap.put {w1 w2 : World} (h : SMap P tk kl ok enc k E base w M n D H) (K : KeyOk P tk kv kl ok) {x : κ} (hx : ok x) {v v' : Value} {ys : List α} (hv : D.atKey (kl x) nilD = .held v) (hg : w.grownBy w1 v.ownBlock) (ho : OwnO enc k E base w1 v' ys) (hne : ys ≠ [])
    (hat : v'.ownBlock = v.ownBlock ∨ ∃ g, v'.ownBlock = some g ∧ w.heap.size ≤ g) {n' : Nat} (hown : w2.ownsMap P tk rS M n' (D.put (kl x) (.held v'))) (hg2 : w1.grownBy w2 (some M)) :
    SMap P tk kl ok enc k E base w2 M n' (D.put (kl x) (.held v')) (updS H x ys) := by
  have hM := h.own.isMap
  have hKL := K.law.key (K.of x hx)
  have hMne : ∀ {y : κ} {u : Value}, ok y → D.atKey (kl y) nilD = .held u → u.ownBlock = none ∨ u.ownBlock ≠ some M := fun hy hu => .inr (h.off hy hu)
  have hv'M : v'.ownBlock ≠ some M := by
    intro e
    rcases hat with e1 | ⟨g, e1, hge⟩
    · exact h.off hx hv (e1.symm.trans e)
    · rw [e1] at e
      injection e with e
      have := h.own.lt
      omega
  refine ⟨hown, h.low, fun y hy => ?_, fun y hy => ?_, fun y z u1 u2 g hy hz h1 h2 h3 h4 => ?_⟩
  · unfold updS
    by_cases e : x = y
    · subst e
      rw [if_pos rfl, Maps.has_put_same hM hKL]
      simp [hne]
    · rw [if_neg e, Maps.has_put_other (fun e' => e (K.inj _ _ e').symm)]
      exact h.has y hy
  · unfold updS
    by_cases e : x = y
    · subst e
      rw [if_pos rfl, Maps.atKey_put_same hM hKL]
      exact ⟨v', rfl, ho.kept hg2 (.inr hv'M)⟩
    · rw [if_neg e, Maps.atKey_put_other (fun e' => e (K.inj _ _ e').symm)]
      obtain ⟨u, hu, hou⟩ := h.elem y hy
      refine ⟨u, hu, (hou.kept hg ?_).kept hg2 (hMne hy hu)⟩
      cases hub : u.ownBlock with
      | none => exact .inl rfl
      | some g =>
        refine .inr fun e2 => ?_
        exact e (h.apart x y v u g hx hy hv hu e2.symm hub)
  · have old : ∀ {y : κ} {u : Value}, ok y → ¬ x = y → D.atKey (kl y) nilD = .held u → ∀ g, u.ownBlock = some g → v'.ownBlock = some g → False := fun {y u} hy hne hu g hug hvg => by
      rcases hat with e1 | ⟨g', e1, hge⟩
      · exact hne (h.apart x y v u g hx hy hv hu (e1.symm.trans hvg) hug)
      · rw [e1] at hvg
        injection hvg with hvg
        subst hvg
        obtain ⟨u', hu', hou⟩ := h.elem y hy
        rw [hu] at hu'
        injection hu' with hu'
        subst hu'
        have := (hou.lt _ hug).2.1
        omega
    by_cases e1 : x = y
    · subst e1
      rw [Maps.atKey_put_same hM hKL] at h1
      injection h1 with h1
      subst h1
      by_cases e2 : x = z
      · exact e2
      · rw [Maps.atKey_put_other (fun e' => e2 (K.inj _ _ e').symm)] at h2
        exact (old hz e2 h2 g h4 h3).elim
    · rw [Maps.atKey_put_other (fun e' => e1 (K.inj _ _ e').symm)] at h1
      by_cases e2 : x = z
      · subst e2
        rw [Maps.atKey_put_same hM hKL] at h2
        injection h2 with h2
        subst h2
        exact (old hy e1 h1 g h3 h4).elim
      · rw [Maps.atKey_put_other (fun e' => e2 (K.inj _ _ e').symm)] at h2
        exact h.apart y z u1 u2 g hy hz h1 h2 h3 h4

/-- 'm[x] = s', s what was there with more, or another one. -/
theorem SMap.store {w1 : World} (h : SMap P tk kl ok enc k E base w M n D H) (K : KeyOk P tk kv kl ok) {t te : TypeId} (ht : P.underlying t = some (.map tk te)) (hn : n < maxLen) {x : κ} (hx : ok x) {v v' : Value} {ys : List α} (hv : D.atKey (kl x) nilD = .held v) (hg : w.grownBy w1 v.ownBlock)
    (ho : OwnO enc k E base w1 v' ys) (hne : ys ≠ []) (hat : v'.ownBlock = v.ownBlock ∨ ∃ g, v'.ownBlock = some g ∧ w.heap.size ≤ g) :
    ∃ w2, (Instr.mapUpdate t (.map (some M)) (kv x) v').run P w1 = .ok () w2 ∧ SMap P tk kl ok enc k E base w2 M (n + 1) (D.put (kl x) (.held v')) (updS H x ys) ∧ w1.grownBy w2 (some M) := by
  obtain ⟨A, c, hs, _, _⟩ := ho.shape
  have hown1 := h.own.kept hg (fun e => h.off hx hv e.symm)
  obtain ⟨w2, hrun, h1, h2⟩ := hown1.update K.law ht hn (K.of x hx) (val := v') (d := .held v') (ps := []) (by rw [hs]; rfl)
  exact ⟨w2, hrun, h.put K hx hv hg ho hne hat h1 h2, h2⟩

/-- 'delete(m, x)'. -/
theorem SMap.drop (h : SMap P tk kl ok enc k E base w M n D H) (K : KeyOk P tk kv kl ok) {t te : TypeId} (ht : P.underlying t = some (.map tk te)) {x : κ} (hx : ok x) (ty : TypeId) :
    ∃ w2, (Builtin.delete_ #[t, tk] ty #[.map (some M), kv x]).run P w = .ok (.tuple #[]) w2 ∧ SMap P tk kl ok enc k E base w2 M n (D.del (kl x)) (updS H x []) ∧ w.mapTurned w2 M := by
  obtain ⟨w2, hrun, h1, h2⟩ := h.own.drop K.law ht (K.of x hx) ty
  have hg := h2.grown
  refine ⟨w2, hrun, ⟨h1, h.low, fun y hy => ?_, fun y hy => ?_, fun y z u1 u2 g hy hz e1 e2 e3 e4 => ?_⟩, h2⟩
  · unfold updS
    by_cases e : x = y
    · subst e
      rw [if_pos rfl, Maps.has_del_same]
      simp
    · rw [if_neg e, Maps.has_del_other (fun e' => e (K.inj _ _ e').symm)]
      exact h.has y hy
  · unfold updS
    by_cases e : x = y
    · subst e
      rw [if_pos rfl, Maps.atKey_del_same]
      exact ⟨nilS, rfl, OwnO.nil _ _ _ _ _⟩
    · rw [if_neg e, Maps.atKey_del_other (fun e' => e (K.inj _ _ e').symm)]
      obtain ⟨u, hu, hou⟩ := h.elem y hy
      exact ⟨u, hu, hou.kept hg (.inr (h.off hy hu))⟩
  · have no : ∀ {y : κ} {u : Value}, (D.del (kl x)).atKey (kl y) nilD = .held u → u.ownBlock = some g → ¬ x = y := fun {y u} e h' e' => by
      subst e'
      rw [Maps.atKey_del_same] at e
      have : nilD = .held u := e
      injection this with this
      rw [← this] at h'
      cases h'
    have n1 := no e1 e3
    have n2 := no e2 e4
    rw [Maps.atKey_del_other (fun e' => n1 (K.inj _ _ e').symm)] at e1
    rw [Maps.atKey_del_other (fun e' => n2 (K.inj _ _ e').symm)] at e2
    exact h.apart y z u1 u2 g hy hz e1 e2 e3 e4

/-! ### ranging -/
theorem World.ranges.blocks {w' : World} {R : Value → Option (DataW Value × List MemPlace)} {r : Nat} {left : Lit → Bool} {cnt : Nat} (h : w.ranges P tk R M r n D left cnt) (h1 : w'.heap[M]? = w.heap[M]?) (h2 : w'.heap[r]? = w.heap[r]?) : w'.ranges P tk R M r n D left cnt := by
  obtain ⟨es, clock, since, seen, c0, hb, F, hs, hD, hr, rest⟩ := h
  exact ⟨es, clock, since, seen, c0, h1.trans hb, F, hs, hD, h2.trans hr, rest⟩

/-- a store, while it is ranged over, at a key that is there. -/
theorem ranges_store {r : Nat} {left : Lit → Bool} {cnt : Nat} (K : KeyOk P tk kv kl ok) {t te : TypeId} (ht : P.underlying t = some (.map tk te)) (hn : n < maxLen) {x : κ} (hx : ok x) (h : w.ranges P tk rS M r n D left cnt) (hhas : Maps.has D (kl x) = true) {val : Value} {d : DataW Value} {ps : List MemPlace} (hval : rS val = some (d, ps)) :
    ∃ w2, (Instr.mapUpdate t (.map (some M)) (kv x) val).run P w = .ok () w2 ∧ w2.ranges P tk rS M r n (D.put (kl x) d) left cnt ∧ w.grownBy w2 (some M) ∧ w2.heap.size = w.heap.size := by
  have hne := h.ne
  have hkey := K.of x hx
  obtain ⟨es, clock, since, seen, c0, hb, F, hs, rfl, hr, hold, hcnt, hl1, hl2, hsc, hsk⟩ := h
  obtain ⟨es', clock', hrun, F', hput, _⟩ := Maps.fit_store (R' := rS) K.law ht hb F (Nat.lt_of_le_of_lt hs hn) (fun _ _ _ _ hz => hz) hkey hval
  have hkeys : ∀ e ∈ es.toList, ∃ l, keyOf P tk e.key = some l := fun e he => by
    obtain ⟨y, hy⟩ := F.reads e he
    exact ⟨_, WideElems.rd_key hy⟩
  rcases K.law.find w hkey es.toList hkeys with ⟨h1, h2⟩ | ⟨j, e0, h1, h2, h3⟩
  · exfalso
    obtain ⟨p, hp, hpk⟩ := List.any_eq_true.1 hhas
    obtain ⟨e, he, rfl⟩ := List.mem_map.1 (mem_sorted.1 hp)
    obtain ⟨y, hy⟩ := F.reads e he
    have hk1 := WideElems.rd_key hy
    have hk2 : y.1 = kl x := by
      have := WideAt.sameKey_eq hpk
      rw [WideElems.rg_of hy] at this
      exact this
    rw [hk2] at hk1
    exact h2 e he (K.law.inj hk1 hkey)
  · have hj : es[j]? = some e0 := by simpa using h2
    have hrun2 : (Instr.mapUpdate t (.map (some M)) (kv x) val).run P w = .ok () (setBlock w M (.map (es.modify j (fun e' => { e' with key := kv x, val := val })) clock)) := by
      simp [Instr.mapUpdate, run_underlying ht, MapKept.run_getObj_map hb, K.law.check w false hkey, h1, hj, h3, K.law.stays w hkey, MapKept.run_setObj_map _ hb, Result.andThen, setBlock]
    rw [hrun] at hrun2
    injection hrun2 with _ hw
    have hset : (setBlock w M (.map es' clock')).heap[M]? = some (.map es' clock') ∧ ∀ r', r' ≠ M → (setBlock w M (.map es' clock')).heap[r']? = w.heap[r']? := heap_set hb
    have hset2 : (setBlock w M (.map (es.modify j (fun e' => { e' with key := kv x, val := val })) clock)).heap[M]? = some (.map (es.modify j (fun e' => { e' with key := kv x, val := val })) clock) := (heap_set hb).1
    have he : es' = es.modify j (fun e' => { e' with key := kv x, val := val }) ∧ clock' = clock := by
      have := hset.1
      rw [hw, hset2] at this
      injection this with this
      injection this with a1 a2
      exact ⟨a1.symm, a2.symm⟩
    obtain ⟨rfl, rfl⟩ := he
    have hlist : (es.modify j (fun e' => { e' with key := kv x, val := val })).toList = es.toList.set j { e0 with key := kv x, val := val } := by
      rw [Array.toList_modify, modify_eq_set _ _ _ _ h2]
    have hjl : j < es.toList.length := (List.getElem?_eq_some_iff.1 h2).1
    have he0 : e0 ∈ es.toList := List.mem_of_getElem? h2
    have hborn : (es.modify j (fun e' => { e' with key := kv x, val := val })).toList.map (·.born) = es.toList.map (·.born) := by
      rw [hlist, List.map_set]
      apply List.ext_getElem?
      intro i
      rw [List.getElem?_set]
      split
      · rename_i e
        subst e
        rw [List.getElem?_map, h2, if_pos (by simpa using hjl)]
        rfl
      · rfl
    have who : ∀ y ∈ (es.modify j (fun e' => { e' with key := kv x, val := val })).toList, y = { e0 with key := kv x, val := val } ∨ y ∈ es.toList := fun y hy => by
      rw [hlist] at hy
      rcases List.mem_or_eq_of_mem_set hy with h | h
      · exact .inr h
      · exact .inl h
    have hkl0 : (rg P tk rS e0).1 = kl x := by
      obtain ⟨y, hy⟩ := F.reads e0 he0
      have hk1 := WideElems.rd_key hy
      rw [h3] at hk1
      rw [WideElems.rg_of hy]
      rw [hkey] at hk1
      exact (Option.some.inj hk1).symm
    have hkl1 : (rg P tk rS { e0 with key := kv x, val := val }).1 = kl x := by rw [WideElems.rg_of (WideElems.rd_mk hkey hval)]
    have hkeep : ∀ y ∈ es.toList, y.key ≠ kv x → y ∈ (es.modify j (fun e' => { e' with key := kv x, val := val })).toList := fun y hy hk => by
      rw [hlist]
      obtain ⟨i, hi, e⟩ := List.getElem_of_mem hy
      have hij : j ≠ i := fun e' => by
        subst e'
        rw [List.getElem?_eq_getElem hi] at h2
        injection h2 with h2
        rw [e] at h2
        exact hk (by rw [h2]; exact h3)
      have : (es.toList.set j { e0 with key := kv x, val := val })[i]? = some y := by
        rw [List.getElem?_set_ne hij, List.getElem?_eq_getElem hi, e]
      exact List.mem_of_getElem? this
    have hleft : (leftOf (es.modify j (fun e' => { e' with key := kv x, val := val })) seen).size = (leftOf es seen).size := by
      unfold leftOf
      have key : ∀ (a : Array MapEntry), (a.filter fun e => !seen.contains e.born).size = ((a.toList.map (·.born)).filter fun b => !seen.contains b).length := fun a => by
        rw [← Array.length_toList, Array.toList_filter, List.filter_map, List.length_map]
        rfl
      rw [key, key, hborn]
    refine ⟨_, hrun, ⟨_, _, since, seen, c0, hset.1, F', by simpa using hs, by rw [DataW.put_eq, hput], (hset.2 r hne).trans hr, fun y hy => ?_, by rw [hleft]; exact hcnt, fun y hy => ?_, fun l hl => ?_, hsc, hsk⟩, ⟨rfl, rfl, rfl, by simp [setBlock], fun i _ hi => hset.2 i (fun e => hi (by rw [e]))⟩, by simp [setBlock]⟩
    · rcases who y hy with rfl | hy
      · exact hold e0 he0
      · exact hold y hy
    · rcases who y hy with rfl | hy
      · rw [hkl1, ← hkl0]
        exact hl1 e0 he0
      · exact hl1 y hy
    · obtain ⟨y, hy, e⟩ := hl2 l hl
      by_cases hk : y.key = kv x
      · refine ⟨{ e0 with key := kv x, val := val }, ?_, ?_⟩
        · rw [hlist]
          exact List.mem_of_getElem? (by rw [List.getElem?_set_self hjl])
        · rw [hkl1, ← e]
          obtain ⟨z, hz⟩ := F.reads y hy
          have hk1 := WideElems.rd_key hz
          rw [hk, hkey] at hk1
          rw [WideElems.rg_of hz]
          exact Option.some.inj hk1
      · exact ⟨y, hkeep y hy hk, e⟩

variable {ops : Array Oper} {rest : List Oper} {o : Oper} {a : Act} {Q : Exit → Act → World → Prop}

/-- THE STEP of 'for x, s := range m'. -/
theorem wpList_next_S (K : KeyOk P tk kv kl ok) (hg : o.guard = none) (it : Operand) (hop : o.op = Op.next it false) {r : Nat} {left : Lit → Bool} {cnt : Nat} (hit : a.eval it = .pointer (some ⟨r, 0, none⟩)) (h : w.ranges P tk rS M r n D left cnt)
    (hDone : cnt = 0 → (∀ l, left l = false) → wpList P ops Q rest (a.put o.dst (.tuple #[.bool false])) w)
    (hMore : ∀ (x : κ) (A : Option Addr) (len cap : Nat) (w' : World) (cnt' : Nat), ok x → left (kl x) = true → D.atKey (kl x) nilD = .held (.slice A len cap) → Maps.has D (kl x) = true → w'.ranges P tk rS M r n D (fun z => left z && !z.sameKey (kl x)) cnt' → cnt' < cnt →
      w.grownBy w' (some r) → w'.heap.size = w.heap.size → (Instr.entry (.pointer (some ⟨r, 0, none⟩))).run P w' = .ok (.tuple #[kv x, .slice A len cap]) w' → wpList P ops Q rest (a.put o.dst (.tuple #[.bool true, kv x, .slice A len cap])) w') :
    wpList P ops Q (o :: rest) a w :=
  wpList_next_ranges (α := κ) (β := Option Addr × Nat × Nat) w hg it hop tk K.law rS kv (fun q => .slice q.1 q.2.1 q.2.2) (fun key l hkey => by obtain ⟨x, _, e, _⟩ := K.back key l hkey; exact ⟨x, e⟩)
    (fun v y hy => by obtain ⟨_, A, len, cap, e⟩ := rS_inv (d := y.1) (ps := y.2) hy; exact ⟨(A, len, cap), e⟩) M r n D left cnt hit h hDone
    (fun x c l y w' cnt' hkey hlk hv hat hrg hlt hgr hsz hen => by
      obtain ⟨A, len, cap⟩ := c
      obtain ⟨x', hok, e1, e2⟩ := K.back _ _ hkey
      obtain rfl := K.vinj _ _ e1
      subst e2
      obtain ⟨hd, _⟩ := rS_inv (d := y.1) (ps := y.2) hv
      have hh : Maps.has D (kl x) = true := Maps.has_true_of_atKey hat
      exact hMore x A len cap w' cnt' hok hlk ((hat nilD).trans hd) hh hrg hlt hgr hsz hen)

/-- an operation that stores, whose run is known. -/
theorem wpList_update_run {w2 : World} (hg : o.guard = none) (m x v : Operand) (t : TypeId) (hop : o.op = Op.mapUpdate t m x v) {mv xv vv : Value} (hm : a.eval m = mv) (hx : a.eval x = xv) (hv : a.eval v = vv) (hrun : (Instr.mapUpdate t mv xv vv).run P w = .ok () w2)
    (hK : wpList P ops Q rest (a.put o.dst undef) w2) : wpList P ops Q (o :: rest) a w := by
  refine wpList_plain hg fun K' hK' => ?_
  unfold Oper.wp
  simp [execOp, hop, hm, hx, hv, hrun, Result.andThen]
  exact hK' _ _ hK

/-- an append whose run is known. -/
theorem wpList_append_run {w2 : World} (hg : o.guard = none) (s x : Operand) (t : TypeId) (hop : o.op = .call { callee := .builtin .append, args := #[s, x], argTypes := #[t, t] }) {sv xv v' : Value} (hs : a.eval s = sv) (hx : a.eval x = xv) (hrun : (Builtin.append_ #[t, t] o.type #[sv, xv]).run P w = .ok v' w2)
    (hK : wpList P ops Q rest (a.put o.dst v') w2) : wpList P ops Q (o :: rest) a w := by
  refine wpList_plain hg fun K' hK' => ?_
  unfold Oper.wp
  simp [execOp, hop, resolve, invoke, builtin, hs, hx, hrun, Result.andThen]
  exact hK' _ _ hK
end

end Go.Proofs.YtanjgeacmpmjhaaGreatDoor
