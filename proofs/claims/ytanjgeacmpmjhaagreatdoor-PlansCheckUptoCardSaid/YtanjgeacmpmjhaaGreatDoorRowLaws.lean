import Derived.Test.YtanjgeacmpmjhaaGreatDoorBase
import Derived.Laws.CopyOwn
import Derived.Laws.Externs
import Derived.Lib.Overlaps
import Derived.Lib.AppendZerosOnto
import Derived.Deep.RegionLaw
set_option linter.unusedVariables false
set_option linter.unusedSimpArgs false
namespace Go.Proofs.YtanjgeacmpmjhaaGreatDoor
open Go.RowKit

theorem run_copy_rowk {P : Program} (w : World) (dT sT ty elem : TypeId) (k g o dLen dCap : Nat) (a : Addr) (sLen sCap : Nat) (cur : Array Value) (t : TypeId) (cs : List Value)
    (hu : P.underlying dT = some (.slice elem)) (hs : (P.info? elem).map (·.size) = some k)
    (hg : w.heap[g]? = some (.cells cur t (0, 0))) (hn : cs.length = Nat.min sLen dLen * k)
    (hsrc : ∀ j v, cs[j]? = some v → w.cell? (a.add j) = some v) (hfit : o + cs.length ≤ cur.size) (h1 : ∀ v ∈ cs, v.oneCell' = true) :
    (Builtin.copy_ #[dT, sT] ty #[.slice (some ⟨g, o, none⟩) dLen dCap, .slice (some a) sLen sCap]).run P w =
      .ok (goInt (Nat.min sLen dLen)) (w.setRow g (cur.toList.take o ++ cs ++ cur.toList.drop (o + cs.length)).toArray) := by
  have hl := run_loadCells_list (P := P) w a cs hsrc
  have hst := run_storeCells_at P g o t cs 0 cur w hg (by simpa using hfit) h1
  cases hq : P.info? elem with
  | none => simp [hq] at hs
  | some i =>
    have hi : i.size = k := by simpa [hq] using hs
    simp [Builtin.copy_, run_underlying hu, Builtin.lenOf, Builtin.firstCells, sizeOf, typeInfo, hq, hi, ← hn, hl, hst]

/-- Some cells of a row are written over. -/
def over (L : List Value) (o : Nat) (cs : List Value) : List Value := L.take o ++ cs ++ L.drop (o + cs.length)
theorem over_length {L : List Value} {o : Nat} {cs : List Value} (h : o + cs.length ≤ L.length) : (over L o cs).length = L.length := by simp [over]; omega
theorem over_get {L : List Value} {o : Nat} {cs : List Value} (h : o + cs.length ≤ L.length) (j : Nat) : (over L o cs)[j]? = if j < o then L[j]? else if j < o + cs.length then cs[j - o]? else L[j]? := by
  unfold over
  split
  · rw [List.append_assoc, List.getElem?_append_left (by simp; omega), List.getElem?_take, if_pos (by assumption)]
  · split
    · rw [List.append_assoc, List.getElem?_append_right (by simp; omega), List.getElem?_append_left (by simp; omega)]
      congr 1; simp; omega
    · rw [List.append_assoc, List.getElem?_append_right (by simp; omega), List.getElem?_append_right (by simp; omega), List.getElem?_drop]
      congr 1; simp; omega

theorem over_ins_a (L A X D : List Value) (o m : Nat) (hA : L.take o = A) (ho : o ≤ L.length) (hm : m = o + X.length + D.length) : (over (over L o X) (o + X.length) D).take m = A ++ X ++ D := by
  have hl : A.length = o := by rw [← hA]; simp; omega
  unfold over
  rw [hA, List.take_left' (by simp; omega), List.take_left' (by simp; omega)]

theorem over_ins_b (L A X D : List Value) (o m : Nat) (hA : L.take o = A) (ho : o + X.length ≤ L.length) (hm : m = o + X.length + D.length) : (over (over L (o + X.length) D) o X).take m = A ++ X ++ D := by
  have hl : A.length = o := by rw [← hA]; simp; omega
  unfold over
  have e1 : (L.take (o + X.length) ++ D ++ L.drop (o + X.length + D.length)).take o = A := by
    rw [List.append_assoc, List.take_append_of_le_length (by simp; omega), List.take_take, Nat.min_eq_left (by omega), hA]
  have e2 : (L.take (o + X.length) ++ D ++ L.drop (o + X.length + D.length)).drop (o + X.length) = D ++ L.drop (o + X.length + D.length) := by
    rw [List.append_assoc, List.drop_left' (by simp; omega)]
  rw [e1, e2, ← List.append_assoc, List.take_left' (by simp; omega)]

section
variable {P : Program} {ops : Array Oper} {rest : List Oper} {o : Oper} {a : Act} {Q : Exit → Act → World → Prop} {K : Act → World → Prop} {w : World}

theorem wp_copy_k (d s : Operand) (dT sT : TypeId)
    (ho : o.op = .call { callee := .builtin .copy, args := #[d, s], argTypes := #[dT, sT] }) (elem : TypeId) (k : Nat) (hu : P.underlying dT = some (.slice elem)) (hsz : (P.info? elem).map (·.size) = some k)
    (g off dLen dCap : Nat) (ad : Addr) (sLen sCap : Nat) (hd : a.eval d = .slice (some ⟨g, off, none⟩) dLen dCap) (hs : a.eval s = .slice (some ad) sLen sCap)
    (cur : List Value) (t : TypeId) (hg : w.heap[g]? = some (.cells cur.toArray t (0, 0))) (cs : List Value) (hn : cs.length = Nat.min sLen dLen * k)
    (hsrc : ∀ j v, cs[j]? = some v → w.cell? (ad.add j) = some v) (hfit : off + cs.length ≤ cur.length) (h1 : ∀ v ∈ cs, v.oneCell' = true)
    (h : ∀ W', Hid (W' = w.setRow g (over cur off cs).toArray) → K (a.put o.dst (goInt (Nat.min sLen dLen))) W') : o.wp P a w K Q := by
  have hrun := run_copy_rowk (P := P) w dT sT o.type elem k g off dLen dCap ad sLen sCap cur.toArray t cs hu hsz hg hn hsrc (by simpa using hfit) h1
  unfold Oper.wp
  simp [execOp, ho, resolve, invoke, builtin, hd, hs, hrun, Result.andThen]
  exact h _ (Lib.hid (by simp [over]))

theorem wpList_copy_k (hgd : o.guard = none) (d s : Operand) (dT sT : TypeId)
    (ho : o.op = .call { callee := .builtin .copy, args := #[d, s], argTypes := #[dT, sT] }) (elem : TypeId) (k : Nat) (hu : P.underlying dT = some (.slice elem)) (hsz : (P.info? elem).map (·.size) = some k)
    (g off dLen dCap : Nat) (ad : Addr) (sLen sCap : Nat) (hd : a.eval d = .slice (some ⟨g, off, none⟩) dLen dCap) (hs : a.eval s = .slice (some ad) sLen sCap)
    (cur : List Value) (t : TypeId) (hg : w.heap[g]? = some (.cells cur.toArray t (0, 0))) (cs : List Value) (hn : cs.length = Nat.min sLen dLen * k)
    (hsrc : ∀ j v, cs[j]? = some v → w.cell? (ad.add j) = some v) (hfit : off + cs.length ≤ cur.length) (h1 : ∀ v ∈ cs, v.oneCell' = true)
    (h : ∀ W', Hid (W' = w.setRow g (over cur off cs).toArray) → wpList P ops Q rest (a.put o.dst (goInt (Nat.min sLen dLen))) W') : wpList P ops Q (o :: rest) a w :=
  wpList_plain hgd fun _ hK => wp_copy_k d s dT sT ho elem k hu hsz g off dLen dCap ad sLen sCap hd hs cur t hg cs hn hsrc hfit h1 fun _ e => hK _ _ (h _ e)

theorem step_copy_k {E : Prop} (hgd : o.guard = none) (d s : Operand) (dT sT : TypeId)
    (ho : o.op = .call { callee := .builtin .copy, args := #[d, s], argTypes := #[dT, sT] }) (elem : TypeId) (k : Nat) (hu : P.underlying dT = some (.slice elem)) (hsz : (P.info? elem).map (·.size) = some k)
    (g off dLen dCap : Nat) (ad : Addr) (sLen sCap : Nat) (hd : a.eval d = .slice (some ⟨g, off, none⟩) dLen dCap) (hs : a.eval s = .slice (some ad) sLen sCap)
    (cur : List Value) (t : TypeId) (hg : w.heap[g]? = some (.cells cur.toArray t (0, 0))) (cs : List Value) (hn : cs.length = Nat.min sLen dLen * k)
    (hsrc : ∀ j v, cs[j]? = some v → w.cell? (ad.add j) = some v) (hfit : off + cs.length ≤ cur.length) (h1 : ∀ v ∈ cs, v.oneCell' = true)
    (h : ∀ W', Hid (W' = w.setRow g (over cur off cs).toArray) → K (a.put o.dst (goInt (Nat.min sLen dLen))) W') :
    if Region.wanted o (yielded ops a.tmps) = true then Oper.wp P o a w K Q else E := by
  have hw : Region.wanted o (yielded ops a.tmps) = true := by simp [Region.wanted, hgd]
  rw [if_pos hw]
  exact wp_copy_k d s dT sT ho elem k hu hsz g off dLen dCap ad sLen sCap hd hs cur t hg cs hn hsrc hfit h1 h
theorem run_append_rowk (sT ty elem : TypeId) (i0 : TypeInfo) (k g n cap : Nat) (ad : Addr) (m c : Nat) (cur : List Value) (t : TypeId) (news : List Value)
    (hu : P.underlying sT = some (.slice elem)) (hi : P.info? elem = some i0) (hk : i0.size = k) (hg : w.heap[g]? = some (.cells cur.toArray t (0, 0))) (hn : news.length = m * k)
    (hsrc : ∀ j v, news[j]? = some v → w.cell? (ad.add j) = some v) (hroom : n + m ≤ cap) (hfit : n * k + news.length ≤ cur.length) (h1 : ∀ v ∈ news, v.oneCell' = true) :
    (Builtin.append_ #[sT, sT] ty #[.slice (some ⟨g, 0, none⟩) n cap, .slice (some ad) m c]).run P w = .ok (.slice (some ⟨g, 0, none⟩) (n + m) cap) (w.setRow g (over cur (n * k) news).toArray) := by
  subst hk
  have hl := run_loadCells_list (P := P) w ad news hsrc
  have hst := run_storeCells_at P g (n * i0.size) t news 0 cur.toArray w hg (by simpa using hfit) h1
  simp only [Nat.add_zero] at hst
  have he : (⟨g, 0, none⟩ : Addr).add (n * i0.size) = ⟨g, n * i0.size, none⟩ := by rw [Addr.add_lit, Nat.zero_add]
  simp [Builtin.append_, run_underlying hu, sizeOf, typeInfo, hi, Builtin.lenOf, Builtin.firstCells, ← hn, hl, hroom, he, hst, over]

theorem step_append_k {E : Prop} (hgd : o.guard = none) (s x : Operand) (sT : TypeId)
    (ho : o.op = .call { callee := .builtin .append, args := #[s, x], argTypes := #[sT, sT] }) (elem : TypeId) (i0 : TypeInfo) (k : Nat) (hu : P.underlying sT = some (.slice elem)) (hi : P.info? elem = some i0) (hk : i0.size = k)
    (g n cap : Nat) (ad : Addr) (m c : Nat) (hs : a.eval s = .slice (some ⟨g, 0, none⟩) n cap) (hx : a.eval x = .slice (some ad) m c)
    (cur : List Value) (t : TypeId) (hg : w.heap[g]? = some (.cells cur.toArray t (0, 0))) (news : List Value) (hn : news.length = m * k)
    (hsrc : ∀ j v, news[j]? = some v → w.cell? (ad.add j) = some v) (hroom : n + m ≤ cap) (hfit : n * k + news.length ≤ cur.length) (h1 : ∀ v ∈ news, v.oneCell' = true)
    (h : ∀ W', Hid (W' = w.setRow g (over cur (n * k) news).toArray) → K (a.put o.dst (.slice (some ⟨g, 0, none⟩) (n + m) cap)) W') :
    if Region.wanted o (yielded ops a.tmps) = true then Oper.wp P o a w K Q else E := by
  have hw : Region.wanted o (yielded ops a.tmps) = true := by simp [Region.wanted, hgd]
  rw [if_pos hw]
  have hrun := run_append_rowk (P := P) (w := w) sT o.type elem i0 k g n cap ad m c cur t news hu hi hk hg hn hsrc hroom hfit h1
  unfold Oper.wp
  simp [execOp, ho, resolve, invoke, builtin, hs, hx, hrun, Result.andThen]
  exact h _ (Lib.hid rfl)

theorem run_clear_one (sT ty elem : TypeId) (z : Value) (hu : P.underlying sT = some (.slice elem)) (hz : ∀ w, (zeroValue elem).run P w = .ok z w) (g off c : Nat) (cur : List Value) (t : TypeId) (hg : w.heap[g]? = some (.cells cur.toArray t (0, 0)))
    (hfit : off + z.cells.size ≤ cur.length) (h1 : ∀ v ∈ z.cells.toList, v.oneCell' = true) :
    (Builtin.clear_ #[sT] ty #[.slice (some ⟨g, off, none⟩) 1 c]).run P w = .ok (.tuple #[]) (w.setRow g (over cur off z.cells.toList).toArray) := by
  have hzc : Builtin.zeroCells z.cells 1 = z.cells := by
    unfold Builtin.zeroCells
    apply Array.ext
    · simp
    · intro i h1 h2
      rw [Array.getElem_map, Array.getElem_range, Nat.mod_eq_of_lt h2, getElem!_pos z.cells i h2]
  have hst := run_storeCells_at P g off t z.cells.toList 0 cur.toArray w hg (by simpa using hfit) h1
  simp only [Nat.add_zero] at hst
  simp [Builtin.clear_, run_underlying hu, hz, hzc, hst, over]
end

theorem grownBy_setRow (w : World) (g : Nat) (cs : Array Value) : w.grownBy (w.setRow g cs) (some g) :=
  ⟨rfl, rfl, rfl, by simp [World.setRow], fun j _ hj => setRow_other w g j cs (fun e => hj (by rw [e]))⟩

/-- Some cells of a row of one's own are turned. -/
theorem Own.turned {α : Type} {enc : α → List Value} {k : Nat} {E : TypeId} {base : Nat} {w : World} {g cap : Nat} {old cur : Array Value} {ys : List α} (hg : w.heap[g]? = some (.cells old E (0, 0))) (hb : base ≤ g) (hl : ys.length ≤ cap) (hm : cap ≤ maxLen)
    (hsz : cur.size = cap * k) (hk : ∀ x, (enc x).length = k) (ht : cur.toList.take (ys.length * k) = ys.flatMap enc) : Own enc k E base (w.setRow g cur) (.slice (some ⟨g, 0, none⟩) ys.length cap) ys :=
  ⟨flat_length hk ys, .inr ⟨g, cap, cur, rfl, hb, setRow_heap w g old cur E (0, 0) hg, hl, hm, hsz, ht⟩⟩

end Go.Proofs.YtanjgeacmpmjhaaGreatDoor
