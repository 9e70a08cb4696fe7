import Derived.WalkKit
import Derived.WalkSpells
import Derived.WalkLawsBesides
import Derived.Deep.QuietTactic
import Derived.BigQuiet
import Derived.Lib.Hide
import Derived.Lib.MinMaxS
import Derived.Laws.StructEq
import Derived.Maps.AppendAt
import Derived.Laws.MakeOwn
import Derived.Laws.OwnMore
import Derived.Test.YtanjgeacmpmjhaaGreatDoorMgPlansCheckUpto0
set_option linter.unusedVariables false
set_option linter.unusedSimpArgs false
namespace Go.Proofs.YtanjgeacmpmjhaaGreatDoor
open Go.RowKit

theorem bytesLess_lt8 : ∀ (a b : List UInt8), Op.bytesLess a b = lt8 a b
  | _, [] => by simp [Op.bytesLess, lt8_nil]
  | [], _ :: _ => rfl
  | a :: x, b :: y => by simp only [Op.bytesLess, lt8]; rw [bytesLess_lt8 x y]

theorem toList_l (a : ByteArray) : a.toList = Str.l a := Lib.toList_data a

@[go_sem] theorem bytesLess_slt (a b : ByteArray) : Op.bytesLess a.toList b.toList = slt a b := by
  rw [bytesLess_lt8, toList_l, toList_l]; rfl

@[go_sem] theorem toList_beq (a b : ByteArray) : (a.toList == b.toList) = decide (a = b) := by
  rw [toList_l, toList_l, Bool.eq_iff_iff]
  simp only [beq_iff_eq, decide_eq_true_eq]
  exact ⟨Str.ext, fun h => by rw [h]⟩

@[go_sem] theorem toList_eq_iff (a b : ByteArray) : (a.toList = b.toList) = (a = b) := by
  rw [toList_l, toList_l]
  exact propext ⟨Str.ext, fun h => by rw [h]⟩

@[go_sem] theorem slt_or_eq (a b : ByteArray) : (slt a b || decide (a = b)) = sle a b := by
  rw [Bool.eq_iff_iff]
  simp only [Bool.or_eq_true, decide_eq_true_eq, sle, Bool.not_eq_true']
  constructor
  · rintro (h | rfl)
    · exact slt_asymm h
    · exact slt_irrefl _
  · intro h
    cases hs : slt a b with
    | true => exact .inl rfl
    | false => exact .inr (slt_total hs h)

theorem maxS_smax (a b : ByteArray) : Lib.maxS a b = smax a b := by
  unfold Lib.maxS smax
  have e : (a.data.toList < b.data.toList) ↔ slt a b = true := by
    rw [← bytesLess_slt, Proofs.bytesLess_eq, Lib.toList_data, Lib.toList_data]; simp
  by_cases h : slt a b = true
  · rw [if_pos (e.2 h), if_pos h]
  · rw [if_neg (fun h' => h (e.1 h')), if_neg h]

@[go_sem] theorem run_max_str {P : Program} (w : World) (ts : Array TypeId) (t : TypeId) (x y : ByteArray) : (Builtin.max_ ts t #[.string x, .string y]).run P w = .ok (.string (smax x y)) w := by
  rw [Lib.run_max_strs, maxS_smax]

/-- A world that has come of W: what lay in W lies as it lay. -/
structure Later (W : World) where
  val : World
  ok : Below W.heap.size W val

instance {W : World} : Inhabited (Later W) := ⟨⟨W, Below.refl _ W⟩⟩

theorem Below.cell_some {w w' : World} (h : Below w.heap.size w w') {a : Addr} {v : Value} (hc : w.cell? a = some v) : w'.cell? a = some v :=
  (h.cell (World.block_lt_of_cell? w a hc)).trans hc

theorem Below.step {w w1 w2 : World} (h : Below w.heap.size w w1) (k : Below w1.heap.size w1 w2) : Below w.heap.size w w2 :=
  h.trans (k.mono h.size)

theorem Later.cell {W : World} (p : Later W) {a : Addr} {v : Value} (hc : W.cell? a = some v) : p.val.cell? a = some v := Below.cell_some p.ok hc

theorem Calls.later {P : Program} {f : FuncId} {args : Array Value} {W : World} {p : Later W} {v : Value}
    (h : Calls P f args p.val fun e w' => e = .returned v ∧ Below p.val.heap.size p.val w') :
    Calls P f args p.val fun e w'' => e = .returned v ∧ ∃ q : Later W, w'' = q.val :=
  h.mono fun _ w' ⟨he, hb⟩ => ⟨he, ⟨w', Below.step p.ok hb⟩, rfl⟩

theorem Calls.later_same {P : Program} {f : FuncId} {args : Array Value} {W : World} {p : Later W} {v : Value}
    (h : Calls P f args p.val fun e w' => e = .returned v ∧ p.val = w') :
    Calls P f args p.val fun e w'' => e = .returned v ∧ ∃ q : Later W, w'' = q.val :=
  h.mono fun _ _ ⟨he, hb⟩ => ⟨he, p, hb.symm⟩

/-- A region that draws its order, whose operations read, and whose callees read and make memory of their own: one walk, in the order of the text. -/
theorem wp_region_later {P : Program} {id : Nat} {Q : Exit → Act → World → Prop} {a : Act} {w : World} {l : List Oper} (hm : P.follows .mixedOrders = true) (hB : Region.lexB .any l.toArray = true)
    (h : wpQuiet P l.toArray (fun w' => ∃ p : Later w, w' = p.val) (fun a' => ∀ w', (∃ p : Later w, w' = p.val) → Q .normal a' w') l a) : (Code.region id l.toArray true).wp P Q a w :=
  wp_region_quiet (C := fun w' => ∃ p : Later w, w' = p.val) hm hB ⟨⟨_, (Below.refl _ w).drew⟩, rfl⟩ (by simpa using h)

theorem wrap_id {n : Int} (h0 : -9223372036854775808 ≤ n) (h1 : n ≤ 9223372036854775807) : IntKind.i64.wrap n = n := by
  rw [IntKind.wrap_i64]; omega

theorem ret_int {a b : Int} (h : a = b) : Ending.returned (.int .i64 a) = .returned (.int .i64 b) := by rw [h]
theorem ret_bool {a b : Bool} (h : a = b) : Ending.returned (.bool a) = .returned (.bool b) := by rw [h]

/-- A slice that is read: elements of k cells each, told by 'enc'. -/
def Rd {α : Type} (enc : α → List Value) (k : Nat) (w : World) (v : Value) (xs : List α) : Prop :=
  ∃ A c, v = .slice A xs.length c ∧ xs.length ≤ c ∧ c ≤ 9223372036854775807 ∧
    (0 < xs.length → ∃ b o, A = some ⟨b, o, none⟩ ∧ ∀ i x, xs[i]? = some x → ∀ j u, (enc x)[j]? = some u → w.cell? ⟨b, o + i * k + j, none⟩ = some u)

theorem Rd.below {α : Type} {enc : α → List Value} {k : Nat} {w w' : World} {v : Value} {xs : List α} (h : Rd enc k w v xs) (hb : Below w.heap.size w w') : Rd enc k w' v xs := by
  obtain ⟨A, c, hv, hl, hc, h⟩ := h
  refine ⟨A, c, hv, hl, hc, fun hp => ?_⟩
  obtain ⟨b, o, hA, hcell⟩ := h hp
  exact ⟨b, o, hA, fun i x hi j u hu => Below.cell_some hb (hcell i x hi j u hu)⟩

theorem Rd.shape {α : Type} {enc : α → List Value} {k : Nat} {w : World} {v : Value} {xs : List α} (h : Rd enc k w v xs) : ∃ A c, v = .slice A xs.length c ∧ xs.length ≤ c ∧ c ≤ 9223372036854775807 := by
  obtain ⟨A, c, hv, hl, hc, _⟩ := h
  exact ⟨A, c, hv, hl, hc⟩

/-- Element i, its cells. -/
theorem Rd.at_ {α : Type} {enc : α → List Value} {k : Nat} {w : World} {A : Option Addr} {n c : Nat} {xs : List α} (h : Rd enc k w (.slice A n c) xs) {i : Nat} {x : α} (hi : xs[i]? = some x) :
    ∃ b o, A = some ⟨b, o, none⟩ ∧ ∀ j u, (enc x)[j]? = some u → w.cell? ⟨b, o + i * k + j, none⟩ = some u := by
  obtain ⟨A', c', hv, _, _, hr⟩ := h
  injection hv with h1 h2 h3
  subst h1
  obtain ⟨b, o, hA, hc⟩ := hr (Nat.lt_of_le_of_lt (Nat.zero_le _) (List.getElem?_eq_some_iff.1 hi).1)
  exact ⟨b, o, hA, hc i x hi⟩

/-- What reads a slice needs no more of its room. -/
theorem Rd.shorter {α : Type} {enc : α → List Value} {k : Nat} {w : World} {A : Option Addr} {n c : Nat} {xs ys : List α} (h : Rd enc k w (.slice A n c) (xs ++ ys)) : Rd enc k w (.slice A xs.length c) xs := by
  obtain ⟨A', c', hv, hl, hc, hr⟩ := h
  injection hv with h1 h2 h3
  subst h1 h3
  rw [List.length_append] at hl hr
  refine ⟨A, c, rfl, by omega, hc, fun hp => ?_⟩
  obtain ⟨b, o, hA, hcell⟩ := hr (by omega)
  refine ⟨b, o, hA, fun i x hi j u hu => hcell i x ?_ j u hu⟩
  rw [List.getElem?_append_left (List.getElem?_eq_some_iff.1 hi).1]
  exact hi

/-- A row of the call's own (from block 'base' on), that holds these. -/
def Own {α : Type} (enc : α → List Value) (k : Nat) (E : TypeId) (base : Nat) (w : World) (v : Value) (xs : List α) : Prop := w.ownsRow base E k v xs.length (xs.flatMap enc)

theorem flat_length {α : Type} {enc : α → List Value} {k : Nat} (hk : ∀ x, (enc x).length = k) (xs : List α) : (xs.flatMap enc).length = xs.length * k := by
  induction xs with
  | nil => simp
  | cons x xs ih => rw [List.flatMap_cons, List.length_append, ih, hk, List.length_cons, Nat.add_mul, Nat.one_mul, Nat.add_comm]

theorem flat_get {α : Type} {enc : α → List Value} {k : Nat} (hk : ∀ x, (enc x).length = k) : ∀ (xs : List α) (i : Nat) (x : α) (j : Nat) (u : Value), xs[i]? = some x → (enc x)[j]? = some u → (xs.flatMap enc)[i * k + j]? = some u
  | y :: xs, 0, x, j, u, hi, hu => by
    simp only [List.getElem?_cons_zero, Option.some.injEq] at hi
    subst hi
    rw [List.flatMap_cons, Nat.zero_mul, Nat.zero_add, List.getElem?_append_left (List.getElem?_eq_some_iff.1 hu).1]
    exact hu
  | y :: xs, i + 1, x, j, u, hi, hu => by
    simp only [List.getElem?_cons_succ] at hi
    rw [List.flatMap_cons, List.getElem?_append_right (by rw [hk, Nat.add_mul]; omega), hk, show (i + 1) * k + j - k = i * k + j by rw [Nat.add_mul]; omega]
    exact flat_get hk xs i x j u hi hu

theorem Own.nil {α : Type} (enc : α → List Value) (k : Nat) (E : TypeId) (base : Nat) (w : World) : Own enc k E base w (.slice none 0 0) [] := ⟨by simp, .inl ⟨rfl, rfl⟩⟩

theorem Own.rd {α : Type} {enc : α → List Value} {k : Nat} {E : TypeId} {base : Nat} {w : World} {v : Value} {xs : List α} (hk : ∀ x, (enc x).length = k) (h : Own enc k E base w v xs) : Rd enc k w v xs := by
  have hz := h.2
  rcases hz with ⟨rfl, h0⟩ | ⟨g, cap, cur, rfl, _, hh, hn, hm, hsz, htake⟩
  · exact ⟨none, 0, by rw [h0], by omega, by omega, fun hp => by omega⟩
  · refine ⟨_, cap, rfl, hn, by simpa [maxLen] using hm, fun hp => ⟨g, 0, rfl, fun i x hi j u hu => ?_⟩⟩
    have := h.cells (g := g) rfl (i * k + j) u (flat_get hk xs i x j u hi hu)
    rw [show (⟨g, 0 + i * k + j, none⟩ : Addr) = (⟨g, 0, none⟩ : Addr).add (i * k + j) from ?_]
    · exact this
    · unfold Addr.add
      split <;> simp_all

theorem Own.base_le {α : Type} {enc : α → List Value} {k : Nat} {E : TypeId} {base : Nat} {w : World} {v : Value} {xs : List α} (h : Own enc k E base w v xs) (g : Nat) (hg : v.ownBlock = some g) : base ≤ g := by
  rcases h.2 with ⟨rfl, _⟩ | ⟨g', cap, cur, rfl, hb, _⟩
  · simp [Value.ownBlock] at hg
  · have : g' = g := by simpa [Value.ownBlock] using hg
    omega

theorem Own.lt {α : Type} {enc : α → List Value} {k : Nat} {E : TypeId} {base : Nat} {w : World} {v : Value} {xs : List α} (h : Own enc k E base w v xs) (g : Nat) (hg : v.ownBlock = some g) : g < w.heap.size := by
  rcases h.2 with ⟨rfl, _⟩ | ⟨g', cap, cur, rfl, _, hh, _⟩
  · simp [Value.ownBlock] at hg
  · have : g' = g := by simpa [Value.ownBlock] using hg
    subst this
    exact (Array.getElem?_eq_some_iff.1 hh).1

theorem Own.slice {α : Type} {enc : α → List Value} {k : Nat} {E : TypeId} {base : Nat} {w : World} {v : Value} {xs : List α} (h : Own enc k E base w v xs) : ∃ A c, v = .slice A xs.length c ∧ xs.length ≤ c ∧ c ≤ 9223372036854775807 := by
  rcases h.2 with ⟨rfl, h0⟩ | ⟨g, cap, cur, rfl, _, _, hn, hm, _⟩
  · exact ⟨none, 0, by rw [h0], by omega, by omega⟩
  · exact ⟨_, cap, rfl, hn, by simpa [maxLen] using hm⟩

theorem Own.below {α : Type} {enc : α → List Value} {k : Nat} {E : TypeId} {base : Nat} {w w' : World} {v : Value} {xs : List α} (h : Own enc k E base w v xs) (hb : Below w.heap.size w w') : Own enc k E base w' v xs :=
  h.kept (row := none) ⟨hb.os, hb.tape, hb.output, hb.size, fun i hi _ => hb.block i hi⟩ (by cases v.ownBlock <;> simp)

/-- Another row is written: this one lives on. -/
theorem Own.kept' {α : Type} {enc : α → List Value} {k : Nat} {E : TypeId} {base : Nat} {w w' : World} {v : Value} {xs : List α} (h : Own enc k E base w v xs) {row : Option Nat} (hg : w.grownBy w' row) (hne : v.ownBlock = none ∨ v.ownBlock ≠ row) : Own enc k E base w' v xs := h.kept hg hne

section
variable {P : Program} {ops : Array Oper} {rest : List Oper} {o : Oper} {a : Act} {Q : Exit → Act → World → Prop}
/-- 'append(s, x)', one element: 'at_builtin' ahead of it. -/
theorem append_one {α : Type} {w0 W : World} (enc : α → List Value) (k : Nat) (E : TypeId) (t : TypeId) (bytes : Nat) (z : Value) (base : Nat) (v : Value) (xs : List α) (y : α) (hgd : o.guard = none) (s x : Operand)
    (ho : o.op = .call { callee := .builtin .append, args := #[s, x], argTypes := #[t, t] })
    (ht : P.underlying t = some (.slice E)) (hinfo : (P.info? E).map (fun i => (i.zero, i.size, i.bytes)) = some (some z, k, bytes)) (hz : z.cells.size = k) (hk0 : 0 < k) (hb0 : 0 < bytes)
    (henc : ∀ x, (enc x).length = k) (h1 : ∀ x, ∀ u ∈ enc x, u.oneCell' = true)
    (hs : a.eval s = v) (hx : a.eval x = .slice (some ⟨W.heap.size, 0, none⟩) 1 1)
    (hown : Own enc k E base W v xs) (HB : Below base w0 W) (hbase : base ≤ W.heap.size) (hl : (xs.length + 1) * bytes ≤ 140737488355328)
    (h : ∀ v' w', Own enc k E base w' v' (xs ++ [y]) → Below base w0 w' → W.grownBy w' v.ownBlock → (v'.ownBlock = v.ownBlock ∨ ∃ g, v'.ownBlock = some g ∧ W.heap.size ≤ g) → wpList P ops Q rest (a.put o.dst v') w') :
    wpList P ops Q (o :: rest) a (W.alloc (.cells (enc y).toArray E)) := by
  obtain ⟨i0, hi, hzz⟩ := Option.map_eq_some_iff.1 hinfo
  simp only [Prod.mk.injEq] at hzz
  obtain ⟨hz0, hz1, hz2⟩ := hzz
  have hlen : xs.length + 1 ≤ 140737488355328 := Nat.le_trans (Nat.le_mul_of_pos_right _ hb0) hl
  refine wpList_append_own_at (W.alloc (.cells (enc y).toArray E)) hgd s x t ho base E i0 z k bytes ht hi hz0 hz1 hz2 hz hk0 v xs.length (xs.flatMap enc) hs (World.ownsRow.alloc hown _) ⟨W.heap.size, 0, none⟩ 1 1 (enc y) hx (by rw [henc, Nat.one_mul])
    (fun j u hu => ?_) (h1 y) (by simp only [maxLen]; omega) hl (by simp; omega) ?_
  · rw [show (⟨W.heap.size, 0, none⟩ : Addr).add j = ⟨W.heap.size, j, none⟩ from by unfold Addr.add; split <;> simp_all]
    simp only [World.cell?, World.alloc, Array.getElem?_push_size, Option.isSome_none, Bool.false_eq_true, if_false]
    simpa using hu
  · intro v' w' hown' hg _ hat
    refine h v' w' ?_ ((HB.alloc hbase _).grown hg (by simp; omega) (fun g hg' => Own.base_le hown g hg')) (World.grownBy.trans (World.grownBy_alloc W _ _) hg) ?_
    · unfold Own
      rw [List.flatMap_append, List.flatMap_singleton, List.length_append, List.length_singleton]
      exact hown'
    · rcases hat with hat | hat
      · exact .inl hat
      · exact .inr ⟨_, hat, by simp⟩
end

/-- 'make([]T, 0, n + 1)'. -/
theorem run_make_room {P : Program} (t E : TypeId) (k bytes : Nat) (z : Value) (ht : P.underlying t = some (.slice E)) (hinfo : (P.info? E).map (fun i => (i.zero, i.size, i.bytes)) = some (some z, k, bytes)) (n : Nat)
    (hn : bytes * (n + 1) ≤ 281474976710656) (hn2 : n + 1 ≤ 9223372036854775807) (W : World) :
    (Instr.makeSlice t (.int .i64 0) (.int .i64 ((n : Int) + 1))).run P W = .ok (.slice (some ⟨W.heap.size, 0, none⟩) 0 (n + 1)) (W.alloc (.cells (madeCells z.cells ((n + 1) * k)) E)) := by
  obtain ⟨i0, hi, hzz⟩ := Option.map_eq_some_iff.1 hinfo
  simp only [Prod.mk.injEq] at hzz
  obtain ⟨hz0, hz1, hz2⟩ := hzz
  have hb' : (i0.bytes : Int) * ((n : Int) + 1) ≤ 281474976710656 := by
    rw [hz2]
    have h : ((bytes * (n + 1) : Nat) : Int) ≤ 281474976710656 := by omega
    rw [Int.natCast_mul] at h
    simpa using h
  have := run_make (P := P) W t E i0 z ht hi hz0 .i64 .i64 0 ((n : Int) + 1) (Int.le_refl _) (by omega) hb' (by omega)
  rw [show ((n : Int) + 1).toNat = n + 1 by omega, hz1] at this
  simpa using this

theorem Own.made {α : Type} (enc : α → List Value) (k : Nat) (E : TypeId) (base : Nat) (w : World) (z : Array Value) (n : Nat) (hb : base ≤ w.heap.size) (hn : n ≤ 9223372036854775807) :
    Own enc k E base (w.alloc (.cells (madeCells z (n * k)) E)) (.slice (some ⟨w.heap.size, 0, none⟩) 0 n) [] :=
  World.ownsRow_made w _ n hb (by simpa [maxLen] using hn) (size_madeCells _ _)

/-- the first one of which p says yes; -1. -/
def idx {α : Type} (p : α → Bool) (xs : List α) : Int := match xs.findIdx? p with | some i => i | none => -1

theorem idx_hit {α : Type} (p : α → Bool) (xs : List α) (k : Nat) (x : α) (hk : xs[k]? = some x) (hp : p x = true) (hno : ∀ j, j < k → ∀ x, xs[j]? = some x → p x = false) : idx p xs = k := by
  have h : xs.findIdx? p = some k := by
    rw [List.findIdx?_eq_some_iff_getElem]
    obtain ⟨hl, he⟩ := List.getElem?_eq_some_iff.1 hk
    refine ⟨hl, by rw [he]; exact hp, fun j hj => ?_⟩
    rw [hno j hj _ (List.getElem?_eq_getElem (by omega))]
    exact Bool.false_ne_true
  simp [idx, h]

theorem idx_miss {α : Type} (p : α → Bool) (xs : List α) (hno : ∀ (j : Nat) x, xs[j]? = some x → p x = false) : idx p xs = -1 := by
  have h : xs.findIdx? p = none := by
    rw [List.findIdx?_eq_none_iff]
    intro x hx
    obtain ⟨j, hj, rfl⟩ := List.mem_iff_getElem.1 hx
    exact hno j _ (List.getElem?_eq_getElem hj)
  simp [idx, h]

theorem idx_any {α : Type} (p : α → Bool) (xs : List α) : (decide (0 ≤ idx p xs)) = xs.any p := by
  unfold idx
  cases h : xs.findIdx? p with
  | none =>
    rw [List.findIdx?_eq_none_iff] at h
    rw [Bool.eq_iff_iff, List.any_eq_true]
    simp only [decide_eq_true_eq]
    exact ⟨fun h' => absurd h' (by decide), fun ⟨x, hx, hp⟩ => by rw [h x hx] at hp; cases hp⟩
  | some i =>
    obtain ⟨hl, hp, _⟩ := List.findIdx?_eq_some_iff_getElem.1 h
    have : xs.any p = true := List.any_eq_true.2 ⟨_, List.getElem_mem hl, hp⟩
    rw [this]
    show decide ((0 : Int) ≤ (i : Int)) = true
    exact decide_eq_true (by omega)

end Go.Proofs.YtanjgeacmpmjhaaGreatDoor
