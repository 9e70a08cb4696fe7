import Derived.WalkKit
import Derived.WalkSpells
import Derived.WalkLawsBesides
import Derived.Deep.QuietTactic
import Derived.BigQuiet
import Derived.Lib.Hide
import Derived.Lib.MinMaxS
import Derived.Laws.StructEq
import Derived.Test.YtbfmneblhlmiiaaStr
namespace Go.Proofs.Ytbfmneblhlmiiaa
open Go.RowKit

theorem bytesLess_lt8 : ∀ (a b : List UInt8), Op.bytesLess a b = lt8 a b
  | _, [] => by simp [Op.bytesLess, lt8_nil]
  | [], _ :: _ => rfl
  | a :: x, b :: y => by simp only [Op.bytesLess, lt8]; rw [bytesLess_lt8 x y]

theorem toList_l (a : ByteArray) : a.toList = Str.l a := Lib.toList_data a

@[go_sem] theorem bytesLess_slt (a b : ByteArray) : Op.bytesLess a.toList b.toList = slt a b := by
  rw [bytesLess_lt8, toList_l, toList_l]; rfl

@[go_sem] theorem toList_beq (a b : ByteArray) : (a.toList == b.toList) = decide (a = b) := by
  rw [toList_l, toList_l, Bool.eq_iff_iff]
  simp only [beq_iff_eq, decide_eq_true_eq]
  exact ⟨Str.ext, fun h => by rw [h]⟩

@[go_sem] theorem toList_eq_iff (a b : ByteArray) : (a.toList = b.toList) = (a = b) := by
  rw [toList_l, toList_l]
  exact propext ⟨Str.ext, fun h => by rw [h]⟩

@[go_sem] theorem slt_or_eq (a b : ByteArray) : (slt a b || decide (a = b)) = sle a b := by
  rw [Bool.eq_iff_iff]
  simp only [Bool.or_eq_true, decide_eq_true_eq, sle, Bool.not_eq_true']
  constructor
  · rintro (h | rfl)
    · exact slt_asymm h
    · exact slt_irrefl _
  · intro h
    cases hs : slt a b with
    | true => exact .inl rfl
    | false => exact .inr (slt_total hs h)

theorem maxS_smax (a b : ByteArray) : Lib.maxS a b = smax a b := by
  unfold Lib.maxS smax
  have e : (a.data.toList < b.data.toList) ↔ slt a b = true := by
    rw [← bytesLess_slt, Proofs.bytesLess_eq, Lib.toList_data, Lib.toList_data]; simp
  by_cases h : slt a b = true
  · rw [if_pos (e.2 h), if_pos h]
  · rw [if_neg (fun h' => h (e.1 h')), if_neg h]

@[go_sem] theorem run_max_str {P : Program} (w : World) (ts : Array TypeId) (t : TypeId) (x y : ByteArray) : (Builtin.max_ ts t #[.string x, .string y]).run P w = .ok (.string (smax x y)) w := by
  rw [Lib.run_max_strs, maxS_smax]

/-- A world that has come of W: what lay in W lies as it lay. -/
structure Later (W : World) where
  val : World
  ok : Below W.heap.size W val

instance {W : World} : Inhabited (Later W) := ⟨⟨W, Below.refl _ W⟩⟩

theorem Below.cell_some {w w' : World} (h : Below w.heap.size w w') {a : Addr} {v : Value} (hc : w.cell? a = some v) : w'.cell? a = some v :=
  (h.cell (World.block_lt_of_cell? w a hc)).trans hc

theorem Below.step {w w1 w2 : World} (h : Below w.heap.size w w1) (k : Below w1.heap.size w1 w2) : Below w.heap.size w w2 :=
  h.trans (k.mono h.size)

theorem Later.cell {W : World} (p : Later W) {a : Addr} {v : Value} (hc : W.cell? a = some v) : p.val.cell? a = some v := Below.cell_some p.ok hc

theorem Calls.later {P : Program} {f : FuncId} {args : Array Value} {W : World} {p : Later W} {v : Value}
    (h : Calls P f args p.val fun e w' => e = .returned v ∧ Below p.val.heap.size p.val w') :
    Calls P f args p.val fun e w'' => e = .returned v ∧ ∃ q : Later W, w'' = q.val :=
  h.mono fun _ w' ⟨he, hb⟩ => ⟨he, ⟨w', Below.step p.ok hb⟩, rfl⟩

theorem Calls.later_same {P : Program} {f : FuncId} {args : Array Value} {W : World} {p : Later W} {v : Value}
    (h : Calls P f args p.val fun e w' => e = .returned v ∧ p.val = w') :
    Calls P f args p.val fun e w'' => e = .returned v ∧ ∃ q : Later W, w'' = q.val :=
  h.mono fun _ _ ⟨he, hb⟩ => ⟨he, p, hb.symm⟩

/-- A region that draws its order, whose operations read, and whose callees read and make memory of their own: one walk, in the order of the text. -/
theorem wp_region_later {P : Program} {id : Nat} {Q : Exit → Act → World → Prop} {a : Act} {w : World} {l : List Oper} (hm : P.follows .mixedOrders = true) (hB : Region.lexB .any l.toArray = true)
    (h : wpQuiet P l.toArray (fun w' => ∃ p : Later w, w' = p.val) (fun a' => ∀ w', (∃ p : Later w, w' = p.val) → Q .normal a' w') l a) : (Code.region id l.toArray true).wp P Q a w :=
  wp_region_quiet (C := fun w' => ∃ p : Later w, w' = p.val) hm hB ⟨⟨_, (Below.refl _ w).drew⟩, rfl⟩ (by simpa using h)

/-- A slice that is read: elements of k cells each, told by 'enc'. -/
def Rd {α : Type} (enc : α → List Value) (k : Nat) (w : World) (v : Value) (xs : List α) : Prop :=
  ∃ A c, v = .slice A xs.length c ∧ xs.length ≤ c ∧ c ≤ 9223372036854775807 ∧
    (0 < xs.length → ∃ b o, A = some ⟨b, o, none⟩ ∧ ∀ i x, xs[i]? = some x → ∀ j u, (enc x)[j]? = some u → w.cell? ⟨b, o + i * k + j, none⟩ = some u)

theorem Rd.below {α : Type} {enc : α → List Value} {k : Nat} {w w' : World} {v : Value} {xs : List α} (h : Rd enc k w v xs) (hb : Below w.heap.size w w') : Rd enc k w' v xs := by
  obtain ⟨A, c, hv, hl, hc, h⟩ := h
  refine ⟨A, c, hv, hl, hc, fun hp => ?_⟩
  obtain ⟨b, o, hA, hcell⟩ := h hp
  exact ⟨b, o, hA, fun i x hi j u hu => Below.cell_some hb (hcell i x hi j u hu)⟩

structure Span where
  f : ByteArray
  t : ByteArray

def Span.enc (x : Span) : List Value := [.string x.f, .string x.t]
abbrev Span.val (x : Span) : Value := .agg #[.string x.f, .string x.t]

instance : Inhabited Span := ⟨⟨ByteArray.empty, ByteArray.empty⟩⟩

end Go.Proofs.Ytbfmneblhlmiiaa
