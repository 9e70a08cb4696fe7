import Derived.Test.YtanjgeacmpmjhaaGreatDoorBase
import Derived.Test.YtanjgeacmpmjhaaGreatDoorShape
set_option linter.unusedVariables false
set_option linter.unusedSimpArgs false
namespace Go.Proofs.YtanjgeacmpmjhaaGreatDoor
open Go.RowKit

/-! ### concordat/api.Span -/
structure Span where
  f : ByteArray
  t : ByteArray
  deriving DecidableEq

abbrev Span.enc (x : Span) : List Value := [.string x.f, .string x.t]
instance : Inhabited Span := ⟨⟨ByteArray.empty, ByteArray.empty⟩⟩
theorem span_eq_b (x y : Span) : (decide (x.f = y.f) && decide (x.t = y.t)) = decide (x = y) := by
  cases x; cases y
  rw [Bool.eq_iff_iff]
  simp only [Bool.and_eq_true, decide_eq_true_eq, Span.mk.injEq]
theorem span_len (x : Span) : x.enc.length = 2 := rfl
theorem span_one (x : Span) : ∀ u ∈ x.enc, u.oneCell' = true := fun u hu => by
  simp only [List.mem_cons, List.not_mem_nil, or_false] at hu
  rcases hu with rfl | rfl <;> rfl
theorem Rd.span {w : World} {A : Option Addr} {n c : Nat} {xs : List Span} (h : Rd Span.enc 2 w (.slice A n c) xs) {i : Nat} {x : Span} (hi : xs[i]? = some x) :
    ∃ b o, A = some ⟨b, o, none⟩ ∧ w.cell? ⟨b, o + i * 2, none⟩ = some (.string x.f) ∧ w.cell? ⟨b, o + i * 2 + 1, none⟩ = some (.string x.t) := by
  obtain ⟨b, o, hA, hc⟩ := h.at_ hi
  exact ⟨b, o, hA, hc 0 _ rfl, hc 1 _ rfl⟩
/-- What is known of one that was read. -/
def Span.ok (x : Span) : Prop := small x.f ∧ small x.t
theorem span_of {w : World} {cs : List Value} (h : Sh.holds w (.struct [.str, .str]) cs) : ∃ x : Span, cs = x.enc ∧ x.ok := by
  simp only [Sh.holds, Sh.holdsAll] at h
  obtain ⟨_, _, rfl, ⟨v0, rfl, h0⟩, _, _, rfl, ⟨v1, rfl, h1⟩, rfl⟩ := h
  exact ⟨⟨v0, v1⟩, rfl, ⟨h0, h1⟩⟩
theorem spans_of {w : World} {v : Value} {bytes : Nat} (h : Sh.holds w (.slice (.struct [.str, .str]) bytes) [v]) :
    ∃ xs : List Span, Rd Span.enc 2 w v xs ∧ xs.length * bytes ≤ 140737488351232 ∧ ∀ x ∈ xs, x.ok := rd_of (fun _ h => span_of h) h

/-! ### concordat/api.Row -/
structure Row where
  k : ByteArray
  v : Int
  deriving DecidableEq

abbrev Row.enc (x : Row) : List Value := [.string x.k, .int .u32 x.v]
instance : Inhabited Row := ⟨⟨ByteArray.empty, 0⟩⟩
theorem row_eq_b (x y : Row) : (decide (x.k = y.k) && decide (x.v = y.v)) = decide (x = y) := by
  cases x; cases y
  rw [Bool.eq_iff_iff]
  simp only [Bool.and_eq_true, decide_eq_true_eq, Row.mk.injEq]
theorem row_len (x : Row) : x.enc.length = 2 := rfl
theorem row_one (x : Row) : ∀ u ∈ x.enc, u.oneCell' = true := fun u hu => by
  simp only [List.mem_cons, List.not_mem_nil, or_false] at hu
  rcases hu with rfl | rfl <;> rfl
theorem Rd.row {w : World} {A : Option Addr} {n c : Nat} {xs : List Row} (h : Rd Row.enc 2 w (.slice A n c) xs) {i : Nat} {x : Row} (hi : xs[i]? = some x) :
    ∃ b o, A = some ⟨b, o, none⟩ ∧ w.cell? ⟨b, o + i * 2, none⟩ = some (.string x.k) ∧ w.cell? ⟨b, o + i * 2 + 1, none⟩ = some (.int .u32 x.v) := by
  obtain ⟨b, o, hA, hc⟩ := h.at_ hi
  exact ⟨b, o, hA, hc 0 _ rfl, hc 1 _ rfl⟩
/-- What is known of one that was read. -/
def Row.ok (x : Row) : Prop := small x.k ∧ (Lit.int .u32 x.v).wf = true
theorem row_of {w : World} {cs : List Value} (h : Sh.holds w (.struct [.str, .int .u32]) cs) : ∃ x : Row, cs = x.enc ∧ x.ok := by
  simp only [Sh.holds, Sh.holdsAll] at h
  obtain ⟨_, _, rfl, ⟨v0, rfl, h0⟩, _, _, rfl, ⟨v1, rfl, h1⟩, rfl⟩ := h
  exact ⟨⟨v0, v1⟩, rfl, ⟨h0, h1⟩⟩
theorem rows_of {w : World} {v : Value} {bytes : Nat} (h : Sh.holds w (.slice (.struct [.str, .int .u32]) bytes) [v]) :
    ∃ xs : List Row, Rd Row.enc 2 w v xs ∧ xs.length * bytes ≤ 140737488351232 ∧ ∀ x ∈ xs, x.ok := rd_of (fun _ h => row_of h) h

/-! ### concordat/api.Change -/
structure Change where
  k : ByteArray
  v : Int
  g : Bool
  deriving DecidableEq

abbrev Change.enc (x : Change) : List Value := [.string x.k, .int .u32 x.v, .bool x.g]
instance : Inhabited Change := ⟨⟨ByteArray.empty, 0, false⟩⟩
theorem change_eq_b (x y : Change) : (decide (x.k = y.k) && (decide (x.v = y.v) && decide (x.g = y.g))) = decide (x = y) := by
  cases x; cases y
  rw [Bool.eq_iff_iff]
  simp only [Bool.and_eq_true, decide_eq_true_eq, Change.mk.injEq]
theorem change_len (x : Change) : x.enc.length = 3 := rfl
theorem change_one (x : Change) : ∀ u ∈ x.enc, u.oneCell' = true := fun u hu => by
  simp only [List.mem_cons, List.not_mem_nil, or_false] at hu
  rcases hu with rfl | rfl | rfl <;> rfl
theorem Rd.change {w : World} {A : Option Addr} {n c : Nat} {xs : List Change} (h : Rd Change.enc 3 w (.slice A n c) xs) {i : Nat} {x : Change} (hi : xs[i]? = some x) :
    ∃ b o, A = some ⟨b, o, none⟩ ∧ w.cell? ⟨b, o + i * 3, none⟩ = some (.string x.k) ∧ w.cell? ⟨b, o + i * 3 + 1, none⟩ = some (.int .u32 x.v) ∧ w.cell? ⟨b, o + i * 3 + 2, none⟩ = some (.bool x.g) := by
  obtain ⟨b, o, hA, hc⟩ := h.at_ hi
  exact ⟨b, o, hA, hc 0 _ rfl, hc 1 _ rfl, hc 2 _ rfl⟩
/-- What is known of one that was read. -/
def Change.ok (x : Change) : Prop := small x.k ∧ (Lit.int .u32 x.v).wf = true
theorem change_of {w : World} {cs : List Value} (h : Sh.holds w (.struct [.str, .int .u32, .bool]) cs) : ∃ x : Change, cs = x.enc ∧ x.ok := by
  simp only [Sh.holds, Sh.holdsAll] at h
  obtain ⟨_, _, rfl, ⟨v0, rfl, h0⟩, _, _, rfl, ⟨v1, rfl, h1⟩, _, _, rfl, ⟨v2, rfl⟩, rfl⟩ := h
  exact ⟨⟨v0, v1, v2⟩, rfl, ⟨h0, h1⟩⟩
theorem changes_of {w : World} {v : Value} {bytes : Nat} (h : Sh.holds w (.slice (.struct [.str, .int .u32, .bool]) bytes) [v]) :
    ∃ xs : List Change, Rd Change.enc 3 w v xs ∧ xs.length * bytes ≤ 140737488351232 ∧ ∀ x ∈ xs, x.ok := rd_of (fun _ h => change_of h) h

/-! ### concordat/api.Op -/
structure Opn where
  q : Int
  k : ByteArray
  t : ByteArray
  d : Int
  deriving DecidableEq

abbrev Opn.enc (x : Opn) : List Value := [.int .u8 x.q, .string x.k, .string x.t, .int .u32 x.d]
instance : Inhabited Opn := ⟨⟨0, ByteArray.empty, ByteArray.empty, 0⟩⟩
theorem opn_eq_b (x y : Opn) : (decide (x.q = y.q) && (decide (x.k = y.k) && (decide (x.t = y.t) && decide (x.d = y.d)))) = decide (x = y) := by
  cases x; cases y
  rw [Bool.eq_iff_iff]
  simp only [Bool.and_eq_true, decide_eq_true_eq, Opn.mk.injEq]
theorem opn_len (x : Opn) : x.enc.length = 4 := rfl
theorem opn_one (x : Opn) : ∀ u ∈ x.enc, u.oneCell' = true := fun u hu => by
  simp only [List.mem_cons, List.not_mem_nil, or_false] at hu
  rcases hu with rfl | rfl | rfl | rfl <;> rfl
theorem Rd.opn {w : World} {A : Option Addr} {n c : Nat} {xs : List Opn} (h : Rd Opn.enc 4 w (.slice A n c) xs) {i : Nat} {x : Opn} (hi : xs[i]? = some x) :
    ∃ b o, A = some ⟨b, o, none⟩ ∧ w.cell? ⟨b, o + i * 4, none⟩ = some (.int .u8 x.q) ∧ w.cell? ⟨b, o + i * 4 + 1, none⟩ = some (.string x.k) ∧ w.cell? ⟨b, o + i * 4 + 2, none⟩ = some (.string x.t) ∧ w.cell? ⟨b, o + i * 4 + 3, none⟩ = some (.int .u32 x.d) := by
  obtain ⟨b, o, hA, hc⟩ := h.at_ hi
  exact ⟨b, o, hA, hc 0 _ rfl, hc 1 _ rfl, hc 2 _ rfl, hc 3 _ rfl⟩
/-- What is known of one that was read. -/
def Opn.ok (x : Opn) : Prop := (Lit.int .u8 x.q).wf = true ∧ small x.k ∧ small x.t ∧ (Lit.int .u32 x.d).wf = true
theorem opn_of {w : World} {cs : List Value} (h : Sh.holds w (.struct [.int .u8, .str, .str, .int .u32]) cs) : ∃ x : Opn, cs = x.enc ∧ x.ok := by
  simp only [Sh.holds, Sh.holdsAll] at h
  obtain ⟨_, _, rfl, ⟨v0, rfl, h0⟩, _, _, rfl, ⟨v1, rfl, h1⟩, _, _, rfl, ⟨v2, rfl, h2⟩, _, _, rfl, ⟨v3, rfl, h3⟩, rfl⟩ := h
  exact ⟨⟨v0, v1, v2, v3⟩, rfl, ⟨h0, h1, h2, h3⟩⟩
theorem opns_of {w : World} {v : Value} {bytes : Nat} (h : Sh.holds w (.slice (.struct [.int .u8, .str, .str, .int .u32]) bytes) [v]) :
    ∃ xs : List Opn, Rd Opn.enc 4 w v xs ∧ xs.length * bytes ≤ 140737488351232 ∧ ∀ x ∈ xs, x.ok := rd_of (fun _ h => opn_of h) h

/-! ### concordat/locks.lock -/
structure Lock where
  f : ByteArray
  t : ByteArray
  a : Bool
  deriving DecidableEq

abbrev Lock.enc (x : Lock) : List Value := [.string x.f, .string x.t, .bool x.a]
instance : Inhabited Lock := ⟨⟨ByteArray.empty, ByteArray.empty, false⟩⟩
theorem lock_eq_b (x y : Lock) : (decide (x.f = y.f) && (decide (x.t = y.t) && decide (x.a = y.a))) = decide (x = y) := by
  cases x; cases y
  rw [Bool.eq_iff_iff]
  simp only [Bool.and_eq_true, decide_eq_true_eq, Lock.mk.injEq]
theorem lock_len (x : Lock) : x.enc.length = 3 := rfl
theorem lock_one (x : Lock) : ∀ u ∈ x.enc, u.oneCell' = true := fun u hu => by
  simp only [List.mem_cons, List.not_mem_nil, or_false] at hu
  rcases hu with rfl | rfl | rfl <;> rfl
theorem Rd.lock {w : World} {A : Option Addr} {n c : Nat} {xs : List Lock} (h : Rd Lock.enc 3 w (.slice A n c) xs) {i : Nat} {x : Lock} (hi : xs[i]? = some x) :
    ∃ b o, A = some ⟨b, o, none⟩ ∧ w.cell? ⟨b, o + i * 3, none⟩ = some (.string x.f) ∧ w.cell? ⟨b, o + i * 3 + 1, none⟩ = some (.string x.t) ∧ w.cell? ⟨b, o + i * 3 + 2, none⟩ = some (.bool x.a) := by
  obtain ⟨b, o, hA, hc⟩ := h.at_ hi
  exact ⟨b, o, hA, hc 0 _ rfl, hc 1 _ rfl, hc 2 _ rfl⟩
/-- What is known of one that was read. -/
def Lock.ok (x : Lock) : Prop := small x.f ∧ small x.t
theorem lock_of {w : World} {cs : List Value} (h : Sh.holds w (.struct [.str, .str, .bool]) cs) : ∃ x : Lock, cs = x.enc ∧ x.ok := by
  simp only [Sh.holds, Sh.holdsAll] at h
  obtain ⟨_, _, rfl, ⟨v0, rfl, h0⟩, _, _, rfl, ⟨v1, rfl, h1⟩, _, _, rfl, ⟨v2, rfl⟩, rfl⟩ := h
  exact ⟨⟨v0, v1, v2⟩, rfl, ⟨h0, h1⟩⟩
theorem locks_of {w : World} {v : Value} {bytes : Nat} (h : Sh.holds w (.slice (.struct [.str, .str, .bool]) bytes) [v]) :
    ∃ xs : List Lock, Rd Lock.enc 3 w v xs ∧ xs.length * bytes ≤ 140737488351232 ∧ ∀ x ∈ xs, x.ok := rd_of (fun _ h => lock_of h) h

/-! ### concordat/versions.was -/
structure Was where
  at_ : Int
  v : Int
  g : Bool
  deriving DecidableEq

abbrev Was.enc (x : Was) : List Value := [.int .u32 x.at_, .int .u32 x.v, .bool x.g]
instance : Inhabited Was := ⟨⟨0, 0, false⟩⟩
theorem was_eq_b (x y : Was) : (decide (x.at_ = y.at_) && (decide (x.v = y.v) && decide (x.g = y.g))) = decide (x = y) := by
  cases x; cases y
  rw [Bool.eq_iff_iff]
  simp only [Bool.and_eq_true, decide_eq_true_eq, Was.mk.injEq]
theorem was_len (x : Was) : x.enc.length = 3 := rfl
theorem was_one (x : Was) : ∀ u ∈ x.enc, u.oneCell' = true := fun u hu => by
  simp only [List.mem_cons, List.not_mem_nil, or_false] at hu
  rcases hu with rfl | rfl | rfl <;> rfl
theorem Rd.was {w : World} {A : Option Addr} {n c : Nat} {xs : List Was} (h : Rd Was.enc 3 w (.slice A n c) xs) {i : Nat} {x : Was} (hi : xs[i]? = some x) :
    ∃ b o, A = some ⟨b, o, none⟩ ∧ w.cell? ⟨b, o + i * 3, none⟩ = some (.int .u32 x.at_) ∧ w.cell? ⟨b, o + i * 3 + 1, none⟩ = some (.int .u32 x.v) ∧ w.cell? ⟨b, o + i * 3 + 2, none⟩ = some (.bool x.g) := by
  obtain ⟨b, o, hA, hc⟩ := h.at_ hi
  exact ⟨b, o, hA, hc 0 _ rfl, hc 1 _ rfl, hc 2 _ rfl⟩
/-- What is known of one that was read. -/
def Was.ok (x : Was) : Prop := (Lit.int .u32 x.at_).wf = true ∧ (Lit.int .u32 x.v).wf = true
theorem was_of {w : World} {cs : List Value} (h : Sh.holds w (.struct [.int .u32, .int .u32, .bool]) cs) : ∃ x : Was, cs = x.enc ∧ x.ok := by
  simp only [Sh.holds, Sh.holdsAll] at h
  obtain ⟨_, _, rfl, ⟨v0, rfl, h0⟩, _, _, rfl, ⟨v1, rfl, h1⟩, _, _, rfl, ⟨v2, rfl⟩, rfl⟩ := h
  exact ⟨⟨v0, v1, v2⟩, rfl, ⟨h0, h1⟩⟩
theorem wass_of {w : World} {v : Value} {bytes : Nat} (h : Sh.holds w (.slice (.struct [.int .u32, .int .u32, .bool]) bytes) [v]) :
    ∃ xs : List Was, Rd Was.enc 3 w v xs ∧ xs.length * bytes ≤ 140737488351232 ∧ ∀ x ∈ xs, x.ok := rd_of (fun _ h => was_of h) h

end Go.Proofs.YtanjgeacmpmjhaaGreatDoor
