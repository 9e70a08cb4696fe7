import Derived.Test.YtanjgeacmpmjhaaGreatDoorKinds
import Derived.Test.YtanjgeacmpmjhaaGreatDoorTwChange
import Derived.Test.YtanjgeacmpmjhaaGreatDoorMapP
set_option linter.unusedVariables false
set_option linter.unusedSimpArgs false
set_option linter.unusedSectionVars false
namespace Go.Proofs.YtanjgeacmpmjhaaGreatDoor
open Go.RowKit

/-! ### what is done with a map of rows (law 13's Act) -/
structure SAct where
  q : Int
  k : ByteArray
  n : Int
  v : Value
  cs : List Change
  f : ByteArray
  t : ByteArray
  most : Int
abbrev SAct.enc (x : SAct) : List Value := [.int .u8 x.q, .string x.k, .int .u32 x.n, x.v, .string x.f, .string x.t, .int .i64 x.most]
structure SAct.ok (w : World) (x : SAct) : Prop where
  q : (Lit.int .u8 x.q).wf = true
  k : small x.k
  n : (Lit.int .u32 x.n).wf = true
  rd : Rd Change.enc 3 w x.v x.cs
  len : x.cs.length * 24 ≤ 140737488351232
  each : ∀ c ∈ x.cs, c.ok
  f : small x.f
  t : small x.t
  most : (Lit.int .i64 x.most).wf = true

theorem sact_len (x : SAct) : x.enc.length = 7 := rfl
theorem SAct.ok.below {w w' : World} {x : SAct} (h : x.ok w) (hb : Below w.heap.size w w') : x.ok w' := ⟨h.q, h.k, h.n, h.rd.below hb, h.len, h.each, h.f, h.t, h.most⟩

theorem sact_of {w : World} {cs : List Value} (h : Sh.holds w (.struct [.int .u8, .struct [.str, .int .u32], .slice (.struct [.str, .int .u32, .bool]) 24, .struct [.str, .str], .int .i64]) cs) : ∃ x : SAct, cs = x.enc ∧ x.ok w := by
  rw [Sh.holds] at h
  simp only [Sh.holdsAll] at h
  obtain ⟨_, _, rfl, h0, _, _, rfl, h1, _, _, rfl, h2, _, _, rfl, h3, _, _, rfl, h4, rfl⟩ := h
  obtain ⟨n0, rfl, k0⟩ := h0
  obtain ⟨r, rfl, k1⟩ := row_of h1
  obtain ⟨s, rfl, k3⟩ := span_of h3
  obtain ⟨n4, rfl, k4⟩ := h4
  have h2' := h2
  rw [Sh.holds] at h2
  obtain ⟨A, n, c, rfl, _⟩ := h2
  obtain ⟨xs, rd, len, ok⟩ := changes_of h2'
  exact ⟨⟨n0, r.k, r.v, .slice A n c, xs, s.f, s.t, n4⟩, rfl, k0, k1.1, k1.2, rd, len, ok, k3.1, k3.2, k4⟩

theorem sacts_of {w : World} {v : Value} {bytes : Nat} (h : Sh.holds w (.slice (.struct [.int .u8, .struct [.str, .int .u32], .slice (.struct [.str, .int .u32, .bool]) 24, .struct [.str, .str], .int .i64]) bytes) [v]) :
    ∃ xs : List SAct, Rd SAct.enc 7 w v xs ∧ xs.length * bytes ≤ 140737488351232 ∧ ∀ x ∈ xs, x.ok w := rd_of (fun _ h => sact_of h) h

theorem Rd.sact {w : World} {A : Option Addr} {n c : Nat} {xs : List SAct} (h : Rd SAct.enc 7 w (.slice A n c) xs) {i : Nat} {x : SAct} (hi : xs[i]? = some x) :
    ∃ b o, A = some ⟨b, o, none⟩ ∧ w.cell? ⟨b, o + i * 7, none⟩ = some (.int .u8 x.q) ∧ w.cell? ⟨b, o + i * 7 + 1, none⟩ = some (.string x.k) ∧ w.cell? ⟨b, o + i * 7 + 2, none⟩ = some (.int .u32 x.n) ∧ w.cell? ⟨b, o + i * 7 + 3, none⟩ = some x.v ∧
      w.cell? ⟨b, o + i * 7 + 4, none⟩ = some (.string x.f) ∧ w.cell? ⟨b, o + i * 7 + 5, none⟩ = some (.string x.t) ∧ w.cell? ⟨b, o + i * 7 + 6, none⟩ = some (.int .i64 x.most) := by
  obtain ⟨b, o, hA, hc⟩ := h.at_ hi
  exact ⟨b, o, hA, hc 0 _ rfl, hc 1 _ rfl, hc 2 _ rfl, hc 3 _ rfl, hc 4 _ rfl, hc 5 _ rfl, hc 6 _ rfl⟩

/-! ### how much there is -/
theorem sizeChangesGo_ge : ∀ (xs : List Change) (n : Int), n ≤ sizeChangesGo n xs
  | [], n => Int.le_refl _
  | x :: xs, n => by
    unfold sizeChangesGo
    split
    · have := sizeChangesGo_ge xs (n + x.k.size)
      omega
    · exact Int.le_refl _
theorem sizeChanges_ge (xs : List Change) : (xs.length : Int) ≤ sizeChanges xs := sizeChangesGo_ge xs _
theorem sizeChangesGo_le : ∀ (xs : List Change) (n : Int), (∀ x ∈ xs, x.k.size ≤ 140737488351232) → n ≤ 6000000000000 → sizeChangesGo n xs ≤ 146737488351232
  | [], n, _, h => by unfold sizeChangesGo; omega
  | x :: xs, n, hs, h => by
    unfold sizeChangesGo
    have h1 := hs x (List.mem_cons_self ..)
    split
    · rename_i hn
      by_cases hc : n + x.k.size ≤ 1048576
      · exact sizeChangesGo_le xs _ (fun y hy => hs y (List.mem_cons_of_mem _ hy)) (by omega)
      · have : sizeChangesGo (n + x.k.size) xs = n + x.k.size := by
          cases xs with
          | nil => rfl
          | cons y ys => unfold sizeChangesGo; rw [if_neg hc]
        rw [this]; omega
    · omega
theorem sizeChanges_le (xs : List Change) (hl : xs.length * 24 ≤ 140737488351232) (hs : ∀ x ∈ xs, x.k.size ≤ 140737488351232) : sizeChanges xs ≤ 146737488351232 := sizeChangesGo_le xs _ hs (by omega)

def SAct.sz (x : SAct) : Int := 1 + x.k.size + sizeChanges x.cs + x.f.size + x.t.size
theorem SAct.sz_pos (x : SAct) : 1 + (x.cs.length : Int) ≤ x.sz := by
  have := sizeChanges_ge x.cs
  unfold SAct.sz
  omega
def szS (xs : List SAct) : Int := (xs.map SAct.sz).sum
theorem szS_take (xs : List SAct) (k : Nat) (x : SAct) (h : xs[k]? = some x) : szS (xs.take (k + 1)) = szS (xs.take k) + x.sz := by
  obtain ⟨hk, rfl⟩ := List.getElem?_eq_some_iff.1 h
  rw [List.take_succ_eq_append_getElem hk]
  unfold szS
  rw [List.map_append, List.sum_append]
  simp only [List.map_cons, List.map_nil, List.sum_cons, List.sum_nil, Int.add_zero]
theorem szS_nonneg (xs : List SAct) : 0 ≤ szS xs := by
  unfold szS
  induction xs with
  | nil => simp
  | cons x xs ih => simp only [List.map_cons, List.sum_cons]; have := x.sz_pos; omega
theorem szS_le (xs : List SAct) (k : Nat) : szS (xs.take k) ≤ szS xs := by
  have h : szS xs = szS (xs.take k) + szS (xs.drop k) := by
    unfold szS
    rw [← List.sum_append, ← List.map_append, List.take_append_drop]
  have := szS_nonneg (xs.drop k)
  omega
def greatS (xs : List SAct) : Bool := decide (10000 < szS xs) || decide (200 < xs.length)
theorem greatS_of {xs : List SAct} {k : Nat} (h : 10000 < szS (xs.take k)) : greatS xs = true := by
  have := szS_le xs k
  simp [greatS, show 10000 < szS xs by omega]

end Go.Proofs.YtanjgeacmpmjhaaGreatDoor
