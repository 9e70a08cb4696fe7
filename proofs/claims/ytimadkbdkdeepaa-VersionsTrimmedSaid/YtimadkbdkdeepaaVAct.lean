import Derived.Test.YtimadkbdkdeepaaKinds
set_option linter.unusedVariables false
set_option linter.unusedSimpArgs false
namespace Go.Proofs.Ytimadkbdkdeepaa
open Go.RowKit

/-! ### what is done with a past: acts that hold lists of changes -/
structure VAct where
  q : Int
  v : Value
  cs : List Change
  at_ : Int
abbrev VAct.enc (x : VAct) : List Value := [.int .u8 x.q, x.v, .int .u32 x.at_]
structure VAct.ok (w : World) (x : VAct) : Prop where
  q : (Lit.int .u8 x.q).wf = true
  at_ : (Lit.int .u32 x.at_).wf = true
  rd : Rd Change.enc 3 w x.v x.cs
  len : x.cs.length * 24 ≤ 140737488351232
  each : ∀ c ∈ x.cs, c.ok

theorem vact_len (x : VAct) : x.enc.length = 3 := rfl

theorem vact_of {w : World} {cs : List Value} (h : Sh.holds w (.struct [.int .u8, .slice (.struct [.str, .int .u32, .bool]) 24, .int .u32]) cs) : ∃ x : VAct, cs = x.enc ∧ x.ok w := by
  rw [Sh.holds] at h
  simp only [Sh.holdsAll] at h
  obtain ⟨_, _, rfl, h0, _, _, rfl, h1, _, _, rfl, h2, rfl⟩ := h
  obtain ⟨n0, rfl, k0⟩ := h0
  obtain ⟨n2, rfl, k2⟩ := h2
  have h1' := h1
  rw [Sh.holds] at h1
  obtain ⟨A, n, c, rfl, _⟩ := h1
  obtain ⟨xs, rd, len, ok⟩ := changes_of h1'
  exact ⟨⟨n0, .slice A n c, xs, n2⟩, rfl, k0, k2, rd, len, ok⟩

theorem vacts_of {w : World} {v : Value} {bytes : Nat} (h : Sh.holds w (.slice (.struct [.int .u8, .slice (.struct [.str, .int .u32, .bool]) 24, .int .u32]) bytes) [v]) :
    ∃ xs : List VAct, Rd VAct.enc 3 w v xs ∧ xs.length * bytes ≤ 140737488351232 ∧ ∀ x ∈ xs, x.ok w := rd_of (fun _ h => vact_of h) h

theorem Rd.vact {w : World} {A : Option Addr} {n c : Nat} {xs : List VAct} (h : Rd VAct.enc 3 w (.slice A n c) xs) {i : Nat} {x : VAct} (hi : xs[i]? = some x) :
    ∃ b o, A = some ⟨b, o, none⟩ ∧ w.cell? ⟨b, o + i * 3, none⟩ = some (.int .u8 x.q) ∧ w.cell? ⟨b, o + i * 3 + 1, none⟩ = some x.v ∧ w.cell? ⟨b, o + i * 3 + 2, none⟩ = some (.int .u32 x.at_) := by
  obtain ⟨b, o, hA, hc⟩ := h.at_ hi
  exact ⟨b, o, hA, hc 0 _ rfl, hc 1 _ rfl, hc 2 _ rfl⟩

/-- What is done, a commit, three keys. -/
theorem vone_of {w : World} {cs : List Value} {bytes : Nat} (h : Sh.holds w (.struct [.slice (.struct [.int .u8, .slice (.struct [.str, .int .u32, .bool]) 24, .int .u32]) bytes, .int .u32, .str, .str, .str]) cs) :
    ∃ (v : Value) (xs : List VAct) (m : Int) (a b c : ByteArray), cs = [v, .int .u32 m, .string a, .string b, .string c] ∧ Rd VAct.enc 3 w v xs ∧ xs.length * bytes ≤ 140737488351232 ∧ (∀ x ∈ xs, x.ok w) ∧ (Lit.int .u32 m).wf = true ∧ small a ∧ small b ∧ small c := by
  rw [Sh.holds] at h
  simp only [Sh.holdsAll] at h
  obtain ⟨_, _, rfl, h0, _, _, rfl, h1, _, _, rfl, h2, _, _, rfl, h3, _, _, rfl, h4, rfl⟩ := h
  obtain ⟨m, rfl, k1⟩ := h1
  obtain ⟨a, rfl, k2⟩ := h2
  obtain ⟨b, rfl, k3⟩ := h3
  obtain ⟨c, rfl, k4⟩ := h4
  have h0' := h0
  rw [Sh.holds] at h0
  obtain ⟨A, n, c', rfl, _⟩ := h0
  obtain ⟨xs, rd, len, ok⟩ := vacts_of h0'
  exact ⟨_, xs, m, a, b, c, rfl, rd, len, ok, k1, k2, k3, k4⟩

/-- What is done, a span, a commit, a change. -/
theorem vsince_of {w : World} {cs : List Value} {bytes : Nat} (h : Sh.holds w (.struct [.slice (.struct [.int .u8, .slice (.struct [.str, .int .u32, .bool]) 24, .int .u32]) bytes, .struct [.str, .str], .int .u32, .struct [.str, .int .u32, .bool]]) cs) :
    ∃ (v : Value) (xs : List VAct) (s : Span) (m : Int) (c : Change), cs = [v, .string s.f, .string s.t, .int .u32 m, .string c.k, .int .u32 c.v, .bool c.g] ∧ Rd VAct.enc 3 w v xs ∧ xs.length * bytes ≤ 140737488351232 ∧ (∀ x ∈ xs, x.ok w) ∧ (Lit.int .u32 m).wf = true ∧ s.ok ∧ c.ok := by
  rw [Sh.holds] at h
  simp only [Sh.holdsAll] at h
  obtain ⟨_, _, rfl, h0, _, _, rfl, h1, _, _, rfl, h2, _, _, rfl, h3, rfl⟩ := h
  obtain ⟨m, rfl, k2⟩ := h2
  obtain ⟨s, rfl, k1⟩ := span_of h1
  obtain ⟨c, rfl, k3⟩ := change_of h3
  have h0' := h0
  rw [Sh.holds] at h0
  obtain ⟨A, n, c', rfl, _⟩ := h0
  obtain ⟨xs, rd, len, ok⟩ := vacts_of h0'
  exact ⟨_, xs, s, m, c, rfl, rd, len, ok, k2, k1, k3⟩

/-- how much is done. -/
def sumA (xs : List VAct) : Nat := (xs.map fun x => 1 + x.cs.length).sum
theorem sumA_take (xs : List VAct) (k : Nat) (x : VAct) (h : xs[k]? = some x) : sumA (xs.take (k + 1)) = sumA (xs.take k) + (1 + x.cs.length) := by
  unfold sumA
  rw [List.take_add_one, h]
  simp
theorem sumA_le (xs : List VAct) (k : Nat) : sumA (xs.take k) ≤ sumA xs := by
  unfold sumA
  conv => rhs; rw [← List.take_append_drop k xs, List.map_append, List.sum_append]
  omega
theorem sumA_bound {w : World} (xs : List VAct) (h : ∀ x ∈ xs, x.ok w) : sumA xs ≤ xs.length * 6000000000000 := by
  induction xs with
  | nil => simp [sumA]
  | cons x xs ih =>
    have h1 := (h x (by simp)).len
    have h2 := ih (fun y hy => h y (by simp [hy]))
    unfold sumA at *
    simp only [List.map_cons, List.sum_cons, List.length_cons]
    omega

end Go.Proofs.Ytimadkbdkdeepaa
