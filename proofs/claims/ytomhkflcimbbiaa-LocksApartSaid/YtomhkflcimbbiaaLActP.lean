import Derived.Test.YtomhkflcimbbiaaLAlive
import Derived.Test.YtomhkflcimbbiaaShape
set_option linter.unusedVariables false
set_option linter.unusedSimpArgs false
set_option linter.unusedSectionVars false
namespace Go.Proofs.Ytomhkflcimbbiaa
open Go.RowKit

/-! ### acts -/
structure LAct where
  q : Int
  who : Int
  f : ByteArray
  t : ByteArray
  a : Bool
abbrev LAct.enc (x : LAct) : List Value := [.int .u8 x.q, .int .u32 x.who, .string x.f, .string x.t, .bool x.a]
instance : Inhabited LAct := ⟨⟨0, 0, ByteArray.empty, ByteArray.empty, false⟩⟩
def LAct.ok (x : LAct) : Prop := (Lit.int .u8 x.q).wf = true ∧ okU x.who ∧ small x.f ∧ small x.t
theorem lact_len (x : LAct) : x.enc.length = 5 := rfl
theorem lact_one (x : LAct) : ∀ u ∈ x.enc, u.oneCell' = true := fun u hu => by
  simp only [List.mem_cons, List.not_mem_nil, or_false] at hu
  rcases hu with rfl | rfl | rfl | rfl | rfl <;> rfl
theorem lact_of {w : World} {cs : List Value} (h : Sh.holds w (.struct [.int .u8, .int .u32, .struct [.str, .str], .bool]) cs) : ∃ x : LAct, cs = x.enc ∧ x.ok := by
  rw [Sh.holds] at h
  simp only [Sh.holdsAll] at h
  obtain ⟨_, _, rfl, ⟨v0, rfl, h0⟩, _, _, rfl, ⟨v1, rfl, h1⟩, _, _, rfl, h2, _, _, rfl, ⟨v3, rfl⟩, rfl⟩ := h
  obtain ⟨s, rfl, h2a, h2b⟩ := span_of h2
  exact ⟨⟨v0, v1, s.f, s.t, v3⟩, rfl, h0, h1, h2a, h2b⟩
theorem lacts_of {w : World} {v : Value} (h : Sh.holds w (.slice (.struct [.int .u8, .int .u32, .struct [.str, .str], .bool]) 48) [v]) :
    ∃ xs : List LAct, Rd LAct.enc 5 w v xs ∧ xs.length * 48 ≤ 140737488351232 ∧ ∀ x ∈ xs, x.ok := rd_of (fun _ h => lact_of h) h
theorem Rd.lact {w : World} {A : Option Addr} {n c : Nat} {xs : List LAct} (h : Rd LAct.enc 5 w (.slice A n c) xs) {i : Nat} {x : LAct} (hi : xs[i]? = some x) :
    ∃ b o, A = some ⟨b, o, none⟩ ∧ w.cell? ⟨b, o + i * 5, none⟩ = some (.int .u8 x.q) ∧ w.cell? ⟨b, o + i * 5 + 1, none⟩ = some (.int .u32 x.who) ∧ w.cell? ⟨b, o + i * 5 + 2, none⟩ = some (.string x.f) ∧
      w.cell? ⟨b, o + i * 5 + 3, none⟩ = some (.string x.t) ∧ w.cell? ⟨b, o + i * 5 + 4, none⟩ = some (.bool x.a) := by
  obtain ⟨b, o, hA, hc⟩ := h.at_ hi
  exact ⟨b, o, hA, hc 0 _ rfl, hc 1 _ rfl, hc 2 _ rfl, hc 3 _ rfl, hc 4 _ rfl⟩
theorem LAct.byte {x : LAct} (h : x.ok) : 0 ≤ x.q ∧ x.q ≤ 255 := by
  have h := h.1
  simp [Lit.wf, IntKind.min, IntKind.max, IntKind.signed, IntKind.bits] at h
  omega

/-! ### what was told that all have -/
structure Held where
  who : Int
  f : ByteArray
  t : ByteArray
  a : Bool
abbrev Held.enc (x : Held) : List Value := [.int .u32 x.who, .string x.f, .string x.t, .bool x.a]
instance : Inhabited Held := ⟨⟨0, ByteArray.empty, ByteArray.empty, false⟩⟩
theorem held_len (x : Held) : x.enc.length = 4 := rfl
theorem held_one (x : Held) : ∀ u ∈ x.enc, u.oneCell' = true := fun u hu => by
  simp only [List.mem_cons, List.not_mem_nil, or_false] at hu
  rcases hu with rfl | rfl | rfl | rfl <;> rfl
theorem Rd.held {w : World} {A : Option Addr} {n c : Nat} {xs : List Held} (h : Rd Held.enc 4 w (.slice A n c) xs) {i : Nat} {x : Held} (hi : xs[i]? = some x) :
    ∃ b o, A = some ⟨b, o, none⟩ ∧ w.cell? ⟨b, o + i * 4, none⟩ = some (.int .u32 x.who) ∧ w.cell? ⟨b, o + i * 4 + 1, none⟩ = some (.string x.f) ∧
      w.cell? ⟨b, o + i * 4 + 2, none⟩ = some (.string x.t) ∧ w.cell? ⟨b, o + i * 4 + 3, none⟩ = some (.bool x.a) := by
  obtain ⟨b, o, hA, hc⟩ := h.at_ hi
  exact ⟨b, o, hA, hc 0 _ rfl, hc 1 _ rfl, hc 2 _ rfl, hc 3 _ rfl⟩

/-- What an act makes of a table; g: somebody got a span. -/
def ActIs (T : Tab) (x : LAct) (T' : Tab) (g : Bool) : Prop :=
  (x.q % 6 < 4 ∧ mayL x.who x.f x.t = false ∧ T' = T ∧ g = false) ∨
  (x.q % 6 < 4 ∧ mayL x.who x.f x.t = true ∧ (∃ o, InWay T x.who x.f x.t x.a o) ∧ T' = T ∧ g = false) ∨
  (x.q % 6 < 4 ∧ mayL x.who x.f x.t = true ∧ (∀ o, ¬ InWay T x.who x.f x.t x.a o) ∧ T' = putT T x.who (addL x.f x.t x.a (T x.who)) ∧ g = true) ∨
  (x.q % 6 = 4 ∧ T' = putT T x.who [] ∧ g = false) ∨
  (x.q % 6 = 5 ∧ T' = T ∧ g = false)
theorem ActIs.tidy {T T' : Tab} {x : LAct} {g : Bool} (h : ActIs T x T' g) (ht : Tidy T) : Tidy T' := by
  rcases h with ⟨_, _, rfl, _⟩ | ⟨_, _, _, rfl, _⟩ | ⟨_, hm, hno, rfl, _⟩ | ⟨_, rfl, _⟩ | ⟨_, rfl, _⟩
  · exact ht
  · exact ht
  · exact ht.add hm hno
  · exact ht.free _
  · exact ht
theorem ActIs.len {T T' : Tab} {x : LAct} {g : Bool} {k : Nat} (h : ActIs T x T' g) (hl : ∀ o, (T o).length ≤ k) (o : Int) : (T' o).length ≤ k + 1 := by
  have h0 := hl o
  rcases h with ⟨_, _, rfl, _⟩ | ⟨_, _, _, rfl, _⟩ | ⟨_, hm, hno, rfl, _⟩ | ⟨_, rfl, _⟩ | ⟨_, rfl, _⟩
  · omega
  · omega
  · unfold putT
    split
    · exact Nat.le_trans (addL_length _ _ _ _) (by have := hl x.who; omega)
    · omega
  · unfold putT
    split
    · simp
    · omega
  · omega

/-- What all have then, as it is told. -/
def heldF (x : LAct) (g : Bool) (hs : List Held) : List Held := if g then hs ++ [⟨x.who, x.f, x.t, x.a⟩] else if x.q % 6 = 4 then hs.filter fun h => decide (h.who ≠ x.who) else hs

/-! ### rows beside a table -/
theorem Own.tstep {α : Type} {enc : α → List Value} {k : Nat} {E : TypeId} {b base : Nat} {w w' : World} {v : Value} {xs : List α} (h : Own enc k E b w v xs) (s : TStep base w w') (hE : E ≠ 70) : Own enc k E b w' v xs := by
  refine ⟨h.1, ?_⟩
  rcases h.2 with h0 | ⟨g, cap, cur, hv, hb, hg, hr⟩
  · exact .inl h0
  · exact .inr ⟨g, cap, cur, hv, hb, s.cells hg hE, hr⟩
theorem Own.cellsAt {α : Type} {enc : α → List Value} {k : Nat} {E : TypeId} {b : Nat} {w : World} {v : Value} {xs : List α} (h : Own enc k E b w v xs) (g : Nat) (hg : v.ownBlock = some g) : ∃ cur fr, w.heap[g]? = some (.cells cur E fr) := by
  rcases h.2 with ⟨rfl, _⟩ | ⟨g', cap, cur, rfl, _, hh, _⟩
  · simp [Value.ownBlock] at hg
  · have : g' = g := by simpa [Value.ownBlock] using hg
    subst this
    exact ⟨_, _, hh⟩
theorem TabP.kept {base : Nat} {w w' : World} {B n : Nat} {T : Tab} {row : Option Nat} (h : TabP base w B n T) (hg : w.grownBy w' row)
    (hr : ∀ g, row = some g → ∃ cur E fr, w.heap[g]? = some (.cells cur E fr) ∧ E ≠ 70 ∧ E ≠ 28) : TabP base w' B n T := by
  obtain ⟨M, D, h⟩ := h
  refine ⟨M, D, (hg.block B h.lt fun e => ?_).trans h.obj, h.map.kept hg (fun e => ?_) (fun x v hx hv => ?_), h.low, h.dom⟩
  · obtain ⟨cur, E, fr, h1, _, h3⟩ := hr B e.symm
    rw [h.obj] at h1
    injection h1 with h1
    injection h1 with _ h1
    exact h3 h1.symm
  · obtain ⟨cur, E, fr, h1, _⟩ := hr M e.symm
    obtain ⟨es, clock, hb, _⟩ := h.map.own
    rw [hb] at h1; cases h1
  · obtain ⟨v', hv', ho⟩ := h.map.elem x hx
    rw [hv] at hv'
    injection hv' with hv'
    subst hv'
    cases hb : v.ownBlock with
    | none => exact .inl rfl
    | some g =>
      refine .inr fun e => ?_
      obtain ⟨cur, E, fr, h1, h2, _⟩ := hr g e.symm
      obtain ⟨_, _, cur', hc⟩ := ho.lt g hb
      rw [h1] at hc
      injection hc with hc
      injection hc with _ hc
      exact h2 hc

theorem held_under : Try.prog.underlying 43 = some (.slice 50) := by kernel_rfl
theorem info_held : (Try.prog.info? 50).map (fun i => (i.zero, i.size, i.bytes)) = some (some (.agg #[.int .u32 0, .string ⟨#[]⟩, .string ⟨#[]⟩, .bool false]), 4, 48) := by kernel_rfl

set_option maxHeartbeats 400000 in
theorem lgreat_calls (v : Value) (xs : List LAct) (w : World) (hv : Rd LAct.enc 5 w v xs) :
    Calls Try.prog 16 #[v] w fun e w' => (∃ g, e = .returned (.bool g)) ∧ Below w.heap.size w w' := by
  obtain ⟨A, c, rfl, hlc, hc⟩ := hv.shape
  go_enter Try.func16, Try.ntmps16
  go_wp2
  go_loopw [3, 4] (fun nv iv wr => ∃ (k : Nat) (n : Int), k ≤ xs.length ∧ iv = .int .i64 k ∧ nv = .int .i64 n ∧ Below w.heap.size w wr) (fun _ iv _ => xs.length - (intOf iv).toNat)
  case atStart => exact ⟨0, 0, Nat.zero_le _, rfl, rfl, Below.refl _ _⟩
  case round =>
    obtain ⟨k, n, hk, rfl, rfl, hb⟩ := hrel
    by_cases hlt : k < xs.length
    · have hxk := List.getElem?_eq_getElem hlt
      obtain ⟨b, o, rfl, hx1, hx2, hx3, hx4, hx5⟩ := (hv.below hb).lact hxk
      generalize xs[k] = x at *
      clear hx1 hx2 hx5
      go_wp2
      go_region
      all_goals go_wp2
      all_goals first
        | (go_ret
           exact ⟨⟨_, rfl⟩, hb.drew⟩)
        | (go_roundw
           case rel => exact ⟨k + 1, _, by omega, by go_num, rfl, hb.drew⟩
           case measure => simp [intOf]; omega)
    · go_wp2
      go_ret
      exact ⟨⟨_, rfl⟩, hb⟩

end Go.Proofs.Ytomhkflcimbbiaa
