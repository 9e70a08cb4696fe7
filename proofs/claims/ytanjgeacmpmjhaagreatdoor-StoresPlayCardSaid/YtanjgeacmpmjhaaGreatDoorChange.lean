import Derived.Test.YtanjgeacmpmjhaaGreatDoorActs
import Derived.Test.YtanjgeacmpmjhaaGreatDoorIfChange
import Derived.Test.YtanjgeacmpmjhaaGreatDoorChPure
set_option linter.unusedVariables false
set_option linter.unusedSimpArgs false
namespace Go.Proofs.YtanjgeacmpmjhaaGreatDoor
open Go.RowKit Go.Shelf

/-- Block k is none of the map's. -/
structure OffB (w : World) (B : Nat) (v : Value) (k : Nat) : Prop where
  ne : k ≠ B
  own : v.ownBlock ≠ some k
  lt : k < w.heap.size

theorem OffB.step {w w' : World} {B : Nat} {v v' : Value} {k : Nat} (h : OffB w B v k) (s : Step w w' B v v') : OffB w' B v' k :=
  ⟨h.ne, fun e => by
    rcases s.new k e with e | e
    · exact h.own e
    · have := h.lt; omega, Nat.lt_of_lt_of_le h.lt s.size⟩
theorem OffB.same {w w' : World} {B : Nat} {v v' : Value} {k : Nat} (h : OffB w B v k) (s : Step w w' B v v') : w'.heap[k]? = w.heap[k]? := s.block k h.lt h.ne h.own
theorem OffB.below {w w' : World} {B : Nat} {v : Value} {k : Nat} (h : OffB w B v k) (hb : Below w.heap.size w w') : OffB w' B v k := ⟨h.ne, h.own, Nat.lt_of_lt_of_le h.lt hb.size⟩
theorem MapAt.off {base : Nat} {w : World} {B : Nat} {v : Value} {xs : List Row} (h : MapAt base w B v xs) {k : Nat} (hk : k < base) : OffB w B v k :=
  ⟨by have := h.low; omega, fun e => by have := h.own.base_le k e; omega, by have := h.low; have := h.lt; omega⟩

/-- A slice that is read, none of whose cells are the map's. -/
def RdOff {α : Type} (enc : α → List Value) (k : Nat) (w : World) (B : Nat) (v : Value) (vc : Value) (xs : List α) : Prop :=
  Rd enc k w vc xs ∧ (xs = [] ∨ ∀ b, vc.ownBlock = some b → OffB w B v b)

theorem RdOff.step {α : Type} {enc : α → List Value} {k : Nat} {w w' : World} {B : Nat} {v v' vc : Value} {xs : List α} (h : RdOff enc k w B v vc xs) (s : Step w w' B v v') : RdOff enc k w' B v' vc xs := by
  obtain ⟨⟨A, c, rfl, hl, hc, hr⟩, hoff⟩ := h
  refine ⟨⟨A, c, rfl, hl, hc, fun hp => ?_⟩, ?_⟩
  · obtain ⟨b, o, rfl, hcell⟩ := hr hp
    have hb := (hoff.resolve_left (fun e => by rw [e] at hp; exact absurd hp (Nat.lt_irrefl _))) b rfl
    exact ⟨b, o, rfl, fun i x hi j u hu => by rw [World.cell?_of_block (hb.same s)]; exact hcell i x hi j u hu⟩
  · rcases hoff with h | h
    · exact .inl h
    · exact .inr fun b e => (h b e).step s

theorem RdOff.below {α : Type} {enc : α → List Value} {k : Nat} {w w' : World} {B : Nat} {v vc : Value} {xs : List α} (h : RdOff enc k w B v vc xs) (hb : Below w.heap.size w w') : RdOff enc k w' B v vc xs := h.step (Step.of_below hb B v)

/-- What came in is none of the map's. -/
theorem MapAt.rdOff {α : Type} {enc : α → List Value} {k : Nat} {w0 w : World} {B : Nat} {v vc : Value} {xs : List Row} {ys : List α} (h : MapAt w0.heap.size w B v xs) (hb : Below w0.heap.size w0 w) (hr : Rd enc k w0 vc ys) (hk : ∀ x, (enc x).length = k) (hk0 : 0 < k) : RdOff enc k w B v vc ys := by
  refine ⟨hr.below hb, ?_⟩
  obtain ⟨A, c, rfl, hl, hc, hcell⟩ := hr
  cases ys with
  | nil => exact .inl rfl
  | cons y ys =>
    obtain ⟨b, o, rfl, hcl⟩ := hcell (by simp)
    refine .inr fun b' e => ?_
    injection e with e
    subst e
    cases he : enc y with
    | nil => have := hk y; rw [he] at this; simp at this; omega
    | cons u us => exact h.off (World.block_lt_of_cell? w0 ⟨b, o + 0 * k + 0, none⟩ (hcl 0 y rfl 0 u (by rw [he]; rfl)))

set_option maxHeartbeats 400000 in
theorem change1_calls (x : Change) (hx : x.k.size ≤ 9223372036854775807) (w : World) :
    Calls Tryz.prog 88 #[.agg #[.string x.k, .int .u32 x.v, .bool x.g]] w fun e w' => e = .returned (.bool (!okChange x)) ∧ Below w.heap.size w w' := by
  obtain ⟨xk, xv, xg⟩ := x
  have hcheck := fun W => check_calls xk W hx
  unfold okChange
  simp only at hcheck ⊢
  generalize okKey xk = b at *
  by_cases hz : xv = 0
  · cases b <;> cases xg
    all_goals
      go_enter Tryz.func88, Tryz.ntmps88
      go_wp2_with (go_at_call 89; refine (hcheck _).mono ?_; rintro e w1 ⟨rfl, hb1⟩; have c1 := Below.cell_some hb1 (World.cell?_alloc_at (w := w) _ _ w.heap.size 1 rfl); have c2 := Below.cell_some hb1 (World.cell?_alloc_at (w := w) _ _ w.heap.size 2 rfl))
      go_ret
      exact ⟨ret_bool (by simp [hz]), Below.step ((Below.refl _ w).alloc (Nat.le_refl _) _) hb1⟩
  · cases b <;> cases xg
    all_goals
      go_enter Tryz.func88, Tryz.ntmps88
      go_wp2_with (go_at_call 89; refine (hcheck _).mono ?_; rintro e w1 ⟨rfl, hb1⟩; have c1 := Below.cell_some hb1 (World.cell?_alloc_at (w := w) _ _ w.heap.size 1 rfl); have c2 := Below.cell_some hb1 (World.cell?_alloc_at (w := w) _ _ w.heap.size 2 rfl))
      go_ret
      exact ⟨ret_bool (by simp [hz]), Below.step ((Below.refl _ w).alloc (Nat.le_refl _) _) hb1⟩

set_option maxHeartbeats 400000 in
theorem change_calls {base : Nat} {w : World} {B : Nat} {v vc : Value} {xs : List Row} {cs : List Change} (h : MapAt base w B v xs) (hc : RdOff Change.enc 3 w B v vc cs) (hl : xs.length + cs.length ≤ 1000000) (hk : ∀ c ∈ cs, c.k.size ≤ 9223372036854775807) :
    Calls Tryz.prog 16 #[.pointer (some ⟨B, 0, none⟩), vc] w
      fun e w' => ∃ v', e = .returned (.int .i64 (if cs.all okChange then 0 else 1)) ∧ MapAt base w' B v' (if cs.all okChange then doCs cs xs else xs) ∧ Step w w' B v v' := by
  have hany := containsFuncChange_calls (fun x => !okChange x) 88 #[] (enters_of Tryz.func88 (by kernel_rfl) rfl) vc cs w hc.1 (fun W x hx hb => change1_calls x (hk x hx) W)
  have hall : cs.any (fun x => !okChange x) = !cs.all okChange := by
    rw [List.all_eq_not_any_not, Bool.not_not]
  rw [hall] at hany
  clear hall
  obtain ⟨A, c, rfl, hlc, hcm⟩ := hc.1.shape
  generalize cs.all okChange = b at *
  cases b <;> simp only [↓reduceIte, Bool.false_eq_true, Bool.not_true, Bool.not_false] at hany ⊢
  · go_enter Tryz.func16, Tryz.ntmps16
    go_wp2_with (first
      | (go_at_call 86; refine (there_calls h).mono ?_; rintro e w1 ⟨rfl, rfl⟩)
      | (go_at_call 87; refine hany.mono ?_; rintro e w1 ⟨rfl, hb1⟩))
    go_ret
    exact ⟨v, rfl, h.below hb1, .of_below hb1 B v⟩
  · go_enter Tryz.func16, Tryz.ntmps16
    go_wp2_with (first
      | (go_at_call 86; refine (there_calls h).mono ?_; rintro e w1 ⟨rfl, rfl⟩)
      | (go_at_call 87; refine hany.mono ?_; rintro e w1 ⟨rfl, hb1⟩))
    go_loopw [14] (fun i wr => ∃ (k : Nat) (v' : Value), k ≤ cs.length ∧ i = .int .i64 k ∧ MapAt base wr B v' (doCs (cs.take k) xs) ∧ Step w wr B v v') (fun i _ => cs.length - (intOf i).toNat)
    case atStart => exact ⟨0, v, Nat.zero_le _, rfl, h.below hb1, .of_below hb1 B v⟩
    case round =>
      obtain ⟨k, v', hkl, rfl, hM, hS⟩ := hrel
      by_cases hlt : k < cs.length
      · obtain ⟨b, o, rfl, hx1, hx2, hx3⟩ := (hc.step hS).1.change (List.getElem?_eq_getElem hlt)
        have hsn := doCs_snoc cs k _ (List.getElem?_eq_getElem hlt) xs
        have hlen := doCs_length (cs.take k) xs
        rw [List.length_take] at hlen
        generalize cs[k] = x at *
        obtain ⟨xk, xv, xg⟩ := x
        have hW : ∀ o, Below wr.heap.size wr (wr.alloc o) := fun o => (Below.refl _ wr).alloc (Nat.le_refl _) o
        cases xg with
        | true =>
          have hdrop := fun o => drop_calls (hM.below (hW o)) (by omega) xk
          go_wp2_with (go_at_call 85; refine (hdrop _).mono ?_; rintro e w2 ⟨v2, rfl, h2, s2⟩; clear hx1 hx2 hx3)
          go_roundw
          case rel => exact ⟨k + 1, v2, by omega, by go_num, by rw [hsn]; exact h2, hS.trans ((Step.of_below (hW _) B v').trans s2)⟩
          case measure => simp [intOf]; omega
        | false =>
          have hset := fun o => set_calls (hM.below (hW o)) (by omega) xk xv
          go_wp2_with (go_at_call 82; refine (hset _).mono ?_; rintro e w2 ⟨v2, rfl, h2, s2⟩; clear hx1 hx2 hx3)
          go_roundw
          case rel => exact ⟨k + 1, v2, by omega, by go_num, by rw [hsn]; exact h2, hS.trans ((Step.of_below (hW _) B v').trans s2)⟩
          case measure => simp [intOf]; omega
      · go_wp2
        go_ret
        refine ⟨v', rfl, ?_, hS⟩
        rw [List.take_of_length_le (by omega)] at hM
        exact hM

end Go.Proofs.YtanjgeacmpmjhaaGreatDoor
