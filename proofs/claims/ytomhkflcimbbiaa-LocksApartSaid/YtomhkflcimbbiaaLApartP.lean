import Derived.Test.YtomhkflcimbbiaaLAskR
import Derived.Test.YtomhkflcimbbiaaLPut
set_option linter.unusedVariables false
set_option linter.unusedSimpArgs false
set_option linter.unusedSectionVars false
namespace Go.Proofs.Ytomhkflcimbbiaa
open Go.RowKit Go.Shelf

/-! ### what is held is what was told -/
structure Told (T : Tab) (hs : List Held) : Prop where
  held : ∀ h ∈ hs, ∃ y ∈ T h.who, y.f = h.f ∧ y.t = h.t ∧ (h.a = true → y.a = true)
  had : ∀ o, ∀ y ∈ T o, (∃ h ∈ hs, h.who = o ∧ h.f = y.f ∧ h.t = y.t) ∧ (y.a = true → ∃ h ∈ hs, h.who = o ∧ h.f = y.f ∧ h.t = y.t ∧ h.a = true)
theorem Told.new : Told (fun _ => []) [] := ⟨fun h hh => (nomatch hh), fun o y hy => (nomatch hy)⟩
theorem Told.act {T T' : Tab} {hs : List Held} {x : LAct} {g : Bool} (h : Told T hs) (ha : ActIs T x T' g) : Told T' (heldF x g hs) := by
  have same : ∀ {T' : Tab}, T' = T → heldF x g hs = hs → Told T' (heldF x g hs) := fun e1 e2 => by rw [e1, e2]; exact h
  rcases ha with ⟨hq, _, e, rfl⟩ | ⟨hq, _, _, e, rfl⟩ | ⟨hq, hm, hno, rfl, rfl⟩ | ⟨hq, rfl, rfl⟩ | ⟨hq, e, rfl⟩
  · exact same e (by unfold heldF; rw [if_neg (by decide), if_neg (by omega)])
  · exact same e (by unfold heldF; rw [if_neg (by decide), if_neg (by omega)])
  · obtain ⟨q, who, f, t, al⟩ := x
    simp only at hq hm hno ⊢
    have e2 : heldF ⟨q, who, f, t, al⟩ true hs = hs ++ [⟨who, f, t, al⟩] := by unfold heldF; rw [if_pos rfl]
    rw [e2]
    refine ⟨fun u hu => ?_, fun o y hy => ?_⟩
    · rcases List.mem_append.1 hu with hu | hu
      · obtain ⟨y, hy, h1, h2, h3⟩ := h.held u hu
        by_cases e : who = u.who
        · subst e
          obtain ⟨z, hz, z1, z2, z3⟩ := addL_keep (f := f) (t := t) (al := al) hy
          exact ⟨z, by unfold putT; rw [if_pos rfl]; exact hz, z1.trans h1, z2.trans h2, fun a => z3 (h3 a)⟩
        · exact ⟨y, by unfold putT; rw [if_neg e]; exact hy, h1, h2, h3⟩
      · rw [List.mem_singleton] at hu
        subst hu
        obtain ⟨z, hz, z1, z2, z3, _⟩ := addL_has (f := f) (t := t) (al := al) (l := T who)
        exact ⟨z, by simp only [putT]; simpa using hz, z1, z2, z3⟩
    · have old : ∀ {o : Int} {y : Lock}, y ∈ T o → (∃ u ∈ hs ++ [⟨who, f, t, al⟩], u.who = o ∧ u.f = y.f ∧ u.t = y.t) ∧ (y.a = true → ∃ u ∈ hs ++ [⟨who, f, t, al⟩], u.who = o ∧ u.f = y.f ∧ u.t = y.t ∧ u.a = true) := fun {o y} hy => by
        obtain ⟨⟨u, hu, hh⟩, h2⟩ := h.had o y hy
        refine ⟨⟨u, List.mem_append_left _ hu, hh⟩, fun a => ?_⟩
        obtain ⟨u, hu, hh⟩ := h2 a
        exact ⟨u, List.mem_append_left _ hu, hh⟩
      have hl : (⟨who, f, t, al⟩ : Held) ∈ hs ++ [⟨who, f, t, al⟩] := by simp
      unfold putT at hy
      split at hy
      · rename_i e
        subst e
        rcases addL_mem hy with hy | ⟨h1, h2, h3⟩
        · exact old hy
        · refine ⟨⟨_, hl, rfl, h1.symm, h2.symm⟩, fun a => ?_⟩
          rcases h3 with h3 | ⟨z, hz, z1, z2, h3⟩
          · exact ⟨_, hl, rfl, h1.symm, h2.symm, by rw [← h3]; exact a⟩
          · cases hza : z.a
            · rw [h3, hza, Bool.false_or] at a
              exact ⟨_, hl, rfl, h1.symm, h2.symm, a⟩
            · obtain ⟨u, hu, k1, k2, k3, k4⟩ := (old hz).2 hza
              exact ⟨u, hu, k1, k2.trans (z1.trans h1.symm), k3.trans (z2.trans h2.symm), k4⟩
      · exact old hy
  · obtain ⟨q, who, f, t, al⟩ := x
    simp only at hq ⊢
    have e2 : heldF ⟨q, who, f, t, al⟩ false hs = hs.filter fun u => decide (u.who ≠ who) := by unfold heldF; rw [if_neg (by decide), if_pos hq]
    rw [e2]
    refine ⟨fun u hu => ?_, fun o y hy => ?_⟩
    · rw [List.mem_filter, decide_eq_true_eq] at hu
      obtain ⟨y, hy, hh⟩ := h.held u hu.1
      exact ⟨y, by unfold putT; rw [if_neg fun e => hu.2 e.symm]; exact hy, hh⟩
    · unfold putT at hy
      split at hy
      · cases hy
      · rename_i e
        obtain ⟨⟨u, hu, k1, k2⟩, h2⟩ := h.had o y hy
        refine ⟨⟨u, List.mem_filter.2 ⟨hu, decide_eq_true fun e' => e (e'.symm.trans k1)⟩, k1, k2⟩, fun a => ?_⟩
        obtain ⟨u, hu, k1, k2⟩ := h2 a
        exact ⟨u, List.mem_filter.2 ⟨hu, decide_eq_true fun e' => e (e'.symm.trans k1)⟩, k1, k2⟩
  · exact same e (by unfold heldF; rw [if_neg (by decide), if_neg (by omega)])

theorem heldF_length (x : LAct) (g : Bool) (hs : List Held) : (heldF x g hs).length ≤ hs.length + 1 := by
  unfold heldF
  split
  · simp
  · split
    · exact Nat.le_trans (List.length_filter_le _ _) (Nat.le_succ _)
    · exact Nat.le_succ _
/-- asked, and nothing got: the table is as it was. -/
theorem ActIs.none {T T' : Tab} {x : LAct} {g : Bool} {hs : List Held} (ha : ActIs T x T' g) (hq : x.q % 6 < 4) (hl : (heldF x g hs).length = hs.length) : T' = T := by
  rcases ha with ⟨_, _, e, rfl⟩ | ⟨_, _, _, e, rfl⟩ | ⟨_, hm, hno, rfl, rfl⟩ | ⟨hq', rfl, rfl⟩ | ⟨_, e, rfl⟩
  · exact e
  · exact e
  · unfold heldF at hl
    rw [if_pos rfl] at hl
    simp at hl
  · omega
  · exact e

/-- is one that is told in the way? -/
def hitH (who : Int) (f t : Str) (al : Bool) (h : Held) : Bool := (decide (h.who ≠ who) && (h.a || al)) && meet4 h.f h.t f t
theorem Told.way {T : Tab} {hs : List Held} (h : Told T hs) {who : Int} {f t : Str} {al : Bool} {o : Int} : InWay T who f t al o ↔ ∃ u ∈ hs, u.who = o ∧ hitH who f t al u = true := by
  constructor
  · rintro ⟨hne, y, hy, hh⟩
    unfold hitL at hh
    rw [Bool.and_eq_true, Bool.or_eq_true] at hh
    obtain ⟨h1, h2⟩ := h.had o y hy
    rcases hh.1 with ha | ha
    · obtain ⟨u, hu, k1, k2, k3⟩ := h1
      refine ⟨u, hu, k1, ?_⟩
      unfold hitH
      rw [k1, k2, k3, hh.2, ha, decide_eq_true hne]; simp
    · obtain ⟨u, hu, k1, k2, k3, k4⟩ := h2 ha
      refine ⟨u, hu, k1, ?_⟩
      unfold hitH
      rw [k1, k2, k3, hh.2, k4, decide_eq_true hne]; simp
  · rintro ⟨u, hu, rfl, hh⟩
    unfold hitH at hh
    rw [Bool.and_eq_true, Bool.and_eq_true, decide_eq_true_eq, Bool.or_eq_true] at hh
    obtain ⟨⟨hne, ha⟩, hm⟩ := hh
    obtain ⟨y, hy, k1, k2, k3⟩ := h.held u hu
    refine ⟨hne, y, hy, ?_⟩
    unfold hitL
    rw [k1, k2, hm]
    rcases ha with ha | ha
    · rw [k3 ha]; simp
    · rw [ha]; simp

def wantF (who : Int) (f t : Str) (al : Bool) (hs : List Held) : List Int := hs.foldl (fun l h => if hitH who f t al h then putL l h.who else l) []
theorem wantF_snoc {who : Int} {f t : Str} {al : Bool} {hs : List Held} {k : Nat} {u : Held} (h : hs[k]? = some u) :
    wantF who f t al (hs.take (k + 1)) = if hitH who f t al u then putL (wantF who f t al (hs.take k)) u.who else wantF who f t al (hs.take k) := by
  unfold wantF
  rw [List.take_add_one, h]
  simp only [Option.toList_some, List.foldl_append, List.foldl_cons, List.foldl_nil]
theorem wantF_is {T : Tab} {hs : List Held} (h : Told T hs) (who : Int) (f t : Str) (al : Bool) : WayIs T who f t al (wantF who f t al hs) := by
  have key : ∀ (xs : List Held) (l : List Int), l.Pairwise (· < ·) → (xs.foldl (fun l h => if hitH who f t al h then putL l h.who else l) l).Pairwise (· < ·) ∧
      ∀ o, o ∈ xs.foldl (fun l h => if hitH who f t al h then putL l h.who else l) l ↔ o ∈ l ∨ ∃ u ∈ xs, u.who = o ∧ hitH who f t al u = true := by
    intro xs
    induction xs with
    | nil => intro l hl; exact ⟨hl, fun o => by simp⟩
    | cons u xs ih =>
      intro l hl
      rw [List.foldl_cons]
      by_cases hh : hitH who f t al u = true
      · rw [if_pos hh]
        obtain ⟨h1, h2⟩ := ih _ (putL_rise (x := u.who) hl)
        refine ⟨h1, fun o => ?_⟩
        rw [h2, putL_mem, or_assoc]
        refine or_congr Iff.rfl ?_
        constructor
        · rintro (rfl | ⟨v, hv, hh'⟩)
          · exact ⟨u, by simp, rfl, hh⟩
          · exact ⟨v, by simp [hv], hh'⟩
        · rintro ⟨v, hv, e, hh'⟩
          rcases List.mem_cons.1 hv with rfl | hv
          · exact .inl e.symm
          · exact .inr ⟨v, hv, e, hh'⟩
      · rw [if_neg hh]
        obtain ⟨h1, h2⟩ := ih _ hl
        refine ⟨h1, fun o => ?_⟩
        rw [h2]
        refine or_congr Iff.rfl ?_
        constructor
        · rintro ⟨v, hv, hh'⟩
          exact ⟨v, by simp [hv], hh'⟩
        · rintro ⟨v, hv, e, hh'⟩
          rcases List.mem_cons.1 hv with rfl | hv
          · exact absurd hh' hh
          · exact ⟨v, hv, e, hh'⟩
  obtain ⟨h1, h2⟩ := key hs [] .nil
  exact ⟨h1, fun o => (h2 o).trans ((by simp : (o ∈ ([] : List Int) ∨ ∃ u ∈ hs, u.who = o ∧ hitH who f t al u = true) ↔ _).trans h.way.symm)⟩
theorem wantF_length (who : Int) (f t : Str) (al : Bool) (hs : List Held) : (wantF who f t al hs).length ≤ hs.length := by
  have key : ∀ (xs : List Held) (l : List Int), (xs.foldl (fun l h => if hitH who f t al h then putL l h.who else l) l).length ≤ l.length + xs.length := by
    intro xs
    induction xs with
    | nil => intro l; exact Nat.le_refl _
    | cons u xs ih =>
      intro l
      rw [List.foldl_cons, List.length_cons]
      split
      · exact Nat.le_trans (ih _) (by have := putL_length l u.who; omega)
      · exact Nat.le_trans (ih _) (by omega)
  have := key hs []
  rw [List.length_nil, Nat.zero_add] at this
  exact this
/-- no two of two parties meet where one is alone. -/
theorem Told.apart {T : Tab} {hs : List Held} (h : Told T hs) (ht : Tidy T) {u v : Held} (hu : u ∈ hs) (hv : v ∈ hs) : ((u.who != v.who) && (u.a || v.a)) = true → meet4 u.f u.t v.f v.t = false := by
  intro hh
  rw [Bool.and_eq_true, Bool.or_eq_true, bne_iff_ne] at hh
  obtain ⟨y, hy, k1, k2, k3⟩ := h.held u hu
  obtain ⟨z, hz, l1, l2, l3⟩ := h.held v hv
  have := ht.apart u.who v.who hh.1 y hy z hz (by
    rcases hh.2 with a | a
    · rw [k3 a]; rfl
    · rw [l3 a]; simp)
  rw [k1, k2, l1, l2] at this
  exact this
end Go.Proofs.Ytomhkflcimbbiaa
