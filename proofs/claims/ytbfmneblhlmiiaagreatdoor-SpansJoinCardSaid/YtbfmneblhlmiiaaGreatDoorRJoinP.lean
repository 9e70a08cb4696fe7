import Derived.Test.YtbfmneblhlmiiaaGreatDoorSpansP
set_option linter.unusedVariables false
set_option linter.unusedSimpArgs false
namespace Go.Proofs.YtbfmneblhlmiiaaGreatDoor

/-- one pass over those that are there: each that meets is taken in. -/
def Pass (x0 : Span) (out0 : List Span) (k : Nat) (x : Span) (rest : List Span) (again : Bool) : Prop :=
  rest.Sublist (out0.take k) ∧ sle x.f x.t = true ∧ (∀ p c, x.has p c ∨ cov rest p c ↔ x0.has p c ∨ cov (out0.take k) p c) ∧
    (again = false → x = x0 ∧ rest = out0.take k ∧ ∀ o ∈ rest, meet4 x.f x.t o.f o.t = false) ∧ (again = true → rest.length < k)

theorem Pass.start {x : Span} (hx : sle x.f x.t = true) (out : List Span) : Pass x out 0 x [] false :=
  ⟨by simp, hx, fun p c => by simp, fun _ => ⟨rfl, by simp, by simp⟩, fun h => by cases h⟩

theorem Pass.take {x0 x o : Span} {out0 rest : List Span} {k : Nat} {again : Bool} (h : Pass x0 out0 k x rest again) (ho : out0[k]? = some o) (hm : meet4 x.f x.t o.f o.t = true) : Pass x0 out0 (k + 1) (hull x o) rest true := by
  obtain ⟨h1, h2, h3, h4, h5⟩ := h
  obtain ⟨hl, he⟩ := List.getElem?_eq_some_iff.1 ho
  have ht : out0.take (k + 1) = out0.take k ++ [o] := by rw [List.take_succ_eq_append_getElem hl, he]
  refine ⟨?_, hull_full h2, fun p c => ?_, (fun h => by cases h), fun _ => ?_⟩
  · rw [ht]; exact h1.trans (List.sublist_append_left _ _)
  · rw [has_hull2 hm, ht, cov_append, cov_single, ← or_assoc, ← h3 p c, or_right_comm]
  · cases again
    · rw [(h4 rfl).2.1, List.length_take]; omega
    · have := h5 rfl; omega

theorem Pass.keep {x0 x o : Span} {out0 rest : List Span} {k : Nat} {again : Bool} (h : Pass x0 out0 k x rest again) (ho : out0[k]? = some o) (hm : meet4 x.f x.t o.f o.t = false) : Pass x0 out0 (k + 1) x (rest ++ [o]) again := by
  obtain ⟨h1, h2, h3, h4, h5⟩ := h
  obtain ⟨hl, he⟩ := List.getElem?_eq_some_iff.1 ho
  have ht : out0.take (k + 1) = out0.take k ++ [o] := by rw [List.take_succ_eq_append_getElem hl, he]
  refine ⟨?_, h2, fun p c => ?_, fun ha => ?_, fun ha => ?_⟩
  · rw [ht]; exact h1.append (List.Sublist.refl _)
  · rw [ht, cov_append, cov_append, cov_single, ← or_assoc, h3 p c, or_assoc]
  · obtain ⟨e1, e2, e3⟩ := h4 ha
    refine ⟨e1, by rw [ht, e2], fun y hy => ?_⟩
    rcases List.mem_append.1 hy with hy | hy
    · exact e3 y hy
    · rw [List.mem_singleton.1 hy]; exact hm
  · have := h5 ha; simp; omega

/-- all passes: what is there, and the one that is put, have what they had. -/
def Mid (x0 : Span) (out0 : List Span) (x : Span) (out : List Span) : Prop := NF out ∧ sle x.f x.t = true ∧ ∀ p c, x.has p c ∨ cov out p c ↔ x0.has p c ∨ cov out0 p c
theorem Mid.start {x : Span} {out : List Span} (h : NF out) (hx : sle x.f x.t = true) : Mid x out x out := ⟨h, hx, fun _ _ => Iff.rfl⟩
theorem Mid.pass {X0 x0 x : Span} {OUT0 out0 rest : List Span} {again : Bool} (hm : Mid X0 OUT0 x0 out0) (h : Pass x0 out0 out0.length x rest again) : Mid X0 OUT0 x rest ∧ (again = true → rest.length < out0.length) ∧ (again = false → ∀ o ∈ rest, meet4 x.f x.t o.f o.t = false) := by
  obtain ⟨h1, h2, h3, h4, h5⟩ := h
  rw [List.take_length] at h1 h3 h4
  exact ⟨⟨hm.1.sub h1, h2, fun p c => (h3 p c).trans (hm.2.2 p c)⟩, h5, fun ha => (h4 ha).2.2⟩

theorem ins_spec {x : Span} {out : List Span} {k : Nat} (h : NF out) (hx : sle x.f x.t = true) (hno : ∀ o ∈ out, meet4 x.f x.t o.f o.t = false) (hlo : ∀ o ∈ out.take k, slt o.f x.f = true) (hhi : ∀ o, out[k]? = some o → slt o.f x.f = false) :
    NF (out.take k ++ [x] ++ out.drop k) ∧ ∀ p c, cov (out.take k ++ [x] ++ out.drop k) p c ↔ x.has p c ∨ cov out p c := by
  have hlo' : ∀ o ∈ out.take k, slt o.t x.f = true := fun o ho => by
    have hm := hno o (List.mem_of_mem_take ho)
    have hf := h.1 o (List.mem_of_mem_take ho)
    rcases sle_or_slt x.f o.t with hle | hlt
    · rw [meet4_true.2 ⟨hx, hf, hle, sle_trans (sle_of_slt (hlo o ho)) hx⟩] at hm; cases hm
    · exact hlt
  have hhi' : ∀ o ∈ out.drop k, slt x.t o.f = true := fun o ho => by
    have hm := hno o (List.mem_of_mem_drop ho)
    have hf := h.1 o (List.mem_of_mem_drop ho)
    have hge : sle x.f o.f = true := by
      cases hd : out.drop k with
      | nil => rw [hd] at ho; cases ho
      | cons y ys =>
        have hy : out[k]? = some y := by
          have := List.getElem?_drop (xs := out) (i := k) (j := 0)
          rw [hd] at this
          simpa using this.symm
        have hyx := hhi y hy
        rw [hd] at ho
        rcases List.mem_cons.1 ho with rfl | ho
        · exact not_slt.1 hyx
        · have hp : (y :: ys).Pairwise fun x y => slt x.t y.f = true := hd ▸ h.2.sublist (List.drop_sublist k out)
          have := (List.pairwise_cons.1 hp).1 o ho
          exact sle_trans (not_slt.1 hyx) (sle_trans (h.1 y (List.mem_of_mem_drop (hd ▸ List.mem_cons_self ..))) (sle_of_slt this))
    rcases sle_or_slt o.f x.t with hle | hlt
    · rw [meet4_true.2 ⟨hx, hf, sle_trans hge hf, hle⟩] at hm; cases hm
    · exact hlt
  constructor
  · refine ⟨fun y hy => ?_, ?_⟩
    · rcases List.mem_append.1 hy with hy | hy
      · rcases List.mem_append.1 hy with hy | hy
        · exact h.1 y (List.mem_of_mem_take hy)
        · rw [List.mem_singleton.1 hy]; exact hx
      · exact h.1 y (List.mem_of_mem_drop hy)
    · rw [List.pairwise_append, List.pairwise_append]
      refine ⟨⟨h.2.sublist (List.take_sublist k out), List.pairwise_singleton .., fun a ha b hb => by rw [List.mem_singleton.1 hb]; exact hlo' a ha⟩, h.2.sublist (List.drop_sublist k out), fun a ha b hb => ?_⟩
      rcases List.mem_append.1 ha with ha | ha
      · have := slt_of_slt_sle (hlo' a ha) hx
        exact slt_trans this (hhi' b hb)
      · rw [List.mem_singleton.1 ha]; exact hhi' b hb
  · intro p c
    rw [cov_append, cov_append, cov_single]
    have : cov out p c ↔ cov (out.take k) p c ∨ cov (out.drop k) p c := by rw [← cov_append, List.take_append_drop]
    rw [this]
    constructor
    · rintro ((h | h) | h)
      · exact .inr (.inl h)
      · exact .inl h
      · exact .inr (.inr h)
    · rintro (h | h | h)
      · exact .inl (.inr h)
      · exact .inl (.inl h)
      · exact .inr h

/-- what is there behind so many of them. -/
def Joined (l : List Span) (i : Nat) (out : List Span) : Prop := NF out ∧ ∀ p c, cov out p c ↔ cov (l.take i) p c
theorem Joined.start (l : List Span) : Joined l 0 [] := ⟨NF.nil, fun p c => by simp⟩
theorem Joined.skip {l out : List Span} {i : Nat} {x : Span} (h : Joined l i out) (hx : l[i]? = some x) (hn : sle x.f x.t = false) : Joined l (i + 1) out := by
  obtain ⟨hl, he⟩ := List.getElem?_eq_some_iff.1 hx
  refine ⟨h.1, fun p c => ?_⟩
  rw [h.2, List.take_succ_eq_append_getElem hl, he, cov_append, cov_single]
  exact ⟨.inl, fun hh => hh.elim id fun hb => (no_has (not_sle.1 hn) p c hb).elim⟩
theorem Joined.ins {l out0 out : List Span} {i k : Nat} {x0 x : Span} (h : Joined l i out0) (hx : l[i]? = some x0) (hm : Mid x0 out0 x out) (hno : ∀ o ∈ out, meet4 x.f x.t o.f o.t = false) (hlo : ∀ o ∈ out.take k, slt o.f x.f = true) (hhi : ∀ o, out[k]? = some o → slt o.f x.f = false) :
    Joined l (i + 1) (out.take k ++ [x] ++ out.drop k) := by
  obtain ⟨hl, he⟩ := List.getElem?_eq_some_iff.1 hx
  obtain ⟨n1, n2⟩ := ins_spec hm.1 hm.2.1 hno hlo hhi
  refine ⟨n1, fun p c => ?_⟩
  rw [n2, hm.2.2, h.2, List.take_succ_eq_append_getElem hl, he, cov_append, cov_single]
  exact or_comm
theorem Joined.done {l out : List Span} (h : Joined l l.length out) : out = joinF l := joinF_of h.1 fun p c => by rw [h.2, List.take_length]

end Go.Proofs.YtbfmneblhlmiiaaGreatDoor
