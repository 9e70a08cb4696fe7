import Derived.Test.YtanjgeacmpmjhaaGreatDoorKinds
import Derived.Test.YtanjgeacmpmjhaaGreatDoorMgPlansCheckUpto0
set_option linter.unusedVariables false
set_option linter.unusedSimpArgs false
namespace Go.Proofs.YtanjgeacmpmjhaaGreatDoor

/-- Has a span a point: a text, or what is right behind it? -/
def Span.has (x : Span) (k : Str) (b : Bool) : Prop := sle x.f k = true ∧ (if b = true then slt k x.t = true else sle k x.t = true)
/-- Has one of some a point? -/
def cov (xs : List Span) (k : Str) (b : Bool) : Prop := ∃ x ∈ xs, x.has k b
/-- Spans that have something, rise, and do not meet. -/
def NF (xs : List Span) : Prop := (∀ x ∈ xs, sle x.f x.t = true) ∧ xs.Pairwise fun x y => slt x.t y.f = true

theorem Span.ext' {x y : Span} (h : x.f = y.f) (k : x.t = y.t) : x = y := by cases x; cases y; simp_all

theorem Span.has_sle {x : Span} {k : Str} {b : Bool} (h : x.has k b) : sle x.f k = true ∧ sle k x.t = true := by
  obtain ⟨h1, h2⟩ := h
  refine ⟨h1, ?_⟩
  split at h2
  · exact sle_of_slt h2
  · exact h2

theorem NF.nil : NF [] := ⟨fun x hx => (by cases hx), List.Pairwise.nil⟩
theorem NF.tail {x : Span} {xs : List Span} (h : NF (x :: xs)) : NF xs := ⟨fun y hy => h.1 y (List.mem_cons_of_mem _ hy), (List.pairwise_cons.1 h.2).2⟩
theorem NF.sub {xs ys : List Span} (h : NF ys) (hs : xs.Sublist ys) : NF xs := ⟨fun y hy => h.1 y (hs.subset hy), h.2.sublist hs⟩
theorem NF.head {x : Span} {xs : List Span} (h : NF (x :: xs)) : ∀ y ∈ xs, slt x.t y.f = true := (List.pairwise_cons.1 h.2).1

theorem NF.first {x : Span} {xs : List Span} (h : NF (x :: xs)) {k : Str} {b : Bool} (hc : cov (x :: xs) k b) : sle x.f k = true := by
  obtain ⟨y, hy, hh⟩ := hc
  rcases List.mem_cons.1 hy with rfl | hy
  · exact (Span.has_sle hh).1
  · exact sle_trans (sle_trans (h.1 x (List.mem_cons_self ..)) (sle_of_slt (h.head y hy))) (Span.has_sle hh).1

theorem NF.at_ {xs : List Span} (h : NF xs) {x : Span} (hx : x ∈ xs) : cov xs x.f false := ⟨x, hx, sle_refl _, by simpa using h.1 x hx⟩

theorem NF.last_no {x : Span} {xs : List Span} (h : NF (x :: xs)) : ¬ cov (x :: xs) x.t true := by
  rintro ⟨y, hy, h1, h2⟩
  simp only [if_true] at h2
  rcases List.mem_cons.1 hy with rfl | hy
  · rw [slt_irrefl] at h2; cases h2
  · exact slt_sle_absurd (h.head y hy) h1

theorem NF.rest {x : Span} {xs : List Span} (h : NF (x :: xs)) (k : Str) (b : Bool) : cov xs k b ↔ slt x.t k = true ∧ cov (x :: xs) k b := by
  constructor
  · rintro ⟨y, hy, hh⟩
    exact ⟨slt_of_slt_sle (h.head y hy) hh.1, y, List.mem_cons_of_mem _ hy, hh⟩
  · rintro ⟨hk, y, hy, hh⟩
    rcases List.mem_cons.1 hy with rfl | hy
    · exact (slt_sle_absurd hk (Span.has_sle hh).2).elim
    · exact ⟨y, hy, hh⟩

theorem cov_nil (k : Str) (b : Bool) : ¬ cov [] k b := fun ⟨_, h, _⟩ => by cases h

theorem NF.uniq : ∀ {xs ys : List Span}, NF xs → NF ys → (∀ k b, cov xs k b ↔ cov ys k b) → xs = ys
  | [], [], _, _, _ => rfl
  | [], y :: ys, _, hy, h => (cov_nil _ _ ((h y.f false).2 (hy.at_ (List.mem_cons_self ..)))).elim
  | x :: xs, [], hx, _, h => (cov_nil _ _ ((h x.f false).1 (hx.at_ (List.mem_cons_self ..)))).elim
  | x :: xs, y :: ys, hx, hy, h => by
    have e1 : x.f = y.f := sle_antisymm (hx.first ((h y.f false).2 (hy.at_ (List.mem_cons_self ..)))) (hy.first ((h x.f false).1 (hx.at_ (List.mem_cons_self ..))))
    have e2 : x.t = y.t := by
      refine slt_total ?_ ?_
      · cases hlt : slt x.t y.t with
        | false => rfl
        | true => exact (hx.last_no ((h x.t true).2 ⟨y, List.mem_cons_self .., by rw [← e1]; exact hx.1 x (List.mem_cons_self ..), by simpa using hlt⟩)).elim
      · cases hlt : slt y.t x.t with
        | false => rfl
        | true => exact (hy.last_no ((h y.t true).1 ⟨x, List.mem_cons_self .., by rw [e1]; exact hy.1 y (List.mem_cons_self ..), by simpa using hlt⟩)).elim
    obtain rfl := Span.ext' e1 e2
    rw [NF.uniq hx.tail hy.tail fun k b => by rw [hx.rest, hy.rest, h]]

/-! ### joining, one behind the other -/
/-- one more, none of which begins ahead of those that are there. -/
def joinStep (out : List Span) (x : Span) : List Span :=
  match out.getLast? with
  | none => [x]
  | some l => if meet4 x.f x.t l.f l.t = true then out.dropLast ++ [⟨l.f, smax l.t x.t⟩] else out ++ [x]

theorem joinStep_nil (x : Span) : joinStep [] x = [x] := rfl
theorem joinStep_snoc (o : List Span) (l x : Span) : joinStep (o ++ [l]) x = if meet4 x.f x.t l.f l.t = true then o ++ [⟨l.f, smax l.t x.t⟩] else o ++ [l] ++ [x] := by
  simp [joinStep]

theorem NF_snoc {o : List Span} {l : Span} : NF (o ++ [l]) ↔ NF o ∧ sle l.f l.t = true ∧ ∀ y ∈ o, slt y.t l.f = true := by
  unfold NF
  rw [List.pairwise_append]
  simp only [List.mem_append, List.mem_singleton, List.pairwise_singleton, true_and, forall_eq]
  constructor
  · rintro ⟨h1, h2, h3⟩
    exact ⟨⟨fun x hx => h1 x (.inl hx), h2⟩, h1 l (.inr rfl), h3⟩
  · rintro ⟨⟨h1, h2⟩, h3, h4⟩
    exact ⟨fun x hx => hx.elim (h1 x) (fun e => by rw [e]; exact h3), h2, h4⟩

theorem cov_append (xs ys : List Span) (k : Str) (b : Bool) : cov (xs ++ ys) k b ↔ cov xs k b ∨ cov ys k b := by
  unfold cov
  constructor
  · rintro ⟨x, hx, hh⟩
    rcases List.mem_append.1 hx with hx | hx
    · exact .inl ⟨x, hx, hh⟩
    · exact .inr ⟨x, hx, hh⟩
  · rintro (⟨x, hx, hh⟩ | ⟨x, hx, hh⟩)
    · exact ⟨x, List.mem_append_left _ hx, hh⟩
    · exact ⟨x, List.mem_append_right _ hx, hh⟩
theorem cov_cons (x : Span) (xs : List Span) (k : Str) (b : Bool) : cov (x :: xs) k b ↔ x.has k b ∨ cov xs k b := by
  unfold cov; simp
theorem cov_single (x : Span) (k : Str) (b : Bool) : cov [x] k b ↔ x.has k b := by
  unfold cov; simp

/-- What two that meet have together: from where the first one begins to where the last one ends. -/
theorem has_hull {x l : Span} (h1 : sle l.f x.f = true) (h2 : sle x.f l.t = true) (k : Str) (b : Bool) : (⟨l.f, smax l.t x.t⟩ : Span).has k b ↔ l.has k b ∨ x.has k b := by
  unfold Span.has smax
  simp only
  constructor
  · rintro ⟨a1, a2⟩
    by_cases hlt : slt l.t x.t = true
    · rw [if_pos hlt] at a2
      rcases sle_or_slt x.f k with hk | hk
      · exact .inr ⟨hk, a2⟩
      · refine .inl ⟨a1, ?_⟩
        have := slt_of_slt_sle hk h2
        split
        · exact this
        · exact sle_of_slt this
    · rw [if_neg hlt] at a2
      exact .inl ⟨a1, a2⟩
  · rintro (⟨a1, a2⟩ | ⟨a1, a2⟩)
    · refine ⟨a1, ?_⟩
      by_cases hlt : slt l.t x.t = true
      · rw [if_pos hlt]
        split
        · rename_i hb; rw [if_pos hb] at a2; exact slt_trans a2 hlt
        · rename_i hb; rw [if_neg hb] at a2; exact sle_trans a2 (sle_of_slt hlt)
      · rw [if_neg hlt]; exact a2
    · refine ⟨sle_trans h1 a1, ?_⟩
      by_cases hlt : slt l.t x.t = true
      · rw [if_pos hlt]; exact a2
      · rw [if_neg hlt]
        have hle : sle x.t l.t = true := by simpa [sle] using hlt
        split
        · rename_i hb; rw [if_pos hb] at a2; exact slt_of_slt_sle a2 hle
        · rename_i hb; rw [if_neg hb] at a2; exact sle_trans a2 hle

theorem smax_ge_left (a b : Str) : sle a (smax a b) = true := by
  unfold smax
  split
  · rename_i h; exact sle_of_slt h
  · exact sle_refl _
theorem smax_or (a b : Str) : smax a b = a ∨ smax a b = b := by unfold smax; split <;> simp

theorem joinStep_spec {out : List Span} {x : Span} (h : NF out) (hx : sle x.f x.t = true) (ho : ∀ o ∈ out, sle o.f x.f = true) :
    NF (joinStep out x) ∧ (∀ k b, cov (joinStep out x) k b ↔ cov out k b ∨ x.has k b) ∧ (∀ o ∈ joinStep out x, sle o.f x.f = true) ∧
      (∀ y ∈ joinStep out x, (∃ z ∈ out ++ [x], z.f = y.f) ∧ ∃ z ∈ out ++ [x], z.t = y.t) ∧ (joinStep out x).length ≤ out.length + 1 := by
  rcases List.eq_nil_or_concat out with rfl | ⟨o, l, rfl⟩
  · rw [joinStep_nil]
    refine ⟨⟨fun y hy => by rw [List.mem_singleton.1 hy]; exact hx, List.pairwise_singleton ..⟩, fun k b => ?_, fun y hy => by rw [List.mem_singleton.1 hy]; exact sle_refl _, fun y hy => ⟨⟨x, by simp, by rw [List.mem_singleton.1 hy]⟩, x, by simp, by rw [List.mem_singleton.1 hy]⟩, by simp⟩
    rw [cov_single]
    exact ⟨.inr, fun h => h.elim (fun h => (cov_nil _ _ h).elim) id⟩
  · rw [List.concat_eq_append] at h ho ⊢
    rw [joinStep_snoc]
    obtain ⟨hno, hl, hol⟩ := NF_snoc.1 h
    have hlx := ho l (by simp)
    by_cases hm : meet4 x.f x.t l.f l.t = true
    · rw [if_pos hm]
      obtain ⟨_, _, hxl, _⟩ := meet4_true.1 hm
      refine ⟨NF_snoc.2 ⟨hno, sle_trans hl (smax_ge_left _ _), hol⟩, fun k b => ?_, fun y hy => ?_, fun y hy => ?_, by simp⟩
      · rw [cov_append, cov_append, cov_single, cov_single, has_hull hlx hxl, or_assoc]
      · rcases List.mem_append.1 hy with hy | hy
        · exact ho y (by simp [hy])
        · rw [List.mem_singleton.1 hy]; exact hlx
      · rcases List.mem_append.1 hy with hy | hy
        · exact ⟨⟨y, by simp [hy], rfl⟩, y, by simp [hy], rfl⟩
        · rw [List.mem_singleton.1 hy]
          refine ⟨⟨l, by simp, rfl⟩, ?_⟩
          rcases smax_or l.t x.t with e | e
          · exact ⟨l, by simp, e.symm⟩
          · exact ⟨x, by simp, e.symm⟩
    · rw [if_neg hm]
      have hlt : slt l.t x.f = true := by
        rcases sle_or_slt x.f l.t with hle | hlt
        · exact (hm (meet4_true.2 ⟨hx, hl, hle, sle_trans hlx hx⟩)).elim
        · exact hlt
      refine ⟨NF_snoc.2 ⟨h, hx, fun y hy => ?_⟩, fun k b => by rw [cov_append, cov_single], fun y hy => ?_, fun y hy => ⟨⟨y, hy, rfl⟩, y, hy, rfl⟩, by simp⟩
      · rcases List.mem_append.1 hy with hy | hy
        · exact slt_of_slt_sle (hol y hy) hlx
        · rw [List.mem_singleton.1 hy]; exact hlt
      · rcases List.mem_append.1 hy with hy | hy
        · exact ho y hy
        · rw [List.mem_singleton.1 hy]; exact sle_refl _

/-- What some are, joined one behind the other. -/
def joinAll (xs : List Span) : List Span := xs.foldl joinStep []

theorem joinFold_spec : ∀ (rest out : List Span), NF out → (∀ x ∈ rest, sle x.f x.t = true) → rest.Pairwise (fun x y => sle x.f y.f = true) → (∀ o ∈ out, ∀ x ∈ rest, sle o.f x.f = true) →
    NF (rest.foldl joinStep out) ∧ (∀ k b, cov (rest.foldl joinStep out) k b ↔ cov out k b ∨ cov rest k b) ∧
      (∀ y ∈ rest.foldl joinStep out, (∃ z ∈ out ++ rest, z.f = y.f) ∧ ∃ z ∈ out ++ rest, z.t = y.t) ∧ (rest.foldl joinStep out).length ≤ out.length + rest.length
  | [], out, h, _, _, _ => ⟨h, fun k b => by simp [cov_nil], fun y hy => ⟨⟨y, by simpa using hy, rfl⟩, y, by simpa using hy, rfl⟩, by simp⟩
  | x :: rest, out, h, hx, hp, ho => by
    obtain ⟨s1, s2, s3, s4, s5⟩ := joinStep_spec h (hx x (List.mem_cons_self ..)) (fun o hoo => ho o hoo x (List.mem_cons_self ..))
    obtain ⟨hp1, hp2⟩ := List.pairwise_cons.1 hp
    obtain ⟨r1, r2, r3, r4⟩ := joinFold_spec rest (joinStep out x) s1 (fun y hy => hx y (List.mem_cons_of_mem _ hy)) hp2 (fun o hoo y hy => sle_trans (s3 o hoo) (hp1 y hy))
    rw [List.foldl_cons]
    refine ⟨r1, fun k b => by rw [r2, s2, cov_cons, or_assoc], fun y hy => ?_, by simp only [List.length_cons]; omega⟩
    obtain ⟨⟨z1, hz1, e1⟩, z2, hz2, e2⟩ := r3 y hy
    constructor
    · rcases List.mem_append.1 hz1 with hz | hz
      · obtain ⟨⟨z, hz, e⟩, _⟩ := s4 z1 hz
        exact ⟨z, by rcases List.mem_append.1 hz with hz | hz; · exact List.mem_append_left _ hz
                     · exact List.mem_append_right _ (by rw [List.mem_singleton.1 hz]; exact List.mem_cons_self ..), e.trans e1⟩
      · exact ⟨z1, List.mem_append_right _ (List.mem_cons_of_mem _ hz), e1⟩
    · rcases List.mem_append.1 hz2 with hz | hz
      · obtain ⟨_, z, hz, e⟩ := s4 z2 hz
        exact ⟨z, by rcases List.mem_append.1 hz with hz | hz; · exact List.mem_append_left _ hz
                     · exact List.mem_append_right _ (by rw [List.mem_singleton.1 hz]; exact List.mem_cons_self ..), e.trans e2⟩
      · exact ⟨z2, List.mem_append_right _ (List.mem_cons_of_mem _ hz), e2⟩

/-- one more, where it belongs by what it begins with. -/
def insF (x : Span) : List Span → List Span
  | [] => [x]
  | y :: ys => if sle x.f y.f = true then x :: y :: ys else y :: insF x ys
def sortF : List Span → List Span
  | [] => []
  | x :: xs => insF x (sortF xs)

theorem insF_mem (x y : Span) : ∀ xs : List Span, y ∈ insF x xs ↔ y = x ∨ y ∈ xs
  | [] => by simp [insF]
  | z :: zs => by
    unfold insF
    split
    · simp
    · rw [List.mem_cons, insF_mem x y zs, List.mem_cons]
      constructor
      · rintro (h | h | h) <;> simp [h]
      · rintro (h | h | h) <;> simp [h]
theorem sortF_mem (y : Span) : ∀ xs : List Span, y ∈ sortF xs ↔ y ∈ xs
  | [] => by simp [sortF]
  | x :: xs => by rw [sortF, insF_mem, sortF_mem y xs, List.mem_cons]
theorem insF_length (x : Span) : ∀ xs : List Span, (insF x xs).length = xs.length + 1
  | [] => rfl
  | y :: ys => by unfold insF; split <;> simp [insF_length x ys]
theorem sortF_length : ∀ xs : List Span, (sortF xs).length = xs.length
  | [] => rfl
  | x :: xs => by rw [sortF, insF_length, sortF_length xs, List.length_cons]
theorem insF_sorted (x : Span) : ∀ xs : List Span, xs.Pairwise (fun a b => sle a.f b.f = true) → (insF x xs).Pairwise fun a b => sle a.f b.f = true
  | [], _ => by simp [insF]
  | y :: ys, h => by
    obtain ⟨h1, h2⟩ := List.pairwise_cons.1 h
    unfold insF
    split
    · rename_i hle
      refine List.pairwise_cons.2 ⟨fun z hz => ?_, h⟩
      rcases List.mem_cons.1 hz with rfl | hz
      · exact hle
      · exact sle_trans hle (h1 z hz)
    · rename_i hle
      refine List.pairwise_cons.2 ⟨fun z hz => ?_, insF_sorted x ys h2⟩
      rcases (insF_mem x z ys).1 hz with rfl | hz
      · exact (sle_total y.f z.f).resolve_right hle
      · exact h1 z hz
theorem sortF_sorted : ∀ xs : List Span, (sortF xs).Pairwise fun a b => sle a.f b.f = true
  | [] => List.Pairwise.nil
  | x :: xs => insF_sorted x _ (sortF_sorted xs)

/-- those that have something. -/
def full (xs : List Span) : List Span := xs.filter fun x => sle x.f x.t
theorem full_mem {x : Span} {xs : List Span} : x ∈ full xs ↔ x ∈ xs ∧ sle x.f x.t = true := List.mem_filter
theorem cov_full (xs : List Span) (k : Str) (b : Bool) : cov (full xs) k b ↔ cov xs k b := by
  constructor
  · rintro ⟨x, hx, hh⟩
    exact ⟨x, (full_mem.1 hx).1, hh⟩
  · rintro ⟨x, hx, hh⟩
    have := Span.has_sle hh
    exact ⟨x, full_mem.2 ⟨hx, sle_trans this.1 this.2⟩, hh⟩

/-- WHAT SOME ARE, JOINED. -/
def joinF (xs : List Span) : List Span := joinAll (sortF (full xs))

theorem joinAll_spec {xs d : List Span} (hm : ∀ y, y ∈ d ↔ y ∈ full xs) (hs : d.Pairwise fun a b => sle a.f b.f = true) :
    NF (joinAll d) ∧ (∀ k b, cov (joinAll d) k b ↔ cov xs k b) ∧ (∀ y ∈ joinAll d, (∃ z ∈ xs, z.f = y.f) ∧ ∃ z ∈ xs, z.t = y.t) ∧ (joinAll d).length ≤ d.length := by
  obtain ⟨h1, h2, h3, h4⟩ := joinFold_spec d [] NF.nil (fun x hx => (full_mem.1 ((hm x).1 hx)).2) hs (fun o ho => by cases ho)
  refine ⟨h1, fun k b => ?_, fun y hy => ?_, by simpa [joinAll] using h4⟩
  · show cov (d.foldl joinStep []) k b ↔ _
    rw [h2, ← cov_full xs]
    have : cov d k b ↔ cov (full xs) k b := by
      unfold cov
      constructor <;> rintro ⟨x, hx, hh⟩
      · exact ⟨x, (hm x).1 hx, hh⟩
      · exact ⟨x, (hm x).2 hx, hh⟩
    rw [this]
    exact ⟨fun h => h.elim (fun h => (cov_nil _ _ h).elim) id, .inr⟩
  · obtain ⟨⟨z1, hz1, e1⟩, z2, hz2, e2⟩ := h3 y hy
    exact ⟨⟨z1, (full_mem.1 ((hm z1).1 (by simpa using hz1))).1, e1⟩, z2, (full_mem.1 ((hm z2).1 (by simpa using hz2))).1, e2⟩

theorem joinF_spec (xs : List Span) : NF (joinF xs) ∧ (∀ k b, cov (joinF xs) k b ↔ cov xs k b) ∧ (∀ y ∈ joinF xs, (∃ z ∈ xs, z.f = y.f) ∧ ∃ z ∈ xs, z.t = y.t) ∧ (joinF xs).length ≤ xs.length := by
  obtain ⟨h1, h2, h3, h4⟩ := joinAll_spec (xs := xs) (fun y => sortF_mem y (full xs)) (sortF_sorted (full xs))
  refine ⟨h1, h2, h3, ?_⟩
  rw [sortF_length] at h4
  exact Nat.le_trans h4 (List.length_filter_le ..)

theorem joinF_of {xs j : List Span} (h : NF j) (hc : ∀ k b, cov j k b ↔ cov xs k b) : j = joinF xs :=
  NF.uniq h (joinF_spec xs).1 fun k b => by rw [hc, (joinF_spec xs).2.1]
theorem joinF_cong {xs ys : List Span} (hc : ∀ k b, cov xs k b ↔ cov ys k b) : joinF xs = joinF ys :=
  joinF_of (joinF_spec xs).1 fun k b => by rw [(joinF_spec xs).2.1, hc]
theorem joinF_same {xs ys : List Span} (h : ∀ x, x ∈ xs ↔ x ∈ ys) : joinF xs = joinF ys :=
  joinF_cong fun k b => by
    unfold cov
    constructor <;> rintro ⟨x, hx, hh⟩
    · exact ⟨x, (h x).1 hx, hh⟩
    · exact ⟨x, (h x).2 hx, hh⟩
/-- in whatever order those that begin alike come. -/
theorem joinAll_any {xs d : List Span} (hm : ∀ y, y ∈ d ↔ y ∈ full xs) (hs : d.Pairwise fun a b => sle a.f b.f = true) : joinAll d = joinF xs := by
  obtain ⟨h1, h2, _, _⟩ := joinAll_spec hm hs
  exact joinF_of h1 h2
theorem joinF_twice (xs : List Span) : joinF (joinF xs) = joinF xs := joinF_cong fun k b => (joinF_spec xs).2.1 k b
theorem joinF_parts (xs ys : List Span) : joinF (joinF xs ++ joinF ys) = joinF (ys ++ xs) := joinF_cong fun k b => by
  rw [cov_append, cov_append, (joinF_spec xs).2.1, (joinF_spec ys).2.1]; exact or_comm
theorem NF.joinF {xs : List Span} (h : NF xs) : joinF xs = xs := (joinF_of h fun _ _ => Iff.rfl).symm

/-- Does one meet one of some: do they have a text in common? -/
theorem any_cov (a : Span) (xs : List Span) : (xs.any fun x => meet4 a.f a.t x.f x.t) = true ↔ ∃ k, a.has k false ∧ cov xs k false := by
  rw [List.any_eq_true]
  constructor
  · rintro ⟨x, hx, hm⟩
    obtain ⟨h1, h2, h3, h4⟩ := meet4_true.1 hm
    refine ⟨smax a.f x.f, ?_, x, hx, ?_⟩
    · unfold Span.has smax
      simp only [Bool.false_eq_true, if_false]
      split
      · rename_i h; exact ⟨sle_of_slt h, h4⟩
      · exact ⟨sle_refl _, h1⟩
    · unfold Span.has smax
      simp only [Bool.false_eq_true, if_false]
      split
      · exact ⟨sle_refl _, h2⟩
      · rename_i h; exact ⟨by simpa [sle] using h, h3⟩
  · rintro ⟨k, ha, x, hx, hh⟩
    have h1 := Span.has_sle ha
    have h2 := Span.has_sle hh
    exact ⟨x, hx, meet4_true.2 ⟨sle_trans h1.1 h1.2, sle_trans h2.1 h2.2, sle_trans h1.1 h2.2, sle_trans h2.1 h1.2⟩⟩
theorem any_joinF (a : Span) (xs : List Span) : ((joinF xs).any fun x => meet4 a.f a.t x.f x.t) = xs.any fun x => meet4 a.f a.t x.f x.t := by
  rw [Bool.eq_iff_iff, any_cov, any_cov]
  constructor <;> rintro ⟨k, h1, h2⟩
  · exact ⟨k, h1, ((joinF_spec xs).2.1 _ _).1 h2⟩
  · exact ⟨k, h1, ((joinF_spec xs).2.1 _ _).2 h2⟩
theorem in_cov (k : Str) (xs : List Span) : (xs.any fun x => sin k x.f x.t) = true ↔ cov xs k false := by
  rw [List.any_eq_true]
  unfold cov Span.has sin
  simp
theorem in_joinF (k : Str) (xs : List Span) : ((joinF xs).any fun x => sin k x.f x.t) = xs.any fun x => sin k x.f x.t := by
  rw [Bool.eq_iff_iff, in_cov, in_cov]
  exact (joinF_spec xs).2.1 _ _

end Go.Proofs.YtanjgeacmpmjhaaGreatDoor
