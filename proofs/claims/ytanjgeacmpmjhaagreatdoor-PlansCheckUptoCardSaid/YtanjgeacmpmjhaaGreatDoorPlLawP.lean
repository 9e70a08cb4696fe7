import Derived.Test.YtanjgeacmpmjhaaGreatDoorPlLive
import Derived.Test.YtanjgeacmpmjhaaGreatDoorMgPlansCheckUpto9
import Derived.Test.YtanjgeacmpmjhaaGreatDoorMgPlansCheckUpto19
set_option linter.unusedVariables false
set_option linter.unusedSimpArgs false
set_option linter.unusedSectionVars false
namespace Go.Proofs.YtanjgeacmpmjhaaGreatDoor
open Go.RowKit

theorem meet_point (k t : ByteArray) : meet4 k k t t = decide (k = t) := by
  rw [Bool.eq_iff_iff, meet4_true, decide_eq_true_eq]
  constructor
  · rintro ⟨_, _, h1, h2⟩
    exact sle_antisymm h1 h2
  · rintro rfl
    exact ⟨sle_refl _, sle_refl _, sle_refl _, sle_refl _⟩

/-- Does one of the ops' spans meet a key? -/
def hitO (l : List Opn) (k : ByteArray) : Bool := l.any fun x => okO x && meet4 x.k (spanOf x.q x.k x.t) k k

theorem any_spsO (l : List Opn) (k : ByteArray) : ((spsO l).any fun x => meet4 k k x.f x.t) = hitO l k := by
  unfold spsO hitO
  rw [List.any_map, List.any_filter]
  congr 1
  funext x
  show (okO x && meet4 k k x.k (spanOf x.q x.k x.t)) = _
  rw [meet4_comm]

/-- A key among the spans of ops. -/
theorem any_allS (n : Nat) (l : List Opn) (k : ByteArray) : ((joinF (allS n l)).any fun x => meet4 k k x.f x.t) = (decide (k = tT) || (decide (k = markT n) || hitO l k)) := by
  have h := any_joinF ⟨k, k⟩ (allS n l)
  rw [show ((joinF (allS n l)).any fun x => meet4 k k x.f x.t) = (joinF (allS n l)).any fun x => meet4 (⟨k, k⟩ : Span).f (⟨k, k⟩ : Span).t x.f x.t from rfl, h]
  unfold allS
  rw [List.any_append]
  show ((meet4 k k tT tT || (meet4 k k (markT n) (markT n) || false)) || ((spsO l).any fun x => meet4 k k x.f x.t)) = _
  rw [any_spsO, meet_point, meet_point]
  simp [Bool.or_assoc]

theorem hitO_snoc (l : List Opn) (i : Nat) (k : ByteArray) (x : Opn) (h : l[i]? = some x) : hitO (l.take (i + 1)) k = (hitO (l.take i) k || (okO x && meet4 x.k (spanOf x.q x.k x.t) k k)) := by
  unfold hitO
  rw [take_snoc h, List.any_append]
  simp

theorem nat_of_u32 {m : Int} (h : (Lit.int .u32 m).wf = true) : ∃ n : Nat, m = n ∧ n < 4294967296 := by
  have h2 : 0 ≤ m ∧ m < 4294967296 := by
    simp [Lit.wf, IntKind.min, IntKind.max, IntKind.bits, IntKind.signed] at h
    omega
  exact ⟨m.toNat, by omega, by omega⟩

/-! ### rows put one by one are those rows -/
theorem putL_perm {k : Str} {v : Int} : ∀ {l : List Row}, getL k l = none → (putL k v l).Perm (⟨k, v⟩ :: l)
  | [], _ => List.Perm.refl _
  | x :: l, h => by
    unfold putL
    have hx : x.k ≠ k := getL_none.1 h x (List.mem_cons_self ..)
    have hl : getL k l = none := getL_none.2 fun y hy => getL_none.1 h y (List.mem_cons_of_mem _ hy)
    split
    · exact ((putL_perm hl).cons x).trans (List.Perm.swap _ _ _)
    · exact List.Perm.refl _

theorem stF_perm : ∀ (l m : List Row), stOkF m l = true → (l.foldl (fun m r => putL r.k r.v m) m).Perm (m ++ l)
  | [], m, _ => by simp
  | r :: l, m, h => by
    unfold stOkF at h
    simp only [Bool.and_eq_true, Bool.not_eq_true', Option.isSome_eq_false_iff, Option.isNone_iff_eq_none] at h
    rw [List.foldl_cons]
    refine (stF_perm l _ h.2.2).trans ?_
    refine ((putL_perm h.1).append_right l).trans ?_
    rw [List.cons_append]
    exact List.perm_middle.symm

theorem stM_perm {l : List Row} (h : stOkF [] l = true) : (stM l).Perm l := by
  have := stF_perm l [] h
  rw [List.nil_append] at this
  exact this

theorem stF_rising : ∀ (l m : List Row), Rising m → Rising (l.foldl (fun m r => putL r.k r.v m) m)
  | [], m, h => h
  | r :: l, m, h => stF_rising l _ (putL_rising h)
theorem stM_rising (l : List Row) : Rising (stM l) := stF_rising l [] List.Pairwise.nil

theorem stF_ok : ∀ (l m : List Row), stOkF m l = true → ∀ r ∈ l, okKey r.k = true
  | [], _, _, r, hr => by cases hr
  | x :: l, m, h, r, hr => by
    unfold stOkF at h
    simp only [Bool.and_eq_true] at h
    rcases List.mem_cons.1 hr with rfl | hr
    · exact h.2.1
    · exact stF_ok l _ h.2.2 r hr

/-! ### what ops leave alone -/
theorem putL_filter {p : Row → Bool} {k : Str} (hp : ∀ v, p ⟨k, v⟩ = false) (v : Int) : ∀ l : List Row, (putL k v l).filter p = l.filter p
  | [] => by simp [putL, hp]
  | x :: l => by
    unfold putL
    split
    · rw [List.filter_cons, List.filter_cons, putL_filter hp v l]
    · split
      · rename_i h2
        obtain ⟨xk, xv⟩ := x
        have h2' : xk = k := h2
        subst h2'
        rw [List.filter_cons, List.filter_cons, hp, hp]
        rfl
      · rw [List.filter_cons, hp]
        rfl
theorem delL_filter {p : Row → Bool} {k : Str} (hp : ∀ v, p ⟨k, v⟩ = false) : ∀ l : List Row, (delL k l).filter p = l.filter p
  | [] => rfl
  | x :: l => by
    unfold delL
    split
    · rw [List.filter_cons, List.filter_cons, delL_filter hp l]
    · split
      · rename_i h2
        obtain ⟨xk, xv⟩ := x
        have h2' : xk = k := h2
        subst h2'
        rw [List.filter_cons, hp]
        rfl
      · rfl

theorem afterD_filter {p : Row → Bool} {x : Opn} (hp : x.q = 2 ∨ x.q = 3 → ∀ v, p ⟨x.k, v⟩ = false) (m : List Row) : (afterD x m).filter p = m.filter p := by
  unfold afterD
  split
  · rename_i h
    exact putL_filter (hp (.inl h)) _ _
  · split
    · rename_i h
      exact delL_filter (hp (.inr h)) _
    · rfl

theorem rowsR_filter {p : Row → Bool} : ∀ (l : List Opn) (m : List Row), (∀ x ∈ l, x.q = 2 ∨ x.q = 3 → ∀ v, p ⟨x.k, v⟩ = false) → (rowsR m l).filter p = m.filter p
  | [], _, _ => rfl
  | x :: l, m, h => by
    show (rowsR (afterD x m) l).filter p = _
    rw [rowsR_filter l _ (fun y hy => h y (List.mem_cons_of_mem _ hy)), afterD_filter (h x (List.mem_cons_self ..))]

/-- A row that no span of the ops has. -/
def farR (n : Nat) (ops : List Opn) (r : Row) : Bool := !((joinF (allS n ops)).any fun x => meet4 r.k r.k x.f x.t)

theorem far_false {n : Nat} {ops : List Opn} {x : Opn} (hx : x ∈ ops) (hok : okO x = true) (hq : x.q = 2 ∨ x.q = 3) (v : Int) : farR n ops ⟨x.k, v⟩ = false := by
  unfold farR
  rw [any_allS]
  have h : hitO ops x.k = true := by
    unfold hitO
    rw [List.any_eq_true]
    refine ⟨x, hx, ?_⟩
    rw [hok, Bool.true_and]
    have e : spanOf x.q x.k x.t = x.k := by
      unfold spanOf
      rw [if_neg (by omega)]
    rw [e, meet_point]
    simp
  rw [h]
  simp

/-- The rows beyond the ops' spans are as they were. -/
theorem keep_perm {n : Nat} {rows left : List Row} {ops : List Opn} {rs : List (List Row)} (h : runP rows ops = some (rs, left)) : (left.filter (farR n ops)).Perm (rows.filter (farR n ops)) := by
  unfold runP at h
  split at h
  · rename_i hc
    simp only [Bool.and_eq_true] at hc
    injection h with h
    injection h with h1 h2
    subst h2
    rw [rowsR_filter ops (stM rows) (fun x hx hq v => far_false hx (List.all_eq_true.1 hc.2 x hx) hq v)]
    exact (stM_perm hc.1).filter _
  · cases h

end Go.Proofs.YtanjgeacmpmjhaaGreatDoor
