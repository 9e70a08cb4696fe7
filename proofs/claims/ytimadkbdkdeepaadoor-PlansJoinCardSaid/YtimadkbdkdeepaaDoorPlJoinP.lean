import Derived.Test.YtimadkbdkdeepaaDoorPlLawP
set_option linter.unusedVariables false
set_option linter.unusedSimpArgs false
set_option linter.unusedSectionVars false
namespace Go.Proofs.YtimadkbdkdeepaaDoor
open Go.RowKit

theorem putL_last {k : Str} {v : Int} : ∀ {m : List Row}, (∀ y ∈ m, slt y.k k = true) → putL k v m = m ++ [⟨k, v⟩]
  | [], _ => rfl
  | y :: m, h => by
    unfold putL
    rw [if_pos (h y (List.mem_cons_self ..)), putL_last fun z hz => h z (List.mem_cons_of_mem _ hz)]
    rfl

/-- Rows that rise, whose keys may be, are put as they are. -/
theorem stF_self : ∀ (l m : List Row), Rising (m ++ l) → (∀ r ∈ l, okKey r.k = true) → stOkF m l = true ∧ l.foldl (fun m r => putL r.k r.v m) m = m ++ l
  | [], m, _, _ => ⟨rfl, by simp⟩
  | r :: l, m, h, hok => by
    have hlt : ∀ y ∈ m, slt y.k r.k = true := fun y hy => (List.pairwise_append.1 h).2.2 y hy r (List.mem_cons_self ..)
    have hp : putL r.k r.v m = m ++ [r] := putL_last hlt
    have hg : getL r.k m = none := getL_none.2 fun y hy => slt_ne (hlt y hy)
    have h2 : Rising ((m ++ [r]) ++ l) := by rw [List.append_assoc]; exact h
    obtain ⟨e1, e2⟩ := stF_self l (m ++ [r]) h2 (fun y hy => hok y (List.mem_cons_of_mem _ hy))
    refine ⟨?_, ?_⟩
    · unfold stOkF
      rw [hg, hok r (List.mem_cons_self ..), hp, e1]
      rfl
    · rw [List.foldl_cons, hp, e2, List.append_assoc]
      rfl
theorem stM_self {l : List Row} (h : Rising l) (hok : ∀ r ∈ l, okKey r.k = true) : stOkF [] l = true ∧ stM l = l := by
  have := stF_self l [] h hok
  rw [List.nil_append] at this
  exact this

theorem afterD_rising {x : Opn} {m : List Row} (h : Rising m) : Rising (afterD x m) := by
  unfold afterD
  split
  · exact putL_rising h
  · split
    · exact delL_rising h
    · exact h
theorem okO_key {x : Opn} (h : okO x = true) : okKey x.k = true := by
  unfold okO okOp at h
  simp only [Bool.and_eq_true] at h
  exact h.1.1.2
theorem afterD_ok {x : Opn} {m : List Row} (hx : okO x = true) (h : ∀ r ∈ m, okKey r.k = true) : ∀ r ∈ afterD x m, okKey r.k = true := by
  intro r hr
  unfold afterD at hr
  split at hr
  · rcases putL_mem hr with rfl | hr
    · exact okO_key hx
    · exact h r hr
  · split at hr
    · exact h r (delL_mem hr)
    · exact h r hr
theorem rowsR_good : ∀ (l : List Opn) (m : List Row), (∀ x ∈ l, okO x = true) → Rising m → (∀ r ∈ m, okKey r.k = true) → Rising (rowsR m l) ∧ ∀ r ∈ rowsR m l, okKey r.k = true
  | [], m, _, h1, h2 => ⟨h1, h2⟩
  | x :: l, m, ho, h1, h2 => rowsR_good l (afterD x m) (fun y hy => ho y (List.mem_cons_of_mem _ hy)) (afterD_rising h1) (afterD_ok (ho x (List.mem_cons_self ..)) h2)

/-- What a run left is as rows are that are put. -/
theorem run_left {rows left : List Row} {ops : List Opn} {rs : List (List Row)} (h : runP rows ops = some (rs, left)) : stOkF [] left = true ∧ stM left = left ∧ ∀ r ∈ left, okKey r.k = true := by
  unfold runP at h
  split at h
  · rename_i hc
    simp only [Bool.and_eq_true] at hc
    injection h with h
    injection h with h1 h2
    subst h2
    obtain ⟨g1, g2⟩ := rowsR_good ops (stM rows) (fun x hx => List.all_eq_true.1 hc.2 x hx) (stM_rising rows) (fun r hr => stF_ok rows [] hc.1 r ((stM_perm hc.1).mem_iff.1 hr))
    obtain ⟨e1, e2⟩ := stM_self g1 g2
    exact ⟨e1, e2, g2⟩
  · cases h

/-- Ops in two lists are those in one. -/
theorem run_append {rows left : List Row} {a b : List Opn} {rs : List (List Row)} (h : runP rows a = some (rs, left)) : runP rows (a ++ b) = (runP left b).map fun p => (rs ++ p.1, p.2) := by
  obtain ⟨e1, e2, _⟩ := run_left h
  unfold runP at h ⊢
  split at h
  · rename_i hc
    simp only [Bool.and_eq_true] at hc
    injection h with h
    injection h with h1 h2
    subst h1
    rw [List.all_append, hc.1, hc.2, e1]
    simp only [Bool.true_and]
    rw [e2]
    cases hb : b.all okO
    · rfl
    · simp only [if_true, Option.map_some]
      rw [outsR_append, rowsR_append, h2]
  · cases h
theorem run_append_none {rows : List Row} {a b : List Opn} (h : runP rows a = none) : runP rows (a ++ b) = none := by
  unfold runP at h ⊢
  split at h
  · cases h
  · rename_i hc
    rw [if_neg]
    intro e
    apply hc
    rw [List.all_append] at e
    simp only [Bool.and_eq_true] at e ⊢
    exact ⟨e.1, e.2.1⟩
theorem run_len {rows left : List Row} {ops : List Opn} {rs : List (List Row)} (h : runP rows ops = some (rs, left)) : left.length ≤ rows.length + ops.length ∧ rs.length = ops.length := by
  unfold runP at h
  split at h
  · injection h with h
    injection h with h1 h2
    subst h1 h2
    have h3 := rowsR_len ops (stM rows)
    have h4 : (stM rows).length ≤ ([] : List Row).length + rows.length := stM_len rows []
    simp only [List.length_nil] at h4
    exact ⟨by omega, outsR_len _ _⟩
  · cases h
theorem okKey_size {k : Str} (h : okKey k = true) : k.size ≤ 16 := by
  unfold okKey at h
  simp only [Bool.and_eq_true, decide_eq_true_eq] at h
  exact h.1.2

end Go.Proofs.YtimadkbdkdeepaaDoor
