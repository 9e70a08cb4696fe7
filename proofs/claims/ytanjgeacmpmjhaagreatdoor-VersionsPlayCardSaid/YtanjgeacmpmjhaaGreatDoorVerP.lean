import Derived.Test.YtanjgeacmpmjhaaGreatDoorMgVersionsPlay21
set_option linter.unusedVariables false
set_option linter.unusedSimpArgs false
namespace Go.Proofs.YtanjgeacmpmjhaaGreatDoor

/-! ### what a row was, behind a commit -/
/-- the last one that is no later. -/
def lastW (n : Int) (l : List Was) : Option Was := l.reverse.find? fun w => decide (w.at_ ≤ n)
def toldW : Option Was → Option Int
  | some w => if w.g then none else some w.v
  | none => none
def findW (n : Int) (l : List Was) : Option Int := toldW (lastW n l)

theorem lastW_snoc (n : Int) (l : List Was) (x : Was) : lastW n (l ++ [x]) = if x.at_ ≤ n then some x else lastW n l := by
  unfold lastW
  rw [List.reverse_append, List.reverse_singleton, List.singleton_append, List.find?_cons]
  by_cases h : x.at_ ≤ n <;> simp [h]
theorem lastW_nil (n : Int) : lastW n [] = none := rfl

/-- a change, at a commit. -/
def cutW (n : Int) (l : List Was) : List Was := match l.getLast? with | some w => if w.at_ = n then l.dropLast else l | none => l
def touch (n : Int) (l : List Was) (c : Change) : List Was := cutW n l ++ [⟨n, c.v, c.g⟩]

theorem cutW_snoc (n : Int) (l : List Was) (x : Was) : cutW n (l ++ [x]) = if x.at_ = n then l else l ++ [x] := by
  unfold cutW
  simp
theorem cutW_nil (n : Int) : cutW n [] = [] := rfl
theorem cutW_before {n m : Int} (h : m < n) (l : List Was) : lastW m (cutW n l) = lastW m l := by
  rcases List.eq_nil_or_concat l with rfl | ⟨l', x, rfl⟩
  · rfl
  · rw [List.concat_eq_append, cutW_snoc]
    by_cases hx : x.at_ = n
    · rw [if_pos hx, lastW_snoc, if_neg (by omega)]
    · rw [if_neg hx]
theorem findW_touch (n m : Int) (l : List Was) (c : Change) : findW m (touch n l c) = if n ≤ m then (if c.g then none else some c.v) else findW m l := by
  unfold findW touch
  rw [lastW_snoc]
  by_cases h : n ≤ m
  · rw [if_pos h, if_pos h]; rfl
  · rw [if_neg h, if_neg h, cutW_before (by omega)]
theorem touch_last (n : Int) (l : List Was) (c : Change) : (touch n l c).getLast? = some ⟨n, c.v, c.g⟩ := by simp [touch]
theorem touch_length (n : Int) (l : List Was) (c : Change) : (touch n l c).length ≤ l.length + 1 := by
  unfold touch cutW
  cases l.getLast? with
  | none => simp
  | some w =>
    simp only
    split <;> simp <;> omega

/-- what is there of each key. -/
abbrev Hist := Str → List Was
def updW (n : Int) (H : Hist) (c : Change) : Hist := fun k => if c.k = k then touch n (H k) c else H k
def commitW (n : Int) (H : Hist) (cs : List Change) : Hist := cs.foldl (updW n) H

theorem findW_commit_old {n m : Int} (h : m < n) (k : Str) : ∀ (cs : List Change) (H : Hist), findW m (commitW n H cs k) = findW m (H k)
  | [], _ => rfl
  | c :: cs, H => by
    show findW m (commitW n (updW n H c) cs k) = _
    rw [findW_commit_old h k cs]
    unfold updW
    split
    · rw [findW_touch, if_neg (by omega)]
    · rfl
theorem findW_commit_new {n m : Int} (h : n ≤ m) (k : Str) : ∀ (cs : List Change) (H : Hist), findW m (commitW n H cs k) = cs.foldl (stepK k) (findW m (H k))
  | [], _ => rfl
  | c :: cs, H => by
    show findW m (commitW n (updW n H c) cs k) = cs.foldl (stepK k) (stepK k (findW m (H k)) c)
    rw [findW_commit_new h k cs]
    congr 1
    unfold updW stepK
    split
    · rw [findW_touch, if_pos h]
    · rfl
theorem commitW_last (n : Int) (k : Str) : ∀ (cs : List Change) (H : Hist), ((∀ c ∈ cs, c.k ≠ k) ∧ commitW n H cs k = H k) ∨ ((∃ c ∈ cs, c.k = k) ∧ ∃ w, (commitW n H cs k).getLast? = some w ∧ w.at_ = n)
  | [], _ => .inl ⟨by simp, rfl⟩
  | c :: cs, H => by
    rcases commitW_last n k cs (updW n H c) with ⟨h1, h2⟩ | ⟨⟨d, hd, hk⟩, w, hw⟩
    · by_cases hc : c.k = k
      · refine .inr ⟨⟨c, by simp, hc⟩, ⟨n, c.v, c.g⟩, ?_, rfl⟩
        show (commitW n (updW n H c) cs k).getLast? = _
        rw [h2]
        unfold updW
        rw [if_pos hc, touch_last]
      · refine .inl ⟨fun d hd => ?_, ?_⟩
        · rcases List.mem_cons.1 hd with rfl | hd
          · exact hc
          · exact h1 d hd
        · show commitW n (updW n H c) cs k = _
          rw [h2]
          unfold updW
          rw [if_neg hc]
    · exact .inr ⟨⟨d, by simp [hd], hk⟩, w, hw⟩
theorem commitW_snoc (n : Int) (H : Hist) (cs : List Change) (j : Nat) (c : Change) (h : cs[j]? = some c) : commitW n H (cs.take (j + 1)) = updW n (commitW n H (cs.take j)) c := by
  obtain ⟨hl, he⟩ := List.getElem?_eq_some_iff.1 h
  rw [List.take_succ_eq_append_getElem hl, he]
  unfold commitW
  rw [List.foldl_append]; rfl
theorem commitW_length (n : Int) (k : Str) : ∀ (cs : List Change) (H : Hist), (commitW n H cs k).length ≤ (H k).length + cs.length
  | [], _ => by simp [commitW]
  | c :: cs, H => by
    show (commitW n (updW n H c) cs k).length ≤ _
    refine Nat.le_trans (commitW_length n k cs _) ?_
    unfold updW
    split
    · have := touch_length n (H k) c; simp only [List.length_cons]; omega
    · simp only [List.length_cons]; omega

/-- what is left of one when nobody looks ahead of a commit any more: from the last one on that is no later than that. -/
def trimAt (n : Int) (l : List Was) : Nat := (l.length - 1) - ((l.drop 1).reverse.takeWhile fun w => decide (n < w.at_)).length
def trimW (n : Int) (l : List Was) : List Was := l.drop (trimAt n l)

theorem lastW_drop {n m : Int} (h : n ≤ m) : ∀ (l : List Was) (i : Nat), i ≤ l.length → (i = 0 ∨ ∃ w, l[i]? = some w ∧ w.at_ ≤ n) → lastW m (l.drop i) = lastW m l := by
  intro l i hi hw
  rcases hw with rfl | ⟨w, hw, hn⟩
  · rfl
  · obtain ⟨hl, he⟩ := List.getElem?_eq_some_iff.1 hw
    have e : l = l.take i ++ (w :: l.drop (i + 1)) := by
      rw [← he, List.getElem_cons_drop, List.take_append_drop]
    rw [List.drop_eq_getElem_cons hl, he]
    conv => rhs; rw [e]
    unfold lastW
    rw [List.reverse_append, List.find?_append]
    cases hf : List.find? (fun w => decide (w.at_ ≤ m)) (w :: l.drop (i + 1)).reverse with
    | some x => rfl
    | none =>
      rw [List.find?_eq_none] at hf
      have := hf w (by simp)
      simp only [decide_eq_true_eq] at this
      omega

/-! ### commits, one behind the other -/
/-- the rows behind a commit. -/
def rowsN (hist : List (List Change)) (n : Nat) : List Row := doCs (hist.take n).flatten []
theorem rowsN_rising (hist : List (List Change)) (n : Nat) : Rising (rowsN hist n) := doCs_rising _ List.Pairwise.nil
theorem rowsN_ge (hist : List (List Change)) {n m : Nat} (hn : hist.length ≤ n) (hm : hist.length ≤ m) : rowsN hist n = rowsN hist m := by
  unfold rowsN
  rw [List.take_of_length_le hn, List.take_of_length_le hm]
theorem rowsN_snoc_old (hist : List (List Change)) (cs : List Change) {n : Nat} (h : n ≤ hist.length) : rowsN (hist ++ [cs]) n = rowsN hist n := by
  unfold rowsN
  rw [List.take_append_of_le_length h]
theorem rowsN_snoc_new (hist : List (List Change)) (cs : List Change) {n : Nat} (h : hist.length < n) : rowsN (hist ++ [cs]) n = doCs cs (rowsN hist hist.length) := by
  unfold rowsN
  rw [List.take_of_length_le (by simp; omega), List.take_length, List.flatten_append, doCs_append]
  simp
theorem rowsN_zero (hist : List (List Change)) : rowsN hist 0 = [] := rfl
theorem rowsN_succ (hist : List (List Change)) (n : Nat) (cs : List Change) (h : hist[n]? = some cs) : rowsN hist (n + 1) = doCs cs (rowsN hist n) := by
  obtain ⟨hl, he⟩ := List.getElem?_eq_some_iff.1 h
  unfold rowsN
  rw [List.take_succ_eq_append_getElem hl, he, List.flatten_append, doCs_append]
  simp

theorem doC_ok {m : List Row} {c : Change} (hc : okKey c.k = true) (h : ∀ x ∈ m, okKey x.k = true) : ∀ x ∈ doC m c, okKey x.k = true := fun x hx => by
  unfold doC at hx
  split at hx
  · exact h x (delL_mem hx)
  · rcases putL_mem hx with rfl | hx
    · exact hc
    · exact h x hx
theorem doCs_ok : ∀ (cs : List Change) {m : List Row}, (∀ c ∈ cs, okKey c.k = true) → (∀ x ∈ m, okKey x.k = true) → ∀ x ∈ doCs cs m, okKey x.k = true
  | [], _, _, h => h
  | c :: cs, m, hc, h => doCs_ok cs (fun d hd => hc d (by simp [hd])) (doC_ok (hc c (by simp)) h)
theorem okChange_key {c : Change} (h : okChange c = true) : okKey c.k = true := by
  unfold okChange at h
  rw [Bool.and_eq_true] at h
  exact h.1

/-- What a past is: all commits, from where on one may look, what is there of each key. -/
structure Past (hist : List (List Change)) (trim : Nat) (H : Hist) : Prop where
  le : trim ≤ hist.length
  ok : ∀ cs ∈ hist, ∀ c ∈ cs, okChange c = true
  find : ∀ (k : Str) (n : Nat), trim ≤ n → findW n (H k) = getL k (rowsN hist n)
  last : ∀ (k : Str) (w : Was), (H k).getLast? = some w → ∃ i : Nat, w.at_ = ((i + 1 : Nat) : Int) ∧ (∃ cs, hist[i]? = some cs ∧ ∃ c ∈ cs, c.k = k) ∧ ∀ (j : Nat) cs, i < j → hist[j]? = some cs → ∀ c ∈ cs, c.k ≠ k
  none : ∀ (k : Str), H k = [] → ∀ cs ∈ hist, ∀ c ∈ cs, c.k ≠ k
  zero : ∀ (k : Str), ∀ w ∈ H k, w.g = true → w.v = 0

theorem cutW_mem {n : Int} {l : List Was} {w : Was} (h : w ∈ cutW n l) : w ∈ l := by
  unfold cutW at h
  split at h
  · split at h
    · exact List.dropLast_subset _ h
    · exact h
  · exact h
theorem commitW_zero (n : Int) (k : Str) : ∀ (cs : List Change) (H : Hist), (∀ c ∈ cs, c.g = true → c.v = 0) → (∀ w ∈ H k, w.g = true → w.v = 0) → ∀ w ∈ commitW n H cs k, w.g = true → w.v = 0
  | [], _, _, h => h
  | c :: cs, H, hc, h => commitW_zero n k cs (updW n H c) (fun d hd => hc d (by simp [hd])) fun w hw => by
    unfold updW at hw
    split at hw
    · rcases List.mem_append.1 hw with hw | hw
      · exact h w (cutW_mem hw)
      · rw [List.mem_singleton.1 hw]; exact hc c (by simp)
    · exact h w hw
theorem okChange_zero {c : Change} (h : okChange c = true) (hg : c.g = true) : c.v = 0 := by
  unfold okChange at h
  rw [hg] at h
  simp at h
  exact h.2

theorem Past.new : Past [] 0 (fun _ => []) :=
  ⟨Nat.le_refl _, by simp, fun k n _ => by simp [findW, lastW, toldW, rowsN, doCs, getL], fun k w h => by simp at h, fun k _ cs hcs => (by cases hcs), fun k w hw => by cases hw⟩

theorem Past.rows_ok {hist : List (List Change)} {trim : Nat} {H : Hist} (h : Past hist trim H) (n : Nat) : ∀ x ∈ rowsN hist n, okKey x.k = true :=
  doCs_ok _ (fun c hc => by
    obtain ⟨cs, hcs, hc⟩ := List.mem_flatten.1 hc
    exact okChange_key (h.ok cs (List.mem_of_mem_take hcs) c hc)) (by simp)

theorem Past.key_ok {hist : List (List Change)} {trim : Nat} {H : Hist} (h : Past hist trim H) {k : Str} (hk : H k ≠ []) : okKey k = true := by
  obtain ⟨w, hw⟩ : ∃ w, (H k).getLast? = some w := by
    cases hg : (H k).getLast? with
    | none => exact (hk (List.getLast?_eq_none_iff.1 hg)).elim
    | some w => exact ⟨w, rfl⟩
  obtain ⟨i, _, ⟨cs, hcs, c, hc, rfl⟩, _⟩ := h.last k w hw
  exact okChange_key (h.ok cs (List.mem_of_getElem? hcs) c hc)

theorem Past.commit {hist : List (List Change)} {trim : Nat} {H : Hist} (h : Past hist trim H) (cs : List Change) (hcs : ∀ c ∈ cs, okChange c = true) : Past (hist ++ [cs]) trim (commitW ((hist.length + 1 : Nat) : Int) H cs) where
  le := by have := h.le; simp; omega
  ok := fun ds hds => by
    rcases List.mem_append.1 hds with hds | hds
    · exact h.ok ds hds
    · rw [List.mem_singleton.1 hds]; exact hcs
  find := fun k n hn => by
    by_cases hle : n ≤ hist.length
    · rw [findW_commit_old (by omega), rowsN_snoc_old _ _ hle]
      exact h.find k n hn
    · rw [findW_commit_new (by omega), rowsN_snoc_new _ _ (by omega), getL_doCs k cs (rowsN_rising _ _), h.find k n hn, rowsN_ge hist (n := n) (m := hist.length) (by omega) (Nat.le_refl _)]
  last := fun k w hw => by
    rcases commitW_last ((hist.length + 1 : Nat) : Int) k cs H with ⟨h1, h2⟩ | ⟨h1, w', hw', hn⟩
    · rw [h2] at hw
      obtain ⟨i, e, ⟨ds, hds, hc⟩, hno⟩ := h.last k w hw
      have hi := (List.getElem?_eq_some_iff.1 hds).1
      refine ⟨i, e, ⟨ds, by rw [List.getElem?_append_left hi]; exact hds, hc⟩, fun j es hj hes c hc => ?_⟩
      by_cases hjl : j < hist.length
      · rw [List.getElem?_append_left hjl] at hes
        exact hno j es hj hes c hc
      · rw [List.getElem?_append_right (by omega)] at hes
        have hes' := List.mem_of_getElem? hes
        rw [List.mem_singleton.1 hes'] at hc
        exact h1 c hc
    · rw [hw'] at hw
      injection hw with hw
      subst hw
      refine ⟨hist.length, hn, ⟨cs, by simp, h1⟩, fun j es hj hes => ?_⟩
      have := (List.getElem?_eq_some_iff.1 hes).1
      simp at this
      omega
  none := fun k hk ds hds => by
    rcases commitW_last ((hist.length + 1 : Nat) : Int) k cs H with ⟨h1, h2⟩ | ⟨h1, w', hw', hn⟩
    · rw [h2] at hk
      rcases List.mem_append.1 hds with hds | hds
      · exact h.none k hk ds hds
      · rw [List.mem_singleton.1 hds]; exact h1
    · rw [hk] at hw'
      cases hw'
  zero := fun k => commitW_zero _ k cs H (fun c hc => okChange_zero (hcs c hc)) (h.zero k)

theorem trimAt_le (n : Int) (l : List Was) : trimAt n l ≤ l.length := by unfold trimAt; omega
theorem trimW_last {n : Int} {l : List Was} : (trimW n l).getLast? = l.getLast? := by
  unfold trimW
  cases hl : l with
  | nil => simp
  | cons x xs =>
    rw [← hl]
    have : trimAt n l < l.length := by rw [hl]; unfold trimAt; simp only [List.length_cons]; omega
    rw [List.getLast?_drop, if_neg (by omega)]
theorem trimW_nil {n : Int} {l : List Was} : trimW n l = [] ↔ l = [] := by
  rw [← List.getLast?_eq_none_iff, ← List.getLast?_eq_none_iff, trimW_last]

/-- how the program looks for it: from the last one back. -/
theorem trimAt_of {n : Int} {l : List Was} {i : Nat} (hi : i < l.length) (hb : ∀ j w, i < j → l[j]? = some w → n < w.at_) (hs : i = 0 ∨ ∃ w, l[i]? = some w ∧ w.at_ ≤ n) : trimAt n l = i := by
  have key : ((l.drop 1).reverse.takeWhile fun w => decide (n < w.at_)).length = l.length - 1 - i := by
    have e : (l.drop 1).reverse = (l.drop (i + 1)).reverse ++ ((l.drop 1).take i).reverse := by
      rw [← List.reverse_append]
      congr 1
      have h := (List.take_append_drop i (l.drop 1)).symm
      rw [List.drop_drop, Nat.add_comm 1 i] at h
      exact h
    rw [e, List.takeWhile_append_of_pos (fun w hw => by
      rw [List.mem_reverse] at hw
      obtain ⟨q, hq, rfl⟩ := List.mem_iff_getElem.1 hw
      have := hb (i + 1 + q) _ (by omega) (by rw [← List.getElem?_drop]; exact List.getElem?_eq_getElem hq)
      simpa using this)]
    have : (((l.drop 1).take i).reverse.takeWhile fun w => decide (n < w.at_)) = [] := by
      rcases hs with rfl | ⟨w, hw, hn⟩
      · simp
      · cases i with
        | zero => simp
        | succ i =>
          have hq : ((l.drop 1).take (i + 1)).reverse = w :: ((l.drop 1).take i).reverse := by
            have hlt : i < (l.drop 1).length := by simp; omega
            rw [List.take_succ_eq_append_getElem hlt, List.reverse_append]
            have : (l.drop 1)[i] = w := by
              have hg : (l.drop 1)[i]? = some w := by rw [List.getElem?_drop, Nat.add_comm]; exact hw
              rw [List.getElem?_eq_getElem hlt] at hg
              exact Option.some.inj hg
            rw [this]; rfl
          rw [hq, List.takeWhile_cons, if_neg (by simp; omega)]
    rw [this, List.append_nil, List.length_reverse, List.length_drop]
    omega
  unfold trimAt
  rw [key]
  omega

theorem trimAt_spec (n : Int) (l : List Was) (hl : l ≠ []) : trimAt n l < l.length ∧ (trimAt n l = 0 ∨ ∃ w, l[trimAt n l]? = some w ∧ w.at_ ≤ n) := by
  have hp : 0 < l.length := List.length_pos_iff.2 hl
  -- the last place of which one says so
  have : ∃ i, i < l.length ∧ (∀ j w, i < j → l[j]? = some w → n < w.at_) ∧ (i = 0 ∨ ∃ w, l[i]? = some w ∧ w.at_ ≤ n) := by
    have : ∀ d, d < l.length → (∀ j w, l.length - 1 - d < j → l[j]? = some w → n < w.at_) → ∃ i, i < l.length ∧ (∀ j w, i < j → l[j]? = some w → n < w.at_) ∧ (i = 0 ∨ ∃ w, l[i]? = some w ∧ w.at_ ≤ n) := by
      intro d
      induction hq : l.length - 1 - d generalizing d with
      | zero => intro hd hb; exact ⟨0, hp, hb, .inl rfl⟩
      | succ m ih =>
        intro hd hb
        have hlt : m + 1 < l.length := by omega
        by_cases hw : l[m + 1].at_ ≤ n
        · exact ⟨m + 1, hlt, hb, .inr ⟨_, List.getElem?_eq_getElem hlt, hw⟩⟩
        · refine ih (d + 1) (by omega) (by omega) fun j w hj hjw => ?_
          by_cases e : j = m + 1
          · subst e
            rw [List.getElem?_eq_getElem hlt] at hjw
            injection hjw with hjw
            rw [← hjw]; omega
          · exact hb j w (by omega) hjw
    exact this 0 hp fun j w hj hjw => by have := (List.getElem?_eq_some_iff.1 hjw).1; omega
  obtain ⟨i, h1, h2, h3⟩ := this
  rw [trimAt_of h1 h2 h3]
  exact ⟨h1, h3⟩

theorem Past.trim {hist : List (List Change)} {trim : Nat} {H : Hist} (h : Past hist trim H) {n : Nat} (h1 : trim ≤ n) (h2 : n ≤ hist.length) : Past hist n (fun k => trimW n (H k)) where
  le := h2
  ok := h.ok
  find := fun k m hm => by
    rw [← h.find k m (by omega)]
    unfold findW trimW
    by_cases he : H k = []
    · rw [he]; rfl
    · obtain ⟨s1, s2⟩ := trimAt_spec n (H k) he
      rw [lastW_drop (n := n) (m := m) (by omega) _ _ (Nat.le_of_lt s1) s2]
  last := fun k w hw => h.last k w (by rw [trimW_last] at hw; exact hw)
  none := fun k hk => h.none k (trimW_nil.1 hk)
  zero := fun k w hw => h.zero k w (List.mem_of_mem_drop hw)

/-- did something of a span change behind a commit? -/
def sinceH (hist : List (List Change)) (n : Nat) (f t : Str) : Bool := (hist.drop n).any fun cs => cs.any fun c => meet4 c.k c.k f t
theorem sinceH_true {hist : List (List Change)} {n : Nat} {f t : Str} : sinceH hist n f t = true ↔ ∃ j cs, n ≤ j ∧ hist[j]? = some cs ∧ ∃ c ∈ cs, meet4 c.k c.k f t = true := by
  unfold sinceH
  rw [List.any_eq_true]
  constructor
  · rintro ⟨cs, hcs, hc⟩
    obtain ⟨q, hq, rfl⟩ := List.mem_iff_getElem.1 hcs
    exact ⟨n + q, _, by omega, by rw [← List.getElem?_drop]; exact List.getElem?_eq_getElem hq, List.any_eq_true.1 hc⟩
  · rintro ⟨j, cs, hj, hcs, hc⟩
    refine ⟨cs, ?_, List.any_eq_true.2 hc⟩
    obtain ⟨q, rfl⟩ : ∃ q, j = n + q := ⟨j - n, by omega⟩
    rw [← List.getElem?_drop] at hcs
    exact List.mem_of_getElem? hcs

theorem Past.since {hist : List (List Change)} {trim : Nat} {H : Hist} (h : Past hist trim H) (n : Nat) (f t : Str) :
    sinceH hist n f t = true ↔ ∃ k w, (H k).getLast? = some w ∧ (n : Int) < w.at_ ∧ meet4 k k f t = true := by
  rw [sinceH_true]
  constructor
  · rintro ⟨j, cs, hj, hcs, c, hc, hm⟩
    cases hg : (H c.k).getLast? with
    | none => exact (h.none c.k (List.getLast?_eq_none_iff.1 hg) cs (List.mem_of_getElem? hcs) c hc rfl).elim
    | some w =>
      refine ⟨c.k, w, hg, ?_, hm⟩
      obtain ⟨i, e, _, hno⟩ := h.last c.k w hg
      rcases Nat.lt_or_ge i j with hlt | hge
      · exact (hno j cs hlt hcs c hc rfl).elim
      · omega
  · rintro ⟨k, w, hw, hn, hm⟩
    obtain ⟨i, e, ⟨cs, hcs, c, hc, rfl⟩, _⟩ := h.last k w hw
    exact ⟨i, cs, by omega, hcs, c, hc, hm⟩

theorem meet_key (k f t : Str) : meet4 k k f t = sin k f t := by
  rw [Bool.eq_iff_iff, meet4_true]
  unfold sin
  rw [Bool.and_eq_true]
  exact ⟨fun h => ⟨h.2.2.2, h.2.2.1⟩, fun h => ⟨sle_refl _, sle_trans h.1 h.2, h.2, h.1⟩⟩

/-- Rows of which all of a span are alike have the same ones in it. -/
theorem rowsIn_ext {f t : Str} {l m : List Row} (hl : Rising l) (hm : Rising m) (h : ∀ k, sin k f t = true → getL k l = getL k m) : rowsIn f t l = rowsIn f t m := by
  have hg : ∀ (l : List Row), Rising l → ∀ k, getL k (rowsIn f t l) = if sin k f t = true then getL k l else none := fun l hl k => by
    have hr : Rising (rowsIn f t l) := hl.sublist (List.filter_sublist ..)
    by_cases hk : sin k f t = true
    · rw [if_pos hk]
      cases hg : getL k l with
      | none =>
        rw [getL_none] at hg ⊢
        exact fun x hx => hg x (List.mem_filter.1 hx).1
      | some v => exact getL_of_mem (x := ⟨k, v⟩) hr (List.mem_filter.2 ⟨getL_mem hg, hk⟩)
    · rw [if_neg hk, getL_none]
      intro x hx e
      exact hk (e ▸ (List.mem_filter.1 hx).2)
  refine rising_ext (hl.sublist (List.filter_sublist ..)) (hm.sublist (List.filter_sublist ..)) fun k => ?_
  rw [hg l hl, hg m hm]
  by_cases hk : sin k f t = true
  · rw [if_pos hk, if_pos hk, h k hk]
  · rw [if_neg hk, if_neg hk]

theorem foldl_stepK_none (k : Str) : ∀ (cs : List Change) (r : Option Int), (∀ c ∈ cs, c.k ≠ k) → cs.foldl (stepK k) r = r
  | [], _, _ => rfl
  | c :: cs, r, h => by
    rw [List.foldl_cons, foldl_stepK_none k cs _ (fun d hd => h d (by simp [hd]))]
    unfold stepK
    rw [if_neg (h c (by simp))]

theorem getL_rowsN (hist : List (List Change)) (n : Nat) (k : Str) : getL k (rowsN hist n) = (hist.take n).flatten.foldl (stepK k) none := by
  unfold rowsN
  rw [getL_doCs k _ List.Pairwise.nil]; rfl

/-- Where nothing of a span changed, its rows are as they were. -/
theorem since_same {hist : List (List Change)} {n m : Nat} {f t : Str} (h : sinceH hist n f t = false) (hm : n ≤ m) : rowsIn f t (rowsN hist n) = rowsIn f t (rowsN hist m) := by
  refine rowsIn_ext (rowsN_rising _ _) (rowsN_rising _ _) fun k hk => ?_
  have e : hist.take m = hist.take n ++ (hist.drop n).take (m - n) := by
    rw [← List.take_add]; congr 1; omega
  rw [getL_rowsN, getL_rowsN, e, List.flatten_append, List.foldl_append]
  refine (foldl_stepK_none k _ _ ?_).symm
  intro c hc hk'
  obtain ⟨cs, hcs, hc⟩ := List.mem_flatten.1 hc
  have hcs' := List.mem_of_mem_take hcs
  have : sinceH hist n f t = true := by
    unfold sinceH
    exact List.any_eq_true.2 ⟨cs, hcs', List.any_eq_true.2 ⟨c, hc, by rw [hk', meet_key]; exact hk⟩⟩
  rw [h] at this; cases this

/-! ### what a scan of one key tells; scans of two spans -/
theorem rowsIn_one (k : Str) {l : List Row} (hr : Rising l) : rowsIn k k l = match getL k l with | some v => [⟨k, v⟩] | none => [] := by
  have hs : ∀ x : Row, sin x.k k k = decide (x.k = k) := fun x => by
    rw [Bool.eq_iff_iff]
    unfold sin
    rw [Bool.and_eq_true, decide_eq_true_eq]
    exact ⟨fun h => (sle_antisymm h.1 h.2).symm, fun h => by rw [h]; exact ⟨sle_refl _, sle_refl _⟩⟩
  refine rising_ext (hr.sublist (List.filter_sublist ..)) ?_ fun k' => ?_
  · cases getL k l <;> simp [Rising]
  · cases hg : getL k l with
    | none =>
      rw [show (match (none : Option Int) with | some v => [(⟨k, v⟩ : Row)] | none => []) = [] from rfl]
      rw [getL_none] at hg
      rw [show getL k' [] = none from rfl, getL_none]
      intro x hx
      have := (List.mem_filter.1 hx).2
      rw [hs, decide_eq_true_eq] at this
      exact (hg x (List.mem_filter.1 hx).1 this).elim
    | some v =>
      have hmem := getL_mem hg
      have hmem' : (⟨k, v⟩ : Row) ∈ rowsIn k k l := List.mem_filter.2 ⟨hmem, by rw [hs]; simp⟩
      by_cases e : k' = k
      · subst e
        have h2 : getL k' (rowsIn k' k' l) = some v := getL_of_mem (x := ⟨k', v⟩) (hr.sublist (List.filter_sublist ..)) hmem'
        rw [h2]
        simp [getL]
      · have h1 : getL k' (rowsIn k k l) = none := by
          rw [getL_none]
          intro x hx ex
          have := (List.mem_filter.1 hx).2
          rw [hs, decide_eq_true_eq] at this
          exact e (ex.symm.trans this)
        rw [h1]
        symm
        show getL k' [(⟨k, v⟩ : Row)] = none
        rw [getL_none]
        intro x hx
        rw [List.mem_singleton.1 hx]
        exact fun h => e h.symm

theorem lt8_next : ∀ (k b : List UInt8), (∀ c ∈ k, okRune c.toNat = true) → lt8 b k = true → lt8 k (b ++ [48]) = false
  | [], b, _, h => by rw [lt8_nil] at h; cases h
  | c :: k, [], hk, _ => by
    have := hk c (by simp)
    unfold okRune at this
    simp only [Bool.or_eq_true, Bool.and_eq_true, decide_eq_true_eq] at this
    have hc : ¬ c.toNat < 48 := by omega
    simp only [List.nil_append, lt8, lt8_nil, Bool.and_false, Bool.or_false, decide_eq_false_iff_not, UInt8.lt_iff_toNat_lt]
    exact hc
  | c :: k, d :: b, hk, h => by
    simp only [lt8, Bool.or_eq_true, decide_eq_true_eq, Bool.and_eq_true, beq_iff_eq, List.cons_append, Bool.or_eq_false_iff, decide_eq_false_iff_not, Bool.and_eq_false_iff, beq_eq_false_iff_ne, UInt8.lt_iff_toNat_lt] at *
    rcases h with h | ⟨rfl, h⟩
    · exact ⟨by omega, .inl fun e => by subst e; omega⟩
    · exact ⟨by omega, .inr (lt8_next k b (fun x hx => hk x (by simp [hx])) h)⟩

theorem lt8_prefixV : ∀ b : List UInt8, lt8 b (b ++ [48]) = true
  | [] => rfl
  | x :: b => by simp [lt8, lt8_prefixV b]

/-- The next key behind a text is what '0' is put behind it. -/
theorem next_key {k b b0 : Str} (hk : okKey k = true) (hb : b0.l = b.l ++ [48]) : sle b0 k = slt b k := by
  have hc : ∀ c ∈ k.l, okRune c.toNat = true := by
    unfold okKey at hk
    simp only [Bool.and_eq_true, List.all_eq_true] at hk
    exact hk.2
  have hbb : slt b b0 = true := by
    unfold slt
    rw [hb]
    have := lt8_prefixV b.l
    exact this
  cases h : slt b k with
  | true =>
    unfold sle slt
    rw [hb, lt8_next k.l b.l hc h]; rfl
  | false =>
    cases h2 : sle b0 k with
    | false => rfl
    | true =>
      have := slt_of_slt_sle hbb h2
      rw [h] at this; cases this

theorem filter_split {b : Str} (p : Row → Bool) : ∀ {l : List Row}, Rising l → l.filter p = (l.filter fun x => p x && sle x.k b) ++ l.filter fun x => p x && slt b x.k
  | [], _ => rfl
  | x :: l, h => by
    have ih := filter_split (b := b) p h.tail
    cases hx : sle x.k b with
    | true =>
      have hs : slt b x.k = false := by simpa [sle] using hx
      cases hp : p x <;> simp [List.filter_cons, hp, hx, hs, ih]
    | false =>
      have hs : slt b x.k = true := not_sle.1 hx
      have hno : ∀ q ∈ x :: l, (p q && sle q.k b) = false := fun q hq => by
        have : slt b q.k = true := by
          rcases List.mem_cons.1 hq with rfl | hq
          · exact hs
          · exact slt_trans hs (h.head hq)
        rw [not_sle.2 this, Bool.and_false]
      have e1 : ((x :: l).filter fun x => p x && sle x.k b) = [] := List.filter_eq_nil_iff.2 fun q hq => by rw [hno q hq]; exact Bool.false_ne_true
      rw [e1, List.nil_append]
      refine List.filter_congr fun q hq => ?_
      have : slt b q.k = true := by
        rcases List.mem_cons.1 hq with rfl | hq
        · exact hs
        · exact slt_trans hs (h.head hq)
      rw [this, Bool.and_true]

theorem rowsIn_split {a b b0 c : Str} {l : List Row} (hr : Rising l) (hok : ∀ x ∈ l, okKey x.k = true) (hab : sle a b = true) (hbc : slt b c = true) (hb : b0.l = b.l ++ [48]) : rowsIn a c l = rowsIn a b l ++ rowsIn b0 c l := by
  have h := filter_split (b := b) (fun x : Row => sin x.k a c) hr
  unfold rowsIn
  rw [h]
  congr 1
  · refine List.filter_congr fun x _ => ?_
    unfold sin
    cases h1 : sle x.k b with
    | false => simp
    | true => rw [sle_trans h1 (sle_of_slt hbc)]; simp
  · refine List.filter_congr fun x hx => ?_
    unfold sin
    rw [next_key (hok x hx) hb]
    cases h1 : slt b x.k with
    | false => simp
    | true => rw [sle_trans hab (sle_of_slt h1)]; simp

abbrev z16 : Str := ⟨#[122, 122, 122, 122, 122, 122, 122, 122, 122, 122, 122, 122, 122, 122, 122, 122]⟩
abbrev s0 : Str := ⟨#[48]⟩
theorem sin_keys {k : Str} (h : okKey k = true) : sin k s0 z16 = true := by
  unfold okKey at h
  simp only [Bool.and_eq_true, decide_eq_true_eq, List.all_eq_true] at h
  obtain ⟨⟨h0, h1⟩, h2⟩ := h
  have hl : k.l.length = k.size := by
    show k.data.toList.length = k.size
    rw [Array.length_toList]; rfl
  unfold sin
  rw [Bool.and_eq_true]
  constructor
  · show (!lt8 k.l [48]) = true
    cases hk : k.l with
    | nil => rw [hk] at hl; simp at hl; omega
    | cons c cs =>
      have := h2 c (by rw [hk]; simp)
      unfold okRune at this
      simp only [Bool.or_eq_true, Bool.and_eq_true, decide_eq_true_eq] at this
      have hc : ¬ c.toNat < 48 := by omega
      simp only [lt8, lt8_nil, Bool.and_false, Bool.or_false, Bool.not_eq_true', decide_eq_false_iff_not, UInt8.lt_iff_toNat_lt]
      exact hc
  · show (!lt8 (List.replicate 16 122) k.l) = true
    rw [lt8_z 16 _ h2 (by omega)]; rfl
theorem rowsIn_keys {m : List Row} (h : ∀ x ∈ m, okKey x.k = true) : rowsIn s0 z16 m = m := by
  unfold rowsIn
  rw [List.filter_eq_self]
  exact fun x hx => sin_keys (h x hx)

theorem rowsN_length (hist : List (List Change)) (n : Nat) : (rowsN hist n).length ≤ hist.flatten.length := by
  unfold rowsN
  refine Nat.le_trans (doCs_length _ _) ?_
  simp only [List.length_nil, Nat.zero_add]
  conv => rhs; rw [← List.take_append_drop n hist, List.flatten_append, List.length_append]
  omega

end Go.Proofs.YtanjgeacmpmjhaaGreatDoor
