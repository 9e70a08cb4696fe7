import Derived.Test.YtanjgeacmpmjhaaGreatDoorMgPlansCheckUpto9
import Derived.Deep.RegionHeld3
import Derived.StillTailTactics
import Derived.Test.YtanjgeacmpmjhaaGreatDoorPlDeed
import Derived.Test.YtanjgeacmpmjhaaGreatDoorApp
import Derived.Test.YtanjgeacmpmjhaaGreatDoorMgPlansCheckUpto2
import Derived.Test.YtanjgeacmpmjhaaGreatDoorBk0
set_option linter.unusedVariables false
set_option linter.unusedSimpArgs false
set_option linter.unusedSectionVars false
namespace Go.Proofs.YtanjgeacmpmjhaaGreatDoor
open Go.RowKit

theorem info_res : (Tryz.prog.info? 174).map (fun i => (i.zero, i.size, i.bytes)) = some (some (.agg #[.slice none 0 0]), 1, 24) := by kernel_rfl

section
variable {α : Type} {enc : α → List Value} {k : Nat} {E : TypeId} {base : Nat} {w w' : World} {v : Value} {xs : List α}
theorem Own.same (h : Own enc k E base w v xs) (hF : ∀ g, v.ownBlock = some g → w'.heap[g]? = w.heap[g]?) : Own enc k E base w' v xs := by
  refine ⟨h.1, ?_⟩
  rcases h.2 with h | ⟨g, cap, cur, rfl, h2, h3, h4⟩
  · exact .inl h
  · exact .inr ⟨g, cap, cur, rfl, h2, (hF g rfl).trans h3, h4⟩
end

/-- Slices that have no block in common. -/
def SlSep (a b : SlV) : Prop := ∀ g, a.val.ownBlock = some g → b.val.ownBlock ≠ some g
/-- Results that lie in slices of their own. -/
def ResL (base : Nat) (w : World) (v : Value) (rs : List (List Row)) (N : Nat → Prop) : Prop :=
  ∃ ss : List SlV, Own SlV.enc 1 174 base w v ss ∧ ss.length = rs.length ∧
    (∀ (i : Nat) (s : SlV) (r : List Row), ss[i]? = some s → rs[i]? = some r → Own Row.enc 2 44 base w s.val r ∧ ∀ g, s.val.ownBlock = some g → N g) ∧ ss.Pairwise SlSep

theorem ResL.nil (base : Nat) (w : World) (N : Nat → Prop) : ResL base w (.slice none 0 0) [] N :=
  ⟨[], .nil _ _ _ _ _, rfl, fun i s r hs => by simp at hs, .nil⟩

theorem ResL.mono {base : Nat} {w w' : World} {v : Value} {rs : List (List Row)} {N N' : Nat → Prop} (h : ResL base w v rs N)
    (hv : ∀ g, v.ownBlock = some g → (∃ cur, w.heap[g]? = some (.cells cur 174 (0, 0))) → w'.heap[g]? = w.heap[g]?)
    (hr : ∀ g, (∃ cur, w.heap[g]? = some (.cells cur 44 (0, 0))) → N g → w'.heap[g]? = w.heap[g]? ∧ N' g) : ResL base w' v rs N' := by
  obtain ⟨ss, ho, hl, hs, hp⟩ := h
  refine ⟨ss, ho.same fun g hg => hv g hg (ho.typed g hg).2, hl, fun i s r h1 h2 => ?_, hp⟩
  obtain ⟨h3, h4⟩ := hs i s r h1 h2
  exact ⟨h3.same fun g hg => (hr g (h3.typed g hg).2 (h4 g hg)).1, fun g hg => (hr g (h3.typed g hg).2 (h4 g hg)).2⟩

theorem ResL.below {base : Nat} {w w' : World} {v : Value} {rs : List (List Row)} {N : Nat → Prop} (h : ResL base w v rs N) (hb : Below w.heap.size w w') : ResL base w' v rs N :=
  h.mono (fun g _ ⟨_, e⟩ => hb.block g (Array.getElem?_eq_some_iff.1 e).1) (fun g ⟨_, e⟩ hN => ⟨hb.block g (Array.getElem?_eq_some_iff.1 e).1, hN⟩)

/-- What is kept apart from a map at B whose rows lie at v. -/
abbrev offM (B : Nat) (v : Value) (g : Nat) : Prop := g ≠ B ∧ v.ownBlock ≠ some g

theorem ResL.bound {base : Nat} {w : World} {v : Value} {rs : List (List Row)} {N : Nat → Prop} (h : ResL base w v rs N) : ResL base w v rs (fun g => N g ∧ g < w.heap.size) := by
  obtain ⟨ss, ho, hl, hs, hp⟩ := h
  exact ⟨ss, ho, hl, fun i s r h1 h2 => ⟨(hs i s r h1 h2).1, fun g hg => ⟨(hs i s r h1 h2).2 g hg, (hs i s r h1 h2).1.lt g hg⟩⟩, hp⟩
theorem ResL.step {base base' : Nat} {w w' : World} {B : Nat} {v v' vo : Value} {xs : List Row} {rs : List (List Row)} {X : Nat → Prop} (h : ResL base w vo rs (fun g => offM B v g ∧ X g)) (hM : MapAt base' w B v xs) (hs : Step w w' B v v') : ResL base w' vo rs (fun g => offM B v' g ∧ X g) := by
  refine h.mono (fun g hg ⟨cur, e⟩ => hs.block g (Array.getElem?_eq_some_iff.1 e).1 ?_ ?_) (fun g ⟨cur, e⟩ hN => ⟨hs.block g (Array.getElem?_eq_some_iff.1 e).1 hN.1.1 hN.1.2, ⟨hN.1.1, fun e' => ?_⟩, hN.2⟩)
  · rintro rfl
    have := hM.obj.symm.trans e
    simp at this
  · intro e'
    obtain ⟨_, cur', e2⟩ := hM.own.typed g e'
    have := e.symm.trans e2
    simp at this
  · rcases hs.new g e' with e2 | e2
    · exact hN.1.2 e2
    · have := (Array.getElem?_eq_some_iff.1 e).1
      omega

/-- One result more. -/
theorem ResL.append {base base' ty : Nat} {W : World} {B : Nat} {v vo : Value} {xs r : List Row} {rs : List (List Row)} {A : Option Addr} {n c : Nat} {X : Nat → Prop} (h : ResL base W vo rs (fun g => offM B v g ∧ X g)) (hM : MapAt base' W B v xs)
    (hr : Own Row.enc 2 44 base W (.slice A n c) r) (hN : ∀ g, (Value.slice A n c).ownBlock = some g → offM B v g) (hbase : base ≤ W.heap.size) (hl : rs.length ≤ 1000000) (hX : ∀ g, X g → (Value.slice A n c).ownBlock ≠ some g) :
    ∃ A' n' c' w', (Builtin.append_ #[112, 112] ty #[vo, .slice (some ⟨W.heap.size, 0, none⟩) 1 1]).run Tryz.prog (W.alloc (.cells #[.slice A n c] 174)) = .ok (.slice A' n' c') w' ∧
      MapAt base' w' B v xs ∧ ResL base w' (.slice A' n' c') (rs ++ [r]) (offM B v) ∧ Below base W w' ∧ ∀ (g : Nat) (o : Obj), W.heap[g]? = some o → (∀ cur, o ≠ Obj.cells cur 174 (0, 0)) → w'.heap[g]? = some o := by
  obtain ⟨ss, ho, hls, hs, hpw⟩ := h
  have hba : Below W.heap.size W (W.alloc (.cells #[.slice A n c] 174)) := (Below.refl _ W).alloc (Nat.le_refl _) _
  have hrd := rd_lit SlV.enc 1 slv_len 174 [⟨A, n, c⟩] (by simp) W
  obtain ⟨v', w', hrun, ho', hB', hg⟩ := run_append_all (P := Tryz.prog) (w0 := W) (W := W.alloc (.cells #[.slice A n c] 174)) SlV.enc 1 174 112 ty 24 _ base vo ss [⟨A, n, c⟩] (some ⟨W.heap.size, 0, none⟩) 1
    Tryz.underlying112 info_res rfl (by decide) (by decide) slv_len slv_one hrd (ho.below hba) (hba.mono hbase) (by simp; omega) (by simp; omega)
  obtain ⟨A', c', rfl, _⟩ := ho'.slice
  have keep : ∀ g o, W.heap[g]? = some o → (∀ cur, o ≠ Obj.cells cur 174 (0, 0)) → w'.heap[g]? = W.heap[g]? := fun g o hgo hne => by
    have hlt := (Array.getElem?_eq_some_iff.1 hgo).1
    have e1 := hba.block g hlt
    rw [← e1]
    refine hg.block g (by simp; omega) fun e => ?_
    obtain ⟨_, cur, e2⟩ := ho.typed g e.symm
    have := hgo.symm.trans e2
    injection this with this
    exact hne cur this
  have keepO : ∀ (u : Value) (zs : List Row), Own Row.enc 2 44 base W u zs → Own Row.enc 2 44 base w' u zs := fun u zs hu => hu.same fun g hgu => by
    obtain ⟨_, cur, e⟩ := hu.typed g hgu
    exact keep g _ e fun cur' e' => by simp at e'
  refine ⟨A', _, c', w', hrun, ?_, ⟨ss ++ [⟨A, n, c⟩], ho', by simp [hls], fun i s r' h1 h2 => ?_, ?_⟩, hB', fun g o h1 h2 => (keep g o h1 h2).trans h1⟩
  · exact ⟨(keep B _ hM.obj (fun cur e => by simp at e)).trans hM.obj, hM.own.same fun g hgu => by
      obtain ⟨_, cur, e⟩ := hM.own.typed g hgu
      exact keep g _ e fun cur' e' => by simp at e', hM.rise, hM.apart, hM.low⟩
  · by_cases hi : i < ss.length
    · rw [List.getElem?_append_left hi] at h1
      rw [List.getElem?_append_left (by omega)] at h2
      obtain ⟨h3, h4⟩ := hs i s r' h1 h2
      exact ⟨keepO _ _ h3, fun g hg => (h4 g hg).1⟩
    · rw [List.getElem?_append_right (by omega)] at h1
      rw [List.getElem?_append_right (by omega), ← hls] at h2
      have hz : i - ss.length = 0 := by
        have := (List.getElem?_eq_some_iff.1 h1).1
        simp at this
        omega
      rw [hz] at h1 h2
      simp at h1 h2
      subst h1 h2
      exact ⟨keepO _ _ hr, hN⟩
  · rw [List.pairwise_append]
    refine ⟨hpw, List.pairwise_singleton .., fun a ha b hb g hg => ?_⟩
    rw [List.mem_singleton.1 hb]
    obtain ⟨j, hj, rfl⟩ := List.mem_iff_getElem.1 ha
    exact hX g ((hs j _ _ (List.getElem?_eq_getElem hj) (List.getElem?_eq_getElem (by omega))).2 g hg).2

section
variable {P : Program} {ops : Array Oper} {o : Oper} {a : Act} {w : World} {K : Act → World → Prop} {Q : Exit → Act → World → Prop}
/-- an append whose run is known, in a region that draws. -/
theorem step_append_run {E : Prop} (hgd : o.guard = none) (s x : Operand) (sT : TypeId) (ho : o.op = .call { callee := .builtin .append, args := #[s, x], argTypes := #[sT, sT] }) {sv xv v' : Value} {w2 : World}
    (hs : a.eval s = sv) (hx : a.eval x = xv) (hrun : (Builtin.append_ #[sT, sT] o.type #[sv, xv]).run P w = .ok v' w2) (h : K (a.put o.dst v') w2) :
    if Region.wanted o (yielded ops a.tmps) = true then Oper.wp P o a w K Q else E := by
  have hw : Region.wanted o (yielded ops a.tmps) = true := by simp [Region.wanted, hgd]
  rw [if_pos hw]
  unfold Oper.wp
  simp [execOp, ho, resolve, invoke, builtin, hs, hx, hrun, Result.andThen]
  exact h
end

/-! ### the plain law -/
/-- Rows put one by one. -/
def stM (l : List Row) : List Row := l.foldl (fun m r => putL r.k r.v m) []
/-- May these rows be put, one by one? -/
def stOkF : List Row → List Row → Bool
  | _, [] => true
  | m, r :: rs => !(getL r.k m).isSome && (okKey r.k && stOkF (putL r.k r.v m) rs)
theorem stM_snoc (l : List Row) (k : Nat) (r : Row) (h : l[k]? = some r) : stM (l.take (k + 1)) = putL r.k r.v (stM (l.take k)) := by
  have e : l.take (k + 1) = l.take k ++ [r] := by rw [List.take_add_one, h]; rfl
  unfold stM
  rw [e, List.foldl_append]
  rfl
theorem stM_len : ∀ (l : List Row) (m : List Row), (l.foldl (fun m r => putL r.k r.v m) m).length ≤ m.length + l.length
  | [], m => by simp
  | r :: l, m => by
    rw [List.foldl_cons]
    have h1 := stM_len l (putL r.k r.v m)
    have h2 := putL_length r.k r.v m
    rw [List.length_cons]
    omega
theorem drop_at {α : Type} {l : List α} {k : Nat} {r : α} (h : l[k]? = some r) : l.drop k = r :: l.drop (k + 1) := by
  obtain ⟨h1, h2⟩ := List.getElem?_eq_some_iff.1 h
  rw [List.drop_eq_getElem_cons h1, h2]
/-- The rows behind ops. -/
def rowsR (m : List Row) (l : List Opn) : List Row := l.foldl (fun m x => afterD x m) m
/-- What ops tell. -/
def outsR : List Row → List Opn → List (List Row)
  | _, [] => []
  | m, x :: l => tellD x m :: outsR (afterD x m) l
theorem rowsR_append (m : List Row) (a b : List Opn) : rowsR m (a ++ b) = rowsR (rowsR m a) b := by unfold rowsR; rw [List.foldl_append]
theorem outsR_append : ∀ (m : List Row) (a b : List Opn), outsR m (a ++ b) = outsR m a ++ outsR (rowsR m a) b
  | _, [], _ => rfl
  | m, x :: a, b => by
    show tellD x m :: outsR (afterD x m) (a ++ b) = _
    rw [outsR_append]
    rfl
theorem outsR_len : ∀ (m : List Row) (a : List Opn), (outsR m a).length = a.length
  | _, [] => rfl
  | m, x :: a => by
    show (outsR _ _).length + 1 = _
    rw [outsR_len]
    rfl
theorem take_snoc {α : Type} {l : List α} {k : Nat} {r : α} (h : l[k]? = some r) : l.take (k + 1) = l.take k ++ [r] := by rw [List.take_add_one, h]; rfl
theorem afterD_len (x : Opn) (m : List Row) : (afterD x m).length ≤ m.length + 1 := by
  unfold afterD
  split
  · exact putL_length _ _ _
  · split
    · exact Nat.le_succ_of_le (delL_length _ _)
    · omega
theorem rowsR_len : ∀ (l : List Opn) (m : List Row), (rowsR m l).length ≤ m.length + l.length
  | [], m => by simp [rowsR]
  | x :: l, m => by
    have h1 := rowsR_len l (afterD x m)
    have h2 := afterD_len x m
    show (rowsR (afterD x m) l).length ≤ _
    rw [List.length_cons]
    omega
/-- Ops on rows. -/
def runP (rows : List Row) (ops : List Opn) : Option (List (List Row) × List Row) :=
  if stOkF [] rows && ops.all okO then some (outsR (stM rows) ops, rowsR (stM rows) ops) else none

end Go.Proofs.YtanjgeacmpmjhaaGreatDoor
