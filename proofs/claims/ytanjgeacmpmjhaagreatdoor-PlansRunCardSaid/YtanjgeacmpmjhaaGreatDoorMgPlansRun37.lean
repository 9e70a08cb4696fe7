import Derived.Test.YtanjgeacmpmjhaaGreatDoorBkApROR
import Derived.Test.YtanjgeacmpmjhaaGreatDoorMgPlansRun28
set_option linter.unusedVariables false
set_option linter.unusedSimpArgs false
set_option linter.unusedSectionVars false
namespace Go.Proofs.YtanjgeacmpmjhaaGreatDoor
open Go.RowKit

/-- A Book in which these kinds are told, and no others. -/
structure BookROR (base : Nat) (w : World) (B n : Nat) (vRow : Value) (hsRow : List Hd) (vOp : Value) (hsOp : List Hd) (vResult : Value) (hsResult : List Hd) : Prop where
  obj : w.heap[B]? = some (.cells #[.int .i64 n, nilV, nilV, nilV, nilV, vRow, vOp, nilV, nilV, vResult, nilV, nilV, nilV] bookT (0, 0))
  low : base ≤ B
  pRow : PreRow base w vRow hsRow
  pOp : PreOp base w vOp hsOp
  pResult : PreResult base w vResult hsResult
section
variable {base : Nat} {w w' : World} {B n : Nat} {vRow vOp vResult : Value} {hsRow hsOp hsResult : List Hd}
theorem BookROR.start (base : Nat) (w : World) (hb : base ≤ w.heap.size) : BookROR base (w.alloc (.cells #[.int .i64 0, nilV, nilV, nilV, nilV, nilV, nilV, nilV, nilV, nilV, nilV, nilV, nilV] bookT)) w.heap.size 0 nilV [] nilV [] nilV [] := ⟨alloc_new w _, hb, .nil _ _, .nil _ _, .nil _ _⟩
theorem BookROR.lt (h : BookROR base w B n vRow hsRow vOp hsOp vResult hsResult) : B < w.heap.size := (Array.getElem?_eq_some_iff.1 h.obj).1
theorem BookROR.keepF {F : Nat → Prop} (h : BookROR base w B n vRow hsRow vOp hsOp vResult hsResult) (t : Turn F w w') (hF : ∀ g cur T, F g → w.heap[g]? = some (.cells cur T (0, 0)) → T ∉ [bookT, 206, 228, 235]) (hRow : ∀ g, Blk hsRow g → ¬ F g) (hOp : ∀ g, Blk hsOp g → ¬ F g) (hResult : ∀ g, Blk hsResult g → ¬ F g) : BookROR base w' B n vRow hsRow vOp hsOp vResult hsResult :=
  ⟨t.heap h.obj fun f => hF _ _ _ f h.obj (by simp), h.low, h.pRow.keepF t (fun g cur e f => hF _ _ _ f e (by simp)) hRow, h.pOp.keepF t (fun g cur e f => hF _ _ _ f e (by simp)) hOp, h.pResult.keepF t (fun g cur e f => hF _ _ _ f e (by simp)) hResult⟩
theorem BookROR.below (h : BookROR base w B n vRow hsRow vOp hsOp vResult hsResult) (hb : Below w.heap.size w w') : BookROR base w' B n vRow hsRow vOp hsOp vResult hsResult :=
  h.keepF (F := fun _ => False) (.of_below hb) (fun _ _ _ f => f.elim) (fun _ _ => id) (fun _ _ => id) (fun _ _ => id)
theorem BookROR.tellRow (h : BookROR base w B n vRow hsRow vOp hsOp vResult hsResult) (hlen : hsRow.length < 100000) (hn : n < 100000) (hbase : base ≤ w.heap.size) {A : Option Addr} {m c : Nat} {xs : List Row} (ho : Own Row.enc 2 44 base w (.slice A m c) xs) (hxl : xs.length ≤ 1000000)
    (hoff : ∀ g, (Value.slice A m c).ownBlock = some g → ¬ Blk hsRow g) :
    Calls Tryz.prog 22 #[.pointer (some ⟨B, 0, none⟩), .slice A m c] w fun e w' => e = .returned (.tuple #[]) ∧ (∃ v', BookROR base w' B (n + 1) v' (hsRow ++ [⟨.slice A m c, nilV, n + 1⟩]) vOp hsOp vResult hsResult) ∧ TurnT base w w' [bookT, 206] :=
  (h.pRow.tell h.obj rfl rfl h.low hlen hn hbase ho hxl hoff).mono fun e w' ⟨he, ⟨v', o', p'⟩, t⟩ => ⟨he, ⟨v', o', h.low, p', h.pOp.keep t (by decide) (by decide), h.pResult.keep t (by decide) (by decide)⟩, t⟩
theorem BookROR.tellOp (h : BookROR base w B n vRow hsRow vOp hsOp vResult hsResult) (hlen : hsOp.length < 100000) (hn : n < 100000) (hbase : base ≤ w.heap.size) {A : Option Addr} {m c : Nat} {xs : List Opn} (ho : Own Opn.enc 4 172 base w (.slice A m c) xs) (hxl : xs.length ≤ 1000000)
    (hoff : ∀ g, (Value.slice A m c).ownBlock = some g → ¬ Blk hsOp g) :
    Calls Tryz.prog 78 #[.pointer (some ⟨B, 0, none⟩), .slice A m c] w fun e w' => e = .returned (.tuple #[]) ∧ (∃ v', BookROR base w' B (n + 1) vRow hsRow v' (hsOp ++ [⟨.slice A m c, nilV, n + 1⟩]) vResult hsResult) ∧ TurnT base w w' [bookT, 228] :=
  (h.pOp.tell h.obj rfl rfl h.low hlen hn hbase ho hxl hoff).mono fun e w' ⟨he, ⟨v', o', p'⟩, t⟩ => ⟨he, ⟨v', o', h.low, h.pRow.keep t (by decide) (by decide), p', h.pResult.keep t (by decide) (by decide)⟩, t⟩
theorem BookROR.keptResult (h : BookROR base w B n vRow hsRow vOp hsOp vResult hsResult) (hlen : hsResult.length < 100000) (hn : n < 100000) (hbase : base ≤ w.heap.size) {A : Option Addr} {m c : Nat} {xs : List SlV} (ho : OwnK SlV.enc 1 174 base w (.slice A m c) xs) (hxl : xs.length ≤ 1000000)
    (hoff : ∀ g, (Value.slice A m c).ownBlock = some g → ¬ Blk hsResult g) :
    Calls Tryz.prog 179 #[.pointer (some ⟨B, 0, none⟩), .slice A m c] w fun e w' => e = .returned (.tuple #[]) ∧ (∃ v', BookROR base w' B (n + 1) vRow hsRow vOp hsOp v' (hsResult ++ [⟨.slice A m c, nilV, n + 1⟩])) ∧ TurnT base w w' [bookT, 235] :=
  (h.pResult.kept h.obj rfl rfl h.low hlen hn hbase ho hxl hoff).mono fun e w' ⟨he, ⟨v', o', p'⟩, t⟩ => ⟨he, ⟨v', o', h.low, h.pRow.keep t (by decide) (by decide), h.pOp.keep t (by decide) (by decide), p'⟩, t⟩
theorem BookROR.apart (h : BookROR base w B n vRow hsRow vOp hsOp vResult hsResult) (hT : Tab10 w) (hbase : 0 < base ∧ base ≤ w.heap.size) :
    Calls Tryz.prog 30 #[.pointer (some ⟨B, 0, none⟩)] w fun e w' => e = .returned (.bool true) ∧ Below base w w' :=
  apartROR_calls hT h.obj h.pRow h.pOp h.pResult hbase
end
end Go.Proofs.YtanjgeacmpmjhaaGreatDoor

set_option linter.unusedVariables false
set_option linter.unusedSimpArgs false
set_option linter.unusedSectionVars false
namespace Go.Proofs.YtanjgeacmpmjhaaGreatDoor
open Go.RowKit

theorem TurnT.addT {base : Nat} {w w' : World} {ts us : List TypeId} (h : TurnT base w w' ts) (hs : ∀ T ∈ ts, T ∈ us) : TurnT base w w' us := by
  obtain ⟨F, t, hF⟩ := h
  exact ⟨F, t, fun g f => by
    obtain ⟨hb, cur, T, e, hT⟩ := hF g f
    exact ⟨hb, cur, T, e, hs T hT⟩⟩
theorem TurnT.thenT {base : Nat} {w w1 w2 : World} {ts : List TypeId} (h : TurnT base w w1 ts) (k : TurnT base w1 w2 ts) : TurnT base w w2 ts := by
  obtain ⟨F, t, hF⟩ := h
  obtain ⟨G, u, hG⟩ := k
  refine ⟨fun g => F g ∨ (G g ∧ g < w.heap.size ∧ ¬ F g), ⟨u.os.trans t.os, u.tape.trans t.tape, u.output.trans t.output, Nat.le_trans t.size u.size, fun i hi hn => ?_⟩, ?_⟩
  · exact (u.block i (Nat.lt_of_lt_of_le hi t.size) fun hg => hn (.inr ⟨hg, hi, fun f => hn (.inl f)⟩)).trans (t.block i hi fun f => hn (.inl f))
  · rintro g (f | ⟨hg, hi, hn⟩)
    · exact hF g f
    · obtain ⟨hb, cur, T, e, hT⟩ := hG g hg
      exact ⟨hb, cur, T, (t.block g hi hn).symm.trans e, hT⟩
theorem OwnK.turnT {α : Type} {enc : α → List Value} {k : Nat} {E : TypeId} {b base : Nat} {w w' : World} {v : Value} {xs : List α} {ts : List TypeId} (o : OwnK enc k E b w v xs) (h : TurnT base w w' ts) (hE : E ∉ ts) : OwnK enc k E b w' v xs :=
  o.turn h.choose_spec.1 fun g hg => by
    obtain ⟨_, cur, e⟩ := o.typed g hg
    exact h.spare e hE

/-- Elements that hold slices that have no block in common. -/
def SepResult (a b : SlV) : Prop := ∀ g, a.val.ownBlock = some g → b.val.ownBlock ≠ some g

section
variable {base : Nat} {w w' : World} {K n : Nat} {vRow vOp vResult : Value} {hsRow hsOp hsResult : List Hd}
set_option maxHeartbeats 800000 in
theorem BookROR.one (h : BookROR base w K n vRow hsRow vOp hsOp vResult hsResult) (hlen : hsRow.length < 100000) (hn : n < 100000) (hbase : base ≤ w.heap.size) (s : SlV) {r : List Row} (ho : Own Row.enc 2 44 base w s.val r) (hr : r.length ≤ 1000000)
    (hoff : ∀ g, s.val.ownBlock = some g → ¬ Blk hsRow g) :
    Calls Tryz.prog 178 #[.pointer (some ⟨K, 0, none⟩), .agg #[.slice s.A s.n s.c]] w fun e w' => e = .returned (.tuple #[]) ∧ (∃ v', BookROR base w' K (n + 1) v' (hsRow ++ [⟨s.val, nilV, n + 1⟩]) vOp hsOp vResult hsResult) ∧ TurnT base w w' [bookT, 206] := by
  have hb0 : Below w.heap.size w (w.alloc (.cells #[.slice s.A s.n s.c] 174)) := (Below.refl _ w).alloc (Nat.le_refl _) _
  have hc := (h.below hb0).tellRow hlen hn (Nat.le_trans hbase hb0.size) (ho.below hb0) hr hoff
  have HB := Lib.hid hb0
  clear h ho hoff hb0
  go_enter Tryz.func178, Tryz.ntmps178
  go_wp2_with (go_at_call 22; refine hc.mono ?_; rintro e w1 ⟨rfl, hP, ht⟩)
  go_end0
  exact ⟨rfl, hP, ((TurnT.of_below HB.out).addT (by decide)).thenT ht⟩

set_option maxHeartbeats 1600000 in
set_option maxRecDepth 100000 in
/-- A list is told, and all lists within its elements. -/
theorem BookROR.tellResult (h : BookROR base w K n vRow hsRow vOp hsOp vResult hsResult) {A : Option Addr} {c : Nat} {ss : List SlV} {rs : List (List Row)} (ho : OwnK SlV.enc 1 174 base w (.slice A ss.length c) ss) (hl : ss.length = rs.length)
    (hs : ∀ (i : Nat) (s : SlV) (r : List Row), ss[i]? = some s → rs[i]? = some r → Own Row.enc 2 44 base w s.val r) (hr : ∀ r ∈ rs, r.length ≤ 1000000) (hp : ss.Pairwise SepResult)
    (hoff : ∀ s ∈ ss, ∀ g, s.val.ownBlock = some g → ¬ Blk hsRow g) (hoffX : ∀ g, (Value.slice A ss.length c).ownBlock = some g → ¬ Blk hsResult g)
    (hlen : hsRow.length + ss.length < 100000) (hlenX : hsResult.length < 100000) (hn : n + ss.length < 100000) (hbase : base ≤ w.heap.size) :
    Calls Tryz.prog 79 #[.pointer (some ⟨K, 0, none⟩), .slice A ss.length c] w fun e w' => e = .returned (.tuple #[]) ∧
      (∃ (n' : Nat) (vRow' : Value) (hsRow' : List Hd) (vResult' : Value), n' ≤ n + ss.length + 1 ∧ hsRow'.length ≤ hsRow.length + ss.length ∧ (∀ g, Blk hsRow' g → Blk hsRow g ∨ ∃ s ∈ ss, s.val.ownBlock = some g) ∧ BookROR base w' K n' vRow' hsRow' vOp hsOp vResult' (hsResult ++ [⟨.slice A ss.length c, nilV, n'⟩])) ∧ TurnT base w w' [bookT, 206, 235] := by
  have hrd := ho.rd slv_len
  obtain ⟨_, _, hsh, hlc, hc⟩ := ho.slice
  injection hsh with e1 e2 e3
  subst e1 e3
  have HO := Lib.hid ho
  have HL := Lib.hid hl
  clear e2 ho hrd hl
  go_enter Tryz.func79, Tryz.ntmps79
  go_wp2
  go_loopw [4] (fun iv wr => ∃ (i n' : Nat) (vRow' : Value) (hsRow' : List Hd), i ≤ ss.length ∧ iv = .int .i64 i ∧ n' ≤ n + i ∧ hsRow'.length ≤ hsRow.length + i ∧ (∀ g, Blk hsRow' g → Blk hsRow g ∨ ∃ j s, j < i ∧ ss[j]? = some s ∧ s.val.ownBlock = some g) ∧
      BookROR base wr K n' vRow' hsRow' vOp hsOp vResult hsResult ∧ TurnT base w wr [bookT, 206]) (fun iv _ => ss.length - (intOf iv).toNat)
  case atStart => exact ⟨0, n, _, _, Nat.zero_le _, rfl, by omega, by omega, fun g hg => .inl hg, h, (TurnT.of_below (Below.refl _ _)).addT (by decide)⟩
  case round =>
    obtain ⟨i, n', vRow', hsRow', hi, rfl, hn', hl', hblk, hB, ht⟩ := hrel
    have hor := HO.out.turnT ht (by decide)
    by_cases hlt : i < ss.length
    · have hxi := List.getElem?_eq_getElem hlt
      have hri := List.getElem?_eq_getElem (show i < rs.length by have := HL.out; omega)
      obtain ⟨b, o, rfl, z1⟩ := (hor.rd slv_len).slv hxi
      have hos := ht.own (hs i _ _ hxi hri) (by decide)
      have hrl := hr _ (List.getElem_mem (show i < rs.length by have := HL.out; omega))
      have hof : ∀ g, (ss[i]).val.ownBlock = some g → ¬ Blk hsRow' g := fun g hg hb => by
        rcases hblk g hb with hb | ⟨j, s', hj, hjs, hg'⟩
        · exact hoff _ (List.getElem_mem hlt) g hg hb
        · obtain ⟨hj1, rfl⟩ := List.getElem?_eq_some_iff.1 hjs
          exact List.pairwise_iff_getElem.1 hp j i hj1 hlt hj g hg' hg
      have HXI := Lib.hid hxi
      generalize ss[i] = s at *
      generalize rs[i] = r at *
      have hone := hB.one (by omega) (by omega) (Nat.le_trans hbase ht.size) s hos hrl hof
      have HBK := Lib.hid hblk
      clear hxi hri hos hof hblk hor hB h hp hoff hs hr
      go_wp2_with (go_at_call 178; refine hone.mono ?_; rintro e w1 ⟨rfl, ⟨v', hB'⟩, ht'⟩)
      go_roundw
      case rel =>
        refine ⟨i + 1, n' + 1, v', _, by omega, by go_num, by omega, by rw [List.length_append, List.length_singleton]; omega, fun g hg => ?_, hB', ht.thenT ht'⟩
        obtain ⟨y, hy, hgy⟩ := hg
        rcases List.mem_append.1 hy with hy | hy
        · rcases HBK.out g ⟨y, hy, hgy⟩ with q | ⟨j, s', hj, q⟩
          · exact .inl q
          · exact .inr ⟨j, s', by omega, q⟩
        · rw [List.mem_singleton.1 hy] at hgy
          exact .inr ⟨i, s, by omega, HXI.out, hgy⟩
      case measure => simp [intOf]; omega
    · have hie : i = ss.length := by omega
      subst hie
      have hk := hB.keptResult hlenX (by omega) (Nat.le_trans hbase ht.size) hor (by omega) hoffX
      clear hor hB h hp hoff hs hr
      go_wp2_with (go_at_call 179; refine hk.mono ?_; rintro e w1 ⟨rfl, ⟨v', hB'⟩, ht'⟩)
      go_end0
      refine ⟨rfl, ⟨_, _, _, v', by omega, hl', fun g hg => ?_, hB'⟩, (ht.addT (by decide)).thenT (ht'.addT (by decide))⟩
      rcases hblk g hg with q | ⟨j, s', hj, hjs, q⟩
      · exact .inl q
      · exact .inr ⟨s', List.mem_of_getElem? hjs, q⟩
end

end Go.Proofs.YtanjgeacmpmjhaaGreatDoor
