import Derived.Test.YtanjgeacmpmjhaaGreatDoorBkApOSP
import Derived.Test.YtanjgeacmpmjhaaGreatDoorMgPlansCheckUpto27
set_option linter.unusedVariables false
set_option linter.unusedSimpArgs false
set_option linter.unusedSectionVars false
namespace Go.Proofs.YtanjgeacmpmjhaaGreatDoor
open Go.RowKit

/-- A Book in which these kinds are told, and no others. -/
structure BookOSP (base : Nat) (w : World) (B n : Nat) (vOp : Value) (hsOp : List Hd) (vSpan : Value) (hsSpan : List Hd) (vPart : Value) (hsPart : List Hd) : Prop where
  obj : w.heap[B]? = some (.cells #[.int .i64 n, nilV, nilV, nilV, nilV, nilV, vOp, vSpan, nilV, nilV, nilV, vPart, nilV] bookT (0, 0))
  low : base ≤ B
  pOp : PreOp base w vOp hsOp
  pSpan : PreSpan base w vSpan hsSpan
  pPart : PrePart base w vPart hsPart
section
variable {base : Nat} {w w' : World} {B n : Nat} {vOp vSpan vPart : Value} {hsOp hsSpan hsPart : List Hd}
theorem BookOSP.start (base : Nat) (w : World) (hb : base ≤ w.heap.size) : BookOSP base (w.alloc (.cells #[.int .i64 0, nilV, nilV, nilV, nilV, nilV, nilV, nilV, nilV, nilV, nilV, nilV, nilV] bookT)) w.heap.size 0 nilV [] nilV [] nilV [] := ⟨alloc_new w _, hb, .nil _ _, .nil _ _, .nil _ _⟩
theorem BookOSP.lt (h : BookOSP base w B n vOp hsOp vSpan hsSpan vPart hsPart) : B < w.heap.size := (Array.getElem?_eq_some_iff.1 h.obj).1
theorem BookOSP.keepF {F : Nat → Prop} (h : BookOSP base w B n vOp hsOp vSpan hsSpan vPart hsPart) (t : Turn F w w') (hF : ∀ g cur T, F g → w.heap[g]? = some (.cells cur T (0, 0)) → T ∉ [bookT, 228, 231, 245]) (hOp : ∀ g, Blk hsOp g → ¬ F g) (hSpan : ∀ g, Blk hsSpan g → ¬ F g) (hPart : ∀ g, Blk hsPart g → ¬ F g) : BookOSP base w' B n vOp hsOp vSpan hsSpan vPart hsPart :=
  ⟨t.heap h.obj fun f => hF _ _ _ f h.obj (by simp), h.low, h.pOp.keepF t (fun g cur e f => hF _ _ _ f e (by simp)) hOp, h.pSpan.keepF t (fun g cur e f => hF _ _ _ f e (by simp)) hSpan, h.pPart.keepF t (fun g cur e f => hF _ _ _ f e (by simp)) hPart⟩
theorem BookOSP.below (h : BookOSP base w B n vOp hsOp vSpan hsSpan vPart hsPart) (hb : Below w.heap.size w w') : BookOSP base w' B n vOp hsOp vSpan hsSpan vPart hsPart :=
  h.keepF (F := fun _ => False) (.of_below hb) (fun _ _ _ f => f.elim) (fun _ _ => id) (fun _ _ => id) (fun _ _ => id)
theorem BookOSP.tellOp (h : BookOSP base w B n vOp hsOp vSpan hsSpan vPart hsPart) (hlen : hsOp.length < 100000) (hn : n < 100000) (hbase : base ≤ w.heap.size) {A : Option Addr} {m c : Nat} {xs : List Opn} (ho : Own Opn.enc 4 172 base w (.slice A m c) xs) (hxl : xs.length ≤ 1000000)
    (hoff : ∀ g, (Value.slice A m c).ownBlock = some g → ¬ Blk hsOp g) :
    Calls Tryz.prog 78 #[.pointer (some ⟨B, 0, none⟩), .slice A m c] w fun e w' => e = .returned (.tuple #[]) ∧ (∃ v', BookOSP base w' B (n + 1) v' (hsOp ++ [⟨.slice A m c, nilV, n + 1⟩]) vSpan hsSpan vPart hsPart) ∧ TurnT base w w' [bookT, 228] :=
  (h.pOp.tell h.obj rfl rfl h.low hlen hn hbase ho hxl hoff).mono fun e w' ⟨he, ⟨v', o', p'⟩, t⟩ => ⟨he, ⟨v', o', h.low, p', h.pSpan.keep t (by decide) (by decide), h.pPart.keep t (by decide) (by decide)⟩, t⟩
theorem BookOSP.tellSpan (h : BookOSP base w B n vOp hsOp vSpan hsSpan vPart hsPart) (hlen : hsSpan.length < 100000) (hn : n < 100000) (hbase : base ≤ w.heap.size) {A : Option Addr} {m c : Nat} {xs : List Span} (ho : Own Span.enc 2 47 base w (.slice A m c) xs) (hxl : xs.length ≤ 1000000)
    (hoff : ∀ g, (Value.slice A m c).ownBlock = some g → ¬ Blk hsSpan g) :
    Calls Tryz.prog 60 #[.pointer (some ⟨B, 0, none⟩), .slice A m c] w fun e w' => e = .returned (.tuple #[]) ∧ (∃ v', BookOSP base w' B (n + 1) vOp hsOp v' (hsSpan ++ [⟨.slice A m c, nilV, n + 1⟩]) vPart hsPart) ∧ TurnT base w w' [bookT, 231] :=
  (h.pSpan.tell h.obj rfl rfl h.low hlen hn hbase ho hxl hoff).mono fun e w' ⟨he, ⟨v', o', p'⟩, t⟩ => ⟨he, ⟨v', o', h.low, h.pOp.keep t (by decide) (by decide), p', h.pPart.keep t (by decide) (by decide)⟩, t⟩
theorem BookOSP.keptPart (h : BookOSP base w B n vOp hsOp vSpan hsSpan vPart hsPart) (hlen : hsPart.length < 100000) (hn : n < 100000) (hbase : base ≤ w.heap.size) {A : Option Addr} {m c : Nat} {xs : List PaV} (ho : OwnK PaV.enc 2 105 base w (.slice A m c) xs) (hxl : xs.length ≤ 1000000)
    (hoff : ∀ g, (Value.slice A m c).ownBlock = some g → ¬ Blk hsPart g) :
    Calls Tryz.prog 166 #[.pointer (some ⟨B, 0, none⟩), .slice A m c] w fun e w' => e = .returned (.tuple #[]) ∧ (∃ v', BookOSP base w' B (n + 1) vOp hsOp vSpan hsSpan v' (hsPart ++ [⟨.slice A m c, nilV, n + 1⟩])) ∧ TurnT base w w' [bookT, 245] :=
  (h.pPart.kept h.obj rfl rfl h.low hlen hn hbase ho hxl hoff).mono fun e w' ⟨he, ⟨v', o', p'⟩, t⟩ => ⟨he, ⟨v', o', h.low, h.pOp.keep t (by decide) (by decide), h.pSpan.keep t (by decide) (by decide), p'⟩, t⟩
theorem BookOSP.apart (h : BookOSP base w B n vOp hsOp vSpan hsSpan vPart hsPart) (hT : Tab10 w) (hbase : 0 < base ∧ base ≤ w.heap.size) :
    Calls Tryz.prog 30 #[.pointer (some ⟨B, 0, none⟩)] w fun e w' => e = .returned (.bool true) ∧ Below base w w' :=
  apartOSP_calls hT h.obj h.pOp h.pSpan h.pPart hbase
end
end Go.Proofs.YtanjgeacmpmjhaaGreatDoor

set_option linter.unusedVariables false
set_option linter.unusedSimpArgs false
set_option linter.unusedSectionVars false
namespace Go.Proofs.YtanjgeacmpmjhaaGreatDoor
open Go.RowKit

theorem TurnT.addT {base : Nat} {w w' : World} {ts us : List TypeId} (h : TurnT base w w' ts) (hs : ∀ T ∈ ts, T ∈ us) : TurnT base w w' us := by
  obtain ⟨F, t, hF⟩ := h
  exact ⟨F, t, fun g f => by
    obtain ⟨hb, cur, T, e, hT⟩ := hF g f
    exact ⟨hb, cur, T, e, hs T hT⟩⟩
theorem TurnT.thenT {base : Nat} {w w1 w2 : World} {ts : List TypeId} (h : TurnT base w w1 ts) (k : TurnT base w1 w2 ts) : TurnT base w w2 ts := by
  obtain ⟨F, t, hF⟩ := h
  obtain ⟨G, u, hG⟩ := k
  refine ⟨fun g => F g ∨ (G g ∧ g < w.heap.size ∧ ¬ F g), ⟨u.os.trans t.os, u.tape.trans t.tape, u.output.trans t.output, Nat.le_trans t.size u.size, fun i hi hn => ?_⟩, ?_⟩
  · exact (u.block i (Nat.lt_of_lt_of_le hi t.size) fun hg => hn (.inr ⟨hg, hi, fun f => hn (.inl f)⟩)).trans (t.block i hi fun f => hn (.inl f))
  · rintro g (f | ⟨hg, hi, hn⟩)
    · exact hF g f
    · obtain ⟨hb, cur, T, e, hT⟩ := hG g hg
      exact ⟨hb, cur, T, (t.block g hi hn).symm.trans e, hT⟩
theorem OwnK.turnT {α : Type} {enc : α → List Value} {k : Nat} {E : TypeId} {b base : Nat} {w w' : World} {v : Value} {xs : List α} {ts : List TypeId} (o : OwnK enc k E b w v xs) (h : TurnT base w w' ts) (hE : E ∉ ts) : OwnK enc k E b w' v xs :=
  o.turn h.choose_spec.1 fun g hg => by
    obtain ⟨_, cur, e⟩ := o.typed g hg
    exact h.spare e hE

/-- Elements that hold slices that have no block in common. -/
def SepPart (a b : PaV) : Prop := ∀ g, a.val.ownBlock = some g → b.val.ownBlock ≠ some g

section
variable {base : Nat} {w w' : World} {K n : Nat} {vOp vSpan vPart : Value} {hsOp hsSpan hsPart : List Hd}
set_option maxHeartbeats 800000 in
theorem BookOSP.one (h : BookOSP base w K n vOp hsOp vSpan hsSpan vPart hsPart) (hlen : hsOp.length < 100000) (hn : n < 100000) (hbase : base ≤ w.heap.size) (s : PaV) {r : List Opn} (ho : Own Opn.enc 4 172 base w s.val r) (hr : r.length ≤ 1000000)
    (hoff : ∀ g, s.val.ownBlock = some g → ¬ Blk hsOp g) :
    Calls Tryz.prog 165 #[.pointer (some ⟨K, 0, none⟩), .agg #[.int .u8 s.s, .slice s.A s.n s.c]] w fun e w' => e = .returned (.tuple #[]) ∧ (∃ v', BookOSP base w' K (n + 1) v' (hsOp ++ [⟨s.val, nilV, n + 1⟩]) vSpan hsSpan vPart hsPart) ∧ TurnT base w w' [bookT, 228] := by
  have hb0 : Below w.heap.size w (w.alloc (.cells #[.int .u8 s.s, .slice s.A s.n s.c] 105)) := (Below.refl _ w).alloc (Nat.le_refl _) _
  have hc := (h.below hb0).tellOp hlen hn (Nat.le_trans hbase hb0.size) (ho.below hb0) hr hoff
  have HB := Lib.hid hb0
  clear h ho hoff hb0
  go_enter Tryz.func165, Tryz.ntmps165
  go_wp2_with (go_at_call 78; refine hc.mono ?_; rintro e w1 ⟨rfl, hP, ht⟩)
  go_end0
  exact ⟨rfl, hP, ((TurnT.of_below HB.out).addT (by decide)).thenT ht⟩

set_option maxHeartbeats 1600000 in
set_option maxRecDepth 100000 in
/-- A list is told, and all lists within its elements. -/
theorem BookOSP.tellPart (h : BookOSP base w K n vOp hsOp vSpan hsSpan vPart hsPart) {A : Option Addr} {c : Nat} {ss : List PaV} {rs : List (List Opn)} (ho : OwnK PaV.enc 2 105 base w (.slice A ss.length c) ss) (hl : ss.length = rs.length)
    (hs : ∀ (i : Nat) (s : PaV) (r : List Opn), ss[i]? = some s → rs[i]? = some r → Own Opn.enc 4 172 base w s.val r) (hr : ∀ r ∈ rs, r.length ≤ 1000000) (hp : ss.Pairwise SepPart)
    (hoff : ∀ s ∈ ss, ∀ g, s.val.ownBlock = some g → ¬ Blk hsOp g) (hoffX : ∀ g, (Value.slice A ss.length c).ownBlock = some g → ¬ Blk hsPart g)
    (hlen : hsOp.length + ss.length < 100000) (hlenX : hsPart.length < 100000) (hn : n + ss.length < 100000) (hbase : base ≤ w.heap.size) :
    Calls Tryz.prog 68 #[.pointer (some ⟨K, 0, none⟩), .slice A ss.length c] w fun e w' => e = .returned (.tuple #[]) ∧
      (∃ (n' : Nat) (vOp' : Value) (hsOp' : List Hd) (vPart' : Value), n' ≤ n + ss.length + 1 ∧ hsOp'.length ≤ hsOp.length + ss.length ∧ (∀ g, Blk hsOp' g → Blk hsOp g ∨ ∃ s ∈ ss, s.val.ownBlock = some g) ∧ BookOSP base w' K n' vOp' hsOp' vSpan hsSpan vPart' (hsPart ++ [⟨.slice A ss.length c, nilV, n'⟩])) ∧ TurnT base w w' [bookT, 228, 245] := by
  have hrd := ho.rd pav_len
  obtain ⟨_, _, hsh, hlc, hc⟩ := ho.slice
  injection hsh with e1 e2 e3
  subst e1 e3
  have HO := Lib.hid ho
  have HL := Lib.hid hl
  clear e2 ho hrd hl
  go_enter Tryz.func68, Tryz.ntmps68
  go_wp2
  go_loopw [4] (fun iv wr => ∃ (i n' : Nat) (vOp' : Value) (hsOp' : List Hd), i ≤ ss.length ∧ iv = .int .i64 i ∧ n' ≤ n + i ∧ hsOp'.length ≤ hsOp.length + i ∧ (∀ g, Blk hsOp' g → Blk hsOp g ∨ ∃ j s, j < i ∧ ss[j]? = some s ∧ s.val.ownBlock = some g) ∧
      BookOSP base wr K n' vOp' hsOp' vSpan hsSpan vPart hsPart ∧ TurnT base w wr [bookT, 228]) (fun iv _ => ss.length - (intOf iv).toNat)
  case atStart => exact ⟨0, n, _, _, Nat.zero_le _, rfl, by omega, by omega, fun g hg => .inl hg, h, (TurnT.of_below (Below.refl _ _)).addT (by decide)⟩
  case round =>
    obtain ⟨i, n', vOp', hsOp', hi, rfl, hn', hl', hblk, hB, ht⟩ := hrel
    have hor := HO.out.turnT ht (by decide)
    by_cases hlt : i < ss.length
    · have hxi := List.getElem?_eq_getElem hlt
      have hri := List.getElem?_eq_getElem (show i < rs.length by have := HL.out; omega)
      obtain ⟨b, o, rfl, z1, z2⟩ := (hor.rd pav_len).pav hxi
      have hos := ht.own (hs i _ _ hxi hri) (by decide)
      have hrl := hr _ (List.getElem_mem (show i < rs.length by have := HL.out; omega))
      have hof : ∀ g, (ss[i]).val.ownBlock = some g → ¬ Blk hsOp' g := fun g hg hb => by
        rcases hblk g hb with hb | ⟨j, s', hj, hjs, hg'⟩
        · exact hoff _ (List.getElem_mem hlt) g hg hb
        · obtain ⟨hj1, rfl⟩ := List.getElem?_eq_some_iff.1 hjs
          exact List.pairwise_iff_getElem.1 hp j i hj1 hlt hj g hg' hg
      have HXI := Lib.hid hxi
      generalize ss[i] = s at *
      generalize rs[i] = r at *
      have hone := hB.one (by omega) (by omega) (Nat.le_trans hbase ht.size) s hos hrl hof
      have HBK := Lib.hid hblk
      clear hxi hri hos hof hblk hor hB h hp hoff hs hr
      go_wp2_with (go_at_call 165; refine hone.mono ?_; rintro e w1 ⟨rfl, ⟨v', hB'⟩, ht'⟩)
      go_roundw
      case rel =>
        refine ⟨i + 1, n' + 1, v', _, by omega, by go_num, by omega, by rw [List.length_append, List.length_singleton]; omega, fun g hg => ?_, hB', ht.thenT ht'⟩
        obtain ⟨y, hy, hgy⟩ := hg
        rcases List.mem_append.1 hy with hy | hy
        · rcases HBK.out g ⟨y, hy, hgy⟩ with q | ⟨j, s', hj, q⟩
          · exact .inl q
          · exact .inr ⟨j, s', by omega, q⟩
        · rw [List.mem_singleton.1 hy] at hgy
          exact .inr ⟨i, s, by omega, HXI.out, hgy⟩
      case measure => simp [intOf]; omega
    · have hie : i = ss.length := by omega
      subst hie
      have hk := hB.keptPart hlenX (by omega) (Nat.le_trans hbase ht.size) hor (by omega) hoffX
      clear hor hB h hp hoff hs hr
      go_wp2_with (go_at_call 166; refine hk.mono ?_; rintro e w1 ⟨rfl, ⟨v', hB'⟩, ht'⟩)
      go_end0
      refine ⟨rfl, ⟨_, _, _, v', by omega, hl', fun g hg => ?_, hB'⟩, (ht.addT (by decide)).thenT (ht'.addT (by decide))⟩
      rcases hblk g hg with q | ⟨j, s', hj, hjs, q⟩
      · exact .inl q
      · exact .inr ⟨s', List.mem_of_getElem? hjs, q⟩
end

end Go.Proofs.YtanjgeacmpmjhaaGreatDoor
