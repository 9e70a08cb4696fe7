import Derived.Test.YtbfmneblhlmiiaaGreatDoorBkApS
import Derived.Test.YtbfmneblhlmiiaaGreatDoorRJoinC
import Derived.Test.YtbfmneblhlmiiaaGreatDoorJoinC
import Derived.Test.YtbfmneblhlmiiaaGreatDoorSpansP
set_option linter.unusedVariables false
set_option linter.unusedSimpArgs false
set_option linter.unusedSectionVars false
namespace Go.Proofs.YtbfmneblhlmiiaaGreatDoor
open Go.RowKit

theorem Tab10.lt {w : World} (h : Tab10 w) : 0 < w.heap.size := by
  unfold Tab10 Lib.TabIs World.var? at h
  rw [show Tryz.prog.globalNamed "internal/strconv.uint64pow10" = some 0 by kernel_rfl] at h
  simp only [Option.bind_some] at h
  rcases Nat.lt_or_ge 0 w.heap.size with h' | h'
  · exact h'
  · rw [Array.getElem?_eq_none h'] at h; cases h

theorem join_ownJ (v : Value) (xs : List Span) (w : World) (hv : Rd Span.enc 2 w v xs) (hl : xs.length ≤ 1000000) :
    Calls Tryz.prog 6 #[v] w fun e w' => ∃ A c, e = .returned (.slice A (joinF xs).length c) ∧ Own Span.enc 2 44 w.heap.size w' (.slice A (joinF xs).length c) (joinF xs) ∧ Below w.heap.size w w' := by
  refine (join_calls v xs w hv hl).mono ?_
  rintro e w' ⟨v', rfl, own, hb⟩
  obtain ⟨A, c, rfl, _, _⟩ := own.slice
  exact ⟨A, c, rfl, own, hb⟩

set_option maxHeartbeats 400000 in
theorem spansB_calls {base : Nat} {w : World} {B : Nat} {v a1 a2 a3 a4 a5 a6 a8 a9 a10 a11 a12 : Value} {hs : List Hd} {n : Nat} (hobj : w.heap[B]? = some (.cells #[.int .i64 n, a1, a2, a3, a4, a5, a6, v, a8, a9, a10, a11, a12] bookT (0, 0)))
    (hh : Own Hd.enc 3 63 base w v hs) (hlen : hs.length ≤ 100000) (hn : n ≤ 100000) (hbase : base ≤ w.heap.size) (A : Option Addr) (m c : Nat) :
    Calls Tryz.prog 10 #[.pointer (some ⟨B, 0, none⟩), .slice A m c] w fun e w' => e = .returned (.tuple #[]) ∧ ∃ v', w'.heap[B]? = some (.cells #[.int .i64 ((n + 1 : Nat) : Int), a1, a2, a3, a4, a5, a6, v', a8, a9, a10, a11, a12] bookT (0, 0)) ∧
      Own Hd.enc 3 63 base w' v' (hs ++ [⟨.slice A m c, nilV, n + 1⟩]) ∧ Turn (fun g => g = B ∨ v.ownBlock = some g) w w' ∧ (∀ g, v'.ownBlock = some g → v.ownBlock = some g ∨ w.heap.size ≤ g) := by
  have hk := keepSpan_calls hobj rfl rfl hh hlen hn hbase A m c
  go_enter Tryz.func10, Tryz.ntmps10
  go_wp2_with (go_at_call 19; refine hk.mono ?_; rintro e w1 ⟨rfl, hP⟩)
  go_end0
  exact ⟨rfl, hP⟩

theorem zero_book (w : World) : (zeroValue bookT).run Tryz.prog w = .ok (.agg #[.int .i64 0, nilV, nilV, nilV, nilV, nilV, nilV, nilV, nilV, nilV, nilV, nilV, nilV]) w := by kernel_rfl

theorem FilSpan.nil (base : Nat) (w : World) : FilSpan base w [] 0 := fun j h hj => by simp at hj
theorem FilSpan.snoc {base : Nat} {w : World} {hs : List Hd} {x : Hd} {xs : List Span} (h : FilSpan base w hs 0) (ho : Own Span.enc 2 44 base w x.l xs) (hl : xs.length ≤ 1000000) : FilSpan base w (hs ++ [x]) 0 := fun j y hj => by
  by_cases hlt : j < hs.length
  · rw [List.getElem?_append_left hlt] at hj
    exact h j y hj
  · rw [List.getElem?_append_right (by omega)] at hj
    obtain ⟨_, e⟩ := List.getElem?_eq_some_iff.1 hj
    simp at e
    subst e
    exact ⟨xs, ho, hl, fun h => absurd h (Nat.not_lt_zero _)⟩
def LowN (hs : List Hd) : Prop := ∀ h ∈ hs, h.n ≤ 100000 ∧ ∃ A n c, h.long = .slice A n c
theorem LowN.nil : LowN [] := fun h hm => by cases hm
theorem LowN.snoc {hs : List Hd} {l : Value} {n : Nat} (h : LowN hs) (hn : n ≤ 100000) : LowN (hs ++ [⟨l, nilV, n⟩]) := fun x hx => by
  rcases List.mem_append.1 hx with hx | hx
  · exact h x hx
  · rw [List.mem_singleton.1 hx]; exact ⟨hn, _, _, _, rfl⟩

theorem sameSpans_eq (v u : Value) (xs : List Span) (w : World) (hv : Rd Span.enc 2 w v xs) (hu : Rd Span.enc 2 w u xs) :
    Calls Tryz.prog 7 #[v, u] w fun e w' => e = .returned (.bool true) ∧ Below w.heap.size w w' := by
  have := sameSpans_calls v u xs xs w hv hu
  rw [decide_eq_true rfl] at this
  exact this

/-- what is told to the Book is nothing to a list of another kind's blocks. -/
theorem Own.keepB {α : Type} {enc : α → List Value} {k : Nat} {E HE : TypeId} {base b : Nat} {w w' : World} {v vh : Value} {xs : List α} {hs : List Hd} {B : Nat} {cs : Array Value} (h : Own enc k E base w v xs)
    (hobj : w.heap[B]? = some (.cells cs bookT (0, 0))) (hh : Own Hd.enc 3 HE b w vh hs) (hE1 : bookT ≠ E) (hE2 : HE ≠ E) (t : Turn (fun g => g = B ∨ vh.ownBlock = some g) w w') : Own enc k E base w' v xs :=
  h.turn t fun g hg hF => by
    rcases hF with e | e
    · exact ne_typed hobj (h.typed g hg).2.choose_spec hE1 e.symm
    · exact ne_typed (hh.typed g e).2.choose_spec (h.typed g hg).2.choose_spec hE2 rfl

set_option maxHeartbeats 1000000 in
set_option maxRecDepth 100000 in
theorem spansJoin_walk (v : Value) (xs : List Span) (W : World) (hv : Rd Span.enc 2 W v xs) (hlen : xs.length * 32 ≤ 140737488351232) (hok : ∀ x ∈ xs, x.ok) (hT : Tab10 W) :
    Calls Tryz.prog 3 #[v] W fun e w' => e = .returned (.bool true) ∧ Below W.heap.size W w' := by
  have hs : ∀ x ∈ xs, x.f.size ≤ 140737488351232 ∧ x.t.size ≤ 140737488351232 := hok
  have hsz := sizeSpans_calls v xs W hv (by omega) hs
  obtain ⟨A, c, rfl, hlc, hc⟩ := hv.shape
  by_cases h1 : 200 < xs.length
  · go_enter Tryz.func3, Tryz.ntmps3
    go_wp2_with (go_at_call 4; refine hsz.mono ?_; rintro e w1 ⟨rfl, hb1⟩)
    go_ret
    exact ⟨rfl, Below.refl _ _⟩
  · generalize sizeSpans xs = n at *
    by_cases h2 : 20000 < n
    · go_enter Tryz.func3, Tryz.ntmps3
      go_wp2_with (go_at_call 4; refine hsz.mono ?_; rintro e w1 ⟨rfl, hb1⟩)
      go_ret
      exact ⟨rfl, hb1⟩
    · have hok2 : ∀ x ∈ xs, okS2 x := fun x hx => ⟨by have := (hs x hx).1; omega, by have := (hs x hx).2; omega⟩
      have hjl : (joinF xs).length ≤ 200 := Nat.le_trans (joinF_spec xs).2.2.2 (by omega)
      go_enter Tryz.func3, Tryz.ntmps3
      go_wp2_with (first
        | (go_at_call 4; refine hsz.mono ?_; rintro e w1 ⟨rfl, hb1⟩; replace hv := hv.below hb1; replace hb := hb1)
        | (go_at_call 5; refine (twinSpans_calls _ _ _ hv (by omega)).mono ?_; rintro e w2 ⟨At, ct, rfl, hot, hb2⟩; have hst := (Own.shorter span_len hot); replace hv := hv.below hb2; replace hb := Below.step hb hb2)
        | (go_at_call 6; refine (join_ownJ _ xs w2 (hst.rd span_len) (by omega)).mono ?_; rintro e w3 ⟨Aa, ca, rfl, hoa, hb3⟩; have hta := hst.lt; have htb := hst.base_le; replace hv := hv.below hb3; replace hb := Below.step hb hb3; replace hot := hot.below hb3; replace hst := hst.below hb3; have hz1 := hb1.size; have hz2 := hb2.size; have hz3 := hb3.size; clear hb1 hb2)
        | (go_at_call 6; refine (join_ownJ _ xs w3 (hst.rd span_len) (by omega)).mono ?_; rintro e w4 ⟨Ab, cb, rfl, hob, hb4⟩; have haa := hoa.lt; have hab := hoa.base_le; have hbb := hob.base_le; replace hv := hv.below hb4; replace hb := Below.step hb hb4; replace hot := hot.below hb4; replace hst := hst.below hb4; replace hoa := hoa.below hb4; have hz4 := hb4.size; clear hb3 hb4)
        | (go_at_call 8; refine (rJoin_calls _ xs _ hv (by omega) hok2).mono ?_; rintro e w5 ⟨v5, rfl, hor, hb5⟩; replace hv := hv.below hb5; replace hb := Below.step hb hb5; replace hot := hot.below hb5; replace hst := hst.below hb5; replace hoa := hoa.below hb5; replace hob := hob.below hb5; have hz5 := hb5.size; clear hb5)
        | (go_at_call 7; refine (sameSpans_eq _ _ (joinF xs) _ (hoa.rd span_len) (hor.rd span_len)).mono ?_; rintro e w6 ⟨rfl, hb6⟩; replace hv := hv.below hb6; replace hb := Below.step hb hb6; replace hot := hot.below hb6; replace hst := hst.below hb6; replace hoa := hoa.below hb6; replace hob := hob.below hb6; have hz6 := hb6.size; clear hb6 hor)
        | (go_at_call 7; refine (sameSpans_eq _ _ (joinF xs) _ (hob.rd span_len) (hoa.rd span_len)).mono ?_; rintro e w7 ⟨rfl, hb7⟩; replace hv := hv.below hb7; replace hb := Below.step hb hb7; replace hot := hot.below hb7; replace hst := hst.below hb7; replace hoa := hoa.below hb7; replace hob := hob.below hb7; have hz7 := hb7.size; clear hb7)
        | (go_at_call 9; refine (leftSpans_calls _ _ _ xs _ (hot.rd span_len) hv).mono ?_; rintro e w8 ⟨rfl, hb8⟩; replace hb := Below.step hb hb8; replace hst := hst.below hb8; replace hoa := hoa.below hb8; replace hob := hob.below hb8; have hz8 := hb8.size; clear hb8 hot hv)
        | (go_at_call 10; refine (spansB_calls (n := 0) (base := W.heap.size) (w := w8.alloc (.cells #[.int .i64 0, nilV, nilV, nilV, nilV, nilV, nilV, nilV, nilV, nilV, nilV, nilV, nilV] bookT)) (alloc_new w8 _) (Own.nil _ _ _ _ _) (by simp) (by omega) (by have := hb.size; simp; omega) _ _ _).mono ?_; rintro e x1 ⟨rfl, v1, ob1, hh1, t1, n1⟩
           have hba : Below w8.heap.size w8 (w8.alloc (.cells #[.int .i64 0, nilV, nilV, nilV, nilV, nilV, nilV, nilV, nilV, nilV, nilV, nilV, nilV] bookT)) := (Below.refl _ _).alloc (Nat.le_refl _) _
           have q1 := (hst.below hba).keepB (alloc_new w8 _) (Own.nil Hd.enc 3 63 0 _) (by decide) (by decide) t1
           have q2 := (hoa.below hba).keepB (alloc_new w8 _) (Own.nil Hd.enc 3 63 0 _) (by decide) (by decide) t1
           have q3 := (hob.below hba).keepB (alloc_new w8 _) (Own.nil Hd.enc 3 63 0 _) (by decide) (by decide) t1
           have hb9 : Below W.heap.size W x1 := (Below.step hb hba).trans (t1.below (fun i h => h.elim (fun h => by have := hb.size; omega) (fun h => by simp [Value.ownBlock] at h)) (by have := hb.size; simp; omega))
           have hz9 := hb9.size
           have hBW := hb.size
           clear hst hoa hob hba t1 n1 hb)
        | (go_at_call 10; refine (spansB_calls (n := 1) ob1 hh1 (by simp) (by omega) hz9 _ _ _).mono ?_; rintro e x2 ⟨rfl, v2, ob2, hh2, t2, n2⟩
           have r1 := q1.keepB ob1 hh1 (by decide) (by decide) t2
           have r2 := q2.keepB ob1 hh1 (by decide) (by decide) t2
           have r3 := q3.keepB ob1 hh1 (by decide) (by decide) t2
           have hb10 : Below W.heap.size W x2 := hb9.trans (t2.below (fun i h => h.elim (fun h => by omega) (fun h => (hh1.typed i h).1)) hz9)
           have hz10 := hb10.size
           clear q1 q2 q3 t2 n2 hb9 ob1 hh1)
        | (go_at_call 10; refine (spansB_calls (n := 2) ob2 hh2 (by simp) (by omega) hz10 _ _ _).mono ?_; rintro e x3 ⟨rfl, v3, ob3, hh3, t3, n3⟩
           have s1 := r1.keepB ob2 hh2 (by decide) (by decide) t3
           have s2 := r2.keepB ob2 hh2 (by decide) (by decide) t3
           have s3 := r3.keepB ob2 hh2 (by decide) (by decide) t3
           have hb11 : Below W.heap.size W x3 := hb10.trans (t3.below (fun i h => h.elim (fun h => by omega) (fun h => (hh2.typed i h).1)) hz10)
           have hz11 := hb11.size
           clear r1 r2 r3 t3 n3 hb10 ob2 hh2)
        | (go_at_call 11
           have l1 := s1.lower hz1
           have l2 := s2.lower (Nat.le_trans hz1 hz2)
           have l3 := s3.lower (Nat.le_trans (Nat.le_trans hz1 hz2) hz3)
           refine (apartS_calls (base := W.heap.size) (n := 3) (hT.stays hb11) ob3 hh3 (by simp) (((LowN.nil.snoc (by omega)).snoc (by omega)).snoc (by omega)) ((((FilSpan.nil _ _).snoc l1 (by omega)).snoc l2 (by omega)).snoc l3 (by omega))
             (((Sep.nil.snoc (fun a h => by cases h)).snoc (fun a h g hg hg2 => by simp at h; subst h; have := hta g hg; have := hab g hg2; omega)).snoc (fun a h g hg hg2 => by
               simp at h
               rcases h with rfl | rfl
               · have := hta g hg; have := hbb g hg2; omega
               · have := haa g hg; have := hbb g hg2; omega)) ⟨hT.lt, hz11⟩).mono ?_
           rintro e x4 ⟨rfl, hb12⟩))
      go_ret
      exact ⟨rfl, hb11.trans hb12⟩

end Go.Proofs.YtbfmneblhlmiiaaGreatDoor
