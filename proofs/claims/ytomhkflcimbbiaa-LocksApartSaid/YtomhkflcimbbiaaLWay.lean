import Derived.Test.YtomhkflcimbbiaaLOth
import Derived.Test.YtomhkflcimbbiaaUComp
import Derived.Test.YtomhkflcimbbiaaMeetC
set_option linter.unusedVariables false
set_option linter.unusedSimpArgs false
set_option linter.unusedSectionVars false
namespace Go.Proofs.Ytomhkflcimbbiaa
open Go.RowKit

attribute [local go_sem] Oper.semAt_some

theorem lboxed_new {W : World} {n : Nat} (t : TypeId) (v : Value) (h : n = W.heap.size) : Boxed (W.alloc (.cells #[v] t)) n t v := by subst h; exact Boxed.new W t v
theorem lalloc_at {W : World} {n : Nat} (o : Obj) (h : n = W.heap.size) : (W.alloc o).heap[n]? = some o := by subst h; exact World.alloc_heap_new W o
theorem lcells_own {β : Type} (B : Nat) (t : TypeId) (cs : Array Value) : _root_.Go.Own (fun (_ : β) W => W.heap[B]? = some (.cells cs t (0, 0))) := fun s X Y row hs hg hrow =>
  (hg.block B (Array.getElem?_eq_some_iff.1 hs).1 (fun e' => by obtain ⟨o, ho, hc⟩ := hrow B e'.symm; rw [show X.heap[B]? = _ from hs] at ho; cases ho; cases hc)).trans hs

set_option maxHeartbeats 400000 in
theorem may_calls (who : Int) (f t : ByteArray) (w : World) :
    Calls Try.prog 29 #[.int .u32 who, .agg #[.string f, .string t]] w fun e w' => e = .returned (.bool (mayL who f t)) ∧ Below w.heap.size w w' := by
  have hb : Below w.heap.size w (w.alloc (.cells #[.string f, .string t] 24)) := (Below.refl _ w).alloc (Nat.le_refl _) _
  have hme : meet4 f t f t = sle f t := by
    rw [Bool.eq_iff_iff, meet4_true]
    exact ⟨fun h => h.1, fun h => ⟨h, h, h, h⟩⟩
  have hm := fun W => meet_calls f t f t W
  rw [hme] at hm
  unfold mayL
  by_cases h0 : who = 0
  · subst h0
    go_enter Try.func29, Try.ntmps29
    go_wp2
    go_ret
    exact ⟨by simp, hb⟩
  · have hw : (who != 0) = true := by simp [h0]
    go_enter Try.func29, Try.ntmps29
    go_wp2_with (go_at_call 20; refine (hm _).mono ?_; rintro e w1 ⟨rfl, hb1⟩)
    go_ret
    exact ⟨by simp [h0], Below.step hb hb1⟩

set_option maxHeartbeats 400000 in
theorem othersf_calls (B : Nat) (who : Int) (n : Nat) (w : World) :
    CallsIn Fence.wide n Try.prog 32 #[.pointer (some ⟨B, 0, none⟩), .int .u32 who] w fun e w' =>
      e = .returned (.func (.func 40) #[] #[.pointer (some ⟨w.heap.size, 0, none⟩), .pointer (some ⟨w.heap.size + 1, 0, none⟩)]) ∧ w' = (w.alloc (.cells #[.pointer (some ⟨B, 0, none⟩)] 25)).alloc (.cells #[.int .u32 who] 22) := by
  refine callsIn_wide.2 ?_
  go_enter Try.func32, Try.ntmps32
  go_wp2
  go_ret
  exact ⟨rfl, rfl⟩

theorem ot_stops (n : Nat) (hn : 1 ≤ n) (bt bw : Nat) {base B M nn L : Nat} {D : DataW Value} {T : Tab} (who : Int) {w0 w : World} (h : TabAt base w0 B M nn D T) (hL : ∀ o, (T o).length ≤ L) (hLb : L ≤ 1000000) (hB0 : Below w0.heap.size w0 w)
    (hbtl : bt < w.heap.size) (hbt : w.cell? ⟨bt, 0, none⟩ = some (.pointer (some ⟨B, 0, none⟩))) (hbw : w.heap[bw]? = some (.cells #[.int .u32 who] 22 (0, 0))) :
    SeqStopsK Fence.wide n Try.prog 40 #[.pointer (some ⟨bt, 0, none⟩), .pointer (some ⟨bw, 0, none⟩)] oItem (KpU w0.heap.size bw) (OtAll T who nn) (fun _ => True) (nn * L) w :=
  fun l J Jx W hW hJ _ hY h0 => ot_in n hn l bt bw who h hL hLb W.heap.size (Nat.le_trans hB0.size hW.size) J Jx hJ hY W (Nat.le_refl _) (hB0.trans (hW.mono hB0.size)) (Below.cell_some hW hbt) ((hW.block bw (Array.getElem?_eq_some_iff.1 hbw).1).trans hbw) h0

/-- those in the way, as they come. -/
def hitsL (f t : Str) (al : Bool) (pre : List (Int × Lock)) : List Int := (pre.filter fun p => hitL al f t p.2).map (·.1)
theorem hitsL_snoc (f t : Str) (al : Bool) (pre : List (Int × Lock)) (x : Int × Lock) : hitsL f t al (pre ++ [x]) = hitsL f t al pre ++ (if hitL al f t x.2 then [x.1] else []) := by
  unfold hitsL
  rw [List.filter_append, List.map_append]
  congr 1
  cases h : hitL al f t x.2 <;> simp [h]
theorem hitsL_oList {f t : Str} {al : Bool} {T : Tab} {who : Int} {c : Nat} (hc : ∀ o, ((T o).filter (hitL al f t)).length ≤ c) : ∀ ks : List Int, (hitsL f t al (oList T who ks)).length ≤ ks.length * c
  | [] => by simp [oList, hitsL]
  | o :: ks => by
    have ih := hitsL_oList (who := who) hc ks
    have h1 := hc o
    have e : oList T who (o :: ks) = (if o = who then [] else (T o).map fun l => (o, l)) ++ oList T who ks := List.flatMap_cons
    unfold hitsL at *
    rw [e, List.filter_append, List.map_append, List.length_append, List.length_cons, Nat.add_mul, Nat.one_mul]
    have h2 : (((if o = who then [] else (T o).map fun l => (o, l)).filter fun p : Int × Lock => hitL al f t p.2).map (·.1)).length ≤ c := by
      split
      · simp
      · rw [List.length_map, List.filter_map, List.length_map]
        exact h1
    omega
theorem hitsL_all {f t : Str} {al : Bool} {T : Tab} {who : Int} {nn : Nat} {ys : List (Int × Lock)} (h : OtAll T who nn ys) (o : Int) : o ∈ hitsL f t al ys ↔ InWay T who f t al o := by
  obtain ⟨ks, rfl, _, hall⟩ := h
  unfold hitsL InWay
  rw [List.mem_map]
  constructor
  · rintro ⟨p, hp, rfl⟩
    obtain ⟨hp, hh⟩ := List.mem_filter.1 hp
    obtain ⟨_, h2, h3⟩ := oList_mem.1 hp
    exact ⟨h2, p.2, h3, hh⟩
  · rintro ⟨h1, x, hx, hh⟩
    exact ⟨(o, x), List.mem_filter.2 ⟨oList_mem.2 ⟨hall o (fun e => by rw [e] at hx; cases hx), h1, hx⟩, hh⟩, rfl⟩

end Go.Proofs.Ytomhkflcimbbiaa
