import Derived.Test.YtanjgeacmpmjhaaGreatDoorR11P
import Derived.Test.YtanjgeacmpmjhaaGreatDoorMgLocksPlay14
import Derived.Test.YtanjgeacmpmjhaaGreatDoorMgLocksPlay2
import Derived.Test.YtanjgeacmpmjhaaGreatDoorTwSpan
import Derived.Deep.QuietTactic
import Derived.BigQuiet
import Derived.Deep.RegionHeld3
import Derived.Deep.RegionLaw
import Derived.StillTailTactics
import Derived.Lib.SmallJoins
set_option linter.unusedVariables false
set_option linter.unusedSimpArgs false
set_option linter.unusedSectionVars false
namespace Go.Proofs.YtanjgeacmpmjhaaGreatDoor
open Go.RowKit

theorem rlocks_under : Tryz.prog.underlying 86 = some (.slice 166) := by kernel_rfl
theorem info_rlock : (Tryz.prog.info? 166).map (fun i => (i.zero, i.size, i.bytes)) = some (some (.agg #[.int .u32 0, .string ⟨#[]⟩, .string ⟨#[]⟩, .bool false]), 4, 48) := by kernel_rfl
def smallH (h : Held) : Prop := h.f.size ≤ 9223372036854775807 ∧ h.t.size ≤ 9223372036854775807

/-- The reference's table. -/
structure RTab (base : Nat) (w : World) (C : Nat) (v : Value) (hs : List Held) : Prop where
  obj : w.heap[C]? = some (.cells #[v] 88 (0, 0))
  own : Own Held.enc 4 166 base w v hs
  small : ∀ h ∈ hs, smallH h
  low : base ≤ C
section
variable {base : Nat} {w w' : World} {C : Nat} {v : Value} {hs : List Held}
theorem RTab.below (h : RTab base w C v hs) (hb : Below w.heap.size w w') : RTab base w' C v hs := ⟨(hb.block C (Array.getElem?_eq_some_iff.1 h.obj).1).trans h.obj, h.own.below hb, h.small, h.low⟩
theorem RTab.lt (h : RTab base w C v hs) : C < w.heap.size := (Array.getElem?_eq_some_iff.1 h.obj).1
theorem RTab.c0 (h : RTab base w C v hs) : w.cell? ⟨C, 0, none⟩ = some v := by rw [heap_cell h.obj]; rfl

theorem has_snoc (who : Int) (hs : List Held) (k : Nat) (x : Held) (h : hs[k]? = some x) : (tabOf (hs.take (k + 1)) who).map spOf = (tabOf (hs.take k) who).map spOf ++ (if x.who = who then [⟨x.f, x.t⟩] else []) := by
  obtain ⟨hk, rfl⟩ := List.getElem?_eq_some_iff.1 h
  rw [List.take_succ_eq_append_getElem hk, tabOf_snoc]
  by_cases e : hs[k].who = who <;> simp [e, lockOf, spOf]

set_option maxHeartbeats 800000 in
theorem rhas11_calls (h : RTab base w C v hs) (hl : hs.length ≤ 100000) (who : Int) :
    Calls Tryz.prog 59 #[.pointer (some ⟨C, 0, none⟩), .int .u32 who] w fun e w' => ∃ v', e = .returned v' ∧ Below w.heap.size w w' ∧ Own Span.enc 2 47 w.heap.size w' v' ((tabOf hs who).map spOf) := by
  have hrd := h.own.rd held_len
  have c0 := h.c0
  obtain ⟨A, c, rfl, hlc, hc⟩ := hrd.shape
  clear h
  go_enter Tryz.func59, Tryz.ntmps59
  go_wp2
  go_loopw [5, 6] (fun ov iv wr => ∃ m : Nat, m ≤ hs.length ∧ iv = .int .i64 m ∧ Own Span.enc 2 47 w.heap.size wr ov ((tabOf (hs.take m) who).map spOf) ∧ Below w.heap.size w wr) (fun _ iv _ => hs.length - (intOf iv).toNat)
  case atStart => exact ⟨0, Nat.zero_le _, rfl, .nil _ _ _ _ _, Below.refl _ _⟩
  case round =>
    obtain ⟨m, hm, rfl, hown, hb⟩ := hrel
    have hsz := hb.size
    have c1 := Below.cell_some hb c0
    by_cases hlt : m < hs.length
    · have hx := List.getElem?_eq_getElem hlt
      obtain ⟨b, o, rfl, x0, x1, x2, x3⟩ := (hrd.below hb).held hx
      have HS := Lib.hid (has_snoc who hs m _ hx)
      have hlen := tabOf_length (hs.take m) who
      rw [List.length_take] at hlen
      have hlen2 : ((tabOf (hs.take m) who).map spOf).length ≤ 100000 := by rw [List.length_map]; omega
      generalize hs[m] = x at *
      obtain ⟨Ao, co, rfl, hlo, hco⟩ := hown.slice
      generalize (tabOf (hs.take m) who).map spOf = os at *
      have HO := Lib.hid hown
      have HB := Lib.hid hb
      clear hown hb hlen
      by_cases hk : x.who = who
      · have HE := HS.out
        rw [if_pos hk] at HE
        have HE2 := Lib.hid HE
        have hd : decide (x.who = who) = true := decide_eq_true hk
        clear HE HS
        go_wp2_with (at_builtin; refine append_one Span.enc 2 47 98 32 _ w.heap.size _ _ ⟨x.f, x.t⟩ rfl _ _ rfl Tryz.underlying98 info_span rfl (by decide) (by decide) span_len span_one rfl rfl HO.out HB.out hsz (by omega) ?_; intro v' w' hown' hb' hgr hat; clear hgr hat)
        go_roundw
        case rel => exact ⟨m + 1, by omega, by go_num, by rw [HE2.out]; exact hown', hb'⟩
        case measure => simp [intOf]; omega
      · have HE := HS.out
        rw [if_neg hk, List.append_nil] at HE
        have HE2 := Lib.hid HE
        have hd : decide (x.who = who) = false := decide_eq_false hk
        clear HE HS
        go_wp2
        go_roundw
        case rel => exact ⟨m + 1, by omega, by go_num, by rw [HE2.out]; exact HO.out, HB.out⟩
        case measure => simp [intOf]; omega
    · have hme : m = hs.length := by omega
      subst hme
      rw [List.take_length] at hown
      obtain ⟨Ao, co, rfl, hlo, hco⟩ := hown.slice
      have HF := Lib.hid (And.intro hown hb)
      clear hown hb
      go_wp2
      go_ret
      exact ⟨_, rfl, HF.out.2, HF.out.1⟩


/-- What an act of the reference's may turn: its table, and its row. -/
def TurnR (base : Nat) (w w' : World) : Prop := ∃ F : Nat → Prop, Turn F w w' ∧ ∀ g, F g → base ≤ g ∧ ∃ cur T, w.heap[g]? = some (.cells cur T (0, 0)) ∧ (T = 88 ∨ T = 166)
theorem TurnR.of_below (h : Below w.heap.size w w') : TurnR base w w' := ⟨fun _ => False, .of_below h, fun _ h => h.elim⟩
theorem TurnR.behind {w1 : World} (hb : Below w.heap.size w w1) (h : TurnR base w1 w') (hbase : base ≤ w.heap.size) : TurnR base w w' := by
  obtain ⟨F, t, hF⟩ := h
  refine ⟨fun g => F g ∧ g < w.heap.size, (Turn.of_below hb).step t fun g hg f => ⟨f, hg⟩, fun g ⟨f, hg⟩ => ?_⟩
  obtain ⟨h1, cur, T, h2, h3⟩ := hF g f
  exact ⟨h1, cur, T, by rw [← hb.block g hg]; exact h2, h3⟩

set_option maxHeartbeats 800000 in
theorem rfree11_calls (h : RTab base w C v hs) (hbase : base ≤ w.heap.size) (hl : hs.length ≤ 100000) (who : Int) :
    Calls Tryz.prog 54 #[.pointer (some ⟨C, 0, none⟩), .int .u32 who] w fun e w' => e = .returned (.int .i64 ((tabOf hs who).length : Int)) ∧ (∃ v', RTab base w' C v' (hs.filter fun h => decide (h.who ≠ who))) ∧ TurnR base w w' := by
  have hrd := h.own.rd held_len
  have c0 := h.c0
  have f0 := heap_free h.obj 0
  have hCl := h.lt
  have hfc := free_count who hs
  obtain ⟨A, c, rfl, hlc, hc⟩ := hrd.shape
  have HFIN : RowKit.Hid (∀ (v3 : Value) (w4 : World), Own Held.enc 4 166 w.heap.size w4 v3 (hs.filter fun h => decide (h.who ≠ who)) → Below w.heap.size w w4 →
      (∃ v', RTab base (w4.setCell ⟨C, 0, none⟩ v3) C v' (hs.filter fun h => decide (h.who ≠ who))) ∧ TurnR base w (w4.setCell ⟨C, 0, none⟩ v3)) := Lib.hid fun v3 w4 ho hb =>
    ⟨⟨v3, Joins.block_setCell (i := 0) ((hb.block C hCl).trans h.obj) _, (ho.lower hbase).turn (.setCell _ _ _ _) fun g hg e => (by have := ho.base_le g hg; omega), fun x hx => h.small x (List.mem_filter.1 hx).1, h.low⟩,
      ⟨fun g => g = C, (Turn.of_below hb).trans (.setCell _ _ _ _), fun g e => ⟨e ▸ h.low, _, _, e ▸ h.obj, .inl rfl⟩⟩⟩
  have HFI : RowKit.Hid (∀ (m : Nat) (x : Held), hs[m]? = some x → (hs.take (m + 1)).filter (fun h => decide (h.who ≠ who)) = (hs.take m).filter (fun h => decide (h.who ≠ who)) ++ if x.who = who then [] else [x]) := Lib.hid fun m x hx => by
    obtain ⟨hk, rfl⟩ := List.getElem?_eq_some_iff.1 hx
    rw [List.take_succ_eq_append_getElem hk, List.filter_append]
    by_cases e : hs[m].who = who <;> simp [e]
  obtain ⟨p, hp⟩ : ∃ p : Held → Bool, p = fun h => decide (h.who ≠ who) := ⟨_, rfl⟩
  rw [← hp] at HFIN HFI hfc
  have hfl : (hs.filter p).length ≤ hs.length := List.length_filter_le ..
  obtain ⟨N, hN⟩ : ∃ N, (tabOf hs who).length = N := ⟨_, rfl⟩
  rw [hN] at hfc ⊢
  show Calls _ _ _ _ fun e w' => e = .returned (.int .i64 (N : Int)) ∧ (∃ v', RTab base w' C v' (hs.filter fun h => decide (h.who ≠ who))) ∧ TurnR base w w'
  rw [← hp]
  clear h hN hp
  obtain ⟨Z, hZ⟩ : ∃ Z, hs.filter p = Z := ⟨_, rfl⟩
  rw [hZ] at HFIN hfl hfc ⊢
  have HZ := Lib.hid hZ
  clear hZ
  go_enter Tryz.func54, Tryz.ntmps54
  go_wp2
  go_loopw [5, 6] (fun ov iv wr => ∃ (m : Nat) (os : List Held), m ≤ hs.length ∧ iv = .int .i64 m ∧ (hs.take m).filter p = os ∧ os.length ≤ m ∧ Own Held.enc 4 166 w.heap.size wr ov os ∧ Below w.heap.size w wr) (fun _ iv _ => hs.length - (intOf iv).toNat)
  case atStart => exact ⟨0, [], Nat.zero_le _, rfl, by simp, by simp, .nil _ _ _ _ _, Below.refl _ _⟩
  case round =>
    obtain ⟨m, os, hm, rfl, hos, hol, hown, hb⟩ := hrel
    have hsz := hb.size
    have c1 := Below.cell_some hb c0
    have HOS := Lib.hid hos
    clear hos
    by_cases hlt : m < hs.length
    · have hx := List.getElem?_eq_getElem hlt
      obtain ⟨b, o, rfl, x0, x1, x2, x3⟩ := (hrd.below hb).held hx
      have HS := Lib.hid (HFI.out m _ hx)
      generalize hs[m] = x at *
      obtain ⟨Ao, co, rfl, hlo, hco⟩ := hown.slice
      have HO := Lib.hid hown
      have HB := Lib.hid hb
      clear hown hb
      by_cases hk : x.who = who
      · have HE := HS.out
        rw [if_pos hk, List.append_nil] at HE
        have HE2 := Lib.hid HE
        have hd : (x.who != who) = false := by simp [hk]
        clear HE HS
        go_wp2
        go_roundw
        case rel => exact ⟨m + 1, os, by omega, by go_num, by rw [HE2.out]; exact HOS.out, by omega, HO.out, HB.out⟩
        case measure => simp [intOf]; omega
      · have HE := HS.out
        rw [if_neg hk] at HE
        have HE2 := Lib.hid HE
        have hd : (x.who != who) = true := by simp [hk]
        clear HE HS
        go_wp2_with (at_builtin; refine append_one Held.enc 4 166 86 48 _ w.heap.size _ _ x rfl _ _ rfl rlocks_under info_rlock rfl (by decide) (by decide) held_len held_one rfl rfl HO.out HB.out hsz (by omega) ?_; intro v' w' hown' hb' hgr hat; clear hgr hat)
        go_roundw
        case rel => exact ⟨m + 1, os ++ [x], by omega, by go_num, by rw [HE2.out, HOS.out], by simp; omega, hown', hb'⟩
        case measure => simp [intOf]; omega
    · have hme : m = hs.length := by omega
      subst hme
      have hos := HOS.out
      rw [List.take_length] at hos
      have hos2 := hos.symm.trans HZ.out
      subst hos2
      obtain ⟨Ao, co, rfl, hlo, hco⟩ := hown.slice
      have HF := Lib.hid (HFIN.out _ _ hown hb)
      have f1 : wr.frozen? ⟨C, 0, none⟩ = false := by
        unfold World.frozen? at f0 ⊢
        rw [hb.block C hCl]
        exact f0
      have hN2 : (hs.length : Int) - (os.length : Int) = (N : Int) := by omega
      have hwr : IntKind.i64.wrap ((hs.length : Int) - (os.length : Int)) = (N : Int) := by rw [IntKind.wrap_i64]; omega
      clear hown hos HOS HZ HFIN hfc hb hN2
      go_wp2
      go_ret
      exact ⟨rfl, HF.out⟩
end

end Go.Proofs.YtanjgeacmpmjhaaGreatDoor
