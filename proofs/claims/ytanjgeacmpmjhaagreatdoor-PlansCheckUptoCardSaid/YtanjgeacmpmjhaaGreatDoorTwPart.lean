import Derived.Test.YtanjgeacmpmjhaaGreatDoorTwOpn
import Derived.Test.YtanjgeacmpmjhaaGreatDoorMgPlansCheckUpto2
import Derived.Test.YtanjgeacmpmjhaaGreatDoorPlRes
import Derived.Test.YtanjgeacmpmjhaaGreatDoorBkPart
import Derived.Test.YtanjgeacmpmjhaaGreatDoorMgPlansCheckUpto34
import Derived.Test.YtanjgeacmpmjhaaGreatDoorMgPlansCheckUpto27
set_option linter.unusedVariables false
set_option linter.unusedSimpArgs false
set_option linter.unusedSectionVars false
namespace Go.Proofs.YtanjgeacmpmjhaaGreatDoor
open Go.RowKit

theorem twinPart_calls (q : Int) (v : Value) (xs : List Opn) (w : World) (hv : Rd Opn.enc 4 w v xs) (hl : xs.length ≤ 1000000000) :
    Calls Tryz.prog 151 #[.agg #[.int .u8 q, v]] w fun e w' => ∃ A c, e = .returned (.agg #[.int .u8 q, .slice A xs.length c]) ∧ Own Opn.enc 4 172 w.heap.size w' (.slice A (xs.length + 1) c) (xs ++ [spareOpn]) ∧ Below w.heap.size w w' := by
  obtain ⟨A, c, rfl, hlc, hc⟩ := hv.shape
  have hb1 : Below w.heap.size w (w.alloc (.cells #[.int .u8 q, .slice A xs.length c] 105)) := (Below.refl _ w).alloc (Nat.le_refl _) _
  have hb2 : Below w.heap.size w ((w.alloc (.cells #[.int .u8 q, .slice A xs.length c] 105)).alloc (.cells #[.int .u8 0, .slice none 0 0] 105)) := hb1.alloc (Nat.le_trans (Nat.le_refl _) hb1.size) _
  have ho1 := alloc_new w (.cells #[.int .u8 q, .slice A xs.length c] 105)
  have ho2 := alloc_new (w.alloc (.cells #[.int .u8 q, .slice A xs.length c] 105)) (.cells #[.int .u8 0, .slice none 0 0] 105)
  go_enter Tryz.func151, Tryz.ntmps151
  go_upto_region 1 with fail
  have hs2 : ((w.alloc (.cells #[.int .u8 q, .slice A xs.length c] 105)).alloc (.cells #[.int .u8 0, .slice none 0 0] 105)).heap.size = w.heap.size + 1 + 1 := by simp
  have hq1 : ((w.alloc (.cells #[.int .u8 q, .slice A xs.length c] 105)).alloc (.cells #[.int .u8 0, .slice none 0 0] 105)).heap[w.heap.size]? = some (.cells #[.int .u8 q, .slice A xs.length c] 105 (0, 0)) := (((Below.refl _ _).alloc (Nat.le_refl _) _).block w.heap.size (by simp)).trans ho1
  have hq2 : ((w.alloc (.cells #[.int .u8 q, .slice A xs.length c] 105)).alloc (.cells #[.int .u8 0, .slice none 0 0] 105)).heap[w.heap.size + 1]? = some (.cells #[.int .u8 0, .slice none 0 0] 105 (0, 0)) := by rw [← ho2]; simp
  generalize (w.alloc (.cells #[.int .u8 q, .slice A xs.length c] 105)).alloc (.cells #[.int .u8 0, .slice none 0 0] 105) = w2 at *
  have hbd := Below.step hb2 (Below.refl _ w2).drew
  have hd1 : w2.drew.heap[w.heap.size]? = some (.cells #[.int .u8 q, .slice A xs.length c] 105 (0, 0)) := hq1
  have hd2 : w2.drew.heap[w.heap.size + 1]? = some (.cells #[.int .u8 0, .slice none 0 0] 105 (0, 0)) := hq2
  have hsd : w2.drew.heap.size = w.heap.size + 1 + 1 := hs2
  have b0 : w2.drew.cell? ⟨w.heap.size, 0, none⟩ = some (.int .u8 q) := by rw [heap_cell hd1]; rfl
  have b1 : w2.drew.cell? ⟨w.heap.size, 1, none⟩ = some (.slice A xs.length c) := by rw [heap_cell hd1]; rfl
  clear hb1 hb2 ho1 ho2 hs2 hq1 hq2
  go_region_held3 (fun w' => w'.cell? ⟨w.heap.size, 0, none⟩ = some (.int .u8 q) ∧ w'.cell? ⟨w.heap.size, 1, none⟩ = some (.slice A xs.length c)) (go_keep) ((go_at_call 70; refine (twinOps_calls _ xs _ (hv.below hbd) hl).mono ?_; rintro e w3 ⟨A3, c3, rfl, ho3, hb3⟩; have e1 := (hb3.block _ (by rw [hsd]; omega)).trans hd1; have e2 := (hb3.block _ (by rw [hsd]; omega)).trans hd2; have t0 : w3.cell? ⟨w.heap.size, 0, none⟩ = some (.int .u8 q) := (by rw [heap_cell e1]; rfl); have t1 : w3.cell? ⟨w.heap.size, 1, none⟩ = some (.slice A xs.length c) := (by rw [heap_cell e1]; rfl); have c0 : w3.cell? ⟨w.heap.size + 1, 0, none⟩ = some (.int .u8 0) := (by rw [heap_cell e2]; rfl); have c1 : w3.cell? ⟨w.heap.size + 1, 1, none⟩ = some (.slice none 0 0) := (by rw [heap_cell e2]; rfl); have f0 : w3.frozen? ⟨w.heap.size + 1, 0, none⟩ = false := (by simp [World.frozen?, e2]); have f1 : w3.frozen? ⟨w.heap.size + 1, 1, none⟩ = false := (by simp [World.frozen?, e2])))
  have hsz3 := hb3.size
  have hB : Below w.heap.size w ((w3.setCell ⟨w.heap.size + 1, 0, none⟩ (.int .u8 q)).setCell ⟨w.heap.size + 1, 1, none⟩ (.slice A3 xs.length c3)) := ((Below.step hbd hb3).setCell (by simp) _).setCell (by simp) _
  have g0 := Joins.block_setCell (i := 1) (Joins.block_setCell (i := 0) e2 (.int .u8 q)) (.slice A3 xs.length c3)
  have hoF : Own Opn.enc 4 172 w.heap.size ((w3.setCell ⟨w.heap.size + 1, 0, none⟩ (.int .u8 q)).setCell ⟨w.heap.size + 1, 1, none⟩ (.slice A3 xs.length c3)) (.slice A3 (xs.length + 1) c3) (xs ++ [spareOpn]) :=
    (ho3.turn (F := fun g => g = w.heap.size + 1) ((Turn.setCell _ _ _ _).trans (Turn.setCell _ _ _ _)) fun g hg e => by
      have := ho3.base_le g hg
      omega).lower (by rw [hsd]; omega)
  generalize ((w3.setCell ⟨w.heap.size + 1, 0, none⟩ (.int .u8 q)).setCell ⟨w.heap.size + 1, 1, none⟩ (.slice A3 xs.length c3)) = w4 at *
  go_wp2
  refine bodyPost_ret (results_cell_row rfl _ _ (w.heap.size + 1) _ #[.int .u8 q, .slice A3 xs.length c3] _ _ rfl g0 Tryz.underlying105 rfl (by kernel_rfl)) rfl ?_
  exact ⟨A3, c3, rfl, hoF, hB⟩

/-- A part in a block of its own, a mark behind it. -/
def PartI (base : Nat) (w : World) (s : PaV) (p : Int × List Opn) : Prop := s.s = p.1 ∧ s.n = p.2.length ∧ Own Opn.enc 4 172 base w (.slice s.A (s.n + 1) s.c) (p.2 ++ [spareOpn])
theorem PartI.block {base : Nat} {w : World} {s : PaV} {p : Int × List Opn} (h : PartI base w s p) {g : Nat} (hg : s.val.ownBlock = some g) : (Value.slice s.A (s.n + 1) s.c).ownBlock = some g := by
  rw [← hg]
  show (Value.slice s.A (s.n + 1) s.c).ownBlock = (Value.slice s.A s.n s.c).ownBlock
  cases s.A <;> rfl
theorem PartI.turn {base : Nat} {w w' : World} {F : Nat → Prop} {s : PaV} {p : Int × List Opn} (h : PartI base w s p) (t : Turn F w w') (hF : ∀ g cur, w.heap[g]? = some (.cells cur 172 (0, 0)) → ¬ F g) : PartI base w' s p :=
  ⟨h.1, h.2.1, h.2.2.turn t fun g hg => by
    obtain ⟨_, cur, e⟩ := h.2.2.typed g hg
    exact hF g cur e⟩
theorem PartI.below {base : Nat} {w w' : World} {s : PaV} {p : Int × List Opn} (h : PartI base w s p) (hb : Below w.heap.size w w') : PartI base w' s p := h.turn (F := fun _ => False) (.of_below hb) fun _ _ _ => id
theorem PartI.lower {base base' : Nat} {w : World} {s : PaV} {p : Int × List Opn} (h : PartI base w s p) (hb : base' ≤ base) : PartI base' w s p := ⟨h.1, h.2.1, h.2.2.lower hb⟩

/-- Parts of one's own, each in a block of its own. -/
def PartsI (base : Nat) (w : World) (ss : List PaV) (ps : List (Int × List Opn)) : Prop :=
  ss.length = ps.length ∧ (∀ (i : Nat) (s : PaV) (p : Int × List Opn), ss[i]? = some s → ps[i]? = some p → PartI base w s p) ∧ ss.Pairwise SepPart
theorem PartsI.turn {base : Nat} {w w' : World} {F : Nat → Prop} {ss : List PaV} {ps : List (Int × List Opn)} (h : PartsI base w ss ps) (t : Turn F w w') (hF : ∀ g cur, w.heap[g]? = some (.cells cur 172 (0, 0)) → ¬ F g) : PartsI base w' ss ps :=
  ⟨h.1, fun i s p h1 h2 => (h.2.1 i s p h1 h2).turn t hF, h.2.2⟩
theorem PartsI.below {base : Nat} {w w' : World} {ss : List PaV} {ps : List (Int × List Opn)} (h : PartsI base w ss ps) (hb : Below w.heap.size w w') : PartsI base w' ss ps := h.turn (F := fun _ => False) (.of_below hb) fun _ _ _ => id
theorem PartsI.snoc {base : Nat} {w w1 : World} {ss : List PaV} {ps : List (Int × List Opn)} {s : PaV} {p : Int × List Opn} (h : PartsI base w ss ps) (hb : Below w.heap.size w w1) (hbase : base ≤ w.heap.size) (hn : PartI w.heap.size w1 s p) : PartsI base w1 (ss ++ [s]) (ps ++ [p]) := by
  obtain ⟨hl, hs, hp⟩ := h
  refine ⟨by simp [hl], fun i s' p' h1 h2 => ?_, ?_⟩
  · by_cases hi : i < ss.length
    · rw [List.getElem?_append_left hi] at h1
      rw [List.getElem?_append_left (by omega)] at h2
      exact (hs i s' p' h1 h2).below hb
    · rw [List.getElem?_append_right (by omega)] at h1
      rw [List.getElem?_append_right (by omega), ← hl] at h2
      have hz : i - ss.length = 0 := by
        have := (List.getElem?_eq_some_iff.1 h1).1
        simp at this
        omega
      rw [hz] at h1 h2
      simp at h1 h2
      subst h1 h2
      exact hn.lower hbase
  · rw [List.pairwise_append]
    refine ⟨hp, List.pairwise_singleton .., fun a ha b hb' g hg hg2 => ?_⟩
    rw [List.mem_singleton.1 hb'] at hg2
    obtain ⟨j, hj, rfl⟩ := List.mem_iff_getElem.1 ha
    have ho := hs j _ _ (List.getElem?_eq_getElem hj) (List.getElem?_eq_getElem (by omega))
    have h1 := ho.2.2.lt g (ho.block hg)
    have h2 := hn.2.2.base_le g (hn.block hg2)
    omega
/-- One more in the list itself: what lies in blocks of ops stays. -/
theorem PartsI.way {base : Nat} {w w' : World} {ss : List PaV} {ps : List (Int × List Opn)} {lv v' : Value} {ys : List PaV} (h : PartsI base w ss ps) (ho : Own PaV.enc 2 105 base w lv ys)
    (hway : (∃ g c, lv = .slice (some ⟨g, 0, none⟩) ys.length c ∧ v' = .slice (some ⟨g, 0, none⟩) (ys.length + 1) c ∧ Turn (fun i => i = g) w w') ∨ (Below w.heap.size w w' ∧ ∃ g, v'.ownBlock = some g ∧ w.heap.size ≤ g)) : PartsI base w' ss ps := by
  rcases hway with ⟨g, c, e1, _, tn⟩ | ⟨tb, _⟩
  · exact h.turn tn fun g' cur e e' => by
      subst e'
      exact ne_typed e (ho.typed g' (by rw [e1]; rfl)).2.choose_spec (by decide) rfl
  · exact h.below tb
theorem way_below {base : Nat} {w w' : World} {lv v' : Value} {ys : List PaV} (ho : Own PaV.enc 2 105 base w lv ys) (hbase : base ≤ w.heap.size)
    (hway : (∃ g c, lv = .slice (some ⟨g, 0, none⟩) ys.length c ∧ v' = .slice (some ⟨g, 0, none⟩) (ys.length + 1) c ∧ Turn (fun i => i = g) w w') ∨ (Below w.heap.size w w' ∧ ∃ g, v'.ownBlock = some g ∧ w.heap.size ≤ g)) : Below base w w' := by
  rcases hway with ⟨g, c, e1, _, tn⟩ | ⟨tb, _⟩
  · exact tn.below (fun i e => by subst e; exact ho.base_le i (by rw [e1]; rfl)) hbase
  · exact tb.mono hbase

/-- The mark in the room behind parts. -/
def sparePa : PaV := ⟨77, none, 0, 0⟩
theorem info_partT : (Tryz.prog.info? 105).map (fun i => (i.zero, i.size, i.bytes)) = some (some (.agg #[.int .u8 0, .slice none 0 0]), 2, 32) := by kernel_rfl

set_option maxRecDepth 100000 in
set_option maxHeartbeats 800000 in
theorem twinParts_calls (v : Value) (ps : List (Int × List Opn)) (w : World) (hv : RdP w v ps) (hl : ps.length ≤ 1000000000) (hlo : ∀ p ∈ ps, p.2.length ≤ 1000000000) :
    Calls Tryz.prog 62 #[v] w fun e w' => ∃ A c ss, e = .returned (.slice A ps.length c) ∧ Own PaV.enc 2 105 w.heap.size w' (.slice A (ps.length + 1) c) (ss ++ [sparePa]) ∧ PartsI w.heap.size w' ss ps ∧ Below w.heap.size w w' := by
  obtain ⟨xs, hr, hlen, hrow⟩ := hv
  obtain ⟨A, c, rfl, hlc, hc⟩ := hr.shape
  have hmk := run_make_room (P := Tryz.prog) 102 105 2 32 _ Tryz.underlying102 info_partT xs.length (by omega) (by omega)
  have HL := Lib.hid hlen
  have hxl : xs.length ≤ 1000000000 := by omega
  clear hlen hl
  go_enter Tryz.func62, Tryz.ntmps62
  go_wp2
  clear hmk
  have hst := Own.made PaV.enc 2 105 w.heap.size w (Value.agg #[.int .u8 0, .slice none 0 0]).cells (xs.length + 1) (Nat.le_refl _) (by omega)
  go_loopw [3, 4] (fun tv i wr => ∃ (k : Nat) (ss : List PaV), k ≤ xs.length ∧ i = .int .i64 k ∧ Own PaV.enc 2 105 w.heap.size wr tv ss ∧ PartsI w.heap.size wr ss (ps.take k) ∧ Below w.heap.size w wr) (fun _ i _ => xs.length - (intOf i).toNat)
  case atStart => exact ⟨0, [], Nat.zero_le _, rfl, hst, ⟨by simp, fun i s p h => by simp at h, .nil⟩, (Below.refl _ _).alloc (Nat.le_refl _) _⟩
  case round =>
    clear hst
    obtain ⟨k, ss, hk, rfl, hown, hP, hb⟩ := hrel
    obtain ⟨A', c', hsl, _⟩ := hown.slice
    have hsk : ss.length = k := by
      have := hP.1
      have h2 := HL.out
      rw [List.length_take] at this
      omega
    rw [hsk] at hsl
    subst hsl
    by_cases hlt : k < xs.length
    · have hkp : k < ps.length := by have := HL.out; omega
      have HT := Lib.hid (List.take_succ_eq_append_getElem hkp)
      obtain ⟨b, o, rfl, hx1, hx2⟩ := (hr.below hb).pav (List.getElem?_eq_getElem hlt)
      have hxr := hrow k _ _ (List.getElem?_eq_getElem hlt) (List.getElem?_eq_getElem hkp)
      have hlp := hlo _ (List.getElem_mem hkp)
      generalize xs[k] = x at *
      generalize ps[k] = p at *
      obtain ⟨xq, xA, xn, xc⟩ := x
      obtain ⟨hq, hxrd⟩ := hxr
      dsimp only at hx1 hx2 hq hxrd
      have hxn : xn = p.2.length := by
        obtain ⟨_, _, e, _, _⟩ := hxrd.shape
        injection e
      have HQ := Lib.hid (And.intro hq hxn)
      clear hq hxn
      have hsz := hb.size
      have hct := twinPart_calls xq _ p.2 wr (hxrd.below hb) hlp
      have hPN := hP
      go_wp2_with (first
        | (go_at_call 151; refine hct.mono ?_; rintro e w1 ⟨A1, c1, rfl, ho1, hb1⟩; clear hx1 hx2; have hown1 := hown.below hb1)
        | (at_builtin; refine append_wayH _ rfl PaV.enc 2 105 102 32 _ w.heap.size _ _ ⟨xq, A1, p.2.length, c1⟩ rfl _ _ rfl Tryz.underlying102 info_partT rfl (by decide) (by decide) pav_len (pav_one _) rfl rfl hown1 (Nat.le_trans hsz hb1.size) (by omega) ?_; intro v' w2 hown2 hway))
      go_roundw
      case rel =>
        have hP1 := hP.snoc hb1 hsz (s := ⟨xq, A1, p.2.length, c1⟩) (p := p) ⟨HQ.out.1, rfl, ho1⟩
        refine ⟨k + 1, ss ++ [⟨xq, A1, p.2.length, c1⟩], by omega, by go_num, hown2, ?_, (Below.step hb hb1).trans (way_below hown1 (Nat.le_trans hsz hb1.size) hway)⟩
        rw [HT.out]
        exact hP1.way hown1 hway
      case measure => simp [intOf]; omega
    · have hkl : k = xs.length := by omega
      subst hkl
      have hsz := hb.size
      go_wp2_with (at_builtin; refine append_wayH _ rfl PaV.enc 2 105 102 32 _ w.heap.size _ _ sparePa rfl _ _ rfl Tryz.underlying102 info_partT rfl (by decide) (by decide) pav_len (pav_one _) rfl rfl hown hsz (by omega) ?_; intro v' w2 hown2 hway; obtain ⟨A1, c1, hsl1, hcap⟩ := hown2.slice; rw [List.length_append, List.length_singleton, hsk] at hsl1 hcap; subst hsl1; have hcap2 : xs.length ≤ c1 := Nat.le_of_succ_le hcap.1)
      go_ret
      have hP1 := hP.way hown hway
      rw [List.take_of_length_le (by have := HL.out; omega)] at hP1
      rw [← HL.out]
      exact ⟨A1, c1, ss, rfl, hown2, hP1, hb.trans (way_below hown hsz hway)⟩

set_option maxHeartbeats 400000 in
theorem leftPart_calls (q : Int) (A : Option Addr) (c : Nat) (u : Value) (xs : List Opn) (w : World) (hT : Rd Opn.enc 4 w (.slice A (xs.length + 1) c) (xs ++ [spareOpn])) (hu : Rd Opn.enc 4 w u xs) :
    Calls Tryz.prog 164 #[.agg #[.int .u8 q, .slice A xs.length c], .agg #[.int .u8 q, u]] w fun e w' => e = .returned (.bool true) ∧ Below w.heap.size w w' := by
  obtain ⟨B, d, rfl, hld, hd⟩ := hu.shape
  have hb1 : Below w.heap.size w (w.alloc (.cells #[.int .u8 q, .slice A xs.length c] 105)) := (Below.refl _ w).alloc (Nat.le_refl _) _
  have hb2 : Below w.heap.size w ((w.alloc (.cells #[.int .u8 q, .slice A xs.length c] 105)).alloc (.cells #[.int .u8 q, .slice B xs.length d] 105)) := hb1.alloc (Nat.le_trans (Nat.le_refl _) hb1.size) _
  have hlc := leftOps_calls A c _ xs _ (hT.below hb2) (hu.below hb2)
  go_enter Tryz.func164, Tryz.ntmps164
  go_wp2_with (go_at_call 75; refine hlc.mono ?_; rintro e w1 ⟨rfl, h1⟩)
  go_ret
  exact ⟨rfl, Below.step hb2 h1⟩

set_option maxHeartbeats 800000 in
theorem leftParts_calls (A : Option Addr) (c base : Nat) (u : Value) (ss : List PaV) (ps : List (Int × List Opn)) (w : World) (hT : Rd PaV.enc 2 w (.slice A (ps.length + 1) c) (ss ++ [sparePa])) (hP : PartsI base w ss ps) (hu : RdP w u ps) :
    Calls Tryz.prog 67 #[.slice A ps.length c, u] w fun e w' => e = .returned (.bool true) ∧ Below w.heap.size w w' := by
  obtain ⟨xs, hr, hlen, hrow⟩ := hu
  obtain ⟨B, d, rfl, hld, hd⟩ := hr.shape
  obtain ⟨A0, c0, hs0, hlc, hc⟩ := hT.shape
  injection hs0 with e1 e2 e3
  subst e1 e3
  clear e2
  rw [List.length_append, List.length_singleton, hP.1] at hlc
  rw [← hlen] at hlc hT ⊢
  have hsl : ss.length = xs.length := hP.1.trans hlen.symm
  have HL := Lib.hid hlen
  have HSL := Lib.hid hsl
  clear hlen hsl
  have hcb : decide (c ≤ xs.length) = false := decide_eq_false (by omega)
  go_enter Tryz.func67, Tryz.ntmps67
  go_wp2
  go_loopw [5] (fun i wr => ∃ k : Nat, k ≤ xs.length ∧ i = .int .i64 k ∧ Below w.heap.size w wr) (fun i _ => xs.length - (intOf i).toNat)
  case atStart => exact ⟨0, Nat.zero_le _, rfl, Below.refl _ _⟩
  case round =>
    obtain ⟨k, hk, rfl, hb⟩ := hrel
    by_cases hlt : k < xs.length
    · have hkp : k < ps.length := by have := HL.out; omega
      have hks : k < ss.length := by have := HSL.out; omega
      obtain ⟨b, o, rfl, hx1, hx2⟩ := (hr.below hb).pav (List.getElem?_eq_getElem hlt)
      obtain ⟨b', o', rfl, hy1, hy2⟩ := (hT.below hb).pav (i := k) (x := ss[k]) (by rw [List.getElem?_append_left hks]; exact List.getElem?_eq_getElem hks)
      obtain ⟨hxq, hxr⟩ := hrow k _ _ (List.getElem?_eq_getElem hlt) (List.getElem?_eq_getElem hkp)
      have hpi := hP.2.1 k _ _ (List.getElem?_eq_getElem hks) (List.getElem?_eq_getElem hkp)
      generalize xs[k] = x at *
      generalize ss[k] = s at *
      generalize ps[k] = p at *
      obtain ⟨sq, sA, sn, sc⟩ := s
      obtain ⟨xq, xA, xn, xc⟩ := x
      obtain ⟨h1, h2, h3⟩ := hpi
      dsimp only at hx1 hx2 hy1 hy2 hxq hxr h1 h2 h3
      subst h2
      rw [h1] at hy1
      rw [hxq] at hx1
      have hcl := fun W (h : Below wr.heap.size wr W) => leftPart_calls p.1 sA sc _ p.2 W (((h3.rd opn_len).below hb).below h) ((hxr.below hb).below h)
      replace hx1 := fun p : Later wr => Later.cell p hx1; replace hx2 := fun p : Later wr => Later.cell p hx2
      replace hy1 := fun p : Later wr => Later.cell p hy1; replace hy2 := fun p : Later wr => Later.cell p hy2
      clear h3 hxr hxq h1
      go_wp2
      refine wp_region_later (by kernel_rfl) (by kernel_rfl) ?_
      repeat (quiet_step ((go_at_call 164; exact Calls.later (hcl _ (Later.ok _)))))
      refine wpQuiet_nil ?_
      rintro _ ⟨p, rfl⟩
      clear hx1 hx2 hy1 hy2
      go_wp2
      go_roundw
      case rel => exact ⟨k + 1, by omega, by go_num, Below.step hb p.ok⟩
      case measure => simp [intOf]; omega
    · have hkl : k = xs.length := by omega
      subst hkl
      obtain ⟨b', o', rfl, hy1, hy2⟩ := (hT.below hb).pav (i := xs.length) (x := sparePa) (by rw [List.getElem?_append_right (by have := HSL.out; omega)]; have := HSL.out; simp [this])
      go_wp2
      go_ret
      exact ⟨ret_bool (by decide +kernel), hb.alloc hb.size _⟩

end Go.Proofs.YtanjgeacmpmjhaaGreatDoor
