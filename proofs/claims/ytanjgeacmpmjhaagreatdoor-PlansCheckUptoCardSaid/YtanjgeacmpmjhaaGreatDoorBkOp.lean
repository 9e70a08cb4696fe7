import Derived.Test.YtanjgeacmpmjhaaGreatDoorBk0
import Derived.Test.YtanjgeacmpmjhaaGreatDoorMgPlansCheckUpto2
import Derived.Test.YtanjgeacmpmjhaaGreatDoorKinds
import Derived.Deep.RegionHeld3
import Derived.StillTailTactics
import Derived.Lib.SmallJoins
set_option linter.unusedVariables false
set_option linter.unusedSimpArgs false
set_option linter.unusedSectionVars false
namespace Go.Proofs.YtanjgeacmpmjhaaGreatDoor
open Go.RowKit

abbrev markOpV (n : Nat) : Opn := ⟨0, wd n, ⟨#[]⟩, 0⟩

set_option maxHeartbeats 400000 in
theorem markOp_calls (n : Nat) (hn : n ≤ 100000) (w : World) (hT : Tab10 w) :
    Calls Tryz.prog 194 #[.int .i64 n] w fun e w' => e = .returned (.agg #[.int .u8 0, .string (wd n), .string ⟨#[]⟩, .int .u32 0]) ∧ Below w.heap.size w w' := by
  have hb0 : Below w.heap.size w (w.alloc (.cells #[.int .u8 0, .string ⟨#[]⟩, .string ⟨#[]⟩, .int .u32 0] 172)) := (Below.refl _ w).alloc (Nat.le_refl _) _
  have hc := word_calls n (by omega) _ (hT.stays hb0)
  generalize wd n = t at *
  go_enter Tryz.func194, Tryz.ntmps194
  go_wp2_with (go_at_call 234; refine hc.mono ?_; rintro e w1 ⟨rfl, hb⟩; have ho := (hb.block w.heap.size (by simp)).trans (alloc_new w (.cells #[.int .u8 0, .string ⟨#[]⟩, .string ⟨#[]⟩, .int .u32 0] 172)); have c0 : w1.cell? ⟨w.heap.size, 0, none⟩ = some (.int .u8 0) := (by simp [World.cell?, ho]); have f0 : w1.frozen? ⟨w.heap.size, 0, none⟩ = false := (by simp [World.frozen?, ho]); have c1 : w1.cell? ⟨w.heap.size, 1, none⟩ = some (.string ⟨#[]⟩) := (by simp [World.cell?, ho]); have f1 : w1.frozen? ⟨w.heap.size, 1, none⟩ = false := (by simp [World.frozen?, ho]); have c2 : w1.cell? ⟨w.heap.size, 2, none⟩ = some (.string ⟨#[]⟩) := (by simp [World.cell?, ho]); have f2 : w1.frozen? ⟨w.heap.size, 2, none⟩ = false := (by simp [World.frozen?, ho]); have c3 : w1.cell? ⟨w.heap.size, 3, none⟩ = some (.int .u32 0) := (by simp [World.cell?, ho]); have f3 : w1.frozen? ⟨w.heap.size, 3, none⟩ = false := (by simp [World.frozen?, ho]))
  have g1 := Joins.block_setCell (i := 3) (Joins.block_setCell (i := 2) (Joins.block_setCell (i := 1) (Joins.block_setCell (i := 0) ho (.int .u8 0)) (.string t)) (.string ⟨#[]⟩)) (.int .u32 0)
  refine bodyPost_ret (results_cell_row rfl _ _ w.heap.size _ #[.int .u8 0, .string t, .string ⟨#[]⟩, .int .u32 0] _ _ rfl g1 Tryz.underlying172 rfl (by kernel_rfl)) rfl ?_
  exact ⟨rfl, ((((Below.step hb0 hb).setCell (Nat.le_refl _) _).setCell (Nat.le_refl _) _).setCell (Nat.le_refl _) _).setCell (Nat.le_refl _) _⟩

set_option maxHeartbeats 400000 in
theorem isOp_calls (x : Opn) (n : Nat) (hn : n ≤ 100000) (w : World) (hT : Tab10 w) :
    Calls Tryz.prog 206 #[.agg #[.int .u8 x.q, .string x.k, .string x.t, .int .u32 x.d], .int .i64 n] w fun e w' => e = .returned (.bool (decide (x.k = wd n))) ∧ Below w.heap.size w w' := by
  have hb0 : Below w.heap.size w (w.alloc (.cells #[.int .u8 x.q, .string x.k, .string x.t, .int .u32 x.d] 172)) := (Below.refl _ w).alloc (Nat.le_refl _) _
  have hc := fun W (h : Below w.heap.size w W) => word_calls n (by omega) W (hT.stays h)
  generalize wd n = t at *
  go_enter Tryz.func206, Tryz.ntmps206
  go_wp2
  have d0 : (w.alloc (.cells #[.int .u8 x.q, .string x.k, .string x.t, .int .u32 x.d] 172)).cell? ⟨w.heap.size, 1, none⟩ = some (.string x.k) := by simp
  generalize w.alloc (.cells #[.int .u8 x.q, .string x.k, .string x.t, .int .u32 x.d] 172) = W at *
  refine wp_region_later (by kernel_rfl) (by kernel_rfl) ?_
  have d0' := fun p : Later W => Later.cell p d0
  repeat (go_big_quiet_step ((go_at_call 234; exact Calls.later (hc _ (Below.step hb0 (Later.ok _))))))
  refine wpQuiet_nil ?_
  rintro _ ⟨p, rfl⟩
  go_wp2
  go_ret
  exact ⟨rfl, Below.step hb0 p.ok⟩

/-- so many of them have marks alone. -/
def FilOp (base : Nat) (w : World) (hs : List Hd) (i : Nat) : Prop :=
  ∀ j h, hs[j]? = some h → ∃ xs, Own Opn.enc 4 172 base w h.l xs ∧ xs.length ≤ 1000000 ∧ (j < i → ∀ x ∈ xs, x = markOpV h.n)
theorem FilOp.typed {base : Nat} {w : World} {hs : List Hd} {i : Nat} (h : FilOp base w hs i) {g : Nat} (hg : Blk hs g) : base ≤ g ∧ ∃ cur, w.heap[g]? = some (.cells cur 172 (0, 0)) := by
  obtain ⟨x, hx, hg⟩ := hg
  obtain ⟨j, hj⟩ := List.mem_iff_getElem?.1 hx
  obtain ⟨xs, h1, _⟩ := h j x hj
  exact h1.typed g hg
theorem FilOp.turn {base : Nat} {w w' : World} {hs : List Hd} {i : Nat} {F : Nat → Prop} (h : FilOp base w hs i) (t : Turn F w w') (hF : ∀ g, Blk hs g → ¬ F g) : FilOp base w' hs i := fun j x hj => by
  obtain ⟨xs, h1, h2⟩ := h j x hj
  exact ⟨xs, h1.turn t fun g hg => hF g ⟨x, List.mem_of_getElem? hj, hg⟩, h2⟩
set_option maxHeartbeats 1000000 in
set_option maxRecDepth 100000 in
theorem fillOp_calls {base : Nat} {w : World} {B : Nat} {cs : Array Value} {v : Value} {hs : List Hd} (hT : Tab10 w) (hobj : w.heap[B]? = some (.cells cs bookT (0, 0))) (hcs : cs[6]? = some v)
    (hh : Own Hd.enc 3 228 base w v hs) (hlen : hs.length ≤ 100000) (hn : ∀ h ∈ hs, h.n ≤ 100000 ∧ ∃ A n c, h.long = .slice A n c) (hf : FilOp base w hs 0) (hsep : Sep hs) (hbase : 0 < base ∧ base ≤ w.heap.size) :
    Calls Tryz.prog 101 #[.pointer (some ⟨B, 0, none⟩)] w fun e w' => e = .returned (.tuple #[]) ∧ FilOp base w' hs hs.length ∧ Turn (Blk hs) w w' := by
  have hcell : ∀ W : World, W.heap[B]? = some (.cells cs bookT (0, 0)) → W.cell? ⟨B, 6, none⟩ = some v := fun W h => by rw [heap_cell h]; exact hcs
  have hrd := hh.rd hd_len
  obtain ⟨A, c, rfl, hlc, hc⟩ := hh.slice
  have HOBJ := Lib.hid hobj
  have HCELL := Lib.hid hcell
  clear hcell hobj hcs
  have hBn : ∀ g, Blk hs g → B ≠ g := fun g hg => ne_typed HOBJ.out (hf.typed hg).2.choose_spec (by decide)
  have hVn : ∀ g, (Value.slice A hs.length c).ownBlock = some g → ¬ Blk hs g := fun g hg hb => ne_typed (hh.typed g hg).2.choose_spec (hf.typed hb).2.choose_spec (by decide) rfl
  have hFb : ∀ g, Blk hs g → base ≤ g := fun g hg => (hf.typed hg).1
  go_enter Tryz.func101, Tryz.ntmps101
  go_wp2
  go_loopw [2] (fun iv wr => ∃ i : Nat, i ≤ hs.length ∧ iv = .int .i64 i ∧ FilOp base wr hs i ∧ Turn (Blk hs) w wr) (fun iv _ => hs.length - (intOf iv).toNat)
  case atStart => exact ⟨0, Nat.zero_le _, rfl, hf, Turn.refl _ _⟩
  case round =>
    obtain ⟨i, hi, rfl, hfi, ht⟩ := hrel
    have ho := ht.heap HOBJ.out (fun h => hBn B h rfl)
    have hc7 := HCELL.out wr ho
    have hhr := hh.turn ht hVn
    by_cases hlt : i < hs.length
    · obtain ⟨wo, rfl⟩ : ∃ wo : World, wo = wr := ⟨_, rfl⟩
      have hxi := List.getElem?_eq_getElem hlt
      have hnx := hn _ (List.getElem_mem hlt)
      obtain ⟨b, o, rfl, y1, y2, y3⟩ := (hhr.rd hd_len).hd hxi
      generalize hs[i] = x at *
      obtain ⟨xl, xlong, xn⟩ := x
      obtain ⟨xs, hox, hxl, _⟩ := hfi i _ hxi
      obtain ⟨hnx, A9, n9, c9, e9⟩ := hnx
      simp only at y1 y2 y3 hox hnx e9
      subst e9
      obtain ⟨A2, c2, rfl, hlc2, hc2⟩ := hox.slice
      have hbw : Below base w (wo.alloc (.cells #[.slice A2 xs.length c2, .slice A9 n9 c9, .int .i64 xn] 228)) := (ht.below hFb hbase.2).alloc (Nat.le_trans hbase.2 ht.size) _
      have hbox0 := alloc_new wo (.cells #[.slice A2 xs.length c2, .slice A9 n9 c9, .int .i64 xn] 228)
      have hox0 := hox.below ((Below.refl _ wo).alloc (Nat.le_refl _) (.cells #[.slice A2 xs.length c2, .slice A9 n9 c9, .int .i64 xn] 228))
      have hlt0 : ∀ g, (Value.slice A2 xs.length c2).ownBlock = some g → g < wo.heap.size := fun g hg => hox.lt g hg
      have hcm := fun W' (h : Below base w W') => markOp_calls xn hnx W' (hT.keep h hbase.1)
      have HXI := Lib.hid hxi
      have HY := Lib.hid (And.intro y1 (And.intro y2 y3))
      clear hxi
      go_wp2
      generalize hW1 : wo.alloc (.cells #[.slice A2 xs.length c2, .slice A9 n9 c9, .int .i64 xn] 228) = W1 at *
      go_loopw [4] (fun kv wk => ∃ k : Nat, k ≤ xs.length ∧ kv = .int .i64 k ∧ (∃ ys, Own Opn.enc 4 172 base wk (.slice A2 xs.length c2) ys ∧ ys.length = xs.length ∧ ∀ j y, j < k → ys[j]? = some y → y = markOpV xn) ∧ Turn (fun g => (Value.slice A2 xs.length c2).ownBlock = some g) W1 wk) (fun kv _ => xs.length - (intOf kv).toNat)
      case atStart => exact ⟨0, Nat.zero_le _, rfl, ⟨xs, hox0, rfl, fun j y hj => absurd hj (Nat.not_lt_zero _)⟩, Turn.refl _ _⟩
      case round =>
        obtain ⟨k, hk, rfl, ⟨ys, hoy, hyl, hmark⟩, htk⟩ := hrel
        have hbox := htk.heap hbox0 (fun h => absurd (hlt0 _ h) (Nat.lt_irrefl _))
        have d0 := heap_cell hbox 0
        have d2 := heap_cell hbox 2
        simp only [List.getElem?_toArray, List.getElem?_cons_zero, List.getElem?_cons_succ] at d0 d2
        have HM := Lib.hid hmark
        clear hmark
        by_cases hltk : k < xs.length
        · have hyk := List.getElem?_eq_getElem (show k < ys.length by omega)
          obtain ⟨g, cap, cur, hA, hgb, hg, _⟩ := hoy.some_block (by omega)
          injection hA with hA hA2 hA3
          subst hA hA3
          clear hA2
          obtain ⟨_, _, e, z1, z2, z3, z4⟩ := (hoy.rd opn_len).opn hyk
          injection e with e
          injection e with e1 e2
          subst e1 e2
          rw [Nat.zero_add] at z1 z2 z3 z4
          generalize ys[k] = y at *
          have HYK := Lib.hid hyk
          have HC : ∀ W', Below wr.heap.size wr W' → W'.cell? ⟨g, k * 4, none⟩ = some (.int .u8 y.q) ∧ W'.cell? ⟨g, k * 4 + 1, none⟩ = some (.string y.k) ∧ W'.cell? ⟨g, k * 4 + 2, none⟩ = some (.string y.t) ∧ W'.cell? ⟨g, k * 4 + 3, none⟩ = some (.int .u32 y.d) ∧ W'.frozen? ⟨g, k * 4, none⟩ = false ∧ W'.frozen? ⟨g, k * 4 + 1, none⟩ = false ∧ W'.frozen? ⟨g, k * 4 + 2, none⟩ = false ∧ W'.frozen? ⟨g, k * 4 + 3, none⟩ = false ∧
              W'.cell? ⟨wo.heap.size, 0, none⟩ = some (.slice (some ⟨g, 0, none⟩) xs.length c2) ∧ W'.cell? ⟨wo.heap.size, 2, none⟩ = some (.int .i64 xn) := fun W' h => by
            have hgl := World.block_lt_of_cell? wr _ z1
            have h2 := (h.block g hgl).trans hg
            exact ⟨Below.cell_some h z1, Below.cell_some h z2, Below.cell_some h z3, Below.cell_some h z4, heap_free h2 _, heap_free h2 _, heap_free h2 _, heap_free h2 _, Below.cell_some h d0, Below.cell_some h d2⟩
          have hP : Below base w wr.drew := (hbw.trans (htk.below (fun g' h => by cases h; exact hgb) (Nat.le_trans hbase.2 hbw.size))).drew
          have hc3 := hcm _ hP
          have hset : ∀ w3 : World, Below wr.heap.size wr w3 → (∃ ys', Own Opn.enc 4 172 base ((((w3.setCell ⟨g, k * 4, none⟩ (.int .u8 0)).setCell ⟨g, k * 4 + 1, none⟩ (.string (wd xn))).setCell ⟨g, k * 4 + 2, none⟩ (.string ⟨#[]⟩)).setCell ⟨g, k * 4 + 3, none⟩ (.int .u32 0)) (.slice (some ⟨g, 0, none⟩) xs.length c2) ys' ∧ ys'.length = xs.length ∧ ∀ j y, j < k + 1 → ys'[j]? = some y → y = markOpV xn) ∧
              Turn (fun g' => (Value.slice (some ⟨g, 0, none⟩) xs.length c2).ownBlock = some g') W1 ((((w3.setCell ⟨g, k * 4, none⟩ (.int .u8 0)).setCell ⟨g, k * 4 + 1, none⟩ (.string (wd xn))).setCell ⟨g, k * 4 + 2, none⟩ (.string ⟨#[]⟩)).setCell ⟨g, k * 4 + 3, none⟩ (.int .u32 0)) := fun w3 h => by
            obtain ⟨o1, _⟩ := (hoy.below h).cell opn_len k y ⟨0, y.k, y.t, y.d⟩ 0 (.int .u8 0) HYK.out rfl (by decide)
            obtain ⟨o2, _⟩ := o1.cell opn_len k ⟨0, y.k, y.t, y.d⟩ ⟨0, wd xn, y.t, y.d⟩ 1 (.string (wd xn)) (by rw [List.getElem?_set_self (by omega)]) rfl (by decide)
            rw [List.set_set] at o2
            obtain ⟨o3, _⟩ := o2.cell opn_len k ⟨0, wd xn, y.t, y.d⟩ ⟨0, wd xn, ⟨#[]⟩, y.d⟩ 2 (.string ⟨#[]⟩) (by rw [List.getElem?_set_self (by omega)]) rfl (by decide)
            rw [List.set_set] at o3
            obtain ⟨o4, _⟩ := o3.cell opn_len k ⟨0, wd xn, ⟨#[]⟩, y.d⟩ (markOpV xn) 3 (.int .u32 0) (by rw [List.getElem?_set_self (by omega)]) rfl (by decide)
            rw [List.set_set] at o4
            refine ⟨⟨_, o4, by rw [List.length_set]; exact hyl, fun j z hj hz => ?_⟩, (((((htk.trans (.of_below h)).step (.setCell _ _ _ _) (fun i hi e => by rw [e]; rfl)).step (.setCell _ _ _ _) (fun i hi e => by rw [e]; rfl)).step (.setCell _ _ _ _) (fun i hi e => by rw [e]; rfl)).step (.setCell _ _ _ _) (fun i hi e => by rw [e]; rfl))⟩
            by_cases e : j = k
            · subst e
              rw [List.getElem?_set_self (by omega)] at hz
              exact (Option.some.inj hz).symm
            · rw [List.getElem?_set_ne (fun e' => e e'.symm)] at hz
              exact HM.out j z (by omega) hz
          have HSET := Lib.hid hset
          clear hset
          clear z1 z2 z3 z4 hyk hoy htk hcm hox0 hg hbox HXI HY
          replace HC := Lib.hid HC
          replace hc3 := Lib.hid hc3
          have HYL := Lib.hid hyl
          have hgn := hlt0 g rfl
          have hn1 : ¬ g = wo.heap.size := by omega
          have hn2 : ¬ wo.heap.size = g := by omega
          clear hyl
          clear HOBJ HCELL
          go_wp2
          go_region_held3 (fun w' => w'.cell? ⟨wo.heap.size, 0, none⟩ = some (.slice (some ⟨g, 0, none⟩) xs.length c2) ∧ w'.cell? ⟨wo.heap.size, 2, none⟩ = some (.int .i64 xn)) (go_keep) ((go_at_call 194; refine hc3.out.mono ?_; rintro e w3 ⟨rfl, hb3⟩; obtain ⟨e0, e1, e2, e3, e4, e5, e6, e7, e8, e9⟩ := HC.out w3 (Below.step (Below.refl _ wr).drew hb3)))
          go_wp2
          go_roundw
          case rel => exact ⟨k + 1, by omega, by go_num, HSET.out w3 (Below.step (Below.refl _ wr).drew hb3)⟩
          case measure => simp [intOf]; omega
        · have hkl : k = xs.length := by omega
          subst hkl
          go_wp2
          go_roundw
          case rel =>
            have hb1 : Below wo.heap.size wo W1 := by rw [← hW1]; exact (Below.refl _ _).alloc (Nat.le_refl _) _
            refine ⟨i + 1, by omega, by go_num, fun j h hj => ?_, (ht.trans (.of_below hb1)).step htk fun g _ hg => ⟨_, List.mem_of_getElem? HXI.out, hg⟩⟩
            by_cases e : j = i
            · subst e
              obtain rfl := Option.some.inj (HXI.out.symm.trans hj)
              refine ⟨ys, hoy, by omega, fun _ x hx => ?_⟩
              obtain ⟨q, hq⟩ := List.mem_iff_getElem?.1 hx
              exact HM.out q x (by have := (List.getElem?_eq_some_iff.1 hq).1; omega) hq
            · obtain ⟨zs, q1, q2, q3⟩ := hfi j h hj
              exact ⟨zs, (q1.below hb1).turn htk fun g hg hg2 => hsep.at_ e hj HXI.out g hg hg2, q2, fun hji => q3 (by omega)⟩
          case measure => simp [intOf]; omega
    · have hil : i = hs.length := by omega
      subst hil
      go_wp2
      go_end0
      exact ⟨rfl, hfi, ht⟩

theorem slOp_underB : Tryz.prog.underlying 103 = some (.slice 172) := by kernel_rfl
theorem info_OpB : (Tryz.prog.info? 172).map (fun i => (i.zero, i.size, i.bytes)) = some (some (.agg #[.int .u8 0, .string ⟨#[]⟩, .string ⟨#[]⟩, .int .u32 0]), 4, 48) := by kernel_rfl

/-- so many of them have marks alone, and forty more behind. -/
def DonOp (base : Nat) (w : World) (hs : List Hd) (i S0 : Nat) : Prop :=
  ∀ j h, hs[j]? = some h → ∃ xs, Own Opn.enc 4 172 base w h.l xs ∧ xs.length ≤ 1000000 ∧ (∀ x ∈ xs, x = markOpV h.n) ∧
    (j < i → ∃ ys, Own Opn.enc 4 172 base w h.long ys ∧ ys.length = xs.length + 40 ∧ (∀ y ∈ ys, y = markOpV h.n) ∧ (h.long.ownBlock = h.l.ownBlock ∨ ∃ g, h.long.ownBlock = some g ∧ S0 ≤ g))
theorem DonOp.typed {base : Nat} {w : World} {hs : List Hd} {i S0 : Nat} (h : DonOp base w hs i S0) {g : Nat} (hg : Blk hs g) : base ≤ g ∧ ∃ cur, w.heap[g]? = some (.cells cur 172 (0, 0)) := by
  obtain ⟨x, hx, hg⟩ := hg
  obtain ⟨j, hj⟩ := List.mem_iff_getElem?.1 hx
  obtain ⟨xs, h1, _⟩ := h j x hj
  exact h1.typed g hg
theorem DonOp.turn {base : Nat} {w w' : World} {hs : List Hd} {i S0 : Nat} {F : Nat → Prop} (h : DonOp base w hs i S0) (t : Turn F w w') (hF : ∀ g cur, w.heap[g]? = some (.cells cur 172 (0, 0)) → ¬ F g) : DonOp base w' hs i S0 := fun j x hj => by
  obtain ⟨xs, h1, h2, h3, h4⟩ := h j x hj
  refine ⟨xs, h1.turn t fun g hg => hF g _ (h1.typed g hg).2.choose_spec, h2, h3, fun hji => ?_⟩
  obtain ⟨ys, k1, k2, k3, k4⟩ := h4 hji
  exact ⟨ys, k1.turn t fun g hg => hF g _ (k1.typed g hg).2.choose_spec, k2, k3, k4⟩
theorem FilOp.don {base : Nat} {w : World} {hs : List Hd} (h : FilOp base w hs hs.length) (S0 : Nat) : DonOp base w hs 0 S0 := fun j x hj => by
  obtain ⟨xs, h1, h2, h3⟩ := h j x hj
  exact ⟨xs, h1, h2, h3 (List.getElem?_eq_some_iff.1 hj).1, fun h => absurd h (Nat.not_lt_zero _)⟩
set_option maxHeartbeats 1000000 in
set_option maxRecDepth 100000 in
theorem growOp_calls {base : Nat} {w : World} {B : Nat} {cs : Array Value} {v : Value} {hs : List Hd} (hT : Tab10 w) (hobj : w.heap[B]? = some (.cells cs bookT (0, 0))) (hcs : cs[6]? = some v)
    (hh : Own Hd.enc 3 228 base w v hs) (hlen : hs.length ≤ 100000) (hn : ∀ h ∈ hs, h.n ≤ 100000 ∧ ∃ A n c, h.long = .slice A n c) (hf : DonOp base w hs 0 w.heap.size) (hsep : Sep hs) (hbase : 0 < base ∧ base ≤ w.heap.size) :
    Calls Tryz.prog 113 #[.pointer (some ⟨B, 0, none⟩)] w fun e w' => e = .returned (.tuple #[]) ∧ (∃ hs', SameL hs hs' ∧ Own Hd.enc 3 228 base w' v hs' ∧ DonOp base w' hs' hs.length w.heap.size) ∧ Turn (fun g => Blk hs g ∨ v.ownBlock = some g) w w' := by
  have hcell : ∀ W : World, W.heap[B]? = some (.cells cs bookT (0, 0)) → W.cell? ⟨B, 6, none⟩ = some v := fun W h => by rw [heap_cell h]; exact hcs
  obtain ⟨A, c, rfl, hlc, hc⟩ := hh.slice
  have HOBJ := Lib.hid hobj
  have HCELL := Lib.hid hcell
  clear hcell hobj hcs
  have hBn : ∀ g, (Blk hs g ∨ (Value.slice A hs.length c).ownBlock = some g) → B ≠ g := fun g hg => by
    rcases hg with hg | hg
    · exact ne_typed HOBJ.out (hf.typed hg).2.choose_spec (by decide)
    · exact ne_typed HOBJ.out (hh.typed g hg).2.choose_spec (by decide)
  have hFb : ∀ g, (Blk hs g ∨ (Value.slice A hs.length c).ownBlock = some g) → base ≤ g := fun g hg => by
    rcases hg with hg | hg
    · exact (hf.typed hg).1
    · exact (hh.typed g hg).1
  go_enter Tryz.func113, Tryz.ntmps113
  go_wp2
  go_loopw [2] (fun iv wr => ∃ i : Nat, i ≤ hs.length ∧ iv = .int .i64 i ∧ (∃ hs', SameL hs hs' ∧ Own Hd.enc 3 228 base wr (.slice A hs.length c) hs' ∧ (∀ h ∈ hs', ∃ A n c, h.long = .slice A n c) ∧ DonOp base wr hs' i w.heap.size) ∧ Turn (fun g => Blk hs g ∨ (Value.slice A hs.length c).ownBlock = some g) w wr) (fun iv _ => hs.length - (intOf iv).toNat)
  case atStart => exact ⟨0, Nat.zero_le _, rfl, ⟨hs, .refl _, hh, fun h hm => (hn h hm).2, hf⟩, Turn.refl _ _⟩
  case round =>
    obtain ⟨i, hi, rfl, ⟨hs', hsame, hhr, hlong, hdi⟩, ht⟩ := hrel
    have ho := ht.heap HOBJ.out (fun h => hBn B h rfl)
    have hc7 := HCELL.out wr ho
    have hsl := hsame.1
    by_cases hlt : i < hs.length
    · obtain ⟨wo, rfl⟩ : ∃ wo : World, wo = wr := ⟨_, rfl⟩
      have hxi := List.getElem?_eq_getElem (show i < hs'.length by omega)
      obtain ⟨A9, n9, c9, e9⟩ := hlong _ (List.getElem_mem (show i < hs'.length by omega))
      obtain ⟨b, cap, cur, hA, hgb, hgr, _⟩ := hhr.some_block (by omega)
      injection hA with hA hA2 hA3
      subst hA hA3
      clear hA2
      obtain ⟨_, _, e, y1, y2, y3⟩ := (hhr.rd hd_len).hd hxi
      injection e with e
      injection e with e1 e2
      subst e1 e2
      rw [Nat.zero_add] at y1 y2 y3
      generalize hs'[i] = x at *
      obtain ⟨h0, hx0, el, en⟩ := hsame.2 i _ hxi
      have hnx := (hn h0 (List.mem_of_getElem? hx0)).1
      obtain ⟨xl, xlong, xn⟩ := x
      simp only at el en
      rw [← en] at hnx
      obtain ⟨xs, hox, hxl, hxm, _⟩ := hdi i _ hxi
      simp only at y1 y2 y3 hox hnx e9 hxm
      subst e9
      obtain ⟨A2, c2, rfl, hlc2, hc2⟩ := hox.slice
      have hbw : Below base w (wo.alloc (.cells #[.slice A2 xs.length c2, .slice A9 n9 c9, .int .i64 xn] 228)) := (ht.below hFb hbase.2).alloc (Nat.le_trans hbase.2 ht.size) _
      have hbox0 := alloc_new wo (.cells #[.slice A2 xs.length c2, .slice A9 n9 c9, .int .i64 xn] 228)
      have hox0 := hox.below ((Below.refl _ wo).alloc (Nat.le_refl _) (.cells #[.slice A2 xs.length c2, .slice A9 n9 c9, .int .i64 xn] 228))
      have hlt0 : ∀ g, (Value.slice A2 xs.length c2).ownBlock = some g → g < wo.heap.size := fun g hg => hox.lt g hg
      have hcm := fun W' (h : Below base w W') => markOp_calls xn hnx W' (hT.keep h hbase.1)
      have HXI := Lib.hid hxi
      have HSM := Lib.hid (And.intro el en)
      have HROW := Lib.hid (And.intro hhr hgr)
      clear hxi el en hgr
      go_wp2
      generalize hW1 : wo.alloc (.cells #[.slice A2 xs.length c2, .slice A9 n9 c9, .int .i64 xn] 228) = W1 at *
      have hsz1 : W1.heap.size = wo.heap.size + 1 := by rw [← hW1]; simp
      have HSZ1 := Lib.hid hsz1
      clear hsz1
      have hlt1 : ∀ g, (Value.slice A2 xs.length c2).ownBlock = some g → g < W1.heap.size := fun g hg => by have := hlt0 g hg; have := HSZ1.out; omega
      go_loopw [4, 5] (fun lv kv wr => ∃ k : Nat, k ≤ 40 ∧ kv = .int .i64 k ∧ (∃ xs' ys, Own Opn.enc 4 172 base wr (.slice A2 xs.length c2) xs' ∧ xs'.length = xs.length ∧ (∀ x ∈ xs', x = markOpV xn) ∧ Own Opn.enc 4 172 base wr lv ys ∧ ys.length = xs.length + k ∧ (∀ x ∈ ys, x = markOpV xn) ∧
          (lv = .slice A2 ys.length c2 ∨ ∃ g, lv.ownBlock = some g ∧ W1.heap.size ≤ g)) ∧ Turn (fun g => (Value.slice A2 xs.length c2).ownBlock = some g) W1 wr) (fun _ kv _ => 40 - (intOf kv).toNat)
      case atStart => exact ⟨0, Nat.zero_le _, rfl, ⟨xs, xs, hox0, rfl, hxm, hox0, rfl, hxm, .inl rfl⟩, Turn.refl _ _⟩
      case round =>
        obtain ⟨k, hk, rfl, ⟨xs', ys, hoy, hyl, hym, hol, hll, hlm, halt⟩, htk⟩ := hrel
        have hbox := htk.heap hbox0 (fun h => absurd (hlt0 _ h) (Nat.lt_irrefl _))
        have d0 := heap_cell hbox 0
        have d2 := heap_cell hbox 2
        simp only [List.getElem?_toArray, List.getElem?_cons_zero, List.getElem?_cons_succ] at d0 d2
        obtain ⟨A4, c4, rfl, hlc4, hcm4⟩ := hol.slice
        have hbr : Below base w wr := hbw.trans (htk.below (fun g' h => (hox0.typed g' h).1) (Nat.le_trans hbase.2 hbw.size))
        have hc3 := hcm _ hbr
        have hbs : base ≤ wr.heap.size := Nat.le_trans hbase.2 hbr.size
        by_cases hltk : k < 40
        · have HH := Lib.hid (And.intro hoy (And.intro hyl (And.intro hym (And.intro hlm (And.intro halt htk)))))
          have HLL := Lib.hid hll
          have HOL := Lib.hid hol
          have hl6 : ys.length ≤ 1000040 := by omega
          clear hoy hyl hym hlm halt htk hll hol hcm hox0 hox hbox
          go_wp2_with (first | (go_at_call 194; refine hc3.mono ?_; rintro e w3 ⟨rfl, hb3⟩) | (at_builtin; refine append_wayH (W := w3) w3.heap.size rfl Opn.enc 4 172 103 48 _ base (.slice A4 ys.length c4) ys (markOpV xn) rfl _ _ rfl slOp_underB info_OpB rfl (by decide) (by decide) opn_len (opn_one _) rfl rfl (HOL.out.below hb3) (Nat.le_trans hbs hb3.size) (by omega) ?_; intro v' w4 hown' hway))
          go_roundw
          case rel =>
            obtain ⟨q1, q2, q3, q4, q5, q6⟩ := HH.out
            obtain ⟨⟨zs, z1, z2, z3⟩, z4, z5, z6⟩ := grow_step (P := fun x => x = markOpV xn) opn_len q1 q2 q3 q4 (by have := HLL.out; omega) q5 q6 hlt1 hb3 hown' rfl hway
            exact ⟨k + 1, by omega, by go_num, ⟨zs, ys ++ [markOpV xn], z1, z2, z3, hown', by have := HLL.out; simp; omega, z4, by rw [List.length_append, List.length_singleton]; exact z5⟩, z6⟩
          case measure => simp [intOf]; omega
        · have hk40 : k = 40 := by omega
          subst hk40
          have hb1 : Below wo.heap.size wo W1 := by rw [← hW1]; exact (Below.refl _ _).alloc (Nat.le_refl _) _
          have hrow1 := HROW.out.1.below hb1
          have hbE := fun g (hg : (Value.slice A2 xs.length c2).ownBlock = some g) => ne_typed (hrow1.typed b rfl).2.choose_spec (hox0.typed g hg).2.choose_spec (by decide)
          have hrowr := hrow1.turn htk (fun g hg hF => by
            have hgb : b = g := by simpa [Value.ownBlock] using hg
            exact hbE g hF hgb)
          obtain ⟨_, _, curr, hA, _, hgr, hx9⟩ := hrowr.some_block (by omega)
          injection hA with hA a2 a3
          injection hA with hA
          injection hA with hA
          subst hA
          clear a2 a3 hx9
          obtain ⟨_, _, e, z1, z2, z3⟩ := (hrowr.rd hd_len).hd HXI.out
          clear z1 z3
          injection e with e
          injection e with e1 e2
          subst e1 e2
          rw [Nat.zero_add] at z2
          have zf := heap_free hgr (i * 3 + 1)
          have hBl := (ht.trans (.of_below hb1)).size
          have hor := htk.heap ((hb1.block B (Array.getElem?_eq_some_iff.1 ho).1).trans ho) (fun h => hBn B (.inl ⟨h0, List.mem_of_getElem? hx0, by rw [← HSM.out.1]; exact h⟩) rfl)
          have hc7r := HCELL.out wr hor
          obtain ⟨o1, o9⟩ := hrowr.cell hd_len i _ ⟨.slice A2 xs.length c2, .slice A4 ys.length c4, xn⟩ 1 (.slice A4 ys.length c4) HXI.out rfl (by decide)
          have hfl : ∀ g, (Value.slice A2 xs.length c2).ownBlock = some g → g < w.heap.size := fun g hg => by
            obtain ⟨zs, q, _⟩ := hf i h0 hx0
            rw [← HSM.out.1] at q
            exact q.lt g hg
          have hst : Turn (fun g => g = b) wr (wr.setCell ⟨b, i * 3 + 1, none⟩ (.slice A4 ys.length c4)) := .setCell _ _ _ _
          have hTT : Turn (fun g => Blk hs g ∨ (Value.slice (some ⟨b, 0, none⟩) hs.length c).ownBlock = some g) w (wr.setCell ⟨b, i * 3 + 1, none⟩ (.slice A4 ys.length c4)) :=
            ((ht.trans (.of_below hb1)).step htk fun g _ hg => .inl ⟨h0, List.mem_of_getElem? hx0, by rw [← HSM.out.1]; exact hg⟩).step hst fun g _ hg => .inr (by rw [hg]; rfl)
          have hD : DonOp base (wr.setCell ⟨b, i * 3 + 1, none⟩ (.slice A4 ys.length c4)) (hs'.set i ⟨.slice A2 xs.length c2, .slice A4 ys.length c4, xn⟩) (i + 1) w.heap.size := fun j h hj => by
            have hnb : ∀ {v : Value} {zs : List Opn}, Own Opn.enc 4 172 base wr v zs → Own Opn.enc 4 172 base (wr.setCell ⟨b, i * 3 + 1, none⟩ (.slice A4 ys.length c4)) v zs := fun {v zs} q =>
              q.turn hst fun g hg e => ne_typed hgr (q.typed g hg).2.choose_spec (by decide) e.symm
            by_cases e : j = i
            · subst e
              rw [List.getElem?_set_self (by omega)] at hj
              obtain rfl := Option.some.inj hj
              refine ⟨xs', hnb hoy, by omega, hym, fun _ => ⟨ys, hnb hol, by omega, hlm, ?_⟩⟩
              rcases halt with e | ⟨g, hg, hge⟩
              · injection e with e
                subst e
                cases A4 <;> exact .inl rfl
              · exact .inr ⟨g, hg, by omega⟩
            · rw [List.getElem?_set_ne (fun e' => e e'.symm)] at hj
              obtain ⟨zs, q1, q2, q3, q4⟩ := hdi j h hj
              obtain ⟨hj0, hj1, hj2, _⟩ := hsame.2 j h hj
              have hdis : ∀ g, h.l.ownBlock = some g → ¬ (Value.slice A2 xs.length c2).ownBlock = some g := fun g hg hF => hsep.at_ (fun e' => e e') hj1 hx0 g (by rw [← hj2]; exact hg) (by rw [← HSM.out.1]; exact hF)
              refine ⟨zs, hnb ((q1.below hb1).turn htk hdis), q2, q3, fun hji => ?_⟩
              obtain ⟨us, k1, k2, k3, k4⟩ := q4 (by omega)
              refine ⟨us, hnb ((k1.below hb1).turn htk fun g hg hF => ?_), k2, k3, k4⟩
              rcases k4 with k4 | ⟨g', hg', hge⟩
              · exact hdis g (k4.symm.trans hg) hF
              · rw [hg] at hg'
                injection hg' with hg'
                have := hfl g hF
                omega
          have hS : SameL hs (hs'.set i ⟨.slice A2 xs.length c2, .slice A4 ys.length c4, xn⟩) := ⟨by rw [List.length_set]; exact hsl, fun j h hj => by
            by_cases e : j = i
            · subst e
              rw [List.getElem?_set_self (by omega)] at hj
              obtain rfl := Option.some.inj hj
              exact ⟨h0, hx0, HSM.out.1, HSM.out.2⟩
            · rw [List.getElem?_set_ne (fun e' => e e'.symm)] at hj
              exact hsame.2 j h hj⟩
          have hLL : ∀ h ∈ hs'.set i ⟨.slice A2 xs.length c2, .slice A4 ys.length c4, xn⟩, ∃ A n c, h.long = .slice A n c := fun h hm => by
            rcases List.mem_or_eq_of_mem_set hm with hm | rfl
            · exact hlong h hm
            · exact ⟨_, _, _, rfl⟩
          clear o9
          have FIN := Lib.hid (And.intro hS (And.intro o1 (And.intro hLL (And.intro hD hTT))))
          clear hrow1 hrowr hgr o1 hst hTT hD hS hLL hfl hor hoy hyl hym hlm halt hol hcm hc3 htk hox0 hox hbox hdi hxm
          have HLL2 := Lib.hid hll
          clear hll
          go_wp2
          go_roundw
          case rel =>
            obtain ⟨f1, f2, f3, f4, f5⟩ := FIN.out
            exact ⟨i + 1, by omega, by go_num, ⟨_, f1, f2, f3, f4⟩, f5⟩
          case measure => simp [intOf]; omega
    · have hil : i = hs.length := by omega
      subst hil
      go_wp2
      go_end0
      exact ⟨rfl, ⟨hs', hsame, hhr, hdi⟩, ht⟩

set_option maxHeartbeats 1000000 in
set_option maxRecDepth 100000 in
theorem lookOp_calls {base : Nat} {w : World} {B : Nat} {cs : Array Value} {v : Value} {hs : List Hd} {S0 : Nat} (hT : Tab10 w) (hobj : w.heap[B]? = some (.cells cs bookT (0, 0))) (hcs : cs[6]? = some v)
    (hh : Own Hd.enc 3 228 base w v hs) (hlen : hs.length ≤ 100000) (hn : ∀ h ∈ hs, h.n ≤ 100000) (hf : DonOp base w hs hs.length S0) (hbase : 0 < base ∧ base ≤ w.heap.size) :
    Calls Tryz.prog 125 #[.pointer (some ⟨B, 0, none⟩)] w fun e w' => e = .returned (.bool true) ∧ Below w.heap.size w w' := by
  have hB := (Array.getElem?_eq_some_iff.1 hobj).1
  have hcell : ∀ W : World, Below w.heap.size w W → W.cell? ⟨B, 6, none⟩ = some v := fun W h => by rw [heap_cell ((h.block B hB).trans hobj)]; exact hcs
  obtain ⟨A, c, rfl, hlc, hc⟩ := hh.slice
  have HCELL := Lib.hid hcell
  clear hcell hobj hcs
  go_enter Tryz.func125, Tryz.ntmps125
  go_wp2
  go_loopw [3] (fun iv wr => ∃ i : Nat, i ≤ hs.length ∧ iv = .int .i64 i ∧ Below w.heap.size w wr) (fun iv _ => hs.length - (intOf iv).toNat)
  case atStart => exact ⟨0, Nat.zero_le _, rfl, Below.refl _ _⟩
  case round =>
    obtain ⟨i, hi, rfl, hb⟩ := hrel
    have hc7 := HCELL.out wr hb
    by_cases hlt : i < hs.length
    · obtain ⟨wo, rfl⟩ : ∃ wo : World, wo = wr := ⟨_, rfl⟩
      have hxi := List.getElem?_eq_getElem hlt
      have hnx := hn _ (List.getElem_mem hlt)
      obtain ⟨b, o, rfl, y1, y2, y3⟩ := ((hh.rd hd_len).below hb).hd hxi
      generalize hs[i] = x at *
      obtain ⟨xl, xlong, xn⟩ := x
      obtain ⟨xs, hox, hxl, hxm, hlong⟩ := hf i _ hxi
      obtain ⟨ys, hoy, hyl, hym, _⟩ := hlong hlt
      simp only at y1 y2 y3 hox hoy hnx hxm hym
      obtain ⟨A2, c2, rfl, hlc2, hc2⟩ := hox.slice
      obtain ⟨A3, c3, rfl, hlc3, hc3⟩ := hoy.slice
      have hbase2 := Nat.le_trans hbase.2 hb.size
      have hbb : Below base w wo := hb.mono hbase.2
      have hci : ∀ W', Below base w W' → Calls Tryz.prog 206 #[.agg #[.int .u8 0, .string (wd xn), .string ⟨#[]⟩, .int .u32 0], .int .i64 xn] W' fun e w' => e = .returned (.bool true) ∧ Below W'.heap.size W' w' := fun W' h => by
        have := isOp_calls (markOpV xn) xn hnx W' (hT.keep h hbase.1)
        rw [show decide ((markOpV xn).k = wd xn) = true from decide_eq_true rfl] at this
        exact this
      have hbox0 := alloc_new wo (.cells #[.slice A2 xs.length c2, .slice A3 ys.length c3, .int .i64 xn] 228)
      have hb1 : Below wo.heap.size wo (wo.alloc (.cells #[.slice A2 xs.length c2, .slice A3 ys.length c3, .int .i64 xn] 228)) := (Below.refl _ wo).alloc (Nat.le_refl _) _
      have hox1 := ((hox.rd opn_len).below hb).below hb1
      have hoy1 := ((hoy.rd opn_len).below hb).below hb1
      have hw1 := Below.step hb hb1
      have hsz1 : wo.heap.size < (wo.alloc (.cells #[.slice A2 xs.length c2, .slice A3 ys.length c3, .int .i64 xn] 228)).heap.size := by simp
      have hne : ((ys.length : Int) != (xs.length : Int) + 40) = false := by rw [hyl]; simp
      have hwr : IntKind.i64.wrap ((xs.length : Int) + 40) = (xs.length : Int) + 40 := by rw [IntKind.wrap_i64]; omega
      have HYL := Lib.hid hyl
      have HXI := Lib.hid (And.intro hxi (And.intro hxm hym))
      clear hyl hxi hox hoy hlong hxm hym
      go_wp2
      generalize hW1 : wo.alloc (.cells #[.slice A2 xs.length c2, .slice A3 ys.length c3, .int .i64 xn] 228) = W1 at *
      go_loopw [5] (fun kv wr => ∃ k : Nat, k ≤ ys.length ∧ kv = .int .i64 k ∧ Below W1.heap.size W1 wr) (fun kv _ => ys.length - (intOf kv).toNat)
      case atStart => exact ⟨0, Nat.zero_le _, rfl, Below.refl _ _⟩
      case round =>
        obtain ⟨k, hk, rfl, hbk⟩ := hrel
        have hbox := (hbk.block wo.heap.size hsz1).trans hbox0
        have d0 := heap_cell hbox 0
        have d1 := heap_cell hbox 1
        have d2 := heap_cell hbox 2
        simp only [List.getElem?_toArray, List.getElem?_cons_zero, List.getElem?_cons_succ] at d0 d1 d2
        have hbr : Below base w wr := (Below.step hw1 hbk).mono hbase.2
        have hbs : base ≤ wr.heap.size := Nat.le_trans hbase.2 hbr.size
        have hcp := fun p : Later wr => hci p.val (hbr.trans (p.ok.mono hbs))
        have e0 := fun p : Later wr => Later.cell p d0
        have e1 := fun p : Later wr => Later.cell p d1
        have e2 := fun p : Later wr => Later.cell p d2
        have hox2 := hox1.below hbk
        have hoy2 := hoy1.below hbk
        have hst := Below.step hw1 hbk
        have HYL := HYL
        have HXI := HXI
        clear hci hbox hbox0 hox1 hoy1 hW1 hb1 hbr hbb hbs
        by_cases hlk : k < ys.length
        · have hyk := List.getElem?_eq_getElem hlk
          have hmk := HXI.out.2.2 _ (List.getElem_mem hlk)
          obtain ⟨b3, o3, rfl, z1, z2, z3, z4⟩ := hoy2.opn hyk
          rw [hmk] at z1 z2 z3 z4
          simp only [markOpV] at z1 z2 z3 z4
          clear hyk hmk
          have f1 := fun p : Later wr => Later.cell p z1
          have f2 := fun p : Later wr => Later.cell p z2
          have f3 := fun p : Later wr => Later.cell p z3
          have f4 := fun p : Later wr => Later.cell p z4
          by_cases hlx : k < xs.length
          · have hxk := List.getElem?_eq_getElem hlx
            have hmx := HXI.out.2.1 _ (List.getElem_mem hlx)
            obtain ⟨b4, o4, rfl, z5, z6, z7, z8⟩ := hox2.opn hxk
            rw [hmx] at z5 z6 z7 z8
            simp only [markOpV] at z5 z6 z7 z8
            clear hxk hmx
            have f5 := fun p : Later wr => Later.cell p z5
            have f6 := fun p : Later wr => Later.cell p z6
            have f7 := fun p : Later wr => Later.cell p z7
            have f8 := fun p : Later wr => Later.cell p z8
            clear z1 z2 z3 z4 z5 z6 z7 z8 hox2 hoy2
            generalize wd xn = t at *
            go_wp2
            clear d0 d1 d2
            refine wp_region_later (by kernel_rfl) (by kernel_rfl) ?_
            repeat (go_big_quiet_step ((go_at_call 206; with_reducible exact Calls.later (hcp _))))
            refine wpQuiet_nil ?_
            rintro _ ⟨p, rfl⟩
            clear e0 e1 e2 f1 f2 f3 f4 f5 f6 f7 f8 hcp
            go_wp2
            go_roundw
            case rel => exact ⟨k + 1, by omega, by go_num, Below.step hbk p.ok⟩
            case measure => simp [intOf]; omega
          · clear z1 z2 z3 z4 hox2 hoy2
            generalize wd xn = t at *
            go_wp2
            clear d0 d1 d2
            refine wp_region_later (by kernel_rfl) (by kernel_rfl) ?_
            repeat (go_big_quiet_step ((go_at_call 206; with_reducible exact Calls.later (hcp _))))
            refine wpQuiet_nil ?_
            rintro _ ⟨p, rfl⟩
            clear e0 e1 e2 f1 f2 f3 f4 hcp
            go_wp2
            go_roundw
            case rel => exact ⟨k + 1, by omega, by go_num, Below.step hbk p.ok⟩
            case measure => simp [intOf]; omega
        · go_wp2
          go_roundw
          case rel => exact ⟨i + 1, by omega, by go_num, hst⟩
          case measure => simp [intOf]; omega
    · go_wp2
      go_ret
      exact ⟨rfl, hb⟩

end Go.Proofs.YtanjgeacmpmjhaaGreatDoor
