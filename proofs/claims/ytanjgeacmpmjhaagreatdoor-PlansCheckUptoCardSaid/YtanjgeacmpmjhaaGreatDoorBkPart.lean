import Derived.Test.YtanjgeacmpmjhaaGreatDoorBkN0
import Derived.Test.YtanjgeacmpmjhaaGreatDoorMgPlansCheckUpto2
import Derived.Test.YtanjgeacmpmjhaaGreatDoorKinds
import Derived.Deep.RegionHeld3
import Derived.StillTailTactics
import Derived.Lib.SmallJoins
set_option linter.unusedVariables false
set_option linter.unusedSimpArgs false
set_option linter.unusedSectionVars false
namespace Go.Proofs.YtanjgeacmpmjhaaGreatDoor
open Go.RowKit

abbrev markPartV (g : Nat) : PaV := ⟨200, some ⟨g, 0, none⟩, 1, 1⟩

/-- A mark: a block of its own, from SM on, that holds the mark's text. -/
def MkPart (w : World) (SM n : Nat) (x : PaV) : Prop := ∃ g, x = markPartV g ∧ SM ≤ g ∧ w.heap[g]? = some (.cells #[.int .u8 0, .string (wd n), .string ⟨#[]⟩, .int .u32 0] 172 (0, 0))
theorem MkPart.turn {w w' : World} {SM n : Nat} {x : PaV} {F : Nat → Prop} (h : MkPart w SM n x) (t : Turn F w w') (hF : ∀ g cur, SM ≤ g → w.heap[g]? = some (.cells cur 172 (0, 0)) → ¬ F g) : MkPart w' SM n x := by
  obtain ⟨g, e, hs, hg⟩ := h
  exact ⟨g, e, hs, t.heap hg (hF g _ hs hg)⟩
theorem MkPart.below {w w' : World} {SM n : Nat} {x : PaV} (h : MkPart w SM n x) (hb : Below w.heap.size w w') : MkPart w' SM n x := h.turn (F := fun _ => False) (.of_below hb) fun _ _ _ _ => id
theorem MkPart.mono {w : World} {SM SN n : Nat} {x : PaV} (h : MkPart w SM n x) (hs : SN ≤ SM) : MkPart w SN n x := by
  obtain ⟨g, e, h1, hg⟩ := h
  exact ⟨g, e, Nat.le_trans hs h1, hg⟩
theorem MkPart.shape {w : World} {SM n : Nat} {x : PaV} (h : MkPart w SM n x) : ∃ g, x = markPartV g ∧ MkPart w SM n (markPartV g) := by
  obtain ⟨g, rfl, h1⟩ := h
  exact ⟨g, rfl, g, rfl, h1⟩
theorem MkPart.way {base : Nat} {w w' : World} {SM n : Nat} {x : PaV} {lv v' : Value} {ys : List PaV} (h : MkPart w SM n x) (ho : OwnK PaV.enc 2 105 base w lv ys)
    (hway : (∃ g c, lv = .slice (some ⟨g, 0, none⟩) ys.length c ∧ v' = .slice (some ⟨g, 0, none⟩) (ys.length + 1) c ∧ Turn (fun i => i = g) w w') ∨ (Below w.heap.size w w' ∧ ∃ g, v'.ownBlock = some g ∧ w.heap.size ≤ g)) : MkPart w' SM n x := by
  rcases hway with ⟨g, c, e1, _, tn⟩ | ⟨tb, _⟩
  · exact h.turn tn fun g' cur _ e e' => by
      subst e'
      exact ne_typed e (ho.typed g' (by rw [e1]; rfl)).2.choose_spec (by decide) rfl
  · exact h.below tb

set_option maxHeartbeats 400000 in
theorem markPart_calls (n : Nat) (hn : n ≤ 100000) (w : World) (hT : Tab10 w) :
    Calls Tryz.prog 199 #[.int .i64 n] w fun e w' => ∃ g, e = .returned (.agg #[.int .u8 200, .slice (some ⟨g, 0, none⟩) 1 1]) ∧ MkPart w' w.heap.size n (markPartV g) ∧ Below w.heap.size w w' := by
  have hb0 : Below w.heap.size w (w.alloc (.cells #[.int .u8 0, .slice none 0 0] 105)) := (Below.refl _ w).alloc (Nat.le_refl _) _
  have hc := word_calls n (by omega) _ (hT.stays hb0)
  have hMK : RowKit.Hid (MkPart = MkPart) := Lib.hid rfl
  obtain ⟨t, ht⟩ : ∃ t, wd n = t := ⟨_, rfl⟩
  rw [ht] at hc
  have HT := Lib.hid ht
  clear ht
  go_enter Tryz.func199, Tryz.ntmps199
  go_wp2_with (go_at_call 234; refine hc.mono ?_; rintro e w1 ⟨rfl, hb⟩; have ho := (hb.block w.heap.size (by simp)).trans (alloc_new w (.cells #[.int .u8 0, .slice none 0 0] 105)); have hlt := (Array.getElem?_eq_some_iff.1 ho).1; have c0 : w1.cell? ⟨w.heap.size, 0, none⟩ = some (.int .u8 0) := (by simp [World.cell?, ho]); have f0 : w1.frozen? ⟨w.heap.size, 0, none⟩ = false := (by simp [World.frozen?, ho]); have c1 : w1.cell? ⟨w.heap.size, 1, none⟩ = some (.slice none 0 0) := (by simp [World.cell?, ho]); have f1 : w1.frozen? ⟨w.heap.size, 1, none⟩ = false := (by simp [World.frozen?, ho]))
  have g0 := Joins.block_setCell (i := 1) (Joins.block_setCell (i := 0) ho (.int .u8 200)) (.slice (some ⟨w1.heap.size, 0, none⟩) 1 1)
  have hs1 : w.heap.size ≤ w1.heap.size := by have := hb.size; have := hb0.size; omega
  have hB : Below w.heap.size w ((w1.setCell ⟨w.heap.size, 0, none⟩ (.int .u8 200)).setCell ⟨w.heap.size, 1, none⟩ (.slice (some ⟨w1.heap.size, 0, none⟩) 1 1)) := ((Below.step hb0 hb).setCell (Nat.le_refl _) _).setCell (Nat.le_refl _) _
  generalize hW3 : ((w1.setCell ⟨w.heap.size, 0, none⟩ (.int .u8 200)).setCell ⟨w.heap.size, 1, none⟩ (.slice (some ⟨w1.heap.size, 0, none⟩) 1 1)) = w3 at *
  have hsz : w3.heap.size = w1.heap.size := by rw [← hW3]; simp [World.setCell]
  have hb2 : Below w3.heap.size w3 (w3.alloc (.cells #[.int .u8 0, .string t, .string ⟨#[]⟩, .int .u32 0] 172)) := (Below.refl _ w3).alloc (Nat.le_refl _) _
  have g1 := (hb2.block w.heap.size (by rw [hsz]; exact hlt)).trans g0
  have hmt : (w3.alloc (.cells #[.int .u8 0, .string t, .string ⟨#[]⟩, .int .u32 0] 172)).heap[w1.heap.size]? = some (.cells #[.int .u8 0, .string t, .string ⟨#[]⟩, .int .u32 0] 172 (0, 0)) := alloc_newH hsz _
  refine bodyPost_ret (results_cell_row rfl _ _ w.heap.size _ #[.int .u8 200, .slice (some ⟨w1.heap.size, 0, none⟩) 1 1] _ _ rfl g1 Tryz.underlying105 rfl (by kernel_rfl)) rfl ?_
  exact ⟨w1.heap.size, rfl, ⟨_, rfl, hs1, by rw [HT.out]; exact hmt⟩, hB.alloc (Nat.le_trans hs1 (by rw [hsz]; exact Nat.le_refl _)) _⟩

set_option maxHeartbeats 800000 in
theorem isPart_calls (g : Nat) {SM : Nat} (n : Nat) (hn : n ≤ 100000) (w : World) (hT : Tab10 w) (hm : MkPart w SM n (markPartV g)) :
    Calls Tryz.prog 211 #[.agg #[.int .u8 200, .slice (some ⟨g, 0, none⟩) 1 1], .int .i64 n] w fun e w' => e = .returned (.bool true) ∧ Below w.heap.size w w' := by
  have hb0 : Below w.heap.size w (w.alloc (.cells #[.int .u8 200, .slice (some ⟨g, 0, none⟩) 1 1] 105)) := (Below.refl _ w).alloc (Nat.le_refl _) _
  have hc := fun W (h : Below w.heap.size w W) => word_calls n (by omega) W (hT.stays h)
  obtain ⟨g', e, _, hg⟩ := hm
  have e : g' = g := by
    have := congrArg PaV.A e
    simpa using this.symm
  subst e
  have k0 : w.cell? ⟨g', 1, none⟩ = some (.string (wd n)) := by rw [heap_cell hg]; rfl
  have k1 := Below.cell_some hb0 k0
  generalize wd n = t at *
  have HD := fun (W : World) (h : W.heap[w.heap.size]? = some (.cells #[.int .u8 200, .slice (some ⟨g', 0, none⟩) 1 1] 105 (0, 0))) => heap_cell h
  have ho := alloc_new w (.cells #[.int .u8 200, .slice (some ⟨g', 0, none⟩) 1 1] 105)
  clear hg k0 hT
  go_enter Tryz.func211, Tryz.ntmps211
  go_upto_region 1 with fail
  generalize w.alloc (.cells #[.int .u8 200, .slice (some ⟨g', 0, none⟩) 1 1] 105) = W at *
  have d0 : W.cell? ⟨w.heap.size, 0, none⟩ = some (.int .u8 200) := by rw [HD W ho]; rfl
  have d1 : W.cell? ⟨w.heap.size, 1, none⟩ = some (.slice (some ⟨g', 0, none⟩) 1 1) := by rw [HD W ho]; rfl
  clear HD ho
  refine wp_region_later (by kernel_rfl) (by kernel_rfl) ?_
  have k1' := fun p : Later W => Later.cell p k1
  have d0' := fun p : Later W => Later.cell p d0
  have d1' := fun p : Later W => Later.cell p d1
  repeat (go_big_quiet_step ((go_at_call 234; exact Calls.later (hc _ (Below.step hb0 (Later.ok _))))))
  refine wpQuiet_nil ?_
  rintro _ ⟨p, rfl⟩
  go_wp2
  go_ret
  exact ⟨rfl, Below.step hb0 p.ok⟩

/-- so many of them have marks alone. -/
def FilPart (base : Nat) (w : World) (hs : List Hd) (i SM : Nat) : Prop :=
  ∀ j h, hs[j]? = some h → ∃ xs, OwnK PaV.enc 2 105 base w h.l xs ∧ xs.length ≤ 1000000 ∧ (j < i → ∀ x ∈ xs, MkPart w SM h.n x)
theorem FilPart.typed {base : Nat} {w : World} {hs : List Hd} {i SM : Nat} (h : FilPart base w hs i SM) {g : Nat} (hg : Blk hs g) : base ≤ g ∧ ∃ cur, w.heap[g]? = some (.cells cur 105 (0, 0)) := by
  obtain ⟨x, hx, hg⟩ := hg
  obtain ⟨j, hj⟩ := List.mem_iff_getElem?.1 hx
  obtain ⟨xs, h1, _⟩ := h j x hj
  exact h1.typed g hg
theorem FilPart.turn {base : Nat} {w w' : World} {hs : List Hd} {i SM : Nat} {F : Nat → Prop} (h : FilPart base w hs i SM) (t : Turn F w w') (hF : ∀ g, Blk hs g → ¬ F g) (hM : ∀ g cur, SM ≤ g → w.heap[g]? = some (.cells cur 172 (0, 0)) → ¬ F g) : FilPart base w' hs i SM := fun j x hj => by
  obtain ⟨xs, h1, h2, h3⟩ := h j x hj
  exact ⟨xs, h1.turn t fun g hg => hF g ⟨x, List.mem_of_getElem? hj, hg⟩, h2, fun hji y hy => (h3 hji y hy).turn t hM⟩
theorem FilPart.turn0 {base : Nat} {w w' : World} {hs : List Hd} {SM : Nat} {F : Nat → Prop} (h : FilPart base w hs 0 SM) (t : Turn F w w') (hF : ∀ g, Blk hs g → ¬ F g) : FilPart base w' hs 0 SM := fun j x hj => by
  obtain ⟨xs, h1, h2, _⟩ := h j x hj
  exact ⟨xs, h1.turn t fun g hg => hF g ⟨x, List.mem_of_getElem? hj, hg⟩, h2, fun hji => absurd hji (Nat.not_lt_zero _)⟩
theorem FilPart.start {base : Nat} {w : World} {hs : List Hd} {SM : Nat} (h : FilPart base w hs 0 SM) (SN : Nat) : FilPart base w hs 0 SN := fun j x hj => by
  obtain ⟨xs, h1, h2, _⟩ := h j x hj
  exact ⟨xs, h1, h2, fun hji => absurd hji (Nat.not_lt_zero _)⟩
set_option maxHeartbeats 1000000 in
set_option maxRecDepth 100000 in
theorem fillPart_calls {base : Nat} {w : World} {B : Nat} {cs : Array Value} {v : Value} {hs : List Hd} (hT : Tab10 w) (hobj : w.heap[B]? = some (.cells cs bookT (0, 0))) (hcs : cs[11]? = some v)
    (hh : Own Hd.enc 3 245 base w v hs) (hlen : hs.length ≤ 100000) (hn : ∀ h ∈ hs, h.n ≤ 100000 ∧ ∃ A n c, h.long = .slice A n c) {SM : Nat} (hSM : SM ≤ w.heap.size) (hf : FilPart base w hs 0 SM) (hsep : Sep hs) (hbase : 0 < base ∧ base ≤ w.heap.size) :
    Calls Tryz.prog 106 #[.pointer (some ⟨B, 0, none⟩)] w fun e w' => e = .returned (.tuple #[]) ∧ FilPart base w' hs hs.length SM ∧ Turn (Blk hs) w w' := by
  have hcell : ∀ W : World, W.heap[B]? = some (.cells cs bookT (0, 0)) → W.cell? ⟨B, 11, none⟩ = some v := fun W h => by rw [heap_cell h]; exact hcs
  have hrd := hh.rd hd_len
  obtain ⟨A, c, rfl, hlc, hc⟩ := hh.slice
  have HOBJ := Lib.hid hobj
  have HCELL := Lib.hid hcell
  clear hcell hobj hcs
  have hBn : ∀ g, Blk hs g → B ≠ g := fun g hg => ne_typed HOBJ.out (hf.typed hg).2.choose_spec (by decide)
  have hVn : ∀ g, (Value.slice A hs.length c).ownBlock = some g → ¬ Blk hs g := fun g hg hb => ne_typed (hh.typed g hg).2.choose_spec (hf.typed hb).2.choose_spec (by decide) rfl
  have hFb : ∀ g, Blk hs g → base ≤ g := fun g hg => (hf.typed hg).1
  go_enter Tryz.func106, Tryz.ntmps106
  go_wp2
  go_loopw [2] (fun iv wr => ∃ i : Nat, i ≤ hs.length ∧ iv = .int .i64 i ∧ FilPart base wr hs i SM ∧ Turn (Blk hs) w wr) (fun iv _ => hs.length - (intOf iv).toNat)
  case atStart => exact ⟨0, Nat.zero_le _, rfl, hf, Turn.refl _ _⟩
  case round =>
    obtain ⟨i, hi, rfl, hfi, ht⟩ := hrel
    have ho := ht.heap HOBJ.out (fun h => hBn B h rfl)
    have hc7 := HCELL.out wr ho
    have hhr := hh.turn ht hVn
    by_cases hlt : i < hs.length
    · obtain ⟨wo, rfl⟩ : ∃ wo : World, wo = wr := ⟨_, rfl⟩
      have hxi := List.getElem?_eq_getElem hlt
      have hnx := hn _ (List.getElem_mem hlt)
      obtain ⟨b, o, rfl, y1, y2, y3⟩ := (hhr.rd hd_len).hd hxi
      generalize hs[i] = x at *
      obtain ⟨xl, xlong, xn⟩ := x
      obtain ⟨xs, hox, hxl, _⟩ := hfi i _ hxi
      obtain ⟨hnx, A9, n9, c9, e9⟩ := hnx
      simp only at y1 y2 y3 hox hnx e9
      subst e9
      obtain ⟨A2, c2, rfl, hlc2, hc2⟩ := hox.slice
      have hbw : Below base w (wo.alloc (.cells #[.slice A2 xs.length c2, .slice A9 n9 c9, .int .i64 xn] 245)) := (ht.below hFb hbase.2).alloc (Nat.le_trans hbase.2 ht.size) _
      have hbox0 := alloc_new wo (.cells #[.slice A2 xs.length c2, .slice A9 n9 c9, .int .i64 xn] 245)
      have hox0 := hox.below ((Below.refl _ wo).alloc (Nat.le_refl _) (.cells #[.slice A2 xs.length c2, .slice A9 n9 c9, .int .i64 xn] 245))
      have hlt0 : ∀ g, (Value.slice A2 xs.length c2).ownBlock = some g → g < wo.heap.size := fun g hg => hox.lt g hg
      have hcm := fun W' (h : Below base w W') => markPart_calls xn hnx W' (hT.keep h hbase.1)
      have HXI := Lib.hid hxi
      have HY := Lib.hid (And.intro y1 (And.intro y2 y3))
      clear hxi
      go_wp2
      generalize hW1 : wo.alloc (.cells #[.slice A2 xs.length c2, .slice A9 n9 c9, .int .i64 xn] 245) = W1 at *
      go_loopw [4] (fun kv wk => ∃ k : Nat, k ≤ xs.length ∧ kv = .int .i64 k ∧ (∃ ys, OwnK PaV.enc 2 105 base wk (.slice A2 xs.length c2) ys ∧ ys.length = xs.length ∧ ∀ j y, j < k → ys[j]? = some y → MkPart wk SM xn y) ∧ Turn (fun g => (Value.slice A2 xs.length c2).ownBlock = some g) W1 wk) (fun kv _ => xs.length - (intOf kv).toNat)
      case atStart => exact ⟨0, Nat.zero_le _, rfl, ⟨xs, hox0, rfl, fun j y hj => absurd hj (Nat.not_lt_zero _)⟩, Turn.refl _ _⟩
      case round =>
        obtain ⟨k, hk, rfl, ⟨ys, hoy, hyl, hmark⟩, htk⟩ := hrel
        have hbox := htk.heap hbox0 (fun h => absurd (hlt0 _ h) (Nat.lt_irrefl _))
        have d0 := heap_cell hbox 0
        have d2 := heap_cell hbox 2
        simp only [List.getElem?_toArray, List.getElem?_cons_zero, List.getElem?_cons_succ] at d0 d2
        have HM := Lib.hid hmark
        clear hmark
        by_cases hltk : k < xs.length
        · have hyk := List.getElem?_eq_getElem (show k < ys.length by omega)
          obtain ⟨g, cap, cur, hA, hgb, hg⟩ := hoy.some_block (by omega)
          injection hA with hA hA2 hA3
          subst hA hA3
          clear hA2
          obtain ⟨_, _, e, z1, z2⟩ := (hoy.rd pav_len).pav hyk
          injection e with e
          injection e with e1 e2
          subst e1 e2
          rw [Nat.zero_add] at z1 z2
          generalize ys[k] = y at *
          have HYK := Lib.hid hyk
          have hgl := World.block_lt_of_cell? wr _ z1
          have HC : ∀ W', Below wr.heap.size wr W' → W'.cell? ⟨g, k * 2, none⟩ = some (.int .u8 y.s) ∧ W'.cell? ⟨g, k * 2 + 1, none⟩ = some (.slice y.A y.n y.c) ∧ W'.frozen? ⟨g, k * 2, none⟩ = false ∧ W'.frozen? ⟨g, k * 2 + 1, none⟩ = false ∧
              W'.cell? ⟨wo.heap.size, 0, none⟩ = some (.slice (some ⟨g, 0, none⟩) xs.length c2) ∧ W'.cell? ⟨wo.heap.size, 2, none⟩ = some (.int .i64 xn) := fun W' h => by
            have h2 := (h.block g hgl).trans hg
            exact ⟨Below.cell_some h z1, Below.cell_some h z2, heap_free h2 _, heap_free h2 _, Below.cell_some h d0, Below.cell_some h d2⟩
          have hP : Below base w wr.drew := (hbw.trans (htk.below (fun g' h => by cases h; exact hgb) (Nat.le_trans hbase.2 hbw.size))).drew
          have hc3 := hcm _ hP
          have hSMr : SM ≤ wr.drew.heap.size := Nat.le_trans hSM hP.size
          have hset : ∀ (w3 : World) (gm : Nat), Below wr.heap.size wr w3 → MkPart w3 SM xn (markPartV gm) → (∃ ys', OwnK PaV.enc 2 105 base ((w3.setCell ⟨g, k * 2, none⟩ (.int .u8 200)).setCell ⟨g, k * 2 + 1, none⟩ (.slice (some ⟨gm, 0, none⟩) 1 1)) (.slice (some ⟨g, 0, none⟩) xs.length c2) ys' ∧ ys'.length = xs.length ∧ ∀ j y, j < k + 1 → ys'[j]? = some y → MkPart ((w3.setCell ⟨g, k * 2, none⟩ (.int .u8 200)).setCell ⟨g, k * 2 + 1, none⟩ (.slice (some ⟨gm, 0, none⟩) 1 1)) SM xn y) ∧
              Turn (fun g' => (Value.slice (some ⟨g, 0, none⟩) xs.length c2).ownBlock = some g') W1 ((w3.setCell ⟨g, k * 2, none⟩ (.int .u8 200)).setCell ⟨g, k * 2 + 1, none⟩ (.slice (some ⟨gm, 0, none⟩) 1 1)) := fun w3 gm h hgm => by
            have o1 := (hoy.below h).cell pav_len k y (⟨200, y.A, y.n, y.c⟩) 0 (.int .u8 200) HYK.out rfl (by decide)
            have o2 := o1.cell pav_len k (⟨200, y.A, y.n, y.c⟩) (markPartV gm) 1 (.slice (some ⟨gm, 0, none⟩) 1 1) (by rw [List.getElem?_set_self (by omega)]) rfl (by decide)
            rw [List.set_set] at o2
            have hWN : Turn (fun i => i = g) w3 ((w3.setCell ⟨g, k * 2, none⟩ (.int .u8 200)).setCell ⟨g, k * 2 + 1, none⟩ (.slice (some ⟨gm, 0, none⟩) 1 1)) := (Turn.step (Turn.step (.refl _ _) (.setCell _ _ _ _) (fun _ _ e => e)) (.setCell _ _ _ _) (fun _ _ e => e))
            have hgT : ∀ g' cur, SM ≤ g' → w3.heap[g']? = some (.cells cur 172 (0, 0)) → ¬ g' = g := fun g' cur _ e e' => ne_typed e ((h.block g hgl).trans hg) (by decide) e'
            refine ⟨⟨_, o2, by rw [List.length_set]; exact hyl, fun j z hj hz => ?_⟩, (((htk.trans (.of_below h)).step (.setCell _ _ _ _) (fun i hi e => by rw [e]; rfl)).step (.setCell _ _ _ _) (fun i hi e => by rw [e]; rfl))⟩
            by_cases e : j = k
            · subst e
              rw [List.getElem?_set_self (by omega)] at hz
              rw [← Option.some.inj hz]
              exact hgm.turn hWN hgT
            · rw [List.getElem?_set_ne (fun e' => e e'.symm)] at hz
              exact ((HM.out j z (by omega) hz).below h).turn hWN hgT
          have HSET := Lib.hid hset
          clear hset
          clear z1 z2 hyk hoy htk hcm hox0 hg hbox HXI HY
          replace HC := Lib.hid HC
          replace hSMr := Lib.hid hSMr
          replace hc3 := Lib.hid hc3
          have HYL := Lib.hid hyl
          have hgn := hlt0 g rfl
          have hn1 : ¬ g = wo.heap.size := by omega
          have hn2 : ¬ wo.heap.size = g := by omega
          clear hyl
          clear HOBJ HCELL
          go_wp2
          go_region_held3 (fun w' => w'.cell? ⟨wo.heap.size, 0, none⟩ = some (.slice (some ⟨g, 0, none⟩) xs.length c2) ∧ w'.cell? ⟨wo.heap.size, 2, none⟩ = some (.int .i64 xn)) (go_keep) ((go_at_call 199; refine hc3.out.mono ?_; rintro e w3 ⟨gm, rfl, hgm, hb3⟩; replace hgm := Lib.hid hgm; obtain ⟨e0, e1, e2, e3, e4, e5⟩ := HC.out w3 (Below.step (Below.refl _ wr).drew hb3)))
          go_wp2
          go_roundw
          case rel => exact ⟨k + 1, by omega, by go_num, HSET.out w3 gm (Below.step (Below.refl _ wr).drew hb3) (hgm.out.mono hSMr.out)⟩
          case measure => simp [intOf]; omega
        · have hkl : k = xs.length := by omega
          subst hkl
          go_wp2
          go_roundw
          case rel =>
            have hb1 : Below wo.heap.size wo W1 := by rw [← hW1]; exact (Below.refl _ _).alloc (Nat.le_refl _) _
            refine ⟨i + 1, by omega, by go_num, fun j h hj => ?_, (ht.trans (.of_below hb1)).step htk fun g _ hg => ⟨_, List.mem_of_getElem? HXI.out, hg⟩⟩
            by_cases e : j = i
            · subst e
              obtain rfl := Option.some.inj (HXI.out.symm.trans hj)
              refine ⟨ys, hoy, by omega, fun _ x hx => ?_⟩
              obtain ⟨q, hq⟩ := List.mem_iff_getElem?.1 hx
              exact HM.out q x (by have := (List.getElem?_eq_some_iff.1 hq).1; omega) hq
            · obtain ⟨zs, q1, q2, q3⟩ := hfi j h hj
              exact ⟨zs, (q1.below hb1).turn htk fun g hg hg2 => hsep.at_ e hj HXI.out g hg hg2, q2, fun hji y hy => ((q3 (by omega) y hy).below hb1).turn htk fun g' cur _ e he => ne_typed e (hox0.typed g' he).2.choose_spec (by decide) rfl⟩
          case measure => simp [intOf]; omega
    · have hil : i = hs.length := by omega
      subst hil
      go_wp2
      go_end0
      exact ⟨rfl, hfi, ht⟩

theorem slPart_underB : Tryz.prog.underlying 102 = some (.slice 105) := by kernel_rfl
theorem info_PartB : (Tryz.prog.info? 105).map (fun i => (i.zero, i.size, i.bytes)) = some (some (.agg #[.int .u8 0, .slice none 0 0]), 2, 32) := by kernel_rfl

/-- so many of them have marks alone, and forty more behind. -/
def DonPart (base : Nat) (w : World) (hs : List Hd) (i S0 SM : Nat) : Prop :=
  ∀ j h, hs[j]? = some h → ∃ xs, OwnK PaV.enc 2 105 base w h.l xs ∧ xs.length ≤ 1000000 ∧ (∀ x ∈ xs, MkPart w SM h.n x) ∧
    (j < i → ∃ ys, OwnK PaV.enc 2 105 base w h.long ys ∧ ys.length = xs.length + 40 ∧ (∀ y ∈ ys, MkPart w SM h.n y) ∧ (h.long.ownBlock = h.l.ownBlock ∨ ∃ g, h.long.ownBlock = some g ∧ S0 ≤ g))
theorem DonPart.typed {base : Nat} {w : World} {hs : List Hd} {i S0 SM : Nat} (h : DonPart base w hs i S0 SM) {g : Nat} (hg : Blk hs g) : base ≤ g ∧ ∃ cur, w.heap[g]? = some (.cells cur 105 (0, 0)) := by
  obtain ⟨x, hx, hg⟩ := hg
  obtain ⟨j, hj⟩ := List.mem_iff_getElem?.1 hx
  obtain ⟨xs, h1, _⟩ := h j x hj
  exact h1.typed g hg
theorem DonPart.turn {base : Nat} {w w' : World} {hs : List Hd} {i S0 SM : Nat} {F : Nat → Prop} (h : DonPart base w hs i S0 SM) (t : Turn F w w') (hF : ∀ g cur, w.heap[g]? = some (.cells cur 105 (0, 0)) → ¬ F g) (hM : ∀ g cur, SM ≤ g → w.heap[g]? = some (.cells cur 172 (0, 0)) → ¬ F g) : DonPart base w' hs i S0 SM := fun j x hj => by
  obtain ⟨xs, h1, h2, h3, h4⟩ := h j x hj
  refine ⟨xs, h1.turn t fun g hg => hF g _ (h1.typed g hg).2.choose_spec, h2, fun y hy => (h3 y hy).turn t hM, fun hji => ?_⟩
  obtain ⟨ys, k1, k2, k3, k4⟩ := h4 hji
  exact ⟨ys, k1.turn t fun g hg => hF g _ (k1.typed g hg).2.choose_spec, k2, fun y hy => (k3 y hy).turn t hM, k4⟩
theorem FilPart.don {base : Nat} {w : World} {hs : List Hd} {SM : Nat} (h : FilPart base w hs hs.length SM) (S0 : Nat) : DonPart base w hs 0 S0 SM := fun j x hj => by
  obtain ⟨xs, h1, h2, h3⟩ := h j x hj
  exact ⟨xs, h1, h2, h3 (List.getElem?_eq_some_iff.1 hj).1, fun h => absurd h (Nat.not_lt_zero _)⟩
set_option maxHeartbeats 1000000 in
set_option maxRecDepth 100000 in
theorem growPart_calls {base : Nat} {w : World} {B : Nat} {cs : Array Value} {v : Value} {hs : List Hd} (hT : Tab10 w) (hobj : w.heap[B]? = some (.cells cs bookT (0, 0))) (hcs : cs[11]? = some v)
    (hh : Own Hd.enc 3 245 base w v hs) (hlen : hs.length ≤ 100000) (hn : ∀ h ∈ hs, h.n ≤ 100000 ∧ ∃ A n c, h.long = .slice A n c) {SM : Nat} (hSM : SM ≤ w.heap.size) (hf : DonPart base w hs 0 w.heap.size SM) (hsep : Sep hs) (hbase : 0 < base ∧ base ≤ w.heap.size) :
    Calls Tryz.prog 118 #[.pointer (some ⟨B, 0, none⟩)] w fun e w' => e = .returned (.tuple #[]) ∧ (∃ hs', SameL hs hs' ∧ Own Hd.enc 3 245 base w' v hs' ∧ DonPart base w' hs' hs.length w.heap.size SM) ∧ Turn (fun g => Blk hs g ∨ v.ownBlock = some g) w w' := by
  have hcell : ∀ W : World, W.heap[B]? = some (.cells cs bookT (0, 0)) → W.cell? ⟨B, 11, none⟩ = some v := fun W h => by rw [heap_cell h]; exact hcs
  obtain ⟨A, c, rfl, hlc, hc⟩ := hh.slice
  have HOBJ := Lib.hid hobj
  have HCELL := Lib.hid hcell
  clear hcell hobj hcs
  have hBn : ∀ g, (Blk hs g ∨ (Value.slice A hs.length c).ownBlock = some g) → B ≠ g := fun g hg => by
    rcases hg with hg | hg
    · exact ne_typed HOBJ.out (hf.typed hg).2.choose_spec (by decide)
    · exact ne_typed HOBJ.out (hh.typed g hg).2.choose_spec (by decide)
  have hFb : ∀ g, (Blk hs g ∨ (Value.slice A hs.length c).ownBlock = some g) → base ≤ g := fun g hg => by
    rcases hg with hg | hg
    · exact (hf.typed hg).1
    · exact (hh.typed g hg).1
  go_enter Tryz.func118, Tryz.ntmps118
  go_wp2
  go_loopw [2] (fun iv wr => ∃ i : Nat, i ≤ hs.length ∧ iv = .int .i64 i ∧ (∃ hs', SameL hs hs' ∧ Own Hd.enc 3 245 base wr (.slice A hs.length c) hs' ∧ (∀ h ∈ hs', ∃ A n c, h.long = .slice A n c) ∧ DonPart base wr hs' i w.heap.size SM) ∧ Turn (fun g => Blk hs g ∨ (Value.slice A hs.length c).ownBlock = some g) w wr) (fun iv _ => hs.length - (intOf iv).toNat)
  case atStart => exact ⟨0, Nat.zero_le _, rfl, ⟨hs, .refl _, hh, fun h hm => (hn h hm).2, hf⟩, Turn.refl _ _⟩
  case round =>
    obtain ⟨i, hi, rfl, ⟨hs', hsame, hhr, hlong, hdi⟩, ht⟩ := hrel
    have ho := ht.heap HOBJ.out (fun h => hBn B h rfl)
    have hc7 := HCELL.out wr ho
    have hsl := hsame.1
    by_cases hlt : i < hs.length
    · obtain ⟨wo, rfl⟩ : ∃ wo : World, wo = wr := ⟨_, rfl⟩
      have hxi := List.getElem?_eq_getElem (show i < hs'.length by omega)
      obtain ⟨A9, n9, c9, e9⟩ := hlong _ (List.getElem_mem (show i < hs'.length by omega))
      obtain ⟨b, cap, cur, hA, hgb, hgr, _⟩ := hhr.some_block (by omega)
      injection hA with hA hA2 hA3
      subst hA hA3
      clear hA2
      obtain ⟨_, _, e, y1, y2, y3⟩ := (hhr.rd hd_len).hd hxi
      injection e with e
      injection e with e1 e2
      subst e1 e2
      rw [Nat.zero_add] at y1 y2 y3
      generalize hs'[i] = x at *
      obtain ⟨h0, hx0, el, en⟩ := hsame.2 i _ hxi
      have hnx := (hn h0 (List.mem_of_getElem? hx0)).1
      obtain ⟨xl, xlong, xn⟩ := x
      simp only at el en
      rw [← en] at hnx
      obtain ⟨xs, hox, hxl, hxm, _⟩ := hdi i _ hxi
      simp only at y1 y2 y3 hox hnx e9 hxm
      subst e9
      obtain ⟨A2, c2, rfl, hlc2, hc2⟩ := hox.slice
      have hbw : Below base w (wo.alloc (.cells #[.slice A2 xs.length c2, .slice A9 n9 c9, .int .i64 xn] 245)) := (ht.below hFb hbase.2).alloc (Nat.le_trans hbase.2 ht.size) _
      have hbox0 := alloc_new wo (.cells #[.slice A2 xs.length c2, .slice A9 n9 c9, .int .i64 xn] 245)
      have hox0 := hox.below ((Below.refl _ wo).alloc (Nat.le_refl _) (.cells #[.slice A2 xs.length c2, .slice A9 n9 c9, .int .i64 xn] 245))
      have hxm0 := fun (x : PaV) (hx : x ∈ xs) => (hxm x hx).below ((Below.refl _ wo).alloc (Nat.le_refl _) (.cells #[.slice A2 xs.length c2, .slice A9 n9 c9, .int .i64 xn] 245))
      have hlt0 : ∀ g, (Value.slice A2 xs.length c2).ownBlock = some g → g < wo.heap.size := fun g hg => hox.lt g hg
      have hcm := fun W' (h : Below base w W') => markPart_calls xn hnx W' (hT.keep h hbase.1)
      have HXI := Lib.hid hxi
      have HSM := Lib.hid (And.intro el en)
      have HROW := Lib.hid (And.intro hhr hgr)
      clear hxi el en hgr
      go_wp2
      generalize hW1 : wo.alloc (.cells #[.slice A2 xs.length c2, .slice A9 n9 c9, .int .i64 xn] 245) = W1 at *
      have hsz1 : W1.heap.size = wo.heap.size + 1 := by rw [← hW1]; simp
      have HSZ1 := Lib.hid hsz1
      clear hsz1
      have hlt1 : ∀ g, (Value.slice A2 xs.length c2).ownBlock = some g → g < W1.heap.size := fun g hg => by have := hlt0 g hg; have := HSZ1.out; omega
      go_loopw [4, 5] (fun lv kv wr => ∃ k : Nat, k ≤ 40 ∧ kv = .int .i64 k ∧ (∃ xs' ys, OwnK PaV.enc 2 105 base wr (.slice A2 xs.length c2) xs' ∧ xs'.length = xs.length ∧ (∀ x ∈ xs', MkPart wr SM xn x) ∧ OwnK PaV.enc 2 105 base wr lv ys ∧ ys.length = xs.length + k ∧ (∀ x ∈ ys, MkPart wr SM xn x) ∧
          (lv = .slice A2 ys.length c2 ∨ ∃ g, lv.ownBlock = some g ∧ W1.heap.size ≤ g)) ∧ Turn (fun g => (Value.slice A2 xs.length c2).ownBlock = some g) W1 wr) (fun _ kv _ => 40 - (intOf kv).toNat)
      case atStart => exact ⟨0, Nat.zero_le _, rfl, ⟨xs, xs, hox0, rfl, hxm0, hox0, rfl, hxm0, .inl rfl⟩, Turn.refl _ _⟩
      case round =>
        obtain ⟨k, hk, rfl, ⟨xs', ys, hoy, hyl, hym, hol, hll, hlm, halt⟩, htk⟩ := hrel
        have hbox := htk.heap hbox0 (fun h => absurd (hlt0 _ h) (Nat.lt_irrefl _))
        have d0 := heap_cell hbox 0
        have d2 := heap_cell hbox 2
        simp only [List.getElem?_toArray, List.getElem?_cons_zero, List.getElem?_cons_succ] at d0 d2
        obtain ⟨A4, c4, rfl, hlc4, hcm4⟩ := hol.slice
        have hbr : Below base w wr := hbw.trans (htk.below (fun g' h => (hox0.typed g' h).1) (Nat.le_trans hbase.2 hbw.size))
        have hc3 := hcm _ hbr
        have hbs : base ≤ wr.heap.size := Nat.le_trans hbase.2 hbr.size
        by_cases hltk : k < 40
        · have HH := Lib.hid (And.intro hoy (And.intro hyl (And.intro hym (And.intro hlm (And.intro halt htk)))))
          have HLL := Lib.hid hll
          have HOL := Lib.hid hol
          have hl6 : ys.length ≤ 1000040 := by omega
          clear hoy hyl hym hlm halt htk hll hol hcm hox0 hox hbox
          go_wp2_with (first | (go_at_call 199; refine hc3.mono ?_; rintro e w3 ⟨gm, rfl, hgm, hb3⟩; replace hgm := Lib.hid hgm) | (at_builtin; refine append_wayHK (W := w3) w3.heap.size rfl PaV.enc 2 105 102 32 _ base (.slice A4 ys.length c4) ys (markPartV gm) rfl _ _ rfl slPart_underB info_PartB rfl (by decide) (by decide) pav_len (pav_one _) rfl rfl (HOL.out.below hb3) (Nat.le_trans hbs hb3.size) (by omega) ?_; intro v' w4 hown' hway; replace hway := Lib.hid hway))
          go_roundw
          case rel =>
            obtain ⟨q1, q2, q3, q4, q5, q6⟩ := HH.out
            have hmT : ∀ {x : PaV}, MkPart wr SM xn x → MkPart w4 SM xn x := fun {x} hx => (hx.below hb3).way (HOL.out.below hb3) hway.out
            have hmN : MkPart w4 SM xn (markPartV gm) := (hgm.out.mono (Nat.le_trans hSM (Nat.le_trans hbr.size (Nat.le_refl _)))).way (HOL.out.below hb3) hway.out
            obtain ⟨⟨zs, z1, z2, z3⟩, z4, z5, z6⟩ := grow_stepK (P := fun x => MkPart w4 SM xn x) pav_len q1 q2 (fun x hx => hmT (q3 x hx)) (fun x hx => hmT (q4 x hx)) (by have := HLL.out; omega) q5 q6 hlt1 hb3 hown' hmN hway.out
            exact ⟨k + 1, by omega, by go_num, ⟨zs, ys ++ [markPartV gm], z1, z2, z3, hown', by have := HLL.out; simp; omega, z4, by rw [List.length_append, List.length_singleton]; exact z5⟩, z6⟩
          case measure => simp [intOf]; omega
        · have hk40 : k = 40 := by omega
          subst hk40
          have hb1 : Below wo.heap.size wo W1 := by rw [← hW1]; exact (Below.refl _ _).alloc (Nat.le_refl _) _
          have hrow1 := HROW.out.1.below hb1
          have hbE := fun g (hg : (Value.slice A2 xs.length c2).ownBlock = some g) => ne_typed (hrow1.typed b rfl).2.choose_spec (hox0.typed g hg).2.choose_spec (by decide)
          have hrowr := hrow1.turn htk (fun g hg hF => by
            have hgb : b = g := by simpa [Value.ownBlock] using hg
            exact hbE g hF hgb)
          obtain ⟨_, _, curr, hA, _, hgr, hx9⟩ := hrowr.some_block (by omega)
          injection hA with hA a2 a3
          injection hA with hA
          injection hA with hA
          subst hA
          clear a2 a3 hx9
          obtain ⟨_, _, e, z1, z2, z3⟩ := (hrowr.rd hd_len).hd HXI.out
          clear z1 z3
          injection e with e
          injection e with e1 e2
          subst e1 e2
          rw [Nat.zero_add] at z2
          have zf := heap_free hgr (i * 3 + 1)
          have hBl := (ht.trans (.of_below hb1)).size
          have hor := htk.heap ((hb1.block B (Array.getElem?_eq_some_iff.1 ho).1).trans ho) (fun h => hBn B (.inl ⟨h0, List.mem_of_getElem? hx0, by rw [← HSM.out.1]; exact h⟩) rfl)
          have hc7r := HCELL.out wr hor
          obtain ⟨o1, o9⟩ := hrowr.cell hd_len i _ ⟨.slice A2 xs.length c2, .slice A4 ys.length c4, xn⟩ 1 (.slice A4 ys.length c4) HXI.out rfl (by decide)
          have hfl : ∀ g, (Value.slice A2 xs.length c2).ownBlock = some g → g < w.heap.size := fun g hg => by
            obtain ⟨zs, q, _⟩ := hf i h0 hx0
            rw [← HSM.out.1] at q
            exact q.lt g hg
          have hst : Turn (fun g => g = b) wr (wr.setCell ⟨b, i * 3 + 1, none⟩ (.slice A4 ys.length c4)) := .setCell _ _ _ _
          have hTT : Turn (fun g => Blk hs g ∨ (Value.slice (some ⟨b, 0, none⟩) hs.length c).ownBlock = some g) w (wr.setCell ⟨b, i * 3 + 1, none⟩ (.slice A4 ys.length c4)) :=
            ((ht.trans (.of_below hb1)).step htk fun g _ hg => .inl ⟨h0, List.mem_of_getElem? hx0, by rw [← HSM.out.1]; exact hg⟩).step hst fun g _ hg => .inr (by rw [hg]; rfl)
          have hD : DonPart base (wr.setCell ⟨b, i * 3 + 1, none⟩ (.slice A4 ys.length c4)) (hs'.set i ⟨.slice A2 xs.length c2, .slice A4 ys.length c4, xn⟩) (i + 1) w.heap.size SM := fun j h hj => by
            have hmk : ∀ {m : Nat} {x : PaV}, MkPart wr SM m x → MkPart (wr.setCell ⟨b, i * 3 + 1, none⟩ (.slice A4 ys.length c4)) SM m x := fun {m x} q => q.turn hst fun g' cur _ e he => ne_typed e hgr (by decide) he
            have hmo : ∀ {m : Nat} {x : PaV}, MkPart wo SM m x → MkPart (wr.setCell ⟨b, i * 3 + 1, none⟩ (.slice A4 ys.length c4)) SM m x := fun {m x} q => hmk ((q.below hb1).turn htk fun g' cur _ e he => ne_typed e (hox0.typed g' he).2.choose_spec (by decide) rfl)
            have hnb : ∀ {v : Value} {zs : List PaV}, OwnK PaV.enc 2 105 base wr v zs → OwnK PaV.enc 2 105 base (wr.setCell ⟨b, i * 3 + 1, none⟩ (.slice A4 ys.length c4)) v zs := fun {v zs} q =>
              q.turn hst fun g hg e => ne_typed hgr (q.typed g hg).2.choose_spec (by decide) e.symm
            by_cases e : j = i
            · subst e
              rw [List.getElem?_set_self (by omega)] at hj
              obtain rfl := Option.some.inj hj
              refine ⟨xs', hnb hoy, by omega, fun x hx => hmk (hym x hx), fun _ => ⟨ys, hnb hol, by omega, fun x hx => hmk (hlm x hx), ?_⟩⟩
              rcases halt with e | ⟨g, hg, hge⟩
              · injection e with e
                subst e
                cases A4 <;> exact .inl rfl
              · exact .inr ⟨g, hg, by omega⟩
            · rw [List.getElem?_set_ne (fun e' => e e'.symm)] at hj
              obtain ⟨zs, q1, q2, q3, q4⟩ := hdi j h hj
              obtain ⟨hj0, hj1, hj2, _⟩ := hsame.2 j h hj
              have hdis : ∀ g, h.l.ownBlock = some g → ¬ (Value.slice A2 xs.length c2).ownBlock = some g := fun g hg hF => hsep.at_ (fun e' => e e') hj1 hx0 g (by rw [← hj2]; exact hg) (by rw [← HSM.out.1]; exact hF)
              refine ⟨zs, hnb ((q1.below hb1).turn htk hdis), q2, fun x hx => hmo (q3 x hx), fun hji => ?_⟩
              obtain ⟨us, k1, k2, k3, k4⟩ := q4 (by omega)
              refine ⟨us, hnb ((k1.below hb1).turn htk fun g hg hF => ?_), k2, fun x hx => hmo (k3 x hx), k4⟩
              rcases k4 with k4 | ⟨g', hg', hge⟩
              · exact hdis g (k4.symm.trans hg) hF
              · rw [hg] at hg'
                injection hg' with hg'
                have := hfl g hF
                omega
          have hS : SameL hs (hs'.set i ⟨.slice A2 xs.length c2, .slice A4 ys.length c4, xn⟩) := ⟨by rw [List.length_set]; exact hsl, fun j h hj => by
            by_cases e : j = i
            · subst e
              rw [List.getElem?_set_self (by omega)] at hj
              obtain rfl := Option.some.inj hj
              exact ⟨h0, hx0, HSM.out.1, HSM.out.2⟩
            · rw [List.getElem?_set_ne (fun e' => e e'.symm)] at hj
              exact hsame.2 j h hj⟩
          have hLL : ∀ h ∈ hs'.set i ⟨.slice A2 xs.length c2, .slice A4 ys.length c4, xn⟩, ∃ A n c, h.long = .slice A n c := fun h hm => by
            rcases List.mem_or_eq_of_mem_set hm with hm | rfl
            · exact hlong h hm
            · exact ⟨_, _, _, rfl⟩
          clear o9
          have FIN := Lib.hid (And.intro hS (And.intro o1 (And.intro hLL (And.intro hD hTT))))
          clear hrow1 hrowr hgr o1 hst hTT hD hS hLL hfl hor hoy hyl hym hlm halt hol hcm hc3 htk hox0 hox hbox hdi hxm hxm0
          have HLL2 := Lib.hid hll
          clear hll
          go_wp2
          go_roundw
          case rel =>
            obtain ⟨f1, f2, f3, f4, f5⟩ := FIN.out
            exact ⟨i + 1, by omega, by go_num, ⟨_, f1, f2, f3, f4⟩, f5⟩
          case measure => simp [intOf]; omega
    · have hil : i = hs.length := by omega
      subst hil
      go_wp2
      go_end0
      exact ⟨rfl, ⟨hs', hsame, hhr, hdi⟩, ht⟩

set_option maxHeartbeats 1000000 in
set_option maxRecDepth 100000 in
theorem lookPart_calls {base : Nat} {w : World} {B : Nat} {cs : Array Value} {v : Value} {hs : List Hd} {S0 : Nat} (hT : Tab10 w) (hobj : w.heap[B]? = some (.cells cs bookT (0, 0))) (hcs : cs[11]? = some v)
    (hh : Own Hd.enc 3 245 base w v hs) (hlen : hs.length ≤ 100000) (hn : ∀ h ∈ hs, h.n ≤ 100000) {SM : Nat} (hf : DonPart base w hs hs.length S0 SM) (hbase : 0 < base ∧ base ≤ w.heap.size) :
    Calls Tryz.prog 130 #[.pointer (some ⟨B, 0, none⟩)] w fun e w' => e = .returned (.bool true) ∧ Below w.heap.size w w' := by
  have hB := (Array.getElem?_eq_some_iff.1 hobj).1
  have hcell : ∀ W : World, Below w.heap.size w W → W.cell? ⟨B, 11, none⟩ = some v := fun W h => by rw [heap_cell ((h.block B hB).trans hobj)]; exact hcs
  obtain ⟨A, c, rfl, hlc, hc⟩ := hh.slice
  have HCELL := Lib.hid hcell
  clear hcell hobj hcs
  go_enter Tryz.func130, Tryz.ntmps130
  go_wp2
  go_loopw [3] (fun iv wr => ∃ i : Nat, i ≤ hs.length ∧ iv = .int .i64 i ∧ Below w.heap.size w wr) (fun iv _ => hs.length - (intOf iv).toNat)
  case atStart => exact ⟨0, Nat.zero_le _, rfl, Below.refl _ _⟩
  case round =>
    obtain ⟨i, hi, rfl, hb⟩ := hrel
    have hc7 := HCELL.out wr hb
    by_cases hlt : i < hs.length
    · obtain ⟨wo, rfl⟩ : ∃ wo : World, wo = wr := ⟨_, rfl⟩
      have hxi := List.getElem?_eq_getElem hlt
      have hnx := hn _ (List.getElem_mem hlt)
      obtain ⟨b, o, rfl, y1, y2, y3⟩ := ((hh.rd hd_len).below hb).hd hxi
      generalize hs[i] = x at *
      obtain ⟨xl, xlong, xn⟩ := x
      obtain ⟨xs, hox, hxl, hxm, hlong⟩ := hf i _ hxi
      obtain ⟨ys, hoy, hyl, hym, _⟩ := hlong hlt
      simp only at y1 y2 y3 hox hoy hnx hxm hym
      obtain ⟨A2, c2, rfl, hlc2, hc2⟩ := hox.slice
      obtain ⟨A3, c3, rfl, hlc3, hc3⟩ := hoy.slice
      have hbase2 := Nat.le_trans hbase.2 hb.size
      have hbb : Below base w wo := hb.mono hbase.2
      have hci : ∀ (W' : World) (gm : Nat), Below base w W' → MkPart W' SM xn (markPartV gm) → Calls Tryz.prog 211 #[.agg #[.int .u8 200, .slice (some ⟨gm, 0, none⟩) 1 1], .int .i64 xn] W' fun e w' => e = .returned (.bool true) ∧ Below W'.heap.size W' w' := fun W' gm h hg =>
        isPart_calls gm xn hnx W' (hT.keep h hbase.1) hg
      have hbox0 := alloc_new wo (.cells #[.slice A2 xs.length c2, .slice A3 ys.length c3, .int .i64 xn] 245)
      have hb1 : Below wo.heap.size wo (wo.alloc (.cells #[.slice A2 xs.length c2, .slice A3 ys.length c3, .int .i64 xn] 245)) := (Below.refl _ wo).alloc (Nat.le_refl _) _
      have hox1 := ((hox.rd pav_len).below hb).below hb1
      have hoy1 := ((hoy.rd pav_len).below hb).below hb1
      have hw1 := Below.step hb hb1
      have hsz1 : wo.heap.size < (wo.alloc (.cells #[.slice A2 xs.length c2, .slice A3 ys.length c3, .int .i64 xn] 245)).heap.size := by simp
      have hne : ((ys.length : Int) != (xs.length : Int) + 40) = false := by rw [hyl]; simp
      have hwr : IntKind.i64.wrap ((xs.length : Int) + 40) = (xs.length : Int) + 40 := by rw [IntKind.wrap_i64]; omega
      have HYL := Lib.hid hyl
      have HXI := Lib.hid (And.intro hxi (And.intro hxm hym))
      clear hyl hxi hox hoy hlong hxm hym
      go_wp2
      generalize hW1 : wo.alloc (.cells #[.slice A2 xs.length c2, .slice A3 ys.length c3, .int .i64 xn] 245) = W1 at *
      go_loopw [5] (fun kv wr => ∃ k : Nat, k ≤ ys.length ∧ kv = .int .i64 k ∧ Below W1.heap.size W1 wr) (fun kv _ => ys.length - (intOf kv).toNat)
      case atStart => exact ⟨0, Nat.zero_le _, rfl, Below.refl _ _⟩
      case round =>
        obtain ⟨k, hk, rfl, hbk⟩ := hrel
        have hbox := (hbk.block wo.heap.size hsz1).trans hbox0
        have d0 := heap_cell hbox 0
        have d1 := heap_cell hbox 1
        have d2 := heap_cell hbox 2
        simp only [List.getElem?_toArray, List.getElem?_cons_zero, List.getElem?_cons_succ] at d0 d1 d2
        have hbr : Below base w wr := (Below.step hw1 hbk).mono hbase.2
        have hbs : base ≤ wr.heap.size := Nat.le_trans hbase.2 hbr.size
        have hcp := fun (p : Later wr) (gm : Nat) (hg : MkPart wr SM xn (markPartV gm)) => hci p.val gm (hbr.trans (p.ok.mono hbs)) (hg.below p.ok)
        have e0 := fun p : Later wr => Later.cell p d0
        have e1 := fun p : Later wr => Later.cell p d1
        have e2 := fun p : Later wr => Later.cell p d2
        have hox2 := hox1.below hbk
        have hoy2 := hoy1.below hbk
        have hst := Below.step hw1 hbk
        have HYL := HYL
        have HXI := HXI
        clear hci hbox hbox0 hox1 hoy1 hW1 hb1 hbr hbb hbs
        by_cases hlk : k < ys.length
        · have hyk := List.getElem?_eq_getElem hlk
          obtain ⟨gm1, hmk, hmg⟩ := (HXI.out.2.2 _ (List.getElem_mem hlk)).shape
          have hcp1 := fun p : Later wr => hcp p gm1 (hmg.below hst)
          clear hmg
          obtain ⟨b3, o3, rfl, z1, z2⟩ := hoy2.pav hyk
          rw [hmk] at z1 z2
          simp only [markPartV] at z1 z2
          clear hyk hmk
          have f1 := fun p : Later wr => Later.cell p z1
          have f2 := fun p : Later wr => Later.cell p z2
          by_cases hlx : k < xs.length
          · have hxk := List.getElem?_eq_getElem hlx
            obtain ⟨gm2, hmx, hmg⟩ := (HXI.out.2.1 _ (List.getElem_mem hlx)).shape
            have hcp2 := fun p : Later wr => hcp p gm2 (hmg.below hst)
            clear hmg hcp
            obtain ⟨b4, o4, rfl, z3, z4⟩ := hox2.pav hxk
            rw [hmx] at z3 z4
            simp only [markPartV] at z3 z4
            clear hxk hmx
            have f3 := fun p : Later wr => Later.cell p z3
            have f4 := fun p : Later wr => Later.cell p z4
            clear z1 z2 z3 z4 hox2 hoy2
            go_wp2
            clear d0 d1 d2
            refine wp_region_later (by kernel_rfl) (by kernel_rfl) ?_
            repeat (go_big_quiet_step ((go_at_call 211; first | (with_reducible exact Calls.later (hcp1 _)) | (with_reducible exact Calls.later (hcp2 _)))))
            refine wpQuiet_nil ?_
            rintro _ ⟨p, rfl⟩
            clear e0 e1 e2 f1 f2 f3 f4 hcp1 hcp2
            go_wp2
            go_roundw
            case rel => exact ⟨k + 1, by omega, by go_num, Below.step hbk p.ok⟩
            case measure => simp [intOf]; omega
          · clear z1 z2 hox2 hoy2
            go_wp2
            clear d0 d1 d2
            refine wp_region_later (by kernel_rfl) (by kernel_rfl) ?_
            repeat (go_big_quiet_step ((go_at_call 211; with_reducible exact Calls.later (hcp1 _))))
            refine wpQuiet_nil ?_
            rintro _ ⟨p, rfl⟩
            clear e0 e1 e2 f1 f2 hcp hcp1
            go_wp2
            go_roundw
            case rel => exact ⟨k + 1, by omega, by go_num, Below.step hbk p.ok⟩
            case measure => simp [intOf]; omega
        · go_wp2
          go_roundw
          case rel => exact ⟨i + 1, by omega, by go_num, hst⟩
          case measure => simp [intOf]; omega
    · go_wp2
      go_ret
      exact ⟨rfl, hb⟩

end Go.Proofs.YtanjgeacmpmjhaaGreatDoor
