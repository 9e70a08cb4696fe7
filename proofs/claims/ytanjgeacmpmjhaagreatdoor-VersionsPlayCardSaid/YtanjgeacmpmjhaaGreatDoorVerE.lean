import Derived.Test.YtanjgeacmpmjhaaGreatDoorVerE0
import Derived.StillTailTactics
import Derived.Deep.RegionHeld3
set_option linter.unusedVariables false
set_option linter.unusedSimpArgs false
namespace Go.Proofs.YtanjgeacmpmjhaaGreatDoor
open Go.RowKit Go.Shelf

section
variable {base : Nat} {w : World} {B M n : Nat} {D : DataW Value} {hist : List (List Change)} {trim : Nat} {H : Hist}

theorem RdS.below {α : Type} {enc : α → List Value} {k base : Nat} {w w' : World} {v : Value} {xs : List α} (hk : ∀ x, (enc x).length = k) (hk0 : 0 < k) (h : RdS enc k base w v xs) (hb : Below w.heap.size w w') : RdS enc k base w' v xs := h.step hk hk0 (.of_below hb)

theorem take_all {cs : List Change} {k : Nat} {c : Change} (h : (cs.take k).all okChange = true) (hc : cs[k]? = some c) (ho : okChange c = true) : (cs.take (k + 1)).all okChange = true := by
  rw [List.take_add_one, hc, List.all_append, h]
  simp [ho]

theorem wrap_small {n : Int} (h0 : 0 ≤ n) (h1 : n ≤ 9000000000000000000) : IntKind.i64.wrap n = n := by rw [IntKind.wrap_i64]; omega

set_option maxHeartbeats 2000000 in
set_option maxRecDepth 100000 in
theorem pcommit_U {U : Nat → Prop} (h : PastAt base w B M n D hist trim H) (hUB : U B) (hUM : U M) (hUD : OwnD U D) (hnew : ∀ i, w.heap.size ≤ i → U i) {vc : Value} {cs : List Change} (hc : RdS Change.enc 3 base w vc cs) (hk : ∀ c ∈ cs, c.k.size ≤ 9223372036854775807) (hl : hist.flatten.length + cs.length ≤ 1000000) (hl2 : hist.length ≤ 1000000) :
    Calls Tryz.prog 37 #[.pointer (some ⟨B, 0, none⟩), vc] w
      fun e w' => ((cs.all okChange = true ∧ e = .returned (.tuple #[.int .u32 ((hist.length + 1 : Nat) : Int), .int .i64 0]) ∧ PastU base U w' B (hist ++ [cs]) trim) ∨
        (cs.all okChange = false ∧ e = .returned (.tuple #[.int .u32 0, .int .i64 1]) ∧ PastU base U w' B hist trim)) ∧ PStepU base U w w' := by
  obtain ⟨A, c, rfl, hlc, hcm⟩ := hc.1.shape
  go_enter Tryz.func37, Tryz.ntmps37
  go_wp2_with (go_at_call 132; refine (pthere_calls h).mono ?_; rintro e w1 ⟨rfl, rfl⟩)
  go_loopw [17] (fun i wr => ∃ k : Nat, k ≤ cs.length ∧ i = .int .i64 k ∧ Below w.heap.size w wr ∧ (cs.take k).all okChange = true) (fun i _ => cs.length - (intOf i).toNat)
  case atStart => exact ⟨0, Nat.zero_le _, rfl, Below.refl _ _, rfl⟩
  case round =>
    obtain ⟨k, hkl, rfl, hB, hall⟩ := hrel
    by_cases hlt : k < cs.length
    · have hck := List.getElem?_eq_getElem hlt
      have hmem : cs[k] ∈ cs := List.getElem_mem hlt
      have hks := hk _ hmem
      obtain ⟨b, o, rfl, hx1, hx2, hx3⟩ := (hc.below (k := 3) (fun _ => rfl) (by decide) hB).1.change hck
      generalize cs[k] = x at *
      obtain ⟨xk, xv, xg⟩ := x
      have hcheck := fun W => check_calls xk W hks
      cases hok : okChange ⟨xk, xv, xg⟩ with
      | false =>
        have hfin : cs.all okChange = false := by
          rw [Bool.eq_false_iff]
          intro e
          rw [List.all_eq_true] at e
          have := e _ hmem
          rw [hok] at this
          cases this
        unfold okChange at hok
        simp only at hok hcheck
        have HF := Lib.hid hfin
        clear hfin hmem hck hall
        generalize okKey xk = q at *
        by_cases hz : xv = 0
        all_goals
          cases q <;> cases xg <;> simp [hz] at hok
          all_goals
            go_wp2_with (go_at_call 89; refine (hcheck _).mono ?_; rintro e w1 ⟨rfl, hb1⟩; have cc1 := Below.cell_some hb1 (World.cell?_alloc_at (w := wr) _ _ wr.heap.size 1 rfl); have cc2 := Below.cell_some hb1 (World.cell?_alloc_at (w := wr) _ _ wr.heap.size 2 rfl))
            have hbb := hB.trans ((Below.step ((Below.refl _ wr).alloc (Nat.le_refl _) _) hb1).mono hB.size)
            go_ret2
            exact ⟨.inr ⟨HF.out, rfl, _, _, _, _, h.below hbb, hUB, hUM, hUD⟩, .of_below hbb⟩
      | true =>
        have hnext := take_all hall hck hok
        unfold okChange at hok
        simp only at hok hcheck
        have HN := Lib.hid hnext
        clear hnext hmem hck hall
        generalize okKey xk = q at *
        by_cases hz : xv = 0
        all_goals
          cases q <;> cases xg <;> simp [hz] at hok
          all_goals
            go_wp2_with (go_at_call 89; refine (hcheck _).mono ?_; rintro e w1 ⟨rfl, hb1⟩; have cc1 := Below.cell_some hb1 (World.cell?_alloc_at (w := wr) _ _ wr.heap.size 1 rfl); have cc2 := Below.cell_some hb1 (World.cell?_alloc_at (w := wr) _ _ wr.heap.size 2 rfl))
            have hbb := hB.trans ((Below.step ((Below.refl _ wr).alloc (Nat.le_refl _) _) hb1).mono hB.size)
            go_roundw
            case rel => exact ⟨k + 1, by omega, by go_num, hbb, HN.out⟩
            case measure => simp [intOf]; omega
    · have hfin : cs.all okChange = true := by rwa [List.take_of_length_le (by omega)] at hall
      have HF := Lib.hid hfin
      clear hall hfin
      have h2 := h.below hB
      have c1 := h2.c1
      have f1 := h2.f 1
      have hbase : base ≤ w.heap.size := by have := h.lt; have := h.low; omega
      have hob1 := obj_set1 h2.obj (.int .u32 ((hist.length : Int) + 1))
      have hm1 := h2.map_set 1 (.int .u32 ((hist.length : Int) + 1))
      have hps1 : PStepU base U w (wr.setCell ⟨B, 1, none⟩ (.int .u32 ((hist.length : Int) + 1))) := (PStepU.of_below hB).trans (.grown (grownBy_setCell_at wr B 1 _) (fun g e => by injection e with e; subst e; exact ⟨safe_past h2.obj h.low, hUB⟩))
      have hn0 := h.cnt
      go_wp2
      go_loopw [44] (fun i wr => ∃ (k n' : Nat) (D' : DataW Value), k ≤ cs.length ∧ i = .int .i64 k ∧ SMap Tryz.prog 9 klS okS Was.enc 3 149 base wr M n' D' (commitW ((hist.length : Int) + 1) H (cs.take k)) ∧ n' ≤ n + k ∧
        wr.heap[B]? = some (.cells #[.map (some M), .int .u32 ((hist.length : Int) + 1), .int .u32 (trim : Int)] 142 (0, 0)) ∧ PStepU base U w wr ∧ OwnD U D') (fun i _ => cs.length - (intOf i).toNat)
      case atStart => exact ⟨0, n, D, Nat.zero_le _, rfl, hm1, Nat.le_refl _, hob1, hps1, hUD⟩
      case round =>
        clear hm1 hob1 hps1 h2 c1 f1 hB
        obtain ⟨k, n', D', hkl, rfl, hM, hn', hob, hps, hOD⟩ := hrel
        by_cases hlt : k < cs.length
        · have hck := List.getElem?_eq_getElem hlt
          have hmem : cs[k] ∈ cs := List.getElem_mem hlt
          have hks := hk _ hmem
          obtain ⟨b, o, rfl, hx1, hx2, hx3⟩ := (hc.step (k := 3) (fun _ => rfl) (by decide) hps.step).1.change hck
          have hsn := commitW_snoc ((hist.length : Int) + 1) H cs k _ hck
          generalize cs[k] = x at *
          obtain ⟨xk, xv, xg⟩ := x
          simp only at hks hsn
          generalize hHk : commitW ((hist.length : Int) + 1) H (cs.take k) = Hk at *
          have hBa : Below wr.heap.size wr (wr.alloc (.cells #[.string xk, .int .u32 xv, .bool xg] 128)).drew := by
            have b := (Below.refl wr.heap.size wr).alloc (Nat.le_refl _) (.cells #[.string xk, .int .u32 xv, .bool xg] 128)
            exact ⟨b.os, b.tape, b.output, b.size, b.block⟩
          have hM2 := hM.below hBa
          have q0 : (wr.alloc (.cells #[.string xk, .int .u32 xv, .bool xg] 128)).drew.heap[wr.heap.size]? = some (.cells #[.string xk, .int .u32 xv, .bool xg] 128 (0, 0)) := alloc_at' _ rfl
          have hob2 := (hBa.block B (Array.getElem?_eq_some_iff.1 hob).1).trans hob
          have hps2 := hps.trans (.of_below hBa)
          have hz : (zeroValue 147).run Tryz.prog (wr.alloc (.cells #[.string xk, .int .u32 xv, .bool xg] 128)).drew = .ok nilS (wr.alloc (.cells #[.string xk, .int .u32 xv, .bool xg] 128)).drew := by simp [Tryz.zeroValue147]
          have hks' : okS xk := by unfold okS maxLen; omega
          obtain ⟨v, hrun, hat, ho⟩ := hM2.look keyS map_under hz hks'
          obtain ⟨A2, c2, rfl, hlc2, hcm2⟩ := ho.shape
          have d0 : (wr.alloc (.cells #[.string xk, .int .u32 xv, .bool xg] 128)).drew.cell? ⟨B, 0, none⟩ = some (.map (some M)) := by simp [World.cell?, hob2]
          have d1 : (wr.alloc (.cells #[.string xk, .int .u32 xv, .bool xg] 128)).drew.cell? ⟨B, 1, none⟩ = some (.int .u32 ((hist.length : Int) + 1)) := by simp [World.cell?, hob2]
          have e0 : (wr.alloc (.cells #[.string xk, .int .u32 xv, .bool xg] 128)).drew.cell? ⟨wr.heap.size, 0, none⟩ = some (.string xk) := World.cell?_alloc_at (w := wr) _ _ wr.heap.size 0 rfl
          have e1 : (wr.alloc (.cells #[.string xk, .int .u32 xv, .bool xg] 128)).drew.cell? ⟨wr.heap.size, 1, none⟩ = some (.int .u32 xv) := World.cell?_alloc_at (w := wr) _ _ wr.heap.size 1 rfl
          have e2 : (wr.alloc (.cells #[.string xk, .int .u32 xv, .bool xg] 128)).drew.cell? ⟨wr.heap.size, 2, none⟩ = some (.bool xg) := World.cell?_alloc_at (w := wr) _ _ wr.heap.size 2 rfl
          go_wp2
          go_region
          have hlen : (Hk xk).length ≤ 1000000 := by
            rw [← hHk]
            have := commitW_length ((hist.length : Int) + 1) xk (cs.take k) H
            have h3 := h.len xk
            rw [List.length_take] at this
            omega
          have hMw : wr.heap.size ≠ M := by
            have := hps.size
            have := h.map.own.lt
            omega
          clear hrun hz hM hob hps hBa
          generalize (wr.alloc (.cells #[.string xk, .int .u32 xv, .bool xg] 128)).drew = W2 at *
          have d0p := fun p : Later W2 => Later.cell p d0
          have d1p := fun p : Later W2 => Later.cell p d1
          rcases List.eq_nil_or_concat (Hk xk) with hnil | ⟨pre, y, hy⟩
          · have hcut : cutW ((hist.length : Int) + 1) (Hk xk) = [] := by rw [hnil]; rfl
            have hz0 : (Hk xk).length = 0 := by rw [hnil]; rfl
            have hnp : ¬ 0 < (Hk xk).length := by omega
            have hnd : decide (0 < (Hk xk).length) = false := decide_eq_false hnp
            clear hz0 d0 d1
            generalize (Hk xk).length = n2 at *
            rw [hnil] at ho
            go_wp2
            refine wp_region_later (by kernel_rfl) (by kernel_rfl) ?_
            repeat (go_big_quiet_step ((fail)))
            refine wpQuiet_nil ?_
            rintro _ ⟨p, rfl⟩
            replace e0 := Later.cell p e0
            replace e1 := Later.cell p e1
            replace e2 := Later.cell p e2
            have d0 := d0p p
            have d1 := d1p p
            replace hM2 := hM2.below p.ok
            replace q0 := (p.ok.block _ (Array.getElem?_eq_some_iff.1 q0).1).trans q0
            replace hob2 := (p.ok.block B (Array.getElem?_eq_some_iff.1 hob2).1).trans hob2
            replace hps2 := hps2.trans (.of_below p.ok)
            replace ho := ho.below p.ok
            clear d0p d1p
            generalize p.val = Wp at *
            have hBd : Below Wp.heap.size Wp Wp.drew := ⟨rfl, rfl, rfl, Nat.le_refl _, fun _ _ => rfl⟩
            have hbW : base ≤ Wp.drew.heap.size := by have := hps2.size; show base ≤ Wp.heap.size; omega
            have hnewW : ∀ i, Wp.drew.heap.size ≤ i → U i := fun i hi => hnew i (by have := hps2.size; have hi : Wp.heap.size ≤ i := hi; omega)
            have hoc : OwnO Was.enc 3 149 base Wp.drew (.slice A2 n2 c2) [] := ho.below hBd
            obtain ⟨A5, n5, c5, w5, w6, hap, hmu, hM6, ⟨hps6, hOD6⟩, hblk, hblk5⟩ := commit_tail (U := U) (hM2.below hBd) hks' (by omega) hat hoc rfl (by simp) hbW hUM hOD hnewW ⟨((hist.length : Int) + 1), xv, xg⟩
            have hfun : updS Hk xk ([] ++ [⟨((hist.length : Int) + 1), xv, xg⟩]) = commitW ((hist.length : Int) + 1) H (cs.take (k + 1)) := by
              rw [hsn]
              funext z
              unfold updS updW touch
              by_cases e : xk = z
              · subst e
                simp [hcut]
              · simp [e]
            rw [hfun] at hM6
            have hvB : (Value.slice A2 n2 c2).ownBlock ≠ some B := fun e => by
              obtain ⟨_, _, cur, hcc⟩ := ho.lt B e
              rw [hob2] at hcc
              injection hcc with hcc
              injection hcc with _ hcc
              exact absurd hcc (by decide)
            have hvC : (Value.slice A2 n2 c2).ownBlock ≠ some wr.heap.size := fun e => by
              obtain ⟨_, _, cur, hcc⟩ := ho.lt _ e
              rw [q0] at hcc
              injection hcc with hcc
              injection hcc with _ hcc
              exact absurd hcc (by decide)
            have hob6 := (hblk B (Array.getElem?_eq_some_iff.1 hob2).1 hvB (fun e => h.neM e.symm)).trans hob2
            have hrel6 : ∃ (k1 n1 : Nat) (D1 : DataW Value), k1 ≤ cs.length ∧ Value.int .i64 ((k : Int) + 1) = .int .i64 k1 ∧ SMap Tryz.prog 9 klS okS Was.enc 3 149 base w6 M n1 D1 (commitW ((hist.length : Int) + 1) H (cs.take k1)) ∧ n1 ≤ n + k1 ∧
                w6.heap[B]? = some (.cells #[.map (some M), .int .u32 ((hist.length : Int) + 1), .int .u32 (trim : Int)] 142 (0, 0)) ∧ PStepU base U w w6 ∧ OwnD U D1 :=
              ⟨k + 1, n' + 1, _, by omega, by congr 1, hM6, by omega, hob6, (hps2.trans (.of_below hBd)).trans hps6, hOD6⟩
            have hap2 : (Builtin.append_ #[147, 147] 147 #[.slice A2 n2 c2, .slice (some ⟨Wp.drew.heap.size, 0, none⟩) 1 1]).run Tryz.prog (Wp.drew.alloc (.cells #[.int .u32 ((hist.length : Int) + 1), .int .u32 xv, .bool xg] 149)) = .ok (.slice A5 n5 c5) w5 := hap
            have hBl := (Array.getElem?_eq_some_iff.1 hob2).1
            have d05 : w5.cell? ⟨B, 0, none⟩ = some (.map (some M)) := (World.cell?_of_block (w := Wp) (hblk5 B hBl hvB)).trans d0
            have e05 : w5.cell? ⟨wr.heap.size, 0, none⟩ = some (.string xk) := (World.cell?_of_block (w := Wp) (hblk5 _ (World.block_lt_of_cell? Wp _ e0) hvC)).trans e0
            have d15 : w5.cell? ⟨B, 1, none⟩ = some (.int .u32 ((hist.length : Int) + 1)) := (World.cell?_of_block (w := Wp) (hblk5 B hBl hvB)).trans d1
            have e15 : w5.cell? ⟨wr.heap.size, 1, none⟩ = some (.int .u32 xv) := (World.cell?_of_block (w := Wp) (hblk5 _ (World.block_lt_of_cell? Wp _ e1) hvC)).trans e1
            have e25 : w5.cell? ⟨wr.heap.size, 2, none⟩ = some (.bool xg) := (World.cell?_of_block (w := Wp) (hblk5 _ (World.block_lt_of_cell? Wp _ e2) hvC)).trans e2
            have hBM : B ≠ M := fun e => h.neM e.symm
            have d06 : w6.cell? ⟨B, 0, none⟩ = some (.map (some M)) := (World.cell?_of_block (w := Wp) (hblk _ hBl hvB hBM)).trans d0
            have d16 : w6.cell? ⟨B, 1, none⟩ = some (.int .u32 ((hist.length : Int) + 1)) := (World.cell?_of_block (w := Wp) (hblk _ hBl hvB hBM)).trans d1
            have e06 : w6.cell? ⟨wr.heap.size, 0, none⟩ = some (.string xk) := (World.cell?_of_block (w := Wp) (hblk _ (World.block_lt_of_cell? Wp _ e0) hvC hMw)).trans e0
            have e16 : w6.cell? ⟨wr.heap.size, 1, none⟩ = some (.int .u32 xv) := (World.cell?_of_block (w := Wp) (hblk _ (World.block_lt_of_cell? Wp _ e1) hvC hMw)).trans e1
            have e26 : w6.cell? ⟨wr.heap.size, 2, none⟩ = some (.bool xg) := (World.cell?_of_block (w := Wp) (hblk _ (World.block_lt_of_cell? Wp _ e2) hvC hMw)).trans e2
            have hba : Below Wp.heap.size Wp (Wp.alloc (.cells #[.int .u32 ((hist.length : Int) + 1), .int .u32 xv, .bool xg] 149)) := (Below.refl _ Wp).alloc (Nat.le_refl _) _
            have d0a := (hba.cell (p := ⟨B, 0, none⟩) hBl).trans d0
            have e0a := (hba.cell (p := ⟨wr.heap.size, 0, none⟩) (World.block_lt_of_cell? Wp _ e0)).trans e0
            have d1a := (hba.cell (p := ⟨B, 1, none⟩) hBl).trans d1
            have e1a := (hba.cell (p := ⟨wr.heap.size, 1, none⟩) (World.block_lt_of_cell? Wp _ e1)).trans e1
            have e2a := (hba.cell (p := ⟨wr.heap.size, 2, none⟩) (World.block_lt_of_cell? Wp _ e2)).trans e2
            clear hap hM6 hob6 hvB hvC hblk hblk5 hfun hcut hM2 hob2 hps2 ho hoc hat hsn hba hBl q0 hBM
            go_wp2
            go_region_held3 (fun w' => w'.cell? ⟨B, 0, none⟩ = some (.map (some M)) ∧ w'.cell? ⟨B, 1, none⟩ = some (.int .u32 ((hist.length : Int) + 1)) ∧ w'.cell? ⟨wr.heap.size, 0, none⟩ = some (.string xk) ∧ w'.cell? ⟨wr.heap.size, 1, none⟩ = some (.int .u32 xv) ∧ w'.cell? ⟨wr.heap.size, 2, none⟩ = some (.bool xg)) (go_keep) ((refine step_append_run rfl (.tmp 84) (.tmp 94) 147 rfl rfl rfl hap2 ?_))
            go_wp2
            exact ⟨hrel6, by simp [intOf]; omega⟩
          · rw [List.concat_eq_append] at hy
            have hcut := cutW_snoc ((hist.length : Int) + 1) pre y
            rw [← hy] at hcut
            obtain ⟨A3, c3, ee, _, _, hcell⟩ := ho.rd was_len
            injection ee with ee1 ee2 ee3
            subst ee1 ee3
            have hlp : (Hk xk).length = pre.length + 1 := by rw [hy]; simp
            obtain ⟨b2, o2, rfl, hcl⟩ := hcell (by omega)
            have hlast := hcl pre.length y (by rw [hy]; simp) 0 _ rfl
            rw [Nat.add_zero] at hlast
            have hlastp := fun p : Later W2 => Later.cell p hlast
            clear hcell hcl ee2 hlast d0 d1
            have hpl : pre.length < (Hk xk).length := by omega
            have hwr : IntKind.i64.wrap (((Hk xk).length : Int) - 1) = (pre.length : Int) := by
              rw [show ((Hk xk).length : Int) - 1 = (pre.length : Int) by omega]
              exact wrap_small (by omega) (by omega)
            have hpos : 0 < (Hk xk).length := by omega
            have HP := Lib.hid hlp
            clear hlp
            generalize (Hk xk).length = n2 at *
            by_cases heq : y.at_ = (hist.length : Int) + 1
            · have hd : decide (y.at_ = (hist.length : Int) + 1) = true := decide_eq_true heq
              rw [if_pos heq] at hcut
              have HQ := Lib.hid heq
              clear heq
              go_wp2
              refine wp_region_later (by kernel_rfl) (by kernel_rfl) ?_
              repeat (go_big_quiet_step ((fail)))
              refine wpQuiet_nil ?_
              rintro _ ⟨p, rfl⟩
              replace e0 := Later.cell p e0
              replace e1 := Later.cell p e1
              replace e2 := Later.cell p e2
              have d0 := d0p p
              have d1 := d1p p
              replace hM2 := hM2.below p.ok
              replace q0 := (p.ok.block _ (Array.getElem?_eq_some_iff.1 q0).1).trans q0
              replace hob2 := (p.ok.block B (Array.getElem?_eq_some_iff.1 hob2).1).trans hob2
              replace hps2 := hps2.trans (.of_below p.ok)
              replace ho := ho.below p.ok
              clear d0p d1p
              generalize p.val = Wp at *
              have hBd : Below Wp.heap.size Wp Wp.drew := ⟨rfl, rfl, rfl, Nat.le_refl _, fun _ _ => rfl⟩
              have hbW : base ≤ Wp.drew.heap.size := by have := hps2.size; show base ≤ Wp.heap.size; omega
              have hnewW : ∀ i, Wp.drew.heap.size ≤ i → U i := fun i hi => hnew i (by have := hps2.size; have hi : Wp.heap.size ≤ i := hi; omega)
              have hoc : OwnO Was.enc 3 149 base Wp.drew (.slice (some ⟨b2, o2, none⟩) pre.length pre.length) pre := by
                have := (ho.below hBd).cut was_len pre.length (by rw [hy]; simp)
                rwa [hy, List.take_left'] at this
                rfl
              have hpl' : pre.length ≤ 1000000 := by omega
              clear hlastp
              obtain ⟨A5, n5, c5, w5, w6, hap, hmu, hM6, ⟨hps6, hOD6⟩, hblk, hblk5⟩ := commit_tail (U := U) (hM2.below hBd) hks' (by omega) hat hoc rfl hpl' hbW hUM hOD hnewW ⟨((hist.length : Int) + 1), xv, xg⟩
              have hfun : updS Hk xk (pre ++ [⟨((hist.length : Int) + 1), xv, xg⟩]) = commitW ((hist.length : Int) + 1) H (cs.take (k + 1)) := by
                rw [hsn]
                funext z
                unfold updS updW touch
                by_cases e : xk = z
                · subst e
                  simp [hcut]
                · simp [e]
              rw [hfun] at hM6
              have hvB : (Value.slice (some ⟨b2, o2, none⟩) n2 c2).ownBlock ≠ some B := fun e => by
                obtain ⟨_, _, cur, hcc⟩ := ho.lt B e
                rw [hob2] at hcc
                injection hcc with hcc
                injection hcc with _ hcc
                exact absurd hcc (by decide)
              have hvC : (Value.slice (some ⟨b2, o2, none⟩) n2 c2).ownBlock ≠ some wr.heap.size := fun e => by
                obtain ⟨_, _, cur, hcc⟩ := ho.lt _ e
                rw [q0] at hcc
                injection hcc with hcc
                injection hcc with _ hcc
                exact absurd hcc (by decide)
              have hob6 := (hblk B (Array.getElem?_eq_some_iff.1 hob2).1 hvB (fun e => h.neM e.symm)).trans hob2
              have hrel6 : ∃ (k1 n1 : Nat) (D1 : DataW Value), k1 ≤ cs.length ∧ Value.int .i64 ((k : Int) + 1) = .int .i64 k1 ∧ SMap Tryz.prog 9 klS okS Was.enc 3 149 base w6 M n1 D1 (commitW ((hist.length : Int) + 1) H (cs.take k1)) ∧ n1 ≤ n + k1 ∧
                  w6.heap[B]? = some (.cells #[.map (some M), .int .u32 ((hist.length : Int) + 1), .int .u32 (trim : Int)] 142 (0, 0)) ∧ PStepU base U w w6 ∧ OwnD U D1 :=
                ⟨k + 1, n' + 1, _, by omega, by congr 1, hM6, by omega, hob6, (hps2.trans (.of_below hBd)).trans hps6, hOD6⟩
              have hap2 : (Builtin.append_ #[147, 147] 147 #[.slice (some ⟨b2, o2, none⟩) pre.length pre.length, .slice (some ⟨Wp.drew.heap.size, 0, none⟩) 1 1]).run Tryz.prog (Wp.drew.alloc (.cells #[.int .u32 ((hist.length : Int) + 1), .int .u32 xv, .bool xg] 149)) = .ok (.slice A5 n5 c5) w5 := hap
              have hBl := (Array.getElem?_eq_some_iff.1 hob2).1
              have d05 : w5.cell? ⟨B, 0, none⟩ = some (.map (some M)) := (World.cell?_of_block (w := Wp) (hblk5 B hBl hvB)).trans d0
              have e05 : w5.cell? ⟨wr.heap.size, 0, none⟩ = some (.string xk) := (World.cell?_of_block (w := Wp) (hblk5 _ (World.block_lt_of_cell? Wp _ e0) hvC)).trans e0
              have d15 : w5.cell? ⟨B, 1, none⟩ = some (.int .u32 ((hist.length : Int) + 1)) := (World.cell?_of_block (w := Wp) (hblk5 B hBl hvB)).trans d1
              have e15 : w5.cell? ⟨wr.heap.size, 1, none⟩ = some (.int .u32 xv) := (World.cell?_of_block (w := Wp) (hblk5 _ (World.block_lt_of_cell? Wp _ e1) hvC)).trans e1
              have e25 : w5.cell? ⟨wr.heap.size, 2, none⟩ = some (.bool xg) := (World.cell?_of_block (w := Wp) (hblk5 _ (World.block_lt_of_cell? Wp _ e2) hvC)).trans e2
              have hBM : B ≠ M := fun e => h.neM e.symm
              have d06 : w6.cell? ⟨B, 0, none⟩ = some (.map (some M)) := (World.cell?_of_block (w := Wp) (hblk _ hBl hvB hBM)).trans d0
              have d16 : w6.cell? ⟨B, 1, none⟩ = some (.int .u32 ((hist.length : Int) + 1)) := (World.cell?_of_block (w := Wp) (hblk _ hBl hvB hBM)).trans d1
              have e06 : w6.cell? ⟨wr.heap.size, 0, none⟩ = some (.string xk) := (World.cell?_of_block (w := Wp) (hblk _ (World.block_lt_of_cell? Wp _ e0) hvC hMw)).trans e0
              have e16 : w6.cell? ⟨wr.heap.size, 1, none⟩ = some (.int .u32 xv) := (World.cell?_of_block (w := Wp) (hblk _ (World.block_lt_of_cell? Wp _ e1) hvC hMw)).trans e1
              have e26 : w6.cell? ⟨wr.heap.size, 2, none⟩ = some (.bool xg) := (World.cell?_of_block (w := Wp) (hblk _ (World.block_lt_of_cell? Wp _ e2) hvC hMw)).trans e2
              have hba : Below Wp.heap.size Wp (Wp.alloc (.cells #[.int .u32 ((hist.length : Int) + 1), .int .u32 xv, .bool xg] 149)) := (Below.refl _ Wp).alloc (Nat.le_refl _) _
              have d0a := (hba.cell (p := ⟨B, 0, none⟩) hBl).trans d0
              have e0a := (hba.cell (p := ⟨wr.heap.size, 0, none⟩) (World.block_lt_of_cell? Wp _ e0)).trans e0
              have d1a := (hba.cell (p := ⟨B, 1, none⟩) hBl).trans d1
              have e1a := (hba.cell (p := ⟨wr.heap.size, 1, none⟩) (World.block_lt_of_cell? Wp _ e1)).trans e1
              have e2a := (hba.cell (p := ⟨wr.heap.size, 2, none⟩) (World.block_lt_of_cell? Wp _ e2)).trans e2
              clear hap hM6 hob6 hvB hvC hblk hblk5 hfun hcut hM2 hob2 hps2 ho hoc hat hsn hba hBl q0 hBM
              go_wp2
              rotate_left
              · have hcc : (y.at_ == (hist.length : Int) + 1) = false := by assumption
                rw [HQ.out] at hcc
                simp at hcc
              go_region_held3 (fun w' => w'.cell? ⟨B, 0, none⟩ = some (.map (some M)) ∧ w'.cell? ⟨B, 1, none⟩ = some (.int .u32 ((hist.length : Int) + 1)) ∧ w'.cell? ⟨wr.heap.size, 0, none⟩ = some (.string xk) ∧ w'.cell? ⟨wr.heap.size, 1, none⟩ = some (.int .u32 xv) ∧ w'.cell? ⟨wr.heap.size, 2, none⟩ = some (.bool xg)) (go_keep) ((refine step_append_run rfl (.tmp 84) (.tmp 94) 147 rfl rfl rfl hap2 ?_))
              go_wp2
              exact ⟨hrel6, by simp [intOf]; omega⟩
            · have hd : decide (y.at_ = (hist.length : Int) + 1) = false := decide_eq_false heq
              rw [if_neg heq] at hcut
              have HQ := Lib.hid heq
              clear heq
              go_wp2
              refine wp_region_later (by kernel_rfl) (by kernel_rfl) ?_
              repeat (go_big_quiet_step ((fail)))
              refine wpQuiet_nil ?_
              rintro _ ⟨p, rfl⟩
              replace e0 := Later.cell p e0
              replace e1 := Later.cell p e1
              replace e2 := Later.cell p e2
              have d0 := d0p p
              have d1 := d1p p
              replace hM2 := hM2.below p.ok
              replace q0 := (p.ok.block _ (Array.getElem?_eq_some_iff.1 q0).1).trans q0
              replace hob2 := (p.ok.block B (Array.getElem?_eq_some_iff.1 hob2).1).trans hob2
              replace hps2 := hps2.trans (.of_below p.ok)
              replace ho := ho.below p.ok
              clear d0p d1p
              generalize p.val = Wp at *
              have hBd : Below Wp.heap.size Wp Wp.drew := ⟨rfl, rfl, rfl, Nat.le_refl _, fun _ _ => rfl⟩
              have hbW : base ≤ Wp.drew.heap.size := by have := hps2.size; show base ≤ Wp.heap.size; omega
              have hnewW : ∀ i, Wp.drew.heap.size ≤ i → U i := fun i hi => hnew i (by have := hps2.size; have hi : Wp.heap.size ≤ i := hi; omega)
              have hoc : OwnO Was.enc 3 149 base Wp.drew (.slice (some ⟨b2, o2, none⟩) n2 c2) (Hk xk) := ho.below hBd
              have hpl' : (Hk xk).length ≤ 1000000 := by rw [hy]; simp; omega
              clear hlastp
              obtain ⟨A5, n5, c5, w5, w6, hap, hmu, hM6, ⟨hps6, hOD6⟩, hblk, hblk5⟩ := commit_tail (U := U) (hM2.below hBd) hks' (by omega) hat hoc rfl hpl' hbW hUM hOD hnewW ⟨((hist.length : Int) + 1), xv, xg⟩
              have hfun : updS Hk xk (Hk xk ++ [⟨((hist.length : Int) + 1), xv, xg⟩]) = commitW ((hist.length : Int) + 1) H (cs.take (k + 1)) := by
                rw [hsn]
                funext z
                unfold updS updW touch
                by_cases e : xk = z
                · subst e
                  simp [hcut]
                · simp [e]
              rw [hfun] at hM6
              have hvB : (Value.slice (some ⟨b2, o2, none⟩) n2 c2).ownBlock ≠ some B := fun e => by
                obtain ⟨_, _, cur, hcc⟩ := ho.lt B e
                rw [hob2] at hcc
                injection hcc with hcc
                injection hcc with _ hcc
                exact absurd hcc (by decide)
              have hvC : (Value.slice (some ⟨b2, o2, none⟩) n2 c2).ownBlock ≠ some wr.heap.size := fun e => by
                obtain ⟨_, _, cur, hcc⟩ := ho.lt _ e
                rw [q0] at hcc
                injection hcc with hcc
                injection hcc with _ hcc
                exact absurd hcc (by decide)
              have hob6 := (hblk B (Array.getElem?_eq_some_iff.1 hob2).1 hvB (fun e => h.neM e.symm)).trans hob2
              have hrel6 : ∃ (k1 n1 : Nat) (D1 : DataW Value), k1 ≤ cs.length ∧ Value.int .i64 ((k : Int) + 1) = .int .i64 k1 ∧ SMap Tryz.prog 9 klS okS Was.enc 3 149 base w6 M n1 D1 (commitW ((hist.length : Int) + 1) H (cs.take k1)) ∧ n1 ≤ n + k1 ∧
                  w6.heap[B]? = some (.cells #[.map (some M), .int .u32 ((hist.length : Int) + 1), .int .u32 (trim : Int)] 142 (0, 0)) ∧ PStepU base U w w6 ∧ OwnD U D1 :=
                ⟨k + 1, n' + 1, _, by omega, by congr 1, hM6, by omega, hob6, (hps2.trans (.of_below hBd)).trans hps6, hOD6⟩
              have hap2 : (Builtin.append_ #[147, 147] 147 #[.slice (some ⟨b2, o2, none⟩) n2 c2, .slice (some ⟨Wp.drew.heap.size, 0, none⟩) 1 1]).run Tryz.prog (Wp.drew.alloc (.cells #[.int .u32 ((hist.length : Int) + 1), .int .u32 xv, .bool xg] 149)) = .ok (.slice A5 n5 c5) w5 := hap
              have hBl := (Array.getElem?_eq_some_iff.1 hob2).1
              have d05 : w5.cell? ⟨B, 0, none⟩ = some (.map (some M)) := (World.cell?_of_block (w := Wp) (hblk5 B hBl hvB)).trans d0
              have e05 : w5.cell? ⟨wr.heap.size, 0, none⟩ = some (.string xk) := (World.cell?_of_block (w := Wp) (hblk5 _ (World.block_lt_of_cell? Wp _ e0) hvC)).trans e0
              have d15 : w5.cell? ⟨B, 1, none⟩ = some (.int .u32 ((hist.length : Int) + 1)) := (World.cell?_of_block (w := Wp) (hblk5 B hBl hvB)).trans d1
              have e15 : w5.cell? ⟨wr.heap.size, 1, none⟩ = some (.int .u32 xv) := (World.cell?_of_block (w := Wp) (hblk5 _ (World.block_lt_of_cell? Wp _ e1) hvC)).trans e1
              have e25 : w5.cell? ⟨wr.heap.size, 2, none⟩ = some (.bool xg) := (World.cell?_of_block (w := Wp) (hblk5 _ (World.block_lt_of_cell? Wp _ e2) hvC)).trans e2
              have hBM : B ≠ M := fun e => h.neM e.symm
              have d06 : w6.cell? ⟨B, 0, none⟩ = some (.map (some M)) := (World.cell?_of_block (w := Wp) (hblk _ hBl hvB hBM)).trans d0
              have d16 : w6.cell? ⟨B, 1, none⟩ = some (.int .u32 ((hist.length : Int) + 1)) := (World.cell?_of_block (w := Wp) (hblk _ hBl hvB hBM)).trans d1
              have e06 : w6.cell? ⟨wr.heap.size, 0, none⟩ = some (.string xk) := (World.cell?_of_block (w := Wp) (hblk _ (World.block_lt_of_cell? Wp _ e0) hvC hMw)).trans e0
              have e16 : w6.cell? ⟨wr.heap.size, 1, none⟩ = some (.int .u32 xv) := (World.cell?_of_block (w := Wp) (hblk _ (World.block_lt_of_cell? Wp _ e1) hvC hMw)).trans e1
              have e26 : w6.cell? ⟨wr.heap.size, 2, none⟩ = some (.bool xg) := (World.cell?_of_block (w := Wp) (hblk _ (World.block_lt_of_cell? Wp _ e2) hvC hMw)).trans e2
              have hba : Below Wp.heap.size Wp (Wp.alloc (.cells #[.int .u32 ((hist.length : Int) + 1), .int .u32 xv, .bool xg] 149)) := (Below.refl _ Wp).alloc (Nat.le_refl _) _
              have d0a := (hba.cell (p := ⟨B, 0, none⟩) hBl).trans d0
              have e0a := (hba.cell (p := ⟨wr.heap.size, 0, none⟩) (World.block_lt_of_cell? Wp _ e0)).trans e0
              have d1a := (hba.cell (p := ⟨B, 1, none⟩) hBl).trans d1
              have e1a := (hba.cell (p := ⟨wr.heap.size, 1, none⟩) (World.block_lt_of_cell? Wp _ e1)).trans e1
              have e2a := (hba.cell (p := ⟨wr.heap.size, 2, none⟩) (World.block_lt_of_cell? Wp _ e2)).trans e2
              clear hap hM6 hob6 hvB hvC hblk hblk5 hfun hcut hM2 hob2 hps2 ho hoc hat hsn hba hBl q0 hBM
              go_wp2
              · have hcc : (y.at_ == (hist.length : Int) + 1) = true := by assumption
                exact (HQ.out (by simpa using hcc)).elim
              go_region_held3 (fun w' => w'.cell? ⟨B, 0, none⟩ = some (.map (some M)) ∧ w'.cell? ⟨B, 1, none⟩ = some (.int .u32 ((hist.length : Int) + 1)) ∧ w'.cell? ⟨wr.heap.size, 0, none⟩ = some (.string xk) ∧ w'.cell? ⟨wr.heap.size, 1, none⟩ = some (.int .u32 xv) ∧ w'.cell? ⟨wr.heap.size, 2, none⟩ = some (.bool xg)) (go_keep) ((refine step_append_run rfl (.tmp 84) (.tmp 94) 147 rfl rfl rfl hap2 ?_))
              go_wp2
              exact ⟨hrel6, by simp [intOf]; omega⟩
        · have e : cs.take k = cs := List.take_of_length_le (by omega)
          rw [e] at hM
          have hN : ((hist.length + 1 : Nat) : Int) = (hist.length : Int) + 1 := by omega
          have hp := h.past.commit cs (List.all_eq_true.1 HF.out)
          rw [hN] at hp
          have hfl : (hist ++ [cs]).flatten.length = hist.flatten.length + cs.length := by simp
          have hln : (((hist ++ [cs]).length : Nat) : Int) = (hist.length : Int) + 1 := by simp
          have hP : PastU base U wr B (hist ++ [cs]) trim := ⟨M, n', D', _, ⟨by rw [hln]; exact hob, hM, hp, h.low, by rw [hfl]; omega, fun z => by
            have h1 := commitW_length ((hist.length : Int) + 1) z cs H
            have h2 := h.len z
            rw [hfl]
            omega⟩, hUB, hUM, hOD⟩
          have d1 : wr.cell? ⟨B, 1, none⟩ = some (.int .u32 ((hist.length : Int) + 1)) := by simp [World.cell?, hob]
          clear hM hp hob
          go_wp2
          go_ret2
          exact ⟨.inl ⟨HF.out, by rw [hN]; rfl, hP⟩, hps⟩
theorem pcommit_calls (h : PastAt base w B M n D hist trim H) {vc : Value} {cs : List Change} (hc : RdS Change.enc 3 base w vc cs) (hk : ∀ c ∈ cs, c.k.size ≤ 9223372036854775807) (hl : hist.flatten.length + cs.length ≤ 1000000) (hl2 : hist.length ≤ 1000000) :
    Calls Tryz.prog 37 #[.pointer (some ⟨B, 0, none⟩), vc] w
      fun e w' => ((cs.all okChange = true ∧ e = .returned (.tuple #[.int .u32 ((hist.length + 1 : Nat) : Int), .int .i64 0]) ∧ PastP base w' B (hist ++ [cs]) trim) ∨
        (cs.all okChange = false ∧ e = .returned (.tuple #[.int .u32 0, .int .i64 1]) ∧ PastP base w' B hist trim)) ∧ PStep base w w' := by
  refine (pcommit_U (U := fun _ => True) h trivial trivial (OwnD.all _) (fun _ _ => trivial) hc hk hl hl2).mono ?_
  rintro e w' ⟨⟨h1, h2, hP⟩ | ⟨h1, h2, hP⟩, hs⟩
  · exact ⟨.inl ⟨h1, h2, hP.past⟩, hs.step⟩
  · exact ⟨.inr ⟨h1, h2, hP.past⟩, hs.step⟩
end

end Go.Proofs.YtanjgeacmpmjhaaGreatDoor
