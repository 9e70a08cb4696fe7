import Derived.Test.YtanjgeacmpmjhaaGreatDoorR19
import Derived.Test.YtanjgeacmpmjhaaGreatDoorMgPlansRun37
import Derived.Test.YtanjgeacmpmjhaaGreatDoorPlLive
import Derived.Test.YtanjgeacmpmjhaaGreatDoorTwOpn
import Derived.Test.YtanjgeacmpmjhaaGreatDoorRes
set_option linter.unusedVariables false
set_option linter.unusedSimpArgs false
set_option linter.unusedSectionVars false
namespace Go.Proofs.YtanjgeacmpmjhaaGreatDoor
open Go.RowKit

theorem Tab10.low {w : World} (h : Tab10 w) : 0 < w.heap.size := by
  unfold Tab10 Lib.TabIs World.var? at h
  rw [show Tryz.prog.globalNamed "internal/strconv.uint64pow10" = some 0 by kernel_rfl] at h
  simp only [Option.bind_some] at h
  rcases Nat.lt_or_ge 0 w.heap.size with h' | h'
  · exact h'
  · rw [Array.getElem?_eq_none h'] at h; cases h
theorem sameRows_eq (v u : Value) (xs : List Row) (w : World) (hv : Rd Row.enc 2 w v xs) (hu : Rd Row.enc 2 w u xs) :
    Calls Tryz.prog 20 #[v, u] w fun e w' => e = .returned (.bool true) ∧ Below w.heap.size w w' := by
  have := sameRows_calls v u xs xs w hv hu
  rw [decide_eq_true rfl] at this
  exact this
theorem sameResults_eq (v u : Value) (rs : List (List Row)) (w : World) (hv : RdRes w v rs) (hu : RdRes w u rs) :
    Calls Tryz.prog 73 #[v, u] w fun e w' => e = .returned (.bool true) ∧ Below w.heap.size w w' := by
  have := sameResults_calls v u rs rs w hv hu
  rw [decide_eq_true rfl] at this
  exact this
theorem same_eq (v u : Value) (rs : List (List Row)) (w : World) (hv : RdRes w v rs) (hu : RdRes w u rs) :
    Calls Tryz.prog 76 #[v, u] w fun e w' => e = .returned (.bool true) ∧ Below w.heap.size w w' := by
  have := same_calls v u rs rs w hv hu
  rw [decide_eq_true rfl] at this
  exact this
theorem ownBlock_slice (A : Option Addr) (n m c d : Nat) : (Value.slice A n c).ownBlock = (Value.slice A m d).ownBlock := by cases A <;> rfl

/-! ### a run's results, its rows, its code -/
def rOut (rows : List Row) (ops : List Opn) : List (List Row) := match runP rows ops with | some p => p.1 | none => []
def rLeft (rows : List Row) (ops : List Opn) : List Row := match runP rows ops with | some p => p.2 | none => []
def rCode (rows : List Row) (ops : List Opn) : Int := match runP rows ops with | some _ => 0 | none => 1
theorem rOut_len (rows : List Row) (ops : List Opn) : (rOut rows ops).length ≤ ops.length := by
  unfold rOut runP
  split
  · rename_i p h
    split at h
    · injection h with h; rw [← h]; simp only; rw [outsR_len]; exact Nat.le_refl _
    · cases h
  · simp
theorem rLeft_len (rows : List Row) (ops : List Opn) : (rLeft rows ops).length ≤ rows.length + ops.length := by
  unfold rLeft runP
  split
  · rename_i p h
    split at h
    · injection h with h; rw [← h]; simp only
      have h1 := rowsR_len ops (stM rows)
      have h2 : (stM rows).length ≤ rows.length := by
        have := stM_len rows []
        have h3 : (stM rows).length ≤ ([] : List Row).length + rows.length := this
        simpa using h3
      omega
    · cases h
  · simp
theorem tellD_len (x : Opn) (m : List Row) : (tellD x m).length ≤ 256 := by
  unfold tellD
  split
  · simp
  · rw [List.length_take]; omega
theorem outsR_each : ∀ (m : List Row) (l : List Opn), ∀ r ∈ outsR m l, r.length ≤ 256
  | _, [], r, h => by cases h
  | m, x :: l, r, h => by
    rcases List.mem_cons.1 h with rfl | h
    · exact tellD_len x m
    · exact outsR_each _ l r h
theorem rOut_each (rows : List Row) (ops : List Opn) : ∀ r ∈ rOut rows ops, r.length ≤ 256 := by
  unfold rOut runP
  split
  · rename_i p h
    split at h
    · injection h with h; rw [← h]; exact outsR_each _ _
    · cases h
  · intro r hr; cases hr
theorem plRunU (v u : Value) (rows : List Row) (ops : List Opn) (w : World) (hv : Rd Row.enc 2 w v rows) (hu : Rd Opn.enc 4 w u ops) (hl : rows.length ≤ 1000) (hl2 : ops.length ≤ 1000)
    (hs : ∀ x ∈ rows, x.k.size ≤ 9223372036854775807) (hs2 : ∀ x ∈ ops, x.k.size ≤ 9223372036854775807 ∧ x.t.size ≤ 9223372036854775807) :
    Calls Tryz.prog 71 #[v, u] w fun e w' => ∃ A c A' c', e = .returned (.tuple #[.slice A (rOut rows ops).length (rOut rows ops).length, .slice A' (rLeft rows ops).length c', .int .i64 (rCode rows ops)]) ∧ Below w.heap.size w w' ∧
      ResL w.heap.size w' (.slice A (rOut rows ops).length c) (rOut rows ops) (fun g => (Value.slice A' (rLeft rows ops).length c').ownBlock ≠ some g) ∧ Own Row.enc 2 44 w.heap.size w' (.slice A' (rLeft rows ops).length c') (rLeft rows ops) := by
  refine (plRun_calls v u rows ops w hv hu hl hl2 hs hs2).mono ?_
  rintro e w' ⟨hb, ⟨h', rfl⟩ | ⟨rs, left, A, n, c, A', n', c', h', rfl, hR, hL⟩⟩
  · unfold rOut rLeft rCode; rw [h']
    exact ⟨none, 0, none, 0, rfl, hb, ResL.nil _ _ _, .nil _ _ _ _ _⟩
  · unfold rOut rLeft rCode; rw [h']
    obtain ⟨A2, c2, e2, _⟩ := hL.slice
    injection e2 with e21 e22 e23
    subst e21 e22 e23
    have hn : n = rs.length := by
      obtain ⟨ss, ho, hl, _⟩ := hR
      obtain ⟨A3, c3, e3, _⟩ := ho.slice
      injection e3 with _ e3 _
      omega
    subst hn
    exact ⟨A, c, A', c', rfl, hb, hR, hL⟩
theorem rRunU (v u : Value) (rows : List Row) (ops : List Opn) (w : World) (hv : Rd Row.enc 2 w v rows) (hu : Rd Opn.enc 4 w u ops) (hl : rows.length ≤ 1000) (hl2 : ops.length ≤ 1000)
    (hs : ∀ x ∈ rows, x.k.size ≤ 9223372036854775807) (hs2 : ∀ x ∈ ops, x.k.size ≤ 9223372036854775807 ∧ x.t.size ≤ 9223372036854775807) :
    Calls Tryz.prog 72 #[v, u] w fun e w' => ∃ v u, e = .returned (.tuple #[v, u, .int .i64 (rCode rows ops)]) ∧ Below w.heap.size w w' ∧ RdRes w' v (rOut rows ops) ∧ Rd Row.enc 2 w' u (rLeft rows ops) := by
  refine (rRun19_calls v u rows ops w hv hu hl hl2 hs hs2).mono ?_
  rintro e w' ⟨hb, ⟨h', rfl⟩ | ⟨rs, left, v, u, h', rfl, hR, hL⟩⟩
  · unfold rOut rLeft rCode; rw [h']
    exact ⟨_, _, rfl, hb, ⟨[], (Own.nil SlV.enc 1 174 0 w').rd slv_len, rfl, fun i s r h => by simp at h⟩, (Own.nil Row.enc 2 44 0 w').rd row_len⟩
  · unfold rOut rLeft rCode; rw [h']
    exact ⟨v, u, rfl, hb, hR, hL⟩
theorem ResL.turnT {b base : Nat} {w w' : World} {v : Value} {rs : List (List Row)} {N : Nat → Prop} {ts : List TypeId} (h : ResL b w v rs N) (t : TurnT base w w' ts) (h1 : 174 ∉ ts) (h2 : 44 ∉ ts) : ResL b w' v rs N :=
  h.mono (fun g _ ⟨cur, e⟩ => (t.heap e h1).trans e.symm) (fun g ⟨cur, e⟩ hN => ⟨(t.heap e h2).trans e.symm, hN⟩)
theorem Own.turnTb {α : Type} {enc : α → List Value} {k : Nat} {E : TypeId} {b base : Nat} {w w' : World} {v : Value} {xs : List α} {ts : List TypeId} (o : Own enc k E b w v xs) (h : TurnT base w w' ts) (hE : E ∉ ts) : Own enc k E b w' v xs :=
  o.turn h.choose_spec.1 fun g hg => by
    obtain ⟨_, cur, e⟩ := o.typed g hg
    exact h.spare e hE

set_option maxHeartbeats 4000000 in
set_option maxRecDepth 100000 in
theorem plansRun_walk (v u z : Value) (rows : List Row) (ops : List Opn) (rs : List (List Row)) (W : World) (hv : Rd Row.enc 2 W v rows) (hu : Rd Opn.enc 4 W u ops) (hz : RdRes W z rs) (hs : ∀ x ∈ rows, x.ok) (hs2 : ∀ x ∈ ops, x.ok) (hT : Tab10 W) :
    Calls Tryz.prog 7 #[v, u, z] W fun e w' => e = .returned (.bool true) ∧ Below W.heap.size W w' := by
  obtain ⟨A, c, rfl, hlc, hc⟩ := hv.shape
  obtain ⟨Au, cu, rfl, hlcu, hcu⟩ := hu.shape
  obtain ⟨Az, cz, rfl⟩ : ∃ A c, z = .slice A rs.length c := by
    obtain ⟨ss, h1, h2, _⟩ := hz
    obtain ⟨A, c, e, _⟩ := h1.shape
    exact ⟨A, c, by rw [e, h2]⟩
  have hlv := plives_calls W hT
  by_cases hlen : rows.length ≤ 400
  rotate_left
  · have h1 : (400 : Int) < (rows.length : Int) := by omega
    go_enter Tryz.func7, Tryz.ntmps7
    go_wp2_with (go_at_call 61; refine hlv.mono ?_; rintro e w9 ⟨rfl, hb9⟩)
    go_ret
    exact ⟨rfl, hb9⟩
  by_cases hlen2 : ops.length ≤ 100
  rotate_left
  · have h1 : (100 : Int) < (ops.length : Int) := by omega
    have h0 : ¬ (400 : Int) < (rows.length : Int) := by omega
    go_enter Tryz.func7, Tryz.ntmps7
    go_wp2_with (go_at_call 61; refine hlv.mono ?_; rintro e w9 ⟨rfl, hb9⟩)
    go_ret
    exact ⟨rfl, hb9⟩
  by_cases hlen3 : rs.length ≤ 100
  rotate_left
  · have h1 : (100 : Int) < (rs.length : Int) := by omega
    have h0 : ¬ (400 : Int) < (rows.length : Int) := by omega
    have h2 : ¬ (100 : Int) < (ops.length : Int) := by omega
    go_enter Tryz.func7, Tryz.ntmps7
    go_wp2_with (go_at_call 61; refine hlv.mono ?_; rintro e w9 ⟨rfl, hb9⟩)
    go_ret
    exact ⟨rfl, hb9⟩
  have hk : ∀ x ∈ rows, x.k.size ≤ 9223372036854775807 := fun x hx => by
    have h1 := (hs x hx).1
    unfold small at h1
    omega
  have hko : ∀ x ∈ ops, x.k.size ≤ 9223372036854775807 ∧ x.t.size ≤ 9223372036854775807 := fun x hx => by
    obtain ⟨_, h1, h2, _⟩ := hs2 x hx
    unfold small at h1 h2
    omega
  have h0 : ¬ (400 : Int) < (rows.length : Int) := by omega
  have h2 : ¬ (100 : Int) < (ops.length : Int) := by omega
  have h3 : ¬ (100 : Int) < (rs.length : Int) := by omega
  have hrl := rOut_len rows ops
  have hll := rLeft_len rows ops
  have hre := rOut_each rows ops
  have htr := twinRows_calls _ rows W hv (by omega)
  have hrun := fun (w' : World) (x y : Value) (hx : Rd Row.enc 2 w' x rows) (hy : Rd Opn.enc 4 w' y ops) => plRunU x y rows ops w' hx hy (by omega) (by omega) hk hko
  have hrrun := fun (w' : World) (hb : Below W.heap.size W w') => rRunU _ _ rows ops w' (hv.below hb) (hu.below hb) (by omega) (by omega) hk hko
  generalize rOut rows ops = outs at *
  generalize rLeft rows ops = left at *
  generalize rCode rows ops = code at *
  have HRL := Lib.hid (And.intro hrl (And.intro hll hre))
  have hrs := hT.low
  have HT := Lib.hid hT
  clear hs hs2 hk hko hrl hll hre hT hlv
  go_enter Tryz.func7, Tryz.ntmps7
  go_upto_region 11 with (first
    | (go_at_call 69; refine htr.mono ?_; rintro e w1 ⟨Ax, cx, rfl, ox1, h1⟩; clear htr; have b1 := h1)
    | (go_at_call 70; refine (twinOps_calls _ ops _ (hu.below b1) (by omega)).mono ?_; rintro e w2 ⟨Ay, cy, rfl, oy2, h2⟩; have ox2 := ox1.below h2; have b2 := Below.step b1 h2; have hlx := ox2.lt; have hly := oy2.lt; replace oy2 := oy2.lower b1.size; clear ox1)
    | (go_at_call 71; refine (hrun _ _ _ ((ox2.shorter row_len).rd row_len) ((oy2.shorter opn_len).rd opn_len)).mono ?_; rintro e w3 ⟨Aa, ca, Ab, cb, rfl, h3, ra3, ob3⟩; clear hrun; have ox3 := ox2.below h3; have oy3 := oy2.below h3; have b3 := Below.step b2 h3; clear ox2 oy2)
    | (go_at_call 72; refine (hrrun _ b3).mono ?_; rintro e w4 ⟨vc, vd, rfl, h4, rc4, rd4⟩; clear hrrun; have ox4 := ox3.below h4; have oy4 := oy3.below h4; have ra4 := ra3.below h4; have ob4 := ob3.below h4; have b4 := Below.step b3 h4; obtain ⟨sc, hc1, hc2, hc3⟩ := rc4; obtain ⟨Ac, cc, rfl, _, _⟩ := hc1.shape; have rc4 : RdRes w4 (.slice Ac sc.length cc) outs := ⟨sc, hc1, hc2, hc3⟩; clear hc1 hc3; replace hc2 := Lib.hid hc2; obtain ⟨Ad, cd, rfl, _, _⟩ := rd4.shape; clear ox3 oy3 ra3 ob3)
    | (go_at_call 73; refine (sameResults_eq _ _ outs _ ra4.rd rc4).mono ?_; rintro e w5 ⟨rfl, h5⟩; have ox5 := ox4.below h5; have oy5 := oy4.below h5; have ra5 := ra4.below h5; have ob5 := ob4.below h5; have rc5 := rc4.below h5; have rd5 := rd4.below h5; have b5 := Below.step b4 h5; clear ox4 oy4 ra4 ob4 rc4 rd4)
    | (go_at_call 20; refine (sameRows_eq _ _ left _ (ob5.rd row_len) rd5).mono ?_; rintro e w6 ⟨rfl, h6⟩; have ox6 := ox5.below h6; have oy6 := oy5.below h6; have ra6 := ra5.below h6; have ob6 := ob5.below h6; have rc6 := rc5.below h6; have b6 := Below.step b5 h6; clear ox5 oy5 ra5 ob5 rc5 rd5)
    | (go_at_call 74; refine (leftRows_calls _ _ _ rows _ (ox6.rd row_len) (hv.below b6)).mono ?_; rintro e w7 ⟨rfl, h7⟩; have ox7 := ox6.below h7; have oy7 := oy6.below h7; have ra7 := ra6.below h7; have ob7 := ob6.below h7; have rc7 := rc6.below h7; have b7 := Below.step b6 h7; clear ox6 oy6 ra6 ob6 rc6)
    | (go_at_call 75; refine (leftOps_calls _ _ _ ops _ (oy7.rd opn_len) (hu.below b7)).mono ?_; rintro e w8 ⟨rfl, h8⟩; have ox8 := ox7.below h8; have oy8 := oy7.below h8; have ra8 := ra7.below h8; have ob8 := ob7.below h8; have rc8 := rc7.below h8; have b8 := Below.step b7 h8; clear ox7 oy7 ra7 ob7 rc7)
    | (go_at_call 76; have := rc10; refine (same_eq _ _ outs _ ra10.rd rc10).mono ?_; rintro e w11 ⟨rfl, h11⟩; have ox11 := ox10.below h11; have oy11 := oy10.below h11; have ra11 := ra10.below h11; have ob11 := ob10.below h11; have b11 := Below.step b10 h11; clear this; clear ox10 oy10 ra10 ob10 rc10)
    | (go_at_call 77; refine (rsame19_calls _ _ outs rs _ rc9 (hz.below b9)).mono ?_; rintro e w10 ⟨rfl, h10⟩; have ox10 := ox9.below h10; have oy10 := oy9.below h10; have ra10 := ra9.below h10; have ob10 := ob9.below h10; have rc10 := rc9.below h10; have b10 := Below.step b9 h10; clear ox9 oy9 ra9 ob9 rc9)
    | (go_at_call 76; refine (same_calls _ _ outs rs _ ra8.rd (hz.below b8)).mono ?_; rintro e w9 ⟨rfl, h9⟩; have ox9 := ox8.below h9; have oy9 := oy8.below h9; have ra9 := ra8.below h9; have ob9 := ob8.below h9; have rc9 := rc8.below h9; have b9 := Below.step b8 h9; clear ox8 oy8 ra8 ob8 rc8))
  have bK : Below w11.heap.size w11 (w11.alloc (.cells #[.int .i64 0, nilV, nilV, nilV, nilV, nilV, nilV, nilV, nilV, nilV, nilV, nilV, nilV] bookT)) := (Below.refl _ w11).alloc (Nat.le_refl _) _
  have k12 := BookROR.start W.heap.size w11 b11.size
  have ox12 := ox11.below bK
  have oy12 := oy11.below bK
  have ra12 := ra11.below bK
  have ob12 := ob11.below bK
  have b12 := Below.step b11 bK
  obtain ⟨hrl, hll, hre⟩ := HRL.out
  clear ox11 oy11 ra11 ob11 b11 bK h1 h2 h3 h4 h5 h6 h7 h8 h9 h10 h11
  go_upto_region 12 with fail
  generalize w11.alloc (.cells #[.int .i64 0, nilV, nilV, nilV, nilV, nilV, nilV, nilV, nilV, nilV, nilV, nilV, nilV] bookT) = w12 at *
  generalize w11.heap.size = K at *
  have hsx : ∀ g, (Value.slice Ax rows.length cx).ownBlock = some g → g < w2.heap.size := fun g hg => hlx g (by rw [← hg]; exact ownBlock_slice ..)
  go_upto_region 14 with (first
    | (go_at_call 22; refine (k12.tellRow (by simp) (by omega) b12.size (ox12.shorter row_len) (by omega) (fun g _ hb => by obtain ⟨y, hy, _⟩ := hb; cases hy)).mono ?_; rintro e w13 ⟨rfl, ⟨vR1, k13⟩, t13⟩; have oy13 := t13.own oy12 (by decide); have ra13 := ra12.turnT t13 (by decide) (by decide); have ob13 := ob12.turnTb t13 (by decide); have b13 := b12.trans (t13.below b12.size); clear ox12 oy12 ra12 ob12 k12 t13)
    | (go_at_call 78; refine (k13.tellOp (by simp) (by omega) b13.size (oy13.shorter opn_len) (by omega) (fun g _ hb => by obtain ⟨y, hy, _⟩ := hb; cases hy)).mono ?_; rintro e w14 ⟨rfl, ⟨vO1, k14⟩, t14⟩; have ra14 := ra13.turnT t14 (by decide) (by decide); have ob14 := ob13.turnTb t14 (by decide); have b14 := b13.trans (t14.below b13.size); clear oy13 ra13 ob13 k13 t14))
  obtain ⟨ss, hso, hsl, hsr, hsp⟩ := ra14
  have hca : outs.length ≤ ca := by
    obtain ⟨_, _, e, h1, _⟩ := hso.slice
    injection e with _ e2 e3
    omega
  have hsk : OwnK SlV.enc 1 174 W.heap.size w14 (.slice Aa ss.length outs.length) ss := by
    rw [hsl]
    exact ((OwnK.of hso).clip (Nat.le_refl _) hca).lower b2.size
  have htell := k14.tellResult (rs := outs) hsk hsl (fun i s r h1 h2 => (hsr i s r h1 h2).1.lower b2.size) (fun r hr => by have := hre r hr; omega) hsp (fun s hs g hg hb => by
      obtain ⟨i, hi⟩ := List.mem_iff_getElem?.1 hs
      have hir : i < outs.length := by rw [← hsl]; exact (List.getElem?_eq_some_iff.1 hi).1
      have hge := (hsr i s _ hi (List.getElem?_eq_getElem hir)).1.base_le g hg
      obtain ⟨y, hy, hgy⟩ := hb
      simp only [List.nil_append, List.mem_singleton] at hy
      subst hy
      have := hsx g hgy
      omega) (fun g _ hb => by obtain ⟨y, hy, _⟩ := hb; cases hy) (by simp; omega) (by simp) (by omega) b14.size
  have hSN : ∀ s ∈ ss, ∀ g, s.val.ownBlock = some g → (Value.slice Ab left.length cb).ownBlock ≠ some g := fun s hs g hg => by
    obtain ⟨i, hi⟩ := List.mem_iff_getElem?.1 hs
    have hir : i < outs.length := by rw [← hsl]; exact (List.getElem?_eq_some_iff.1 hi).1
    exact (hsr i s _ hi (List.getElem?_eq_getElem hir)).2 g hg
  have hsl2 : ss.length ≤ 100 := by omega
  rw [hsl] at htell
  have HSN := Lib.hid hSN
  clear hso hsl hsr hsp hsk hca hSN
  go_upto_region 15 with (go_at_call 79; refine htell.mono ?_; rintro e w15 ⟨rfl, ⟨n15, vR2, hsR2, vX2, hn15, hl15, hb15, k15⟩, t15⟩; have ob15 := ob14.turnTb t15 (by decide); have b15 := b14.trans (t15.below b14.size); clear ob14 k14 t15 htell)
  have hobb := ob15.base_le
  simp only [List.nil_append, List.length_singleton] at hl15 hb15
  go_wp2_with (first
    | (go_at_call 22; refine (k15.tellRow (by omega) (by omega) b15.size (ob15.lower b2.size) (by omega) (fun g hg hb => by
        rcases hb15 g hb with hb | ⟨s, hs, hgs⟩
        · obtain ⟨y, hy, hgy⟩ := hb
          simp only [List.mem_singleton] at hy
          subst hy
          have := hsx g hgy
          have := hobb g hg
          omega
        · exact HSN.out s hs g hgs hg)).mono ?_; rintro e w16 ⟨rfl, ⟨vR3, k16⟩, t16⟩; have b16 := b15.trans (t16.below b15.size); clear t16)
    | (go_at_call 30; refine (k16.apart (HT.out.stays b16) ⟨hrs, b16.size⟩).mono ?_; rintro e w17 ⟨rfl, h17⟩; have b17 := b16.trans h17)
    | (go_at_call 61; refine (plives_calls _ (HT.out.stays b17)).mono ?_; rintro e w18 ⟨rfl, h18⟩))
  go_ret
  exact ⟨rfl, Below.step b17 h18⟩

end Go.Proofs.YtanjgeacmpmjhaaGreatDoor
