/-
  The law concordatlaw14.VersionsSince: where nothing of a span changed since a commit, it is now as it was behind that; what a commit changes is told of it, and not of one behind it. No condition.
-/
import Derived.Test.YtimadkbdkdeepaaVLaw
import Derived.Test.YtimadkbdkdeepaaTwRow
import Derived.Deep.RegionHeld3
set_option linter.unusedVariables false
set_option linter.unusedSimpArgs false
namespace Go.Proofs.Ytimadkbdkdeepaa
open Go.RowKit Go.Shelf

theorem sinceH_new {hist : List (List Change)} {c : Change} {f t : ByteArray} : sinceH (hist ++ [[c]]) hist.length f t = meet4 c.k c.k f t := by
  unfold sinceH
  rw [List.drop_left']
  · simp
  · rfl
theorem sinceH_none {hist : List (List Change)} {n : Nat} {f t : ByteArray} (h : hist.length ≤ n) : sinceH hist n f t = false := by
  unfold sinceH
  rw [List.drop_of_length_le h]; rfl
theorem meet_one {k : ByteArray} : meet4 k k k k = true := meet4_true.2 ⟨sle_refl _, sle_refl _, sle_refl _, sle_refl _⟩
theorem getL_new {hist : List (List Change)} {c : Change} : getL c.k (rowsN (hist ++ [[c]]) (hist.length + 1)) = if c.g then none else some c.v := by
  rw [getL_rowsN, List.take_of_length_le (by simp), List.flatten_append, List.foldl_append]
  simp only [List.flatten_cons, List.flatten_nil, List.append_nil, List.foldl_cons, List.foldl_nil]
  unfold stepK
  rw [if_pos rfl]

set_option maxHeartbeats 2000000 in
set_option maxRecDepth 100000 in
theorem versionsSince_walk (v : Value) (xs : List VAct) (s : Span) (mi : Int) (cg : Change) (w : World) (hv : Rd VAct.enc 3 w v xs) (hlen : xs.length * 40 ≤ 140737488351232) (hok : ∀ x ∈ xs, x.ok w) (hm : (Lit.int .u32 mi).wf = true) (hs : s.ok) (hcok : cg.ok) :
    Calls Try.prog 4 #[.agg #[v, .string s.f, .string s.t, .int .u32 mi, .string cg.k, .int .u32 cg.v, .bool cg.g]] w fun e w' => e = .returned (.bool true) ∧ Below w.heap.size w w' := by
  obtain ⟨m, rfl⟩ : ∃ m : Nat, mi = m := nat_of_u32 hm
  clear hm
  have hgr := fun (W : World) (hb : Below w.heap.size w W) => vgreat_calls v xs W (hv.below hb) (by omega) (fun x hx => (hok x hx).below hb)
  obtain ⟨A, cp, rfl, hlc, hcp⟩ := hv.shape
  obtain ⟨sf, st⟩ := s
  obtain ⟨ck, cv, cg⟩ := cg
  simp only
  go_enter Try.func4, Try.ntmps4
  generalize hW0 : ((w.alloc (.cells #[.slice A xs.length cp, .string sf, .string st, .int .u32 m, .string ck, .int .u32 cv, .bool cg] 50)).alloc (.cells #[.string sf, .string st] 42)).alloc (.cells #[.string ck, .int .u32 cv, .bool cg] 48) = W0
  have hBa : Below w.heap.size w W0 := by rw [← hW0]; exact (((Below.refl _ w).alloc (Nat.le_refl _) _).alloc (by simp) _).alloc (by simp; omega) _
  have z0 : W0.cell? ⟨w.heap.size + 1, 0, none⟩ = some (.string sf) := by
    rw [← hW0, World.cell?_alloc_past _ _ _ (by simp), World.cell?_alloc_at _ _ _ _ (by simp)]; rfl
  have z1 : W0.cell? ⟨w.heap.size + 1, 1, none⟩ = some (.string st) := by
    rw [← hW0, World.cell?_alloc_past _ _ _ (by simp), World.cell?_alloc_at _ _ _ _ (by simp)]; rfl
  have k0 : W0.cell? ⟨w.heap.size + 1 + 1, 0, none⟩ = some (.string ck) := by rw [← hW0, World.cell?_alloc_at _ _ _ _ (by simp)]; rfl
  have k1 : W0.cell? ⟨w.heap.size + 1 + 1, 1, none⟩ = some (.int .u32 cv) := by rw [← hW0, World.cell?_alloc_at _ _ _ _ (by simp)]; rfl
  have k2 : W0.cell? ⟨w.heap.size + 1 + 1, 2, none⟩ = some (.bool cg) := by rw [← hW0, World.cell?_alloc_at _ _ _ _ (by simp)]; rfl
  have HW := Lib.hid hW0
  clear hW0
  go_wp2_with (first
    | (go_at_call 7; rw [HW.out]; refine (hgr _ hBa).mono ?_; rintro e w1 ⟨⟨g, rfl, hgo⟩, hb1⟩; cases g)
    | (go_at_call 8; refine (lives_calls _).mono ?_; rintro e w2 ⟨rfl, hb2⟩)
    | (go_at_call 9; refine (pnew_calls _).mono ?_; rintro e w2 ⟨rfl, hb2, hP2⟩))
  rotate_left
  · go_ret
    exact ⟨rfl, Below.step (Below.step hBa hb1) hb2⟩
  obtain ⟨hn60, hs600⟩ := hgo (by simp)
  have hkb : w.heap.size + 1 + 1 < w1.heap.size := Nat.lt_of_lt_of_le (World.block_lt_of_cell? W0 _ k0) hb1.size
  have hB1 := Below.step hBa hb1
  have hBz := Below.step hb1 hb2
  have hbase4 := hb1.size
  clear hb1 hgr hgo hBa HW
  have hbase := hB1.size
  have hbase2 := hb2.size
  have hbase3 := hBz.size
  go_loopw [8] (fun iv wr => ∃ k : Nat, k ≤ xs.length ∧ iv = .int .i64 k ∧ PastI w1.heap.size w2 (w1.heap.size + 1) (sumA (xs.take k)) k wr) (fun iv _ => xs.length - (intOf iv).toNat)
  case atStart => exact ⟨0, Nat.zero_le _, rfl, [], 0, hP2, by simp, by simp, PStep.refl _ _⟩
  case round =>
    clear hP2
    obtain ⟨k, hk, rfl, hI⟩ := hrel
    have hBw : Below w.heap.size w wr := Below.step hB1 (hb2.trans (hI.below hbase2))
    by_cases hlt : k < xs.length
    · have hxk := List.getElem?_eq_getElem hlt
      have hxo := hok _ (List.getElem_mem hlt)
      have hsn := sumA_take xs k _ hxk
      have hsl := sumA_le xs (k + 1)
      obtain ⟨bb, o, rfl, hx1, hx2, hx3⟩ := (hv.below hBw).vact hxk
      generalize xs[k] = x at *
      obtain ⟨xq, xv, xc, xa⟩ := x
      have htr := vtrim_I hI (by omega) hxo.at_
      have hco := vcommit_I hI (RdS.of_low change_len (by decide) hxo.rd hBw hbase) hxo.each (by simp only at hsn ⊢; omega) (by omega)
      simp only at htr hco hx1 hx2 hx3 hsn
      have HS := Lib.hid hsn
      clear hsn hxo hxk hok hI
      go_wp2_with (first
        | (go_at_call 10; refine htr.mono ?_; rintro e w3 ⟨⟨r, rfl⟩, hI3⟩)
        | (go_at_call 11; refine hco.mono ?_; rintro e w3 ⟨⟨r1, r2, rfl⟩, hI3⟩))
      all_goals
        go_roundw
        case rel => exact ⟨k + 1, by omega, by go_num, hI3.mono (by rw [HS.out]; omega) (by omega)⟩
        case measure => simp [intOf]; omega
    · have hkl : k = xs.length := by omega
      subst hkl
      rw [List.take_length] at hI
      have hBr := hI.below hbase2
      have hBx := hBz.trans (hBr.mono hbase4)
      replace z0 := Below.cell_some hBx z0
      replace z1 := Below.cell_some hBx z1
      replace k0 := Below.cell_some hBx k0
      replace k1 := Below.cell_some hBx k1
      replace k2 := Below.cell_some hBx k2
      obtain ⟨hist, trim, hP, hh1, hh2, hps⟩ := hI
      have htl := hP.le
      have hcks : ck.size ≤ 9223372036854775807 := by have := hcok.1; unfold small at this; simp only at this; omega
      have hcko : okS ck := by have := hcok.1; unfold small at this; simp only at this; unfold okS maxLen; omega
      cases hr : (decide (m < trim) || sinceH hist m sf st) with
      | true =>
        have hq := fun p : Later wr => vsince_lit m sf st true hr (by omega) (hP.below p.ok)
        have d0 := fun p : Later wr => Later.cell p z0
        have d1 := fun p : Later wr => Later.cell p z1
        clear z0 z1 hok hps
        go_wp2
        refine wp_region_later (by kernel_rfl) (by kernel_rfl) ?_
        repeat (go_big_quiet_step ((go_at_call 15; exact Calls.later (hq _))))
        refine wpQuiet_nil ?_
        rintro _ ⟨p, rfl⟩
        replace hP := hP.below p.ok
        replace hBw := Below.step hBw p.ok
        replace k0 := Later.cell p k0
        replace k1 := Later.cell p k1
        replace k2 := Later.cell p k2
        clear hq d0 d1
        generalize p.val = Wt at *
        cases cg with
        | true =>
          have cm := fun W (h : PastP w1.heap.size W (w1.heap.size + 1) hist trim) => vcommit_any [(⟨ck, cv, true⟩ : Change)] (by simpa using hcks) (by simp only [List.length_cons, List.length_nil]; omega) (by omega) h
          have hfl : (hist ++ [[(⟨ck, cv, true⟩ : Change)]]).flatten.length ≤ 1000000 := by rw [List.flatten_append, List.length_append]; simp only [List.flatten_cons, List.flatten_nil, List.append_nil, List.length_cons, List.length_nil]; omega
          have v1 : (decide (hist.length < trim) || sinceH (hist ++ [[(⟨ck, cv, true⟩ : Change)]]) hist.length ck ck) = true := by rw [sinceH_new, meet_one, Bool.or_true]
          have v2 : (decide (hist.length + 1 < trim) || sinceH (hist ++ [[(⟨ck, cv, true⟩ : Change)]]) (hist.length + 1) ck ck) = false := by rw [sinceH_none (by simp), Bool.or_false, decide_eq_false_iff_not]; omega
          have hgl : getL ck (rowsN (hist ++ [[(⟨ck, cv, true⟩ : Change)]]) (max (hist.length + 1) trim)) = none := by
            rw [show max (hist.length + 1) trim = hist.length + 1 by omega]
            exact getL_new (c := ⟨ck, cv, true⟩)
          have g1 : ∀ W, PastP w1.heap.size W (w1.heap.size + 1) (hist ++ [[(⟨ck, cv, true⟩ : Change)]]) trim → Calls Try.prog 12 #[.pointer (some ⟨w1.heap.size + 1, 0, none⟩), .int .u32 ((hist.length : Int) + 1), .string ck] W
              fun e w' => ∃ n, e = .returned (.tuple #[.int .u32 n, .bool (Option.isSome none)]) ∧ (∀ u, none = some u → n = u) ∧ Below W.heap.size W w' := fun W h => vget_lit (hist.length + 1) ck _ hgl hcko hfl h
          have s1 := fun W (h : PastP w1.heap.size W (w1.heap.size + 1) (hist ++ [[(⟨ck, cv, true⟩ : Change)]]) trim) => vsince_lit hist.length ck ck true v1 hfl h
          have s2 : ∀ W, PastP w1.heap.size W (w1.heap.size + 1) (hist ++ [[(⟨ck, cv, true⟩ : Change)]]) trim → Calls Try.prog 15 #[.pointer (some ⟨w1.heap.size + 1, 0, none⟩), .int .u32 ((hist.length : Int) + 1), .agg #[.string ck, .string ck]] W
              fun e w' => e = .returned (.bool false) ∧ Below W.heap.size W w' := fun W h => vsince_lit (hist.length + 1) ck ck false v2 hfl h
          clear v1 v2 hgl hfl
          have hh3 : hist.length ≤ 60 := by omega
          go_wp2_with (first
            | (go_at_call 16; refine (pnow_P hP).mono ?_; rintro e w8 ⟨rfl, rfl⟩)
            | (go_at_call 11; refine (cm _ hP).mono ?_; rintro e w9 ⟨⟨hck, rfl, hP9⟩ | ⟨hck, rfl, hP9⟩, hps9⟩
               all_goals (have hb9 := hps9.below (Nat.le_of_lt (Nat.lt_of_le_of_lt hP.lt.1 hP.lt.2)); clear hP hck hps9 cm; replace hBw := hBw.trans (hb9.mono hbase); replace k0 := (hb9.cell (p := ⟨w.heap.size + 1 + 1, 0, none⟩) hkb).trans k0; replace k1 := (hb9.cell (p := ⟨w.heap.size + 1 + 1, 1, none⟩) hkb).trans k1; replace k2 := (hb9.cell (p := ⟨w.heap.size + 1 + 1, 2, none⟩) hkb).trans k2; clear hb9)
               rotate_left
               have hP := hP9
               clear hP9
               rotate_left
               have hba : Below w9.heap.size w9 (w9.alloc (.cells #[.string ck, .string ck] 42)) := (Below.refl _ _).alloc (Nat.le_refl _) _
               have ka0 := Below.cell_some hba k0
               have ka1 := Below.cell_some hba k1
               have ka2 := Below.cell_some hba k2
               have q0 : (w9.alloc (.cells #[.string ck, .string ck] 42)).cell? ⟨w9.heap.size, 0, none⟩ = some (.string ck) := World.cell?_alloc_at (w := w9) _ _ w9.heap.size 0 rfl
               have q1 : (w9.alloc (.cells #[.string ck, .string ck] 42)).cell? ⟨w9.heap.size, 1, none⟩ = some (.string ck) := World.cell?_alloc_at (w := w9) _ _ w9.heap.size 1 rfl)
            | (go_at_call 12; refine (g1 _ (hP9.below hba)).mono ?_; rintro e w10 ⟨n3, rfl, hn3, hb4⟩; clear hn3 g1; replace hBw := Below.step (Below.step hBw hba) hb4; replace k0 := Below.cell_some hb4 ka0; replace k1 := Below.cell_some hb4 ka1; replace k2 := Below.cell_some hb4 ka2; replace q0 := Below.cell_some hb4 q0; replace q1 := Below.cell_some hb4 q1; replace hP9 := (hP9.below hba).below hb4; clear hb4 hba ka0 ka1 ka2)
            | (go_at_call 15; refine (s1 _ hP9).mono ?_; rintro e w11 ⟨rfl, hb4⟩; clear s1; replace hBw := Below.step hBw hb4; replace k0 := Below.cell_some hb4 k0; replace k1 := Below.cell_some hb4 k1; replace k2 := Below.cell_some hb4 k2; replace q0 := Below.cell_some hb4 q0; replace q1 := Below.cell_some hb4 q1; replace hP9 := hP9.below hb4; clear hb4)
            | (go_at_call 15; refine (s2 _ hP9).mono ?_; rintro e w12 ⟨rfl, hb4⟩; clear s2; replace hBw := Below.step hBw hb4; replace k0 := Below.cell_some hb4 k0; replace k1 := Below.cell_some hb4 k1; replace k2 := Below.cell_some hb4 k2; replace q0 := Below.cell_some hb4 q0; replace q1 := Below.cell_some hb4 q1; replace hP9 := hP9.below hb4; clear hb4)
            | (go_at_call 8; refine (lives_calls _).mono ?_; rintro e w17 ⟨rfl, hb4⟩; replace hBw := Below.step hBw hb4; replace k0 := Below.cell_some hb4 k0; replace k1 := Below.cell_some hb4 k1; replace k2 := Below.cell_some hb4 k2; clear hb4))
          all_goals
            go_ret
            exact ⟨rfl, hBw⟩
        | false =>
          have cm := fun W (h : PastP w1.heap.size W (w1.heap.size + 1) hist trim) => vcommit_any [(⟨ck, cv, false⟩ : Change)] (by simpa using hcks) (by simp only [List.length_cons, List.length_nil]; omega) (by omega) h
          have hfl : (hist ++ [[(⟨ck, cv, false⟩ : Change)]]).flatten.length ≤ 1000000 := by rw [List.flatten_append, List.length_append]; simp only [List.flatten_cons, List.flatten_nil, List.append_nil, List.length_cons, List.length_nil]; omega
          have v1 : (decide (hist.length < trim) || sinceH (hist ++ [[(⟨ck, cv, false⟩ : Change)]]) hist.length ck ck) = true := by rw [sinceH_new, meet_one, Bool.or_true]
          have v2 : (decide (hist.length + 1 < trim) || sinceH (hist ++ [[(⟨ck, cv, false⟩ : Change)]]) (hist.length + 1) ck ck) = false := by rw [sinceH_none (by simp), Bool.or_false, decide_eq_false_iff_not]; omega
          have hgl : getL ck (rowsN (hist ++ [[(⟨ck, cv, false⟩ : Change)]]) (max (hist.length + 1) trim)) = (some cv) := by
            rw [show max (hist.length + 1) trim = hist.length + 1 by omega]
            exact getL_new (c := ⟨ck, cv, false⟩)
          have g1 : ∀ W, PastP w1.heap.size W (w1.heap.size + 1) (hist ++ [[(⟨ck, cv, false⟩ : Change)]]) trim → Calls Try.prog 12 #[.pointer (some ⟨w1.heap.size + 1, 0, none⟩), .int .u32 ((hist.length : Int) + 1), .string ck] W
              fun e w' => ∃ n, e = .returned (.tuple #[.int .u32 n, .bool (Option.isSome (some cv))]) ∧ (∀ u, (some cv) = some u → n = u) ∧ Below W.heap.size W w' := fun W h => vget_lit (hist.length + 1) ck _ hgl hcko hfl h
          have s1 := fun W (h : PastP w1.heap.size W (w1.heap.size + 1) (hist ++ [[(⟨ck, cv, false⟩ : Change)]]) trim) => vsince_lit hist.length ck ck true v1 hfl h
          have s2 : ∀ W, PastP w1.heap.size W (w1.heap.size + 1) (hist ++ [[(⟨ck, cv, false⟩ : Change)]]) trim → Calls Try.prog 15 #[.pointer (some ⟨w1.heap.size + 1, 0, none⟩), .int .u32 ((hist.length : Int) + 1), .agg #[.string ck, .string ck]] W
              fun e w' => e = .returned (.bool false) ∧ Below W.heap.size W w' := fun W h => vsince_lit (hist.length + 1) ck ck false v2 hfl h
          clear v1 v2 hgl hfl
          have hh3 : hist.length ≤ 60 := by omega
          go_wp2_with (first
            | (go_at_call 16; refine (pnow_P hP).mono ?_; rintro e w8 ⟨rfl, rfl⟩)
            | (go_at_call 11; refine (cm _ hP).mono ?_; rintro e w9 ⟨⟨hck, rfl, hP9⟩ | ⟨hck, rfl, hP9⟩, hps9⟩
               all_goals (have hb9 := hps9.below (Nat.le_of_lt (Nat.lt_of_le_of_lt hP.lt.1 hP.lt.2)); clear hP hck hps9 cm; replace hBw := hBw.trans (hb9.mono hbase); replace k0 := (hb9.cell (p := ⟨w.heap.size + 1 + 1, 0, none⟩) hkb).trans k0; replace k1 := (hb9.cell (p := ⟨w.heap.size + 1 + 1, 1, none⟩) hkb).trans k1; replace k2 := (hb9.cell (p := ⟨w.heap.size + 1 + 1, 2, none⟩) hkb).trans k2; clear hb9)
               rotate_left
               have hP := hP9
               clear hP9
               rotate_left
               have hba : Below w9.heap.size w9 (w9.alloc (.cells #[.string ck, .string ck] 42)) := (Below.refl _ _).alloc (Nat.le_refl _) _
               have ka0 := Below.cell_some hba k0
               have ka1 := Below.cell_some hba k1
               have ka2 := Below.cell_some hba k2
               have q0 : (w9.alloc (.cells #[.string ck, .string ck] 42)).cell? ⟨w9.heap.size, 0, none⟩ = some (.string ck) := World.cell?_alloc_at (w := w9) _ _ w9.heap.size 0 rfl
               have q1 : (w9.alloc (.cells #[.string ck, .string ck] 42)).cell? ⟨w9.heap.size, 1, none⟩ = some (.string ck) := World.cell?_alloc_at (w := w9) _ _ w9.heap.size 1 rfl)
            | (go_at_call 12; refine (g1 _ (hP9.below hba)).mono ?_; rintro e w10 ⟨n3, rfl, hn3, hb4⟩; obtain rfl := hn3 _ rfl; clear hn3 g1; replace hBw := Below.step (Below.step hBw hba) hb4; replace k0 := Below.cell_some hb4 ka0; replace k1 := Below.cell_some hb4 ka1; replace k2 := Below.cell_some hb4 ka2; replace q0 := Below.cell_some hb4 q0; replace q1 := Below.cell_some hb4 q1; replace hP9 := (hP9.below hba).below hb4; clear hb4 hba ka0 ka1 ka2)
            | (go_at_call 15; refine (s1 _ hP9).mono ?_; rintro e w11 ⟨rfl, hb4⟩; clear s1; replace hBw := Below.step hBw hb4; replace k0 := Below.cell_some hb4 k0; replace k1 := Below.cell_some hb4 k1; replace k2 := Below.cell_some hb4 k2; replace q0 := Below.cell_some hb4 q0; replace q1 := Below.cell_some hb4 q1; replace hP9 := hP9.below hb4; clear hb4)
            | (go_at_call 15; refine (s2 _ hP9).mono ?_; rintro e w12 ⟨rfl, hb4⟩; clear s2; replace hBw := Below.step hBw hb4; replace k0 := Below.cell_some hb4 k0; replace k1 := Below.cell_some hb4 k1; replace k2 := Below.cell_some hb4 k2; replace q0 := Below.cell_some hb4 q0; replace q1 := Below.cell_some hb4 q1; replace hP9 := hP9.below hb4; clear hb4)
            | (go_at_call 8; refine (lives_calls _).mono ?_; rintro e w17 ⟨rfl, hb4⟩; replace hBw := Below.step hBw hb4; replace k0 := Below.cell_some hb4 k0; replace k1 := Below.cell_some hb4 k1; replace k2 := Below.cell_some hb4 k2; clear hb4))
          all_goals
            go_ret
            exact ⟨rfl, hBw⟩
      | false =>
        rw [Bool.or_eq_false_iff, decide_eq_false_iff_not] at hr
        have hsame : rowsIn sf st (rowsN hist (max hist.length trim)) = rowsIn sf st (rowsN hist (max m trim)) := by
          rw [show max hist.length trim = hist.length by omega, show max m trim = m by omega]
          rcases Nat.le_total m hist.length with h1 | h1
          · exact (since_same hr.2 h1).symm
          · rw [rowsN_ge hist (Nat.le_refl _) h1]
        have hrf : (decide (m < trim) || sinceH hist m sf st) = false := by rw [Bool.or_eq_false_iff, decide_eq_false_iff_not]; exact hr
        have hbd : Below wr.heap.size wr wr.drew := ⟨rfl, rfl, rfl, Nat.le_refl _, fun _ _ => rfl⟩
        replace hP := hP.below hbd
        replace hBw := Below.step hBw hbd
        replace z0 := Below.cell_some hbd z0
        replace z1 := Below.cell_some hbd z1
        replace k0 := Below.cell_some hbd k0
        replace k1 := Below.cell_some hbd k1
        replace k2 := Below.cell_some hbd k2
        clear hbd
        have hq := vsince_lit m sf st false hrf (by omega) hP
        have sc1 := fun W (h : PastP w1.heap.size W (w1.heap.size + 1) hist trim) => pscan_all h (by omega) m sf st _ rfl
        have sc2 := fun W (h : PastP w1.heap.size W (w1.heap.size + 1) hist trim) => pscan_all h (by omega) hist.length sf st _ hsame
        clear hsame hr hrf hok hps
        generalize rowsIn sf st (rowsN hist (max m trim)) = rs at *
        go_wp2
        go_region_held3 (fun w' => w'.cell? ⟨w.heap.size + 1, 0, none⟩ = some (.string sf) ∧ w'.cell? ⟨w.heap.size + 1, 1, none⟩ = some (.string st)) (go_keep) (first
          | (go_at_call 15; refine hq.mono ?_; rintro e w4 ⟨rfl, hb4⟩; replace hP := hP.below hb4; replace hBw := Below.step hBw hb4; replace z0 := Below.cell_some hb4 z0; replace z1 := Below.cell_some hb4 z1; replace k0 := Below.cell_some hb4 k0; replace k1 := Below.cell_some hb4 k1; replace k2 := Below.cell_some hb4 k2; clear hb4)
          | (go_at_call 16; refine (pnow_P hP).mono ?_; rintro e w4 ⟨rfl, rfl⟩)
          | (go_at_call 13; refine (sc1 _ hP).mono ?_; rintro e w5 ⟨A5, c5, rfl, hb4, r5⟩; replace hP := hP.below hb4; replace hBw := Below.step hBw hb4; replace z0 := Below.cell_some hb4 z0; replace z1 := Below.cell_some hb4 z1; replace k0 := Below.cell_some hb4 k0; replace k1 := Below.cell_some hb4 k1; replace k2 := Below.cell_some hb4 k2; clear hb4 sc1)
          | (go_at_call 13; refine (sc2 _ hP).mono ?_; rintro e w6 ⟨A6, c6, rfl, hb4, r6⟩; replace hP := hP.below hb4; replace hBw := Below.step hBw hb4; replace z0 := Below.cell_some hb4 z0; replace z1 := Below.cell_some hb4 z1; replace k0 := Below.cell_some hb4 k0; replace k1 := Below.cell_some hb4 k1; replace k2 := Below.cell_some hb4 k2; replace r5 := r5.below hb4; clear hb4 sc2)
          | (go_at_call 14; refine (sameRows_calls _ _ rs rs _ r5 r6).mono ?_; rw [decide_eq_true rfl]; rintro e w7 ⟨rfl, hb4⟩; replace hP := hP.below hb4; replace hBw := Below.step hBw hb4; replace z0 := Below.cell_some hb4 z0; replace z1 := Below.cell_some hb4 z1; replace k0 := Below.cell_some hb4 k0; replace k1 := Below.cell_some hb4 k1; replace k2 := Below.cell_some hb4 k2; clear hb4 r5 r6))
        cases cg with
        | true =>
          have cm := fun W (h : PastP w1.heap.size W (w1.heap.size + 1) hist trim) => vcommit_any [(⟨ck, cv, true⟩ : Change)] (by simpa using hcks) (by simp only [List.length_cons, List.length_nil]; omega) (by omega) h
          have hfl : (hist ++ [[(⟨ck, cv, true⟩ : Change)]]).flatten.length ≤ 1000000 := by rw [List.flatten_append, List.length_append]; simp only [List.flatten_cons, List.flatten_nil, List.append_nil, List.length_cons, List.length_nil]; omega
          have v1 : (decide (hist.length < trim) || sinceH (hist ++ [[(⟨ck, cv, true⟩ : Change)]]) hist.length ck ck) = true := by rw [sinceH_new, meet_one, Bool.or_true]
          have v2 : (decide (hist.length + 1 < trim) || sinceH (hist ++ [[(⟨ck, cv, true⟩ : Change)]]) (hist.length + 1) ck ck) = false := by rw [sinceH_none (by simp), Bool.or_false, decide_eq_false_iff_not]; omega
          have hgl : getL ck (rowsN (hist ++ [[(⟨ck, cv, true⟩ : Change)]]) (max (hist.length + 1) trim)) = none := by
            rw [show max (hist.length + 1) trim = hist.length + 1 by omega]
            exact getL_new (c := ⟨ck, cv, true⟩)
          have g1 : ∀ W, PastP w1.heap.size W (w1.heap.size + 1) (hist ++ [[(⟨ck, cv, true⟩ : Change)]]) trim → Calls Try.prog 12 #[.pointer (some ⟨w1.heap.size + 1, 0, none⟩), .int .u32 ((hist.length : Int) + 1), .string ck] W
              fun e w' => ∃ n, e = .returned (.tuple #[.int .u32 n, .bool (Option.isSome none)]) ∧ (∀ u, none = some u → n = u) ∧ Below W.heap.size W w' := fun W h => vget_lit (hist.length + 1) ck _ hgl hcko hfl h
          have s1 := fun W (h : PastP w1.heap.size W (w1.heap.size + 1) (hist ++ [[(⟨ck, cv, true⟩ : Change)]]) trim) => vsince_lit hist.length ck ck true v1 hfl h
          have s2 : ∀ W, PastP w1.heap.size W (w1.heap.size + 1) (hist ++ [[(⟨ck, cv, true⟩ : Change)]]) trim → Calls Try.prog 15 #[.pointer (some ⟨w1.heap.size + 1, 0, none⟩), .int .u32 ((hist.length : Int) + 1), .agg #[.string ck, .string ck]] W
              fun e w' => e = .returned (.bool false) ∧ Below W.heap.size W w' := fun W h => vsince_lit (hist.length + 1) ck ck false v2 hfl h
          clear v1 v2 hgl hfl
          have hh3 : hist.length ≤ 60 := by omega
          go_wp2_with (first
            | (go_at_call 16; refine (pnow_P hP).mono ?_; rintro e w8 ⟨rfl, rfl⟩)
            | (go_at_call 11; refine (cm _ hP).mono ?_; rintro e w9 ⟨⟨hck, rfl, hP9⟩ | ⟨hck, rfl, hP9⟩, hps9⟩
               all_goals (have hb9 := hps9.below (Nat.le_of_lt (Nat.lt_of_le_of_lt hP.lt.1 hP.lt.2)); clear hP hck hps9 cm; replace hBw := hBw.trans (hb9.mono hbase); replace k0 := (hb9.cell (p := ⟨w.heap.size + 1 + 1, 0, none⟩) hkb).trans k0; replace k1 := (hb9.cell (p := ⟨w.heap.size + 1 + 1, 1, none⟩) hkb).trans k1; replace k2 := (hb9.cell (p := ⟨w.heap.size + 1 + 1, 2, none⟩) hkb).trans k2; clear hb9)
               rotate_left
               have hP := hP9
               clear hP9
               rotate_left
               have hba : Below w9.heap.size w9 (w9.alloc (.cells #[.string ck, .string ck] 42)) := (Below.refl _ _).alloc (Nat.le_refl _) _
               have ka0 := Below.cell_some hba k0
               have ka1 := Below.cell_some hba k1
               have ka2 := Below.cell_some hba k2
               have q0 : (w9.alloc (.cells #[.string ck, .string ck] 42)).cell? ⟨w9.heap.size, 0, none⟩ = some (.string ck) := World.cell?_alloc_at (w := w9) _ _ w9.heap.size 0 rfl
               have q1 : (w9.alloc (.cells #[.string ck, .string ck] 42)).cell? ⟨w9.heap.size, 1, none⟩ = some (.string ck) := World.cell?_alloc_at (w := w9) _ _ w9.heap.size 1 rfl)
            | (go_at_call 12; refine (g1 _ (hP9.below hba)).mono ?_; rintro e w10 ⟨n3, rfl, hn3, hb4⟩; clear hn3 g1; replace hBw := Below.step (Below.step hBw hba) hb4; replace k0 := Below.cell_some hb4 ka0; replace k1 := Below.cell_some hb4 ka1; replace k2 := Below.cell_some hb4 ka2; replace q0 := Below.cell_some hb4 q0; replace q1 := Below.cell_some hb4 q1; replace hP9 := (hP9.below hba).below hb4; clear hb4 hba ka0 ka1 ka2)
            | (go_at_call 15; refine (s1 _ hP9).mono ?_; rintro e w11 ⟨rfl, hb4⟩; clear s1; replace hBw := Below.step hBw hb4; replace k0 := Below.cell_some hb4 k0; replace k1 := Below.cell_some hb4 k1; replace k2 := Below.cell_some hb4 k2; replace q0 := Below.cell_some hb4 q0; replace q1 := Below.cell_some hb4 q1; replace hP9 := hP9.below hb4; clear hb4)
            | (go_at_call 15; refine (s2 _ hP9).mono ?_; rintro e w12 ⟨rfl, hb4⟩; clear s2; replace hBw := Below.step hBw hb4; replace k0 := Below.cell_some hb4 k0; replace k1 := Below.cell_some hb4 k1; replace k2 := Below.cell_some hb4 k2; replace q0 := Below.cell_some hb4 q0; replace q1 := Below.cell_some hb4 q1; replace hP9 := hP9.below hb4; clear hb4)
            | (go_at_call 8; refine (lives_calls _).mono ?_; rintro e w17 ⟨rfl, hb4⟩; replace hBw := Below.step hBw hb4; replace k0 := Below.cell_some hb4 k0; replace k1 := Below.cell_some hb4 k1; replace k2 := Below.cell_some hb4 k2; clear hb4))
          all_goals
            go_ret
            exact ⟨rfl, hBw⟩
        | false =>
          have cm := fun W (h : PastP w1.heap.size W (w1.heap.size + 1) hist trim) => vcommit_any [(⟨ck, cv, false⟩ : Change)] (by simpa using hcks) (by simp only [List.length_cons, List.length_nil]; omega) (by omega) h
          have hfl : (hist ++ [[(⟨ck, cv, false⟩ : Change)]]).flatten.length ≤ 1000000 := by rw [List.flatten_append, List.length_append]; simp only [List.flatten_cons, List.flatten_nil, List.append_nil, List.length_cons, List.length_nil]; omega
          have v1 : (decide (hist.length < trim) || sinceH (hist ++ [[(⟨ck, cv, false⟩ : Change)]]) hist.length ck ck) = true := by rw [sinceH_new, meet_one, Bool.or_true]
          have v2 : (decide (hist.length + 1 < trim) || sinceH (hist ++ [[(⟨ck, cv, false⟩ : Change)]]) (hist.length + 1) ck ck) = false := by rw [sinceH_none (by simp), Bool.or_false, decide_eq_false_iff_not]; omega
          have hgl : getL ck (rowsN (hist ++ [[(⟨ck, cv, false⟩ : Change)]]) (max (hist.length + 1) trim)) = (some cv) := by
            rw [show max (hist.length + 1) trim = hist.length + 1 by omega]
            exact getL_new (c := ⟨ck, cv, false⟩)
          have g1 : ∀ W, PastP w1.heap.size W (w1.heap.size + 1) (hist ++ [[(⟨ck, cv, false⟩ : Change)]]) trim → Calls Try.prog 12 #[.pointer (some ⟨w1.heap.size + 1, 0, none⟩), .int .u32 ((hist.length : Int) + 1), .string ck] W
              fun e w' => ∃ n, e = .returned (.tuple #[.int .u32 n, .bool (Option.isSome (some cv))]) ∧ (∀ u, (some cv) = some u → n = u) ∧ Below W.heap.size W w' := fun W h => vget_lit (hist.length + 1) ck _ hgl hcko hfl h
          have s1 := fun W (h : PastP w1.heap.size W (w1.heap.size + 1) (hist ++ [[(⟨ck, cv, false⟩ : Change)]]) trim) => vsince_lit hist.length ck ck true v1 hfl h
          have s2 : ∀ W, PastP w1.heap.size W (w1.heap.size + 1) (hist ++ [[(⟨ck, cv, false⟩ : Change)]]) trim → Calls Try.prog 15 #[.pointer (some ⟨w1.heap.size + 1, 0, none⟩), .int .u32 ((hist.length : Int) + 1), .agg #[.string ck, .string ck]] W
              fun e w' => e = .returned (.bool false) ∧ Below W.heap.size W w' := fun W h => vsince_lit (hist.length + 1) ck ck false v2 hfl h
          clear v1 v2 hgl hfl
          have hh3 : hist.length ≤ 60 := by omega
          go_wp2_with (first
            | (go_at_call 16; refine (pnow_P hP).mono ?_; rintro e w8 ⟨rfl, rfl⟩)
            | (go_at_call 11; refine (cm _ hP).mono ?_; rintro e w9 ⟨⟨hck, rfl, hP9⟩ | ⟨hck, rfl, hP9⟩, hps9⟩
               all_goals (have hb9 := hps9.below (Nat.le_of_lt (Nat.lt_of_le_of_lt hP.lt.1 hP.lt.2)); clear hP hck hps9 cm; replace hBw := hBw.trans (hb9.mono hbase); replace k0 := (hb9.cell (p := ⟨w.heap.size + 1 + 1, 0, none⟩) hkb).trans k0; replace k1 := (hb9.cell (p := ⟨w.heap.size + 1 + 1, 1, none⟩) hkb).trans k1; replace k2 := (hb9.cell (p := ⟨w.heap.size + 1 + 1, 2, none⟩) hkb).trans k2; clear hb9)
               rotate_left
               have hP := hP9
               clear hP9
               rotate_left
               have hba : Below w9.heap.size w9 (w9.alloc (.cells #[.string ck, .string ck] 42)) := (Below.refl _ _).alloc (Nat.le_refl _) _
               have ka0 := Below.cell_some hba k0
               have ka1 := Below.cell_some hba k1
               have ka2 := Below.cell_some hba k2
               have q0 : (w9.alloc (.cells #[.string ck, .string ck] 42)).cell? ⟨w9.heap.size, 0, none⟩ = some (.string ck) := World.cell?_alloc_at (w := w9) _ _ w9.heap.size 0 rfl
               have q1 : (w9.alloc (.cells #[.string ck, .string ck] 42)).cell? ⟨w9.heap.size, 1, none⟩ = some (.string ck) := World.cell?_alloc_at (w := w9) _ _ w9.heap.size 1 rfl)
            | (go_at_call 12; refine (g1 _ (hP9.below hba)).mono ?_; rintro e w10 ⟨n3, rfl, hn3, hb4⟩; obtain rfl := hn3 _ rfl; clear hn3 g1; replace hBw := Below.step (Below.step hBw hba) hb4; replace k0 := Below.cell_some hb4 ka0; replace k1 := Below.cell_some hb4 ka1; replace k2 := Below.cell_some hb4 ka2; replace q0 := Below.cell_some hb4 q0; replace q1 := Below.cell_some hb4 q1; replace hP9 := (hP9.below hba).below hb4; clear hb4 hba ka0 ka1 ka2)
            | (go_at_call 15; refine (s1 _ hP9).mono ?_; rintro e w11 ⟨rfl, hb4⟩; clear s1; replace hBw := Below.step hBw hb4; replace k0 := Below.cell_some hb4 k0; replace k1 := Below.cell_some hb4 k1; replace k2 := Below.cell_some hb4 k2; replace q0 := Below.cell_some hb4 q0; replace q1 := Below.cell_some hb4 q1; replace hP9 := hP9.below hb4; clear hb4)
            | (go_at_call 15; refine (s2 _ hP9).mono ?_; rintro e w12 ⟨rfl, hb4⟩; clear s2; replace hBw := Below.step hBw hb4; replace k0 := Below.cell_some hb4 k0; replace k1 := Below.cell_some hb4 k1; replace k2 := Below.cell_some hb4 k2; replace q0 := Below.cell_some hb4 q0; replace q1 := Below.cell_some hb4 q1; replace hP9 := hP9.below hb4; clear hb4)
            | (go_at_call 8; refine (lives_calls _).mono ?_; rintro e w17 ⟨rfl, hb4⟩; replace hBw := Below.step hBw hb4; replace k0 := Below.cell_some hb4 k0; replace k1 := Below.cell_some hb4 k1; replace k2 := Below.cell_some hb4 k2; clear hb4))
          all_goals
            go_ret
            exact ⟨rfl, hBw⟩

end Go.Proofs.Ytimadkbdkdeepaa
