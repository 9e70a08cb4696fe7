/-
  The law concordatlaw14.VersionsTrimmed: to trim a past changes nothing of what rows were behind that commit, and behind each later one. No condition.
-/
import Derived.Test.YtimadkbdkdeepaaVTwo
import Derived.Test.YtimadkbdkdeepaaTwRow
import Derived.Deep.RegionHeld3
set_option linter.unusedVariables false
set_option linter.unusedSimpArgs false
namespace Go.Proofs.Ytimadkbdkdeepaa
open Go.RowKit Go.Shelf

set_option maxHeartbeats 2000000 in
set_option maxRecDepth 100000 in
theorem versionsTrimmed_walk (v : Value) (xs : List VAct) (s : Span) (mi : Int) (w : World) (hv : Rd VAct.enc 3 w v xs) (hlen : xs.length * 40 ≤ 140737488351232) (hok : ∀ x ∈ xs, x.ok w) (hm : (Lit.int .u32 mi).wf = true) :
    Calls Try.prog 5 #[v, .agg #[.string s.f, .string s.t], .int .u32 mi] w fun e w' => e = .returned (.bool true) ∧ Below w.heap.size w w' := by
  obtain ⟨m, rfl⟩ : ∃ m : Nat, mi = m := nat_of_u32 hm
  clear hm
  have hgr := fun (W : World) (hb : Below w.heap.size w W) => vgreat_calls v xs W (hv.below hb) (by omega) (fun x hx => (hok x hx).below hb)
  obtain ⟨A, cp, rfl, hlc, hcp⟩ := hv.shape
  obtain ⟨sf, st⟩ := s
  simp only
  go_enter Try.func5, Try.ntmps5
  go_wp2_with fail
  generalize hW0 : w.alloc (.cells #[.string sf, .string st] 42) = W0
  have hBa : Below w.heap.size w W0 := by rw [← hW0]; exact (Below.refl _ w).alloc (Nat.le_refl _) _
  have hsp : W0.heap[w.heap.size]? = some (.cells #[.string sf, .string st] 42 (0, 0)) := by rw [← hW0]; exact alloc_at' _ rfl
  have HW := Lib.hid hW0
  clear hW0
  go_wp2_with (first
    | (go_at_call 7; (try rw [HW.out]); refine (hgr _ hBa).mono ?_; rintro e w1 ⟨⟨g, rfl, hgo⟩, hb1⟩; cases g)
    | (go_at_call 8; refine (lives_calls _).mono ?_; rintro e w2 ⟨rfl, hb2⟩)
    | (go_at_call 9; refine (pnew_calls w1).mono ?_; rintro e w2 ⟨rfl, hb2, hP2⟩)
    | (go_at_call 9; refine (pnew_calls w2).mono ?_; rintro e w3 ⟨rfl, hb3, hQ3⟩))
  rotate_left
  · go_ret
    exact ⟨rfl, Below.step (Below.step hBa hb1) hb2⟩
  obtain ⟨hn60, hs600⟩ := hgo (by simp)
  have hB1 := Below.step hBa hb1
  have hT := TwoP.new hP2 hb3 hQ3
  have hsz1 := hB1.size
  have hsz2 := hb2.size
  have hB3 := Below.step (Below.step hB1 hb2) hb3
  replace hsp := keep_below hb3 (keep_below hb2 (keep_below hb1 hsp))
  clear hb1 hb2 hb3 hgr hgo hBa HW hP2 hQ3 hB1
  have hB3s := hB3.size
  generalize hBp : w1.heap.size + 1 = Bp at *
  generalize hBq : w2.heap.size + 1 = Bq at *
  go_loopw [9] (fun iv wr => ∃ (k : Nat) (hist : List (List Change)), k ≤ xs.length ∧ iv = .int .i64 k ∧ TwoP w1.heap.size w2.heap.size wr Bp Bq hist 0 hist 0 ∧ hist.flatten.length ≤ sumA (xs.take k) ∧ hist.length ≤ k ∧ Below w.heap.size w wr ∧ wr.heap[w.heap.size]? = some (.cells #[.string sf, .string st] 42 (0, 0))) (fun iv _ => xs.length - (intOf iv).toNat)
  case atStart => exact ⟨0, [], Nat.zero_le _, rfl, hT, by simp, by simp, hB3, hsp⟩
  case round =>
    clear hT hsp hB3
    obtain ⟨k, hist, hk, rfl, hT, hh1, hh2, hBw, hsp⟩ := hrel
    by_cases hlt : k < xs.length
    · have hxk := List.getElem?_eq_getElem hlt
      have hxo := hok _ (List.getElem_mem hlt)
      have hsn := sumA_take xs k _ hxk
      have hsl := sumA_le xs (k + 1)
      obtain ⟨bb, o, rfl, y1, y2, y3⟩ := hv.vact hxk
      have hx1 := Below.cell_some hBw y1
      have hx2 := Below.cell_some hBw y2
      generalize xs[k] = x at *
      obtain ⟨xq, xv, xc, xa⟩ := x
      have hxks : ∀ c ∈ xc, c.k.size ≤ 9223372036854775807 := fun c hc => by have := (hxo.each c hc).1; unfold small at this; omega
      have hrd := hxo.rd
      simp only at hx1 hx2 y2 hsn hrd
      have hbd1 : hist.flatten.length + xc.length ≤ 1000000 := by omega
      have hbd2 : hist.length ≤ 1000000 := by omega
      have hco1 := tcommit_p hT (RdS.of_low change_len (by decide) hrd hBw hsz1) hxks hbd1 hbd2
      have HS := Lib.hid hsn
      clear hsn hxo hxk hok
      go_wp2_with (first
        | (go_at_call 11; refine hco1.mono ?_; rintro e w4 ⟨⟨r1, r2, rfl⟩, hT4, hps4⟩
           have hb4 := hps4.below (Nat.le_of_lt (Nat.lt_of_le_of_lt hT.pp.lt.1 hT.pp.lt.2))
           replace hBw := hBw.trans (hb4.mono hsz1)
           replace hsp := keep_pstep hps4 hsp (by decide) (by decide)
           replace hx2 := Below.cell_some hBw y2
           clear hco1 hb4 hps4 hT
           have hco2 := tcommit_p hT4.swap (RdS.of_low change_len (by decide) hrd hBw (Nat.le_trans hsz1 hsz2)) hxks hbd1 hbd2)
        | (go_at_call 11; refine hco2.mono ?_; rintro e w5 ⟨⟨r3, r4, rfl⟩, hT5, hps5⟩))
      · have hb5 := hps5.below (Nat.le_of_lt (Nat.lt_of_le_of_lt hT4.qq.lt.1 hT4.qq.lt.2))
        replace hBw := hBw.trans (hb5.mono (Nat.le_trans hsz1 hsz2))
        replace hsp := keep_pstep hps5 hsp (by decide) (by decide)
        refine ⟨⟨k + 1, if xc.all okChange then hist ++ [xc] else hist, by omega, by go_num, hT5.swap, ?_, ?_, hBw, hsp⟩, by simp [intOf]; omega⟩
        · rw [HS.out]
          split
          · rw [List.flatten_append, List.length_append]; simp only [List.flatten_cons, List.flatten_nil, List.append_nil]; omega
          · omega
        · split
          · rw [List.length_append]; simp; omega
          · omega
      · exact ⟨⟨k + 1, hist, by omega, by go_num, hT, by rw [HS.out]; omega, by omega, hBw, hsp⟩, by simp [intOf]; omega⟩
    · have hkl : k = xs.length := by omega
      subst hkl
      rw [List.take_length] at hh1
      have z0 : wr.cell? ⟨w.heap.size, 0, none⟩ = some (.string sf) := by simp [World.cell?, hsp]
      have z1 : wr.cell? ⟨w.heap.size, 1, none⟩ = some (.string st) := by simp [World.cell?, hsp]
      by_cases hat : m ≤ hist.length
      · have htr := ttrim_p hT.swap m (by omega) (Nat.zero_le _) hat
        go_wp2_with (go_at_call 10; refine htr.mono ?_; rintro e w4 ⟨rfl, hT4, hps4⟩)
        have hb4 := hps4.below (Nat.le_of_lt (Nat.lt_of_le_of_lt hT.qq.lt.1 hT.qq.lt.2))
        replace hBw := hBw.trans (hb4.mono (Nat.le_trans hsz1 hsz2))
        replace hsp := keep_pstep hps4 hsp (by decide) (by decide)
        replace hT := hT4.swap
        have hhl : hist.length ≤ 60 := by omega
        have hfl : hist.flatten.length ≤ 600 := by omega
        clear hT4 htr hb4 hps4 z0 z1 hok hv
        go_loopw [10] (fun nv wr => ∃ n : Nat, n ≤ hist.length + 2 ∧ nv = .int .u32 n ∧ TwoP w1.heap.size w2.heap.size wr Bp Bq hist 0 hist m ∧ Below w.heap.size w wr ∧ wr.heap[w.heap.size]? = some (.cells #[.string sf, .string st] 42 (0, 0))) (fun nv _ => hist.length + 2 - (intOf nv).toNat)
        case atStart => exact ⟨0, Nat.zero_le _, rfl, hT, hBw, hsp⟩
        case round =>
          clear hT hBw hsp
          obtain ⟨n, hn, rfl, hT, hBw, hsp⟩ := hrel
          have hP := hT.pp
          have hQ := hT.qq
          have nw := pnow_P hP
          by_cases hlast : n = hist.length + 2
          · go_wp2_with (first
              | (go_at_call 16; refine nw.mono ?_; rintro e w5 ⟨rfl, rfl⟩)
              | (go_at_call 8; refine (lives_calls _).mono ?_; rintro e w6 ⟨rfl, hb6⟩))
            go_ret
            exact ⟨rfl, Below.step hBw hb6⟩
          · have hbd : Below wr.heap.size wr wr.drew := ⟨rfl, rfl, rfl, Nat.le_refl _, fun _ _ => rfl⟩
            replace hT := hT.below hbd
            replace hP := hP.below hbd
            replace hQ := hQ.below hbd
            replace hBw := Below.step hBw hbd
            replace hsp := keep_below hbd hsp
            have z0 : wr.drew.cell? ⟨w.heap.size, 0, none⟩ = some (.string sf) := by simp [World.cell?, hsp]
            have z1 : wr.drew.cell? ⟨w.heap.size, 1, none⟩ = some (.string st) := by simp [World.cell?, hsp]
            clear hbd
            by_cases hnm : n < m
            · have sq := fun W (h : PastP w2.heap.size W Bq hist m) => pscan_all h (by omega) n sf st (rowsIn sf st (rowsN hist m)) (by rw [show max n m = m by omega])
              have sp := fun W (h : PastP w1.heap.size W Bp hist 0) => pscan_all h (by omega) m sf st (rowsIn sf st (rowsN hist m)) (by rw [show max m 0 = m by omega])
              generalize rowsIn sf st (rowsN hist m) = rs at *
              go_wp2_with (go_at_call 16; refine nw.mono ?_; rintro e w5 ⟨rfl, rfl⟩)
              have hge' : ¬ m ≤ n := by omega
              refine wp_region_noPanic ?_
              refine wp_region_held_drew (S := fun w' => w'.cell? ⟨w.heap.size, 0, none⟩ = some (.string sf) ∧ w'.cell? ⟨w.heap.size, 1, none⟩ = some (.string st)) (by kernel_rfl) (⟨z0, z1⟩) (fun hHeld => ?_)
              refine wpAnyH_take (i := 0) (v := ?_) rfl (by kernel_rfl) (by kernel_rfl) (by kernel_rfl) (fun _ _ _ h => h) (Or.inl ⟨by rfl, ?_⟩) (by assumption) ?_
              rotate_left
              · (intro w hSw; (try dsimp only at hSw); (first | (go_simp; done) | (go_simp; with_reducible rfl)))
              try simp only [Act.put, List.getElem_toArray, List.getElem_cons_zero, List.getElem_cons_succ, List.setIfInBounds_toArray, List.set_cons_zero, List.set_cons_succ]
              refine wpAnyH_take (i := 1) (v := ?_) rfl (by kernel_rfl) (by kernel_rfl) (by kernel_rfl) (fun _ _ _ h => h) (Or.inl ⟨by rfl, ?_⟩) (by assumption) ?_
              rotate_left
              · (intro w hSw; (try dsimp only at hSw); (first | (go_simp; done) | (go_simp; with_reducible rfl)))
              try simp only [Act.put, List.getElem_toArray, List.getElem_cons_zero, List.getElem_cons_succ, List.setIfInBounds_toArray, List.set_cons_zero, List.set_cons_succ]
              refine wpAnyH_take (i := 2) (v := ?_) rfl (by kernel_rfl) (by kernel_rfl) (by kernel_rfl) (fun _ _ _ h => h) (Or.inl ⟨by rfl, ?_⟩) (by assumption) ?_
              rotate_left
              · (intro w hSw; (try dsimp only at hSw); (first | (go_simp; done) | (go_simp; with_reducible rfl)))
              try simp only [Act.put, List.getElem_toArray, List.getElem_cons_zero, List.getElem_cons_succ, List.setIfInBounds_toArray, List.set_cons_zero, List.set_cons_succ]
              refine wpAnyH_take (i := 3) (v := ?_) rfl (by kernel_rfl) (by kernel_rfl) (by kernel_rfl) (fun _ _ _ h => h) (Or.inl ⟨by rfl, ?_⟩) (by assumption) ?_
              rotate_left
              · (intro w hSw; (try dsimp only at hSw); (first | (go_simp; done) | (go_simp; with_reducible rfl)))
              try simp only [Act.put, List.getElem_toArray, List.getElem_cons_zero, List.getElem_cons_succ, List.setIfInBounds_toArray, List.set_cons_zero, List.set_cons_succ]
              refine wpAnyH_take (i := 4) (v := ?_) rfl (by kernel_rfl) (by kernel_rfl) (by kernel_rfl) (fun _ _ _ h => h) (Or.inl ⟨by rfl, ?_⟩) (by assumption) ?_
              rotate_left
              · (intro w hSw; (try dsimp only at hSw); (first | (go_simp; done) | (go_simp; with_reducible rfl)))
              try simp only [Act.put, List.getElem_toArray, List.getElem_cons_zero, List.getElem_cons_succ, List.setIfInBounds_toArray, List.set_cons_zero, List.set_cons_succ]
              refine wpAnyH_take (i := 5) (v := ?_) rfl (by kernel_rfl) (by kernel_rfl) (by kernel_rfl) (fun _ _ _ h => h) (Or.inl ⟨by rfl, ?_⟩) (by assumption) ?_
              rotate_left
              · (intro w hSw; (try dsimp only at hSw); (first | (go_simp; done) | (go_simp; with_reducible rfl)))
              try simp only [Act.put, List.getElem_toArray, List.getElem_cons_zero, List.getElem_cons_succ, List.setIfInBounds_toArray, List.set_cons_zero, List.set_cons_succ]
              refine wpAnyH_take (i := 6) (v := ?_) rfl (by kernel_rfl) (by kernel_rfl) (by kernel_rfl) (fun _ _ _ h => h) (Or.inl ⟨by rfl, ?_⟩) (by assumption) ?_
              rotate_left
              · (intro w hSw; (try dsimp only at hSw); (first | (go_simp; done) | (go_simp; with_reducible rfl)))
              try simp only [Act.put, List.getElem_toArray, List.getElem_cons_zero, List.getElem_cons_succ, List.setIfInBounds_toArray, List.set_cons_zero, List.set_cons_succ]
              refine wpAnyH_take (i := 8) (v := ?_) rfl (by kernel_rfl) (by kernel_rfl) (by kernel_rfl) (fun _ _ _ h => h) (Or.inl ⟨by rfl, ?_⟩) (by assumption) ?_
              rotate_left
              · (intro w hSw; (try dsimp only at hSw); (first | (go_simp; done) | (go_simp; with_reducible rfl)))
              try simp only [Act.put, List.getElem_toArray, List.getElem_cons_zero, List.getElem_cons_succ, List.setIfInBounds_toArray, List.set_cons_zero, List.set_cons_succ]
              refine wpAnyH_take (i := 9) (v := ?_) rfl (by kernel_rfl) (by kernel_rfl) (by kernel_rfl) (fun _ _ _ h => h) (Or.inl ⟨by rfl, ?_⟩) (by assumption) ?_
              rotate_left
              · (intro w hSw; (try dsimp only at hSw); (first | (go_simp; done) | (go_simp; with_reducible rfl)))
              try simp only [Act.put, List.getElem_toArray, List.getElem_cons_zero, List.getElem_cons_succ, List.setIfInBounds_toArray, List.set_cons_zero, List.set_cons_succ]
              refine wpAnyH_take (i := 10) (v := ?_) rfl (by kernel_rfl) (by kernel_rfl) (by kernel_rfl) (fun _ _ _ h => h) (Or.inl ⟨by rfl, ?_⟩) (by assumption) ?_
              rotate_left
              · (intro w hSw; (try dsimp only at hSw); (first | (go_simp; done) | (go_simp; with_reducible rfl)))
              try simp only [Act.put, List.getElem_toArray, List.getElem_cons_zero, List.getElem_cons_succ, List.setIfInBounds_toArray, List.set_cons_zero, List.set_cons_succ]
              refine wpAnyH_ready (rs := [7]) (by kernel_rfl) (by simp) ?_
              refine AllReadyH.cons rfl (fun K hK => ?_) AllReadyH.nil
              go_simp
              (go_at_call 13; refine (sq _ hQ).mono ?_; rintro e w6 ⟨A6, c6, rfl, hb6, r6⟩; clear sq; replace hT := hT.below hb6; replace hP := hP.below hb6; replace hQ := hQ.below hb6; replace hBw := Below.step hBw hb6; replace hsp := keep_below hb6 hsp; replace z0 := Below.cell_some hb6 z0; replace z1 := Below.cell_some hb6 z1; clear hb6)
              refine hK.out _ _ (⟨z0, z1⟩) (fun hHeld => ?_)
              clear hK K
              try simp only [Act.put, List.getElem_toArray, List.getElem_cons_zero, List.getElem_cons_succ, List.setIfInBounds_toArray, List.set_cons_zero, List.set_cons_succ]
              refine wpAnyH_ready (rs := [11]) (by kernel_rfl) (by simp) ?_
              refine AllReadyH.cons rfl (fun K hK => ?_) AllReadyH.nil
              go_simp
              (go_at_call 13; refine (sp _ hP).mono ?_; rintro e w7 ⟨A7, c7, rfl, hb6, r7⟩; replace hT := hT.below hb6; replace hP := hP.below hb6; replace hQ := hQ.below hb6; replace hBw := Below.step hBw hb6; replace hsp := keep_below hb6 hsp; replace z0 := Below.cell_some hb6 z0; replace z1 := Below.cell_some hb6 z1; replace r6 := r6.below hb6; clear hb6 sp)
              refine hK.out _ _ (⟨z0, z1⟩) (fun hHeld => ?_)
              clear hK K
              try simp only [Act.put, List.getElem_toArray, List.getElem_cons_zero, List.getElem_cons_succ, List.setIfInBounds_toArray, List.set_cons_zero, List.set_cons_succ]
              refine wpAnyH_ready (rs := [12]) (by kernel_rfl) (by simp) ?_
              refine AllReadyH.cons rfl (fun K hK => ?_) AllReadyH.nil
              go_simp
              (go_at_call 14; refine (sameRows_calls _ _ rs rs _ r6 r7).mono ?_; rw [decide_eq_true rfl]; rintro e w8 ⟨rfl, hb6⟩; replace hT := hT.below hb6; replace hP := hP.below hb6; replace hQ := hQ.below hb6; replace hBw := Below.step hBw hb6; replace hsp := keep_below hb6 hsp; replace z0 := Below.cell_some hb6 z0; replace z1 := Below.cell_some hb6 z1; clear hb6 r6 r7)
              refine hK.out _ _ (⟨z0, z1⟩) (fun hHeld => ?_)
              clear hK K
              try simp only [Act.put, List.getElem_toArray, List.getElem_cons_zero, List.getElem_cons_succ, List.setIfInBounds_toArray, List.set_cons_zero, List.set_cons_succ]
              refine wpAnyH_take (i := 13) (v := ?_) rfl (by kernel_rfl) (by kernel_rfl) (by kernel_rfl) (fun _ _ _ h => h) (Or.inl ⟨by rfl, ?_⟩) (by assumption) ?_
              rotate_left
              · (intro w hSw; (try dsimp only at hSw); (first | (go_simp; done) | (go_simp; with_reducible rfl)))
              try simp only [Act.put, List.getElem_toArray, List.getElem_cons_zero, List.getElem_cons_succ, List.setIfInBounds_toArray, List.set_cons_zero, List.set_cons_succ]
              refine wpAnyH_take (i := 14) (v := ?_) rfl (by kernel_rfl) (by kernel_rfl) (by kernel_rfl) (fun _ _ _ h => h) (Or.inl ⟨by rfl, ?_⟩) (by assumption) ?_
              rotate_left
              · (intro w hSw; (try dsimp only at hSw); (first | (go_simp; done) | (go_simp; with_reducible rfl)))
              try simp only [Act.put, List.getElem_toArray, List.getElem_cons_zero, List.getElem_cons_succ, List.setIfInBounds_toArray, List.set_cons_zero, List.set_cons_succ]
              refine wpAnyH_take (i := 15) (v := ?_) rfl (by kernel_rfl) (by kernel_rfl) (by kernel_rfl) (fun _ _ _ h => h) (Or.inl ⟨by rfl, ?_⟩) (by assumption) ?_
              rotate_left
              · (intro w hSw; (try dsimp only at hSw); (first | (go_simp; done) | (go_simp; with_reducible rfl)))
              try simp only [Act.put, List.getElem_toArray, List.getElem_cons_zero, List.getElem_cons_succ, List.setIfInBounds_toArray, List.set_cons_zero, List.set_cons_succ]
              refine wpAnyH_take (i := 16) (v := ?_) rfl (by kernel_rfl) (by kernel_rfl) (by kernel_rfl) (fun _ _ _ h => h) (Or.inl ⟨by rfl, ?_⟩) (by assumption) ?_
              rotate_left
              · (intro w hSw; (try dsimp only at hSw); (first | (go_simp; done) | (go_simp; with_reducible rfl)))
              try simp only [Act.put, List.getElem_toArray, List.getElem_cons_zero, List.getElem_cons_succ, List.setIfInBounds_toArray, List.set_cons_zero, List.set_cons_succ]
              refine wpAnyH_take (i := 17) (v := ?_) rfl (by kernel_rfl) (by kernel_rfl) (by kernel_rfl) (fun _ _ _ h => h) (Or.inl ⟨by rfl, ?_⟩) (by assumption) ?_
              rotate_left
              · (intro w hSw; (try dsimp only at hSw); (first | (go_simp; done) | (go_simp; with_reducible rfl)))
              try simp only [Act.put, List.getElem_toArray, List.getElem_cons_zero, List.getElem_cons_succ, List.setIfInBounds_toArray, List.set_cons_zero, List.set_cons_succ]
              refine wpAnyH_take (i := 18) (v := ?_) rfl (by kernel_rfl) (by kernel_rfl) (by kernel_rfl) (fun _ _ _ h => h) (Or.inl ⟨by rfl, ?_⟩) (by assumption) ?_
              rotate_left
              · (intro w hSw; (try dsimp only at hSw); (first | (go_simp; done) | (go_simp; with_reducible rfl)))
              try simp only [Act.put, List.getElem_toArray, List.getElem_cons_zero, List.getElem_cons_succ, List.setIfInBounds_toArray, List.set_cons_zero, List.set_cons_succ]
              refine wpAnyH_take (i := 19) (v := ?_) rfl (by kernel_rfl) (by kernel_rfl) (by kernel_rfl) (fun _ _ _ h => h) (Or.inl ⟨by rfl, ?_⟩) (by assumption) ?_
              rotate_left
              · (intro w hSw; (try dsimp only at hSw); (first | (go_simp; done) | (go_simp; with_reducible rfl)))
              try simp only [Act.put, List.getElem_toArray, List.getElem_cons_zero, List.getElem_cons_succ, List.setIfInBounds_toArray, List.set_cons_zero, List.set_cons_succ]
              refine wpAnyH_take (i := 20) (v := undef) rfl (by kernel_rfl) (by kernel_rfl) (by kernel_rfl) (fun _ _ _ h => h) (Or.inr ⟨by rfl, rfl⟩) (by assumption) ?_
              try simp only [Act.put, List.getElem_toArray, List.getElem_cons_zero, List.getElem_cons_succ, List.setIfInBounds_toArray, List.set_cons_zero, List.set_cons_succ]
              refine wpAnyH_take (i := 21) (v := undef) rfl (by kernel_rfl) (by kernel_rfl) (by kernel_rfl) (fun _ _ _ h => h) (Or.inr ⟨by rfl, rfl⟩) (by assumption) ?_
              try simp only [Act.put, List.getElem_toArray, List.getElem_cons_zero, List.getElem_cons_succ, List.setIfInBounds_toArray, List.set_cons_zero, List.set_cons_succ]
              refine wpAnyH_take (i := 22) (v := undef) rfl (by kernel_rfl) (by kernel_rfl) (by kernel_rfl) (fun _ _ _ h => h) (Or.inr ⟨by rfl, rfl⟩) (by assumption) ?_
              try simp only [Act.put, List.getElem_toArray, List.getElem_cons_zero, List.getElem_cons_succ, List.setIfInBounds_toArray, List.set_cons_zero, List.set_cons_succ]
              refine wpAnyH_take (i := 24) (v := undef) rfl (by kernel_rfl) (by kernel_rfl) (by kernel_rfl) (fun _ _ _ h => h) (Or.inr ⟨by rfl, rfl⟩) (by assumption) ?_
              try simp only [Act.put, List.getElem_toArray, List.getElem_cons_zero, List.getElem_cons_succ, List.setIfInBounds_toArray, List.set_cons_zero, List.set_cons_succ]
              refine wpAnyH_take (i := 25) (v := undef) rfl (by kernel_rfl) (by kernel_rfl) (by kernel_rfl) (fun _ _ _ h => h) (Or.inr ⟨by rfl, rfl⟩) (by assumption) ?_
              try simp only [Act.put, List.getElem_toArray, List.getElem_cons_zero, List.getElem_cons_succ, List.setIfInBounds_toArray, List.set_cons_zero, List.set_cons_succ]
              refine wpAnyH_take (i := 26) (v := undef) rfl (by kernel_rfl) (by kernel_rfl) (by kernel_rfl) (fun _ _ _ h => h) (Or.inr ⟨by rfl, rfl⟩) (by assumption) ?_
              try simp only [Act.put, List.getElem_toArray, List.getElem_cons_zero, List.getElem_cons_succ, List.setIfInBounds_toArray, List.set_cons_zero, List.set_cons_succ]
              refine wpAnyH_take (i := 23) (v := undef) rfl (by kernel_rfl) (by kernel_rfl) (by kernel_rfl) (fun _ _ _ h => h) (Or.inr ⟨by rfl, rfl⟩) (by assumption) ?_
              try simp only [Act.put, List.getElem_toArray, List.getElem_cons_zero, List.getElem_cons_succ, List.setIfInBounds_toArray, List.set_cons_zero, List.set_cons_succ]
              refine wpAnyH_take (i := 27) (v := undef) rfl (by kernel_rfl) (by kernel_rfl) (by kernel_rfl) (fun _ _ _ h => h) (Or.inr ⟨by rfl, rfl⟩) (by assumption) ?_
              try simp only [Act.put, List.getElem_toArray, List.getElem_cons_zero, List.getElem_cons_succ, List.setIfInBounds_toArray, List.set_cons_zero, List.set_cons_succ]
              refine wpAnyH_take (i := 28) (v := undef) rfl (by kernel_rfl) (by kernel_rfl) (by kernel_rfl) (fun _ _ _ h => h) (Or.inr ⟨by rfl, rfl⟩) (by assumption) ?_
              try simp only [Act.put, List.getElem_toArray, List.getElem_cons_zero, List.getElem_cons_succ, List.setIfInBounds_toArray, List.set_cons_zero, List.set_cons_succ]
              refine wpAnyH_take (i := 29) (v := undef) rfl (by kernel_rfl) (by kernel_rfl) (by kernel_rfl) (fun _ _ _ h => h) (Or.inr ⟨by rfl, rfl⟩) (by assumption) ?_
              try simp only [Act.put, List.getElem_toArray, List.getElem_cons_zero, List.getElem_cons_succ, List.setIfInBounds_toArray, List.set_cons_zero, List.set_cons_succ]
              refine wpAnyH_take (i := 30) (v := ?_) rfl (by kernel_rfl) (by kernel_rfl) (by kernel_rfl) (fun _ _ _ h => h) (Or.inl ⟨by rfl, ?_⟩) (by assumption) ?_
              rotate_left
              · (intro w hSw; (try dsimp only at hSw); (first | (go_simp; done) | (go_simp; with_reducible rfl)))
              try simp only [Act.put, List.getElem_toArray, List.getElem_cons_zero, List.getElem_cons_succ, List.setIfInBounds_toArray, List.set_cons_zero, List.set_cons_succ]
              refine wpAnyH_take (i := 31) (v := ?_) rfl (by kernel_rfl) (by kernel_rfl) (by kernel_rfl) (fun _ _ _ h => h) (Or.inl ⟨by rfl, ?_⟩) (by assumption) ?_
              rotate_left
              · (intro w hSw; (try dsimp only at hSw); (first | (go_simp; done) | (go_simp; with_reducible rfl)))
              try simp only [Act.put, List.getElem_toArray, List.getElem_cons_zero, List.getElem_cons_succ, List.setIfInBounds_toArray, List.set_cons_zero, List.set_cons_succ]
              refine wpAnyH_done (by kernel_rfl) ?_ _
              refine NoPanic.normal ?_
              have hbq : Below w8.heap.size w8 w8 := Below.refl _ _
              have hsq := fun p : Later w8 => vsince_lit n sf st true (by simp [hnm]) (by omega) (hQ.below p.ok)
              have d0 := fun p : Later w8 => Later.cell p z0
              have d1 := fun p : Later w8 => Later.cell p z1
              go_wp2
              refine wp_region_later (by kernel_rfl) (by kernel_rfl) ?_
              repeat (go_big_quiet_step (((go_at_call 15; with_reducible exact Calls.later (hsq _)))))
              refine wpQuiet_nil ?_
              rintro _ ⟨p, rfl⟩
              clear d0 d1
              go_wp2
              go_roundw
              case rel => exact ⟨n + 1, by omega, by go_num, hT.below p.ok, Below.step hBw p.ok, keep_below p.ok hsp⟩
              case measure => simp [intOf]; omega
            · have sq := fun W (h : PastP w2.heap.size W Bq hist m) => pscan_all h (by omega) n sf st (rowsIn sf st (rowsN hist n)) (by rw [show max n m = n by omega])
              have sp := fun W (h : PastP w1.heap.size W Bp hist 0) => pscan_all h (by omega) n sf st (rowsIn sf st (rowsN hist n)) (by rw [show max n 0 = n by omega])
              generalize rowsIn sf st (rowsN hist n) = rs at *
              go_wp2_with (go_at_call 16; refine nw.mono ?_; rintro e w5 ⟨rfl, rfl⟩)
              have hge' : m ≤ n := by omega
              refine wp_region_noPanic ?_
              refine wp_region_held_drew (S := fun w' => w'.cell? ⟨w.heap.size, 0, none⟩ = some (.string sf) ∧ w'.cell? ⟨w.heap.size, 1, none⟩ = some (.string st)) (by kernel_rfl) (⟨z0, z1⟩) (fun hHeld => ?_)
              refine wpAnyH_take (i := 0) (v := ?_) rfl (by kernel_rfl) (by kernel_rfl) (by kernel_rfl) (fun _ _ _ h => h) (Or.inl ⟨by rfl, ?_⟩) (by assumption) ?_
              rotate_left
              · (intro w hSw; (try dsimp only at hSw); (first | (go_simp; done) | (go_simp; with_reducible rfl)))
              try simp only [Act.put, List.getElem_toArray, List.getElem_cons_zero, List.getElem_cons_succ, List.setIfInBounds_toArray, List.set_cons_zero, List.set_cons_succ]
              refine wpAnyH_take (i := 1) (v := ?_) rfl (by kernel_rfl) (by kernel_rfl) (by kernel_rfl) (fun _ _ _ h => h) (Or.inl ⟨by rfl, ?_⟩) (by assumption) ?_
              rotate_left
              · (intro w hSw; (try dsimp only at hSw); (first | (go_simp; done) | (go_simp; with_reducible rfl)))
              try simp only [Act.put, List.getElem_toArray, List.getElem_cons_zero, List.getElem_cons_succ, List.setIfInBounds_toArray, List.set_cons_zero, List.set_cons_succ]
              refine wpAnyH_take (i := 2) (v := ?_) rfl (by kernel_rfl) (by kernel_rfl) (by kernel_rfl) (fun _ _ _ h => h) (Or.inl ⟨by rfl, ?_⟩) (by assumption) ?_
              rotate_left
              · (intro w hSw; (try dsimp only at hSw); (first | (go_simp; done) | (go_simp; with_reducible rfl)))
              try simp only [Act.put, List.getElem_toArray, List.getElem_cons_zero, List.getElem_cons_succ, List.setIfInBounds_toArray, List.set_cons_zero, List.set_cons_succ]
              refine wpAnyH_take (i := 3) (v := ?_) rfl (by kernel_rfl) (by kernel_rfl) (by kernel_rfl) (fun _ _ _ h => h) (Or.inl ⟨by rfl, ?_⟩) (by assumption) ?_
              rotate_left
              · (intro w hSw; (try dsimp only at hSw); (first | (go_simp; done) | (go_simp; with_reducible rfl)))
              try simp only [Act.put, List.getElem_toArray, List.getElem_cons_zero, List.getElem_cons_succ, List.setIfInBounds_toArray, List.set_cons_zero, List.set_cons_succ]
              refine wpAnyH_take (i := 4) (v := undef) rfl (by kernel_rfl) (by kernel_rfl) (by kernel_rfl) (fun _ _ _ h => h) (Or.inr ⟨by rfl, rfl⟩) (by assumption) ?_
              try simp only [Act.put, List.getElem_toArray, List.getElem_cons_zero, List.getElem_cons_succ, List.setIfInBounds_toArray, List.set_cons_zero, List.set_cons_succ]
              refine wpAnyH_take (i := 5) (v := undef) rfl (by kernel_rfl) (by kernel_rfl) (by kernel_rfl) (fun _ _ _ h => h) (Or.inr ⟨by rfl, rfl⟩) (by assumption) ?_
              try simp only [Act.put, List.getElem_toArray, List.getElem_cons_zero, List.getElem_cons_succ, List.setIfInBounds_toArray, List.set_cons_zero, List.set_cons_succ]
              refine wpAnyH_take (i := 6) (v := undef) rfl (by kernel_rfl) (by kernel_rfl) (by kernel_rfl) (fun _ _ _ h => h) (Or.inr ⟨by rfl, rfl⟩) (by assumption) ?_
              try simp only [Act.put, List.getElem_toArray, List.getElem_cons_zero, List.getElem_cons_succ, List.setIfInBounds_toArray, List.set_cons_zero, List.set_cons_succ]
              refine wpAnyH_take (i := 8) (v := undef) rfl (by kernel_rfl) (by kernel_rfl) (by kernel_rfl) (fun _ _ _ h => h) (Or.inr ⟨by rfl, rfl⟩) (by assumption) ?_
              try simp only [Act.put, List.getElem_toArray, List.getElem_cons_zero, List.getElem_cons_succ, List.setIfInBounds_toArray, List.set_cons_zero, List.set_cons_succ]
              refine wpAnyH_take (i := 9) (v := undef) rfl (by kernel_rfl) (by kernel_rfl) (by kernel_rfl) (fun _ _ _ h => h) (Or.inr ⟨by rfl, rfl⟩) (by assumption) ?_
              try simp only [Act.put, List.getElem_toArray, List.getElem_cons_zero, List.getElem_cons_succ, List.setIfInBounds_toArray, List.set_cons_zero, List.set_cons_succ]
              refine wpAnyH_take (i := 10) (v := undef) rfl (by kernel_rfl) (by kernel_rfl) (by kernel_rfl) (fun _ _ _ h => h) (Or.inr ⟨by rfl, rfl⟩) (by assumption) ?_
              try simp only [Act.put, List.getElem_toArray, List.getElem_cons_zero, List.getElem_cons_succ, List.setIfInBounds_toArray, List.set_cons_zero, List.set_cons_succ]
              refine wpAnyH_take (i := 7) (v := undef) rfl (by kernel_rfl) (by kernel_rfl) (by kernel_rfl) (fun _ _ _ h => h) (Or.inr ⟨by rfl, rfl⟩) (by assumption) ?_
              try simp only [Act.put, List.getElem_toArray, List.getElem_cons_zero, List.getElem_cons_succ, List.setIfInBounds_toArray, List.set_cons_zero, List.set_cons_succ]
              refine wpAnyH_take (i := 11) (v := undef) rfl (by kernel_rfl) (by kernel_rfl) (by kernel_rfl) (fun _ _ _ h => h) (Or.inr ⟨by rfl, rfl⟩) (by assumption) ?_
              try simp only [Act.put, List.getElem_toArray, List.getElem_cons_zero, List.getElem_cons_succ, List.setIfInBounds_toArray, List.set_cons_zero, List.set_cons_succ]
              refine wpAnyH_take (i := 12) (v := undef) rfl (by kernel_rfl) (by kernel_rfl) (by kernel_rfl) (fun _ _ _ h => h) (Or.inr ⟨by rfl, rfl⟩) (by assumption) ?_
              try simp only [Act.put, List.getElem_toArray, List.getElem_cons_zero, List.getElem_cons_succ, List.setIfInBounds_toArray, List.set_cons_zero, List.set_cons_succ]
              refine wpAnyH_take (i := 13) (v := undef) rfl (by kernel_rfl) (by kernel_rfl) (by kernel_rfl) (fun _ _ _ h => h) (Or.inr ⟨by rfl, rfl⟩) (by assumption) ?_
              try simp only [Act.put, List.getElem_toArray, List.getElem_cons_zero, List.getElem_cons_succ, List.setIfInBounds_toArray, List.set_cons_zero, List.set_cons_succ]
              refine wpAnyH_take (i := 14) (v := ?_) rfl (by kernel_rfl) (by kernel_rfl) (by kernel_rfl) (fun _ _ _ h => h) (Or.inl ⟨by rfl, ?_⟩) (by assumption) ?_
              rotate_left
              · (intro w hSw; (try dsimp only at hSw); (first | (go_simp; done) | (go_simp; with_reducible rfl)))
              try simp only [Act.put, List.getElem_toArray, List.getElem_cons_zero, List.getElem_cons_succ, List.setIfInBounds_toArray, List.set_cons_zero, List.set_cons_succ]
              refine wpAnyH_take (i := 15) (v := ?_) rfl (by kernel_rfl) (by kernel_rfl) (by kernel_rfl) (fun _ _ _ h => h) (Or.inl ⟨by rfl, ?_⟩) (by assumption) ?_
              rotate_left
              · (intro w hSw; (try dsimp only at hSw); (first | (go_simp; done) | (go_simp; with_reducible rfl)))
              try simp only [Act.put, List.getElem_toArray, List.getElem_cons_zero, List.getElem_cons_succ, List.setIfInBounds_toArray, List.set_cons_zero, List.set_cons_succ]
              refine wpAnyH_take (i := 16) (v := ?_) rfl (by kernel_rfl) (by kernel_rfl) (by kernel_rfl) (fun _ _ _ h => h) (Or.inl ⟨by rfl, ?_⟩) (by assumption) ?_
              rotate_left
              · (intro w hSw; (try dsimp only at hSw); (first | (go_simp; done) | (go_simp; with_reducible rfl)))
              try simp only [Act.put, List.getElem_toArray, List.getElem_cons_zero, List.getElem_cons_succ, List.setIfInBounds_toArray, List.set_cons_zero, List.set_cons_succ]
              refine wpAnyH_take (i := 17) (v := ?_) rfl (by kernel_rfl) (by kernel_rfl) (by kernel_rfl) (fun _ _ _ h => h) (Or.inl ⟨by rfl, ?_⟩) (by assumption) ?_
              rotate_left
              · (intro w hSw; (try dsimp only at hSw); (first | (go_simp; done) | (go_simp; with_reducible rfl)))
              try simp only [Act.put, List.getElem_toArray, List.getElem_cons_zero, List.getElem_cons_succ, List.setIfInBounds_toArray, List.set_cons_zero, List.set_cons_succ]
              refine wpAnyH_take (i := 18) (v := ?_) rfl (by kernel_rfl) (by kernel_rfl) (by kernel_rfl) (fun _ _ _ h => h) (Or.inl ⟨by rfl, ?_⟩) (by assumption) ?_
              rotate_left
              · (intro w hSw; (try dsimp only at hSw); (first | (go_simp; done) | (go_simp; with_reducible rfl)))
              try simp only [Act.put, List.getElem_toArray, List.getElem_cons_zero, List.getElem_cons_succ, List.setIfInBounds_toArray, List.set_cons_zero, List.set_cons_succ]
              refine wpAnyH_take (i := 19) (v := ?_) rfl (by kernel_rfl) (by kernel_rfl) (by kernel_rfl) (fun _ _ _ h => h) (Or.inl ⟨by rfl, ?_⟩) (by assumption) ?_
              rotate_left
              · (intro w hSw; (try dsimp only at hSw); (first | (go_simp; done) | (go_simp; with_reducible rfl)))
              try simp only [Act.put, List.getElem_toArray, List.getElem_cons_zero, List.getElem_cons_succ, List.setIfInBounds_toArray, List.set_cons_zero, List.set_cons_succ]
              refine wpAnyH_take (i := 20) (v := ?_) rfl (by kernel_rfl) (by kernel_rfl) (by kernel_rfl) (fun _ _ _ h => h) (Or.inl ⟨by rfl, ?_⟩) (by assumption) ?_
              rotate_left
              · (intro w hSw; (try dsimp only at hSw); (first | (go_simp; done) | (go_simp; with_reducible rfl)))
              try simp only [Act.put, List.getElem_toArray, List.getElem_cons_zero, List.getElem_cons_succ, List.setIfInBounds_toArray, List.set_cons_zero, List.set_cons_succ]
              refine wpAnyH_take (i := 21) (v := ?_) rfl (by kernel_rfl) (by kernel_rfl) (by kernel_rfl) (fun _ _ _ h => h) (Or.inl ⟨by rfl, ?_⟩) (by assumption) ?_
              rotate_left
              · (intro w hSw; (try dsimp only at hSw); (first | (go_simp; done) | (go_simp; with_reducible rfl)))
              try simp only [Act.put, List.getElem_toArray, List.getElem_cons_zero, List.getElem_cons_succ, List.setIfInBounds_toArray, List.set_cons_zero, List.set_cons_succ]
              refine wpAnyH_take (i := 22) (v := ?_) rfl (by kernel_rfl) (by kernel_rfl) (by kernel_rfl) (fun _ _ _ h => h) (Or.inl ⟨by rfl, ?_⟩) (by assumption) ?_
              rotate_left
              · (intro w hSw; (try dsimp only at hSw); (first | (go_simp; done) | (go_simp; with_reducible rfl)))
              try simp only [Act.put, List.getElem_toArray, List.getElem_cons_zero, List.getElem_cons_succ, List.setIfInBounds_toArray, List.set_cons_zero, List.set_cons_succ]
              refine wpAnyH_take (i := 24) (v := ?_) rfl (by kernel_rfl) (by kernel_rfl) (by kernel_rfl) (fun _ _ _ h => h) (Or.inl ⟨by rfl, ?_⟩) (by assumption) ?_
              rotate_left
              · (intro w hSw; (try dsimp only at hSw); (first | (go_simp; done) | (go_simp; with_reducible rfl)))
              try simp only [Act.put, List.getElem_toArray, List.getElem_cons_zero, List.getElem_cons_succ, List.setIfInBounds_toArray, List.set_cons_zero, List.set_cons_succ]
              refine wpAnyH_take (i := 25) (v := ?_) rfl (by kernel_rfl) (by kernel_rfl) (by kernel_rfl) (fun _ _ _ h => h) (Or.inl ⟨by rfl, ?_⟩) (by assumption) ?_
              rotate_left
              · (intro w hSw; (try dsimp only at hSw); (first | (go_simp; done) | (go_simp; with_reducible rfl)))
              try simp only [Act.put, List.getElem_toArray, List.getElem_cons_zero, List.getElem_cons_succ, List.setIfInBounds_toArray, List.set_cons_zero, List.set_cons_succ]
              refine wpAnyH_take (i := 26) (v := ?_) rfl (by kernel_rfl) (by kernel_rfl) (by kernel_rfl) (fun _ _ _ h => h) (Or.inl ⟨by rfl, ?_⟩) (by assumption) ?_
              rotate_left
              · (intro w hSw; (try dsimp only at hSw); (first | (go_simp; done) | (go_simp; with_reducible rfl)))
              try simp only [Act.put, List.getElem_toArray, List.getElem_cons_zero, List.getElem_cons_succ, List.setIfInBounds_toArray, List.set_cons_zero, List.set_cons_succ]
              refine wpAnyH_ready (rs := [23]) (by kernel_rfl) (by simp) ?_
              refine AllReadyH.cons rfl (fun K hK => ?_) AllReadyH.nil
              go_simp
              (go_at_call 13; refine (sq _ hQ).mono ?_; rintro e w6 ⟨A6, c6, rfl, hb6, r6⟩; clear sq; replace hT := hT.below hb6; replace hP := hP.below hb6; replace hQ := hQ.below hb6; replace hBw := Below.step hBw hb6; replace hsp := keep_below hb6 hsp; replace z0 := Below.cell_some hb6 z0; replace z1 := Below.cell_some hb6 z1; clear hb6)
              refine hK.out _ _ (⟨z0, z1⟩) (fun hHeld => ?_)
              clear hK K
              try simp only [Act.put, List.getElem_toArray, List.getElem_cons_zero, List.getElem_cons_succ, List.setIfInBounds_toArray, List.set_cons_zero, List.set_cons_succ]
              refine wpAnyH_ready (rs := [27]) (by kernel_rfl) (by simp) ?_
              refine AllReadyH.cons rfl (fun K hK => ?_) AllReadyH.nil
              go_simp
              (go_at_call 13; refine (sp _ hP).mono ?_; rintro e w7 ⟨A7, c7, rfl, hb6, r7⟩; replace hT := hT.below hb6; replace hP := hP.below hb6; replace hQ := hQ.below hb6; replace hBw := Below.step hBw hb6; replace hsp := keep_below hb6 hsp; replace z0 := Below.cell_some hb6 z0; replace z1 := Below.cell_some hb6 z1; replace r6 := r6.below hb6; clear hb6 sp)
              refine hK.out _ _ (⟨z0, z1⟩) (fun hHeld => ?_)
              clear hK K
              try simp only [Act.put, List.getElem_toArray, List.getElem_cons_zero, List.getElem_cons_succ, List.setIfInBounds_toArray, List.set_cons_zero, List.set_cons_succ]
              refine wpAnyH_ready (rs := [28]) (by kernel_rfl) (by simp) ?_
              refine AllReadyH.cons rfl (fun K hK => ?_) AllReadyH.nil
              go_simp
              (go_at_call 14; refine (sameRows_calls _ _ rs rs _ r6 r7).mono ?_; rw [decide_eq_true rfl]; rintro e w8 ⟨rfl, hb6⟩; replace hT := hT.below hb6; replace hP := hP.below hb6; replace hQ := hQ.below hb6; replace hBw := Below.step hBw hb6; replace hsp := keep_below hb6 hsp; replace z0 := Below.cell_some hb6 z0; replace z1 := Below.cell_some hb6 z1; clear hb6 r6 r7)
              refine hK.out _ _ (⟨z0, z1⟩) (fun hHeld => ?_)
              clear hK K
              try simp only [Act.put, List.getElem_toArray, List.getElem_cons_zero, List.getElem_cons_succ, List.setIfInBounds_toArray, List.set_cons_zero, List.set_cons_succ]
              refine wpAnyH_take (i := 29) (v := ?_) rfl (by kernel_rfl) (by kernel_rfl) (by kernel_rfl) (fun _ _ _ h => h) (Or.inl ⟨by rfl, ?_⟩) (by assumption) ?_
              rotate_left
              · (intro w hSw; (try dsimp only at hSw); (first | (go_simp; done) | (go_simp; with_reducible rfl)))
              try simp only [Act.put, List.getElem_toArray, List.getElem_cons_zero, List.getElem_cons_succ, List.setIfInBounds_toArray, List.set_cons_zero, List.set_cons_succ]
              refine wpAnyH_take (i := 30) (v := ?_) rfl (by kernel_rfl) (by kernel_rfl) (by kernel_rfl) (fun _ _ _ h => h) (Or.inl ⟨by rfl, ?_⟩) (by assumption) ?_
              rotate_left
              · (intro w hSw; (try dsimp only at hSw); (first | (go_simp; done) | (go_simp; with_reducible rfl)))
              try simp only [Act.put, List.getElem_toArray, List.getElem_cons_zero, List.getElem_cons_succ, List.setIfInBounds_toArray, List.set_cons_zero, List.set_cons_succ]
              refine wpAnyH_take (i := 31) (v := ?_) rfl (by kernel_rfl) (by kernel_rfl) (by kernel_rfl) (fun _ _ _ h => h) (Or.inl ⟨by rfl, ?_⟩) (by assumption) ?_
              rotate_left
              · (intro w hSw; (try dsimp only at hSw); (first | (go_simp; done) | (go_simp; with_reducible rfl)))
              try simp only [Act.put, List.getElem_toArray, List.getElem_cons_zero, List.getElem_cons_succ, List.setIfInBounds_toArray, List.set_cons_zero, List.set_cons_succ]
              refine wpAnyH_done (by kernel_rfl) ?_ _
              refine NoPanic.normal ?_
              have hbq : Below w8.heap.size w8 w8 := Below.refl _ _
              have hsq := fun p : Later w8 => vsince_lit n sf st (sinceH hist n sf st) (by simp [hnm]) (by omega) (hQ.below p.ok)
              have hsp2 := fun p : Later w8 => vsince_lit n sf st (sinceH hist n sf st) (by simp) (by omega) (hP.below p.ok)
              have d0 := fun p : Later w8 => Later.cell p z0
              have d1 := fun p : Later w8 => Later.cell p z1
              go_wp2
              refine wp_region_later (by kernel_rfl) (by kernel_rfl) ?_
              repeat (go_big_quiet_step (((first | (go_at_call 15; with_reducible exact Calls.later (hsq _)) | (go_at_call 15; with_reducible exact Calls.later (hsp2 _))))))
              refine wpQuiet_nil ?_
              rintro _ ⟨p, rfl⟩
              clear d0 d1
              go_wp2
              go_roundw
              case rel => exact ⟨n + 1, by omega, by go_num, hT.below p.ok, Below.step hBw p.ok, keep_below p.ok hsp⟩
              case measure => simp [intOf]; omega
      · obtain ⟨_, _, _, _, hQ⟩ := hT.qq
        have htr := ptrim_bad hQ m (by omega) (by omega)
        have nw := pnow_P hT.pp
        have hgt : ¬ ((m : Int) ≤ hist.length) := by omega
        go_wp2_with (first
          | (go_at_call 10; refine htr.mono ?_; rintro e w4 ⟨rfl, rfl⟩)
          | (go_at_call 16; refine nw.mono ?_; rintro e w4 ⟨rfl, rfl⟩)
          | (go_at_call 8; refine (lives_calls _).mono ?_; rintro e w5 ⟨rfl, hb5⟩))
        go_ret
        exact ⟨rfl, Below.step hBw hb5⟩

end Go.Proofs.Ytimadkbdkdeepaa
