/-
  The law concordatlaw14.VersionsOne: a row that is got, behind any commit, is the one that a scan of its key tells; scans of two spans, the second one from the next key on, tell together what the scan of both tells. No condition.
-/
import Derived.Test.YtimadkbdkdeepaaVLaw
import Derived.Test.YtimadkbdkdeepaaEqRow
import Derived.Test.YtimadkbdkdeepaaTwRow
set_option linter.unusedVariables false
set_option linter.unusedSimpArgs false
namespace Go.Proofs.Ytimadkbdkdeepaa
open Go.RowKit Go.Shelf

set_option maxHeartbeats 1000000 in
set_option maxRecDepth 100000 in
theorem versionsOne_walk (v : Value) (xs : List VAct) (mi : Int) (a b c : ByteArray) (w : World) (hv : Rd VAct.enc 3 w v xs) (hlen : xs.length * 40 ≤ 140737488351232) (hok : ∀ x ∈ xs, x.ok w) (hm : (Lit.int .u32 mi).wf = true) (ha : small a) (hb : small b) (hc : small c) :
    Calls Try.prog 3 #[.agg #[v, .int .u32 mi, .string a, .string b, .string c]] w fun e w' => e = .returned (.bool true) ∧ Below w.heap.size w w' := by
  obtain ⟨m, rfl⟩ : ∃ m : Nat, mi = m := nat_of_u32 hm
  clear hm
  have hgr := fun (W : World) (hb : Below w.heap.size w W) => vgreat_calls v xs W (hv.below hb) (by omega) (fun x hx => ⟨(hok x hx).q, (hok x hx).at_, (hok x hx).rd.below hb, (hok x hx).len, (hok x hx).each⟩)
  obtain ⟨A, cp, rfl, hlc, hcp⟩ := hv.shape
  have hBa : Below w.heap.size w (w.alloc (.cells #[.slice A xs.length cp, .int .u32 m, .string a, .string b, .string c] 25)) := (Below.refl _ w).alloc (Nat.le_refl _) _
  have hcond : (sle a b = false) ∨ (sle a b = true ∧ slt b c = false) ∨ (sle a b = true ∧ slt b c = true) := by cases sle a b <;> cases slt b c <;> simp
  rcases hcond with hab | ⟨hab, hbc⟩ | ⟨hab, hbc⟩
  iterate 2
    · go_enter Try.func3, Try.ntmps3
      go_wp2_with (first
        | (go_at_call 7; refine (hgr _ hBa).mono ?_; rintro e w1 ⟨⟨g, rfl, hgo⟩, hb1⟩; cases g)
        | (go_at_call 8; refine (lives_calls _).mono ?_; rintro e w2 ⟨rfl, hb2⟩))
      all_goals
        go_ret
        exact ⟨rfl, Below.step (Below.step hBa hb1) hb2⟩
  go_enter Try.func3, Try.ntmps3
  go_wp2_with (first
    | (go_at_call 7; refine (hgr _ hBa).mono ?_; rintro e w1 ⟨⟨g, rfl, hgo⟩, hb1⟩; cases g)
    | (go_at_call 8; refine (lives_calls _).mono ?_; rintro e w2 ⟨rfl, hb2⟩)
    | (go_at_call 9; refine (pnew_calls _).mono ?_; rintro e w2 ⟨rfl, hb2, hP2⟩))
  rotate_left
  · go_ret
    exact ⟨rfl, Below.step (Below.step hBa hb1) hb2⟩
  obtain ⟨hn60, hs600⟩ := hgo (by simp)
  have hB1 := Below.step hBa hb1
  clear hb1 hgr hgo hBa
  have hbase := hB1.size
  have hbase2 := hb2.size
  go_loopw [9] (fun iv wr => ∃ k : Nat, k ≤ xs.length ∧ iv = .int .i64 k ∧ PastI w1.heap.size w2 (w1.heap.size + 1) (sumA (xs.take k)) k wr) (fun iv _ => xs.length - (intOf iv).toNat)
  case atStart => exact ⟨0, Nat.zero_le _, rfl, [], 0, hP2, by simp, by simp, PStep.refl _ _⟩
  case round =>
    clear hP2
    obtain ⟨k, hk, rfl, hI⟩ := hrel
    have hBw : Below w.heap.size w wr := Below.step hB1 (hb2.trans (hI.below hbase2))
    by_cases hlt : k < xs.length
    · have hxk := List.getElem?_eq_getElem hlt
      have hxo := hok _ (List.getElem_mem hlt)
      have hsn := sumA_take xs k _ hxk
      have hsl := sumA_le xs (k + 1)
      obtain ⟨bb, o, rfl, hx1, hx2, hx3⟩ := (hv.below hBw).vact hxk
      generalize xs[k] = x at *
      obtain ⟨xq, xv, xc, xa⟩ := x
      have htr := vtrim_I hI (by omega) hxo.at_
      have hco := vcommit_I hI (RdS.of_low change_len (by decide) hxo.rd hBw hbase) hxo.each (by simp only at hsn ⊢; omega) (by omega)
      simp only at htr hco hx1 hx2 hx3 hsn
      have HS := Lib.hid hsn
      clear hsn hxo hxk hok hI
      go_wp2_with (first
        | (go_at_call 10; refine htr.mono ?_; rintro e w3 ⟨⟨r, rfl⟩, hI3⟩)
        | (go_at_call 11; refine hco.mono ?_; rintro e w3 ⟨⟨r1, r2, rfl⟩, hI3⟩))
      all_goals
        go_roundw
        case rel => exact ⟨k + 1, by omega, by go_num, hI3.mono (by rw [HS.out]; omega) (by omega)⟩
        case measure => simp [intOf]; omega
    · have hkl : k = xs.length := by omega
      subst hkl
      rw [List.take_length] at hI
      obtain ⟨hist, trim, hP, hh1, hh2, hps⟩ := hI
      have hrk := hP.rows_ok (max m trim)
      have hri := rowsN_rising hist (max m trim)
      have hone := rowsIn_one a hri
      have hspl := rowsIn_split (b0 := b ++ (⟨#[48]⟩ : ByteArray)) hri hrk hab hbc (add0_l b)
      have hg := pget_P hP (by omega) m a (by unfold okS maxLen; unfold small at ha; omega)
      have s1 := fun W (h : PastP w1.heap.size W (w1.heap.size + 1) hist trim) => pscan_P h (by omega) m a a 9
      have s2 := fun W (h : PastP w1.heap.size W (w1.heap.size + 1) hist trim) => pscan_all h (by omega) m a b _ rfl
      have s3 := fun W (h : PastP w1.heap.size W (w1.heap.size + 1) hist trim) => pscan_all h (by omega) m (b ++ (⟨#[48]⟩ : ByteArray)) c _ rfl
      have s4 := fun W (h : PastP w1.heap.size W (w1.heap.size + 1) hist trim) => pscan_all h (by omega) m a c _ hspl
      have hl2 : (rowsIn a b (rowsN hist (max m trim))).length ≤ 600 := Nat.le_trans (Nat.le_trans (List.length_filter_le _ _) (rowsN_length _ _)) (by omega)
      have hl3 : (rowsIn (b ++ (⟨#[48]⟩ : ByteArray)) c (rowsN hist (max m trim))).length ≤ 600 := Nat.le_trans (Nat.le_trans (List.length_filter_le _ _) (rowsN_length _ _)) (by omega)
      have hbsz : ¬ 9223372036854775807 < b.size + 1 := by unfold small at hb; omega
      clear hspl hrk hri hok hps hh1 hh2
      generalize rowsIn a b (rowsN hist (max m trim)) = lo at *
      generalize rowsIn (b ++ (⟨#[48]⟩ : ByteArray)) c (rowsN hist (max m trim)) = hi at *
      rw [hone] at s1
      clear hone
      generalize getL a (rowsN hist (max m trim)) = gv at *
      cases gv with
      | none =>
        go_wp2_with (first
          | (go_at_call 12; refine hg.mono ?_; rintro e w3 ⟨n3, rfl, hn3, hb3⟩; clear hg; replace hBw := Below.step hBw hb3; replace hP := hP.below hb3; clear hb3; clear hn3)
          | (go_at_call 13; refine (s1 _ hP).mono ?_; rintro e w11 ⟨A1, c1, rfl, hb1, r1⟩; clear s1; replace hBw := Below.step hBw hb1; replace hP := hP.below hb1; clear hb1)
          | (go_at_call 13; refine (s2 _ hP).mono ?_; rintro e w12 ⟨A2, c2, rfl, hb1, r2⟩; clear s2; replace hBw := Below.step hBw hb1; replace hP := hP.below hb1; clear hb1)
          | (go_at_call 13; refine (s3 _ hP).mono ?_; rintro e w13 ⟨A3, c3, rfl, hb1, r3⟩; clear s3; replace r2 := r2.below hb1; replace hBw := Below.step hBw hb1; replace hP := hP.below hb1; clear hb1)
          | (go_at_call 13; refine (s4 _ hP).mono ?_; rintro e w14 ⟨A4, c4, rfl, hb1, r4⟩; clear s4; replace r2 := r2.below hb1; replace r3 := r3.below hb1; replace hBw := Below.step hBw hb1; replace hP := hP.below hb1; clear hb1)
          | (at_builtin; refine append_all Row.enc 2 44 39 24 _ w14.heap.size (.slice none 0 0) [] lo A2 c2 rfl _ _ rfl under_rows info_rowi rfl (by decide) (by decide) row_len row_one rfl rfl r2 (Own.nil _ _ _ _ _) (Below.refl _ _) (Nat.le_refl _) (by simp; omega) ?_; intro v9 w9 hown9 hb9 hgr9; rw [List.nil_append] at hown9; obtain ⟨A9, c9, hv9, _, _⟩ := hown9.slice; skip; subst hv9; replace r3 := r3.below hb9; clear hgr9 r2)
          | (at_builtin; refine append_all Row.enc 2 44 39 24 _ w14.heap.size (.slice A9 lo.length c9) lo hi A3 c3 rfl _ _ rfl under_rows info_rowi rfl (by decide) (by decide) row_len row_one rfl rfl r3 hown9 hb9 hb9.size (by omega) ?_; intro v10 w10 hown10 hb10 hgr10; have hr10 := hown10.rd row_len; have hsame := sameRows_calls _ v10 (lo ++ hi) (lo ++ hi) w10 (r4.below hb10) hr10; rw [decide_eq_true rfl] at hsame; obtain ⟨A10, c10, hv10, _, _⟩ := hown10.slice; rw [List.length_append] at hv10; rw [List.length_append] at hsame; subst hv10; replace hBw := Below.step hBw hb10; clear hgr10 hown9 hb9 hown10 r3 r4)
          | (go_at_call 14; refine hsame.mono ?_; rintro e w16 ⟨rfl, hb16⟩; clear hsame; replace hBw := Below.step hBw hb16; clear hb16)
          | (go_at_call 8; refine (lives_calls _).mono ?_; rintro e w17 ⟨rfl, hb17⟩; replace hBw := Below.step hBw hb17; clear hb17))
        go_ret
        exact ⟨rfl, hBw⟩
      | some u =>
        go_wp2_with (first
          | (go_at_call 12; refine hg.mono ?_; rintro e w3 ⟨n3, rfl, hn3, hb3⟩; clear hg; replace hBw := Below.step hBw hb3; replace hP := hP.below hb3; clear hb3; obtain rfl := hn3 _ rfl; clear hn3)
          | (go_at_call 13; refine (s1 _ hP).mono ?_; rintro e w11 ⟨A1, c1, rfl, hb1, r1⟩; clear s1; obtain ⟨bq, oq, rfl, y1, y2⟩ := r1.row (i := 0) (x := ⟨a, n3⟩) rfl; clear r1; rw [Nat.zero_mul, Nat.add_zero] at y1 y2; have hne := neq_row; have hge := eqg_row; replace hBw := Below.step hBw hb1; replace hP := hP.below hb1; clear hb1)
          | (go_at_call 13; refine (s2 _ hP).mono ?_; rintro e w12 ⟨A2, c2, rfl, hb1, r2⟩; clear s2; clear y1 y2; replace hBw := Below.step hBw hb1; replace hP := hP.below hb1; clear hb1)
          | (go_at_call 13; refine (s3 _ hP).mono ?_; rintro e w13 ⟨A3, c3, rfl, hb1, r3⟩; clear s3; replace r2 := r2.below hb1; replace hBw := Below.step hBw hb1; replace hP := hP.below hb1; clear hb1)
          | (go_at_call 13; refine (s4 _ hP).mono ?_; rintro e w14 ⟨A4, c4, rfl, hb1, r4⟩; clear s4; replace r2 := r2.below hb1; replace r3 := r3.below hb1; replace hBw := Below.step hBw hb1; replace hP := hP.below hb1; clear hb1)
          | (at_builtin; refine append_all Row.enc 2 44 39 24 _ w14.heap.size (.slice none 0 0) [] lo A2 c2 rfl _ _ rfl under_rows info_rowi rfl (by decide) (by decide) row_len row_one rfl rfl r2 (Own.nil _ _ _ _ _) (Below.refl _ _) (Nat.le_refl _) (by simp; omega) ?_; intro v9 w9 hown9 hb9 hgr9; rw [List.nil_append] at hown9; obtain ⟨A9, c9, hv9, _, _⟩ := hown9.slice; skip; subst hv9; replace r3 := r3.below hb9; clear hgr9 r2)
          | (at_builtin; refine append_all Row.enc 2 44 39 24 _ w14.heap.size (.slice A9 lo.length c9) lo hi A3 c3 rfl _ _ rfl under_rows info_rowi rfl (by decide) (by decide) row_len row_one rfl rfl r3 hown9 hb9 hb9.size (by omega) ?_; intro v10 w10 hown10 hb10 hgr10; have hr10 := hown10.rd row_len; have hsame := sameRows_calls _ v10 (lo ++ hi) (lo ++ hi) w10 (r4.below hb10) hr10; rw [decide_eq_true rfl] at hsame; obtain ⟨A10, c10, hv10, _, _⟩ := hown10.slice; rw [List.length_append] at hv10; rw [List.length_append] at hsame; subst hv10; replace hBw := Below.step hBw hb10; clear hgr10 hown9 hb9 hown10 r3 r4)
          | (go_at_call 14; refine hsame.mono ?_; rintro e w16 ⟨rfl, hb16⟩; clear hsame; replace hBw := Below.step hBw hb16; clear hb16)
          | (go_at_call 8; refine (lives_calls _).mono ?_; rintro e w17 ⟨rfl, hb17⟩; replace hBw := Below.step hBw hb17; clear hb17))
        go_ret
        exact ⟨rfl, hBw⟩

end Go.Proofs.Ytimadkbdkdeepaa
