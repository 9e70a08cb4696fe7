import Derived.Test.YtimadkbdkdeepaaDoorPlLawP
import Derived.Test.YtimadkbdkdeepaaDoorPlRun
set_option linter.unusedVariables false
set_option linter.unusedSimpArgs false
set_option linter.unusedSectionVars false
namespace Go.Proofs.YtimadkbdkdeepaaDoor
open Go.RowKit

attribute [local go_sem ↓] Go.wp_at_zero Go.wp_at_succ

theorem filter_snoc {α : Type} (p : α → Bool) (l : List α) (i : Nat) (x : α) (h : l[i]? = some x) : ((l.take (i + 1)).filter p).length = ((l.take i).filter p).length + (if p x then 1 else 0) := by
  rw [take_snoc h, List.filter_append, List.length_append]
  congr 1
  cases hx : p x <;> simp [hx]
theorem any_snocK {α : Type} (p : α → Bool) (l : List α) (i : Nat) (x : α) (h : l[i]? = some x) : (l.take (i + 1)).any p = ((l.take i).any p || p x) := by
  rw [take_snoc h, List.any_append]
  simp

set_option maxHeartbeats 2000000 in
set_option maxRecDepth 100000 in
theorem plansKeep_walk (n : Nat) (hn : n < 4294967296) (v u : Value) (rows : List Row) (ops : List Opn) (w : World) (hT : Tab10 w) (hv : Rd Row.enc 2 w v rows) (hu : Rd Opn.enc 4 w u ops) (hs : ∀ x ∈ rows, x.ok) (hs2 : ∀ x ∈ ops, x.ok) :
    Calls Tryd.prog 3 #[v, u, .int .u32 n] w fun e w' => e = .returned (.bool true) ∧ Below w.heap.size w w' := by
  obtain ⟨A, c, rfl, hlc, hc⟩ := hv.shape
  obtain ⟨Au, cu, rfl, hlcu, hcu⟩ := hu.shape
  by_cases hlen : rows.length ≤ 300
  · by_cases hlen2 : ops.length ≤ 100
    · have hk : ∀ x ∈ rows, x.k.size ≤ 9223372036854775807 := fun x hx => by
        have h1 := (hs x hx).1
        unfold small at h1
        omega
      have hk2 : ∀ x ∈ ops, x.k.size ≤ 9223372036854775807 ∧ x.t.size ≤ 9223372036854775807 := fun x hx => by
        obtain ⟨_, h1, h2, _⟩ := hs2 x hx
        unfold small at h1 h2
        omega
      clear hs hs2
      cases hrun : runP rows ops with
      | none =>
        have hr := plRun_none _ _ rows ops w hv hu (by omega) (by omega) hk hk2 hrun
        clear hrun
        go_enter Tryd.func3, Tryd.ntmps3
        go_wp2_with (first | (go_at_call 7; refine hr.mono ?_; rintro e w1 ⟨rfl, hb1⟩) | (go_at_call 6; refine (plives_calls _ (hT.stays hb1)).mono ?_; rintro e w2 ⟨rfl, hb2⟩))
        go_ret
        exact ⟨rfl, Below.step hb1 hb2⟩
      | some rl =>
        obtain ⟨rs, left⟩ := rl
        have hr := plRun_some _ _ rows ops w hv hu (by omega) (by omega) hk hk2 hrun
        have HP := Lib.hid (keep_perm (n := n) hrun)
        have hll : left.length ≤ 1000 := by
          unfold runP at hrun
          split at hrun
          · injection hrun with h
            injection h with h1 h2
            subst h2
            have h3 := rowsR_len ops (stM rows)
            have h4 : (stM rows).length ≤ ([] : List Row).length + rows.length := stM_len rows []
            simp only [List.length_nil] at h4
            omega
          · cases hrun
        have hsp := fun W (hb : Below w.heap.size w W) => plSpans_calls n hn _ ops W (hT.stays hb) (hu.below hb) (by omega) hk2
        have hfar : ∀ r : Row, farR n ops r = !((joinF (allS n ops)).any fun x => meet4 r.k r.k x.f x.t) := fun r => rfl
        generalize farR n ops = far at *
        generalize joinF (allS n ops) = J at *
        have HFAR := Lib.hid hfar
        clear hrun hfar hk hk2
        go_enter Tryd.func3, Tryd.ntmps3
        go_wp2_with (first | (go_at_call 7; refine hr.mono ?_; rintro e w1 ⟨Ar, nr, cr, Al, cl, rfl, hb1, hR, hL⟩; have rdL := hL.rd row_len; clear hR hL hr) | (go_at_call 8; refine (hsp _ hb1).mono ?_; rintro e w2 ⟨v2, rfl, ownJ, hb2⟩; obtain ⟨AJ, cJ, rfl, hcJ, hcJ'⟩ := ownJ.slice; have rdJ := ownJ.rd span_len; clear ownJ hsp; have rdL2 := rdL.below hb2; have hB := Below.step hb1 hb2; have hv2 := hv.below hB))
        obtain ⟨ALx, cLx, eL, hcL, hcL'⟩ := rdL2.shape
        injection eL with eL1 eL2 eL3
        subst eL1 eL3
        clear eL2
        have heqg := eqg_row
        have heql := eql_row
        go_loopw [11, 12] (fun nv i wr => ∃ m : Nat, m ≤ rows.length ∧ i = .int .i64 m ∧ nv = .int .i64 (((rows.take m).filter far).length : Int) ∧ Below w2.heap.size w2 wr) (fun _ i _ => rows.length - (intOf i).toNat)
        case atStart => exact ⟨0, Nat.zero_le _, rfl, rfl, Below.refl _ _⟩
        case round =>
          obtain ⟨m, hm, rfl, rfl, hb⟩ := hrel
          have hfl : ((rows.take m).filter far).length ≤ 1000 := by
            have h1 := List.length_filter_le far (rows.take m)
            have h2 : (rows.take m).length ≤ m := by rw [List.length_take]; omega
            omega
          by_cases hlt : m < rows.length
          · obtain ⟨b, o, rfl, hx1, hx2⟩ := (hv2.below hb).row (List.getElem?_eq_getElem hlt)
            have HS := Lib.hid (filter_snoc far rows m _ (List.getElem?_eq_getElem hlt))
            have HMEM := Lib.hid (List.getElem_mem hlt)
            generalize rows[m] = r at *
            have HF := Lib.hid (HFAR.out r)
            obtain ⟨rk, rn⟩ := r
            dsimp only at hx1 hx2 HF
            have i1 := fun p : Later wr => any_calls rk rk _ J p.val ((rdJ.below hb).below p.ok)
            generalize (J.any fun x => meet4 rk rk x.f x.t) = q at *
            have y1 := fun p : Later wr => Later.cell p hx1
            have y2 := fun p : Later wr => Later.cell p hx2
            clear hx1 hx2
            generalize ((rows.take m).filter far).length = nf at *
            cases q
            · have hmem : (⟨rk, rn⟩ : Row) ∈ left := by
                have h1 : (⟨rk, rn⟩ : Row) ∈ rows.filter far := List.mem_filter.2 ⟨HMEM.out, by rw [HF.out]; rfl⟩
                exact (List.mem_filter.1 (HP.out.mem_iff.2 h1)).1
              have hin : (left.any fun y => decide (y.k = rk) && decide (y.v = rn)) = true := by
                rw [List.any_eq_true]
                exact ⟨_, hmem, by simp⟩
              have HIN := Lib.hid hin
              clear hmem hin
              obtain ⟨wo, rfl⟩ : ∃ wo : World, wo = wr := ⟨_, rfl⟩
              go_wp2
              refine wp_region_later (by kernel_rfl) (by kernel_rfl) ?_
              repeat (go_big_quiet_step ((go_at_call 9; with_reducible exact Calls.later (i1 _))))
              refine wpQuiet_nil ?_
              rintro _ ⟨p, rfl⟩
              have d1 := y1 p
              have d2 := y2 p
              have hbq := Below.step hb p.ok
              clear y1 y2 i1
              generalize p.val = wq at *
              have hm0 : (0 : Int) ≤ (m : Int) := by omega
              have hm1 : (m : Int) < (rows.length : Int) := by omega
              go_wp2
              go_loopw [13, 14] (fun bv i wr => ∃ k : Nat, k ≤ left.length ∧ i = .int .i64 k ∧ bv = .bool ((left.take k).any fun y => decide (y.k = rk) && decide (y.v = rn)) ∧ Below wq.heap.size wq wr) (fun _ i _ => left.length - (intOf i).toNat)
              case atStart => exact ⟨0, Nat.zero_le _, rfl, rfl, Below.refl _ _⟩
              case round =>
                obtain ⟨k, hk, rfl, rfl, hbk⟩ := hrel
                by_cases hltk : k < left.length
                · obtain ⟨b2, o2, hAl, hz1, hz2⟩ := (rdL2.below (Below.step hbq hbk)).row (List.getElem?_eq_getElem hltk)
                  subst hAl
                  have HT := Lib.hid (any_snocK (fun y : Row => decide (y.k = rk) && decide (y.v = rn)) left k _ (List.getElem?_eq_getElem hltk))
                  generalize left[k] = y at *
                  obtain ⟨yk, yn⟩ := y
                  dsimp only at hz1 hz2 HT
                  generalize ((left.take k).any fun y => decide (y.k = rk) && decide (y.v = rn)) = bo at *
                  replace hz1 := fun p : Later wr => Later.cell p hz1
                  replace hz2 := fun p : Later wr => Later.cell p hz2
                  have e1 := fun p : Later wr => Later.cell p (Below.cell_some hbk d1)
                  have e2 := fun p : Later wr => Later.cell p (Below.cell_some hbk d2)
                  cases bo
                  all_goals
                    go_wp2
                    refine wp_region_later (by kernel_rfl) (by kernel_rfl) ?_
                    repeat (go_big_quiet_step ((fail)))
                    refine wpQuiet_nil ?_
                    rintro _ ⟨p2, rfl⟩
                    clear hz1 hz2 e1 e2
                    go_wp2
                    go_roundw
                    case rel => exact ⟨k + 1, by omega, by go_num, by rw [HT.out]; rfl, Below.step hbk p2.ok⟩
                    case measure => simp [intOf]; omega
                · have ek : ((left.take k).any fun y => decide (y.k = rk) && decide (y.v = rn)) = true := by rw [List.take_of_length_le (by omega)]; exact HIN.out
                  rw [ek]
                  clear ek
                  go_wp2
                  go_roundw
                  case rel => exact ⟨m + 1, by omega, by go_num, by rw [HS.out, HF.out]; rfl, Below.step hbq hbk⟩
                  case measure => simp [intOf]; omega
            · go_wp2
              refine wp_region_later (by kernel_rfl) (by kernel_rfl) ?_
              repeat (go_big_quiet_step ((go_at_call 9; with_reducible exact Calls.later (i1 _))))
              refine wpQuiet_nil ?_
              rintro _ ⟨p, rfl⟩
              clear y1 y2 i1
              go_wp2
              go_roundw
              case rel => exact ⟨m + 1, by omega, by go_num, by rw [HS.out, HF.out]; rfl, Below.step hb p.ok⟩
              case measure => simp [intOf]; omega
          · have hml : m = rows.length := by omega
            subst hml
            rw [List.take_length] at *
            have HLEN := Lib.hid HP.out.length_eq
            have HRD := Lib.hid rdJ
            clear hlt
            generalize hNf : (rows.filter far).length = nf at *
            clear hNf
            obtain ⟨wo, rfl⟩ : ∃ wo : World, wo = wr := ⟨_, rfl⟩
            go_wp2
            go_loopw [11, 15] (fun nv i wr => ∃ (k : Nat) (z : Int), k ≤ left.length ∧ i = .int .i64 k ∧ nv = .int .i64 z ∧ z = (nf : Int) - ((left.take k).filter far).length ∧ Below wo.heap.size wo wr) (fun _ i _ => left.length - (intOf i).toNat)
            case atStart => exact ⟨0, nf, Nat.zero_le _, rfl, rfl, by simp, Below.refl _ _⟩
            case round =>
              obtain ⟨k, z, hk, rfl, rfl, hz, hbk⟩ := hrel
              have hfk : ((left.take k).filter far).length ≤ 1000 := by
                have h1 := List.length_filter_le far (left.take k)
                have h2 : (left.take k).length ≤ k := by rw [List.length_take]; omega
                omega
              by_cases hltk : k < left.length
              · obtain ⟨b2, o2, hAl, hz1, hz2⟩ := (rdL2.below (Below.step hb hbk)).row (List.getElem?_eq_getElem hltk)
                subst hAl
                have HS := Lib.hid (filter_snoc far left k _ (List.getElem?_eq_getElem hltk))
                generalize left[k] = y at *
                have HF := Lib.hid (HFAR.out y)
                obtain ⟨yk, yn⟩ := y
                dsimp only at hz1 hz2 HF
                have i1 := fun p : Later wr => any_calls yk yk _ J p.val (((HRD.out.below hb).below hbk).below p.ok)
                generalize (J.any fun x => meet4 yk yk x.f x.t) = q at *
                generalize ((left.take k).filter far).length = lf at *
                have z0 : -2000 ≤ z := by omega
                have z1 : z ≤ 2000 := by omega
                have HZ := Lib.hid hz
                clear hz
                replace hz1 := fun p : Later wr => Later.cell p hz1
                replace hz2 := fun p : Later wr => Later.cell p hz2
                cases q
                · go_wp2
                  refine wp_region_later (by kernel_rfl) (by kernel_rfl) ?_
                  repeat (go_big_quiet_step ((go_at_call 9; with_reducible exact Calls.later (i1 _))))
                  refine wpQuiet_nil ?_
                  rintro _ ⟨p, rfl⟩
                  clear hz1 hz2 i1
                  go_wp2
                  go_roundw
                  case rel => exact ⟨k + 1, z - 1, by omega, by go_num, by first | rfl | simp only [wrap_id (n := z - 1) (by omega) (by omega)], by rw [HS.out, HF.out, HZ.out]; simp; omega, Below.step hbk p.ok⟩
                  case measure => simp [intOf]; omega
                · go_wp2
                  refine wp_region_later (by kernel_rfl) (by kernel_rfl) ?_
                  repeat (go_big_quiet_step ((go_at_call 9; with_reducible exact Calls.later (i1 _))))
                  refine wpQuiet_nil ?_
                  rintro _ ⟨p, rfl⟩
                  clear hz1 hz2 i1
                  go_wp2
                  go_roundw
                  case rel => exact ⟨k + 1, z, by omega, by go_num, rfl, by rw [HS.out, HF.out, HZ.out]; simp, Below.step hbk p.ok⟩
                  case measure => simp [intOf]; omega
              · have hz0 : z = 0 := by
                  rw [hz, List.take_of_length_le (by omega), HLEN.out]
                  omega
                subst hz0
                clear hz
                have hlv := plives_calls wr (hT.stays (Below.step hB (Below.step hb hbk)))
                go_wp2_with (go_at_call 6; refine hlv.mono ?_; rintro e w5 ⟨rfl, hb5⟩)
                go_ret
                exact ⟨rfl, Below.step (Below.step hB (Below.step hb hbk)) hb5⟩
    · go_enter Tryd.func3, Tryd.ntmps3
      go_wp2_with (go_at_call 6; refine (plives_calls _ hT).mono ?_; rintro e w1 ⟨rfl, hb1⟩)
      go_ret
      exact ⟨rfl, hb1⟩
  · go_enter Tryd.func3, Tryd.ntmps3
    go_wp2_with (go_at_call 6; refine (plives_calls _ hT).mono ?_; rintro e w1 ⟨rfl, hb1⟩)
    go_ret
    exact ⟨rfl, hb1⟩

theorem plansKeep_walkI (m : Int) (v u : Value) (rows : List Row) (ops : List Opn) (w : World) (hm : (Lit.int .u32 m).wf = true) (hT : Tab10 w) (hv : Rd Row.enc 2 w v rows) (hu : Rd Opn.enc 4 w u ops) (hs : ∀ x ∈ rows, x.ok) (hs2 : ∀ x ∈ ops, x.ok) :
    Calls Tryd.prog 3 #[v, u, .int .u32 m] w fun e w' => e = .returned (.bool true) ∧ Below w.heap.size w w' := by
  obtain ⟨n, rfl, hn⟩ := nat_of_u32 hm
  exact plansKeep_walk n hn v u rows ops w hT hv hu hs hs2

end Go.Proofs.YtimadkbdkdeepaaDoor
