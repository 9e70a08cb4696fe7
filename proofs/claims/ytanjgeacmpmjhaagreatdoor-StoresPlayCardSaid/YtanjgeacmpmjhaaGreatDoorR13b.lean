import Derived.Test.YtanjgeacmpmjhaaGreatDoorR13
import Derived.Deep.QuietTactic
import Derived.BigQuiet
import Derived.Deep.RegionHeld3
import Derived.StillTailTactics
set_option linter.unusedVariables false
set_option linter.unusedSimpArgs false
set_option linter.unusedSectionVars false
namespace Go.Proofs.YtanjgeacmpmjhaaGreatDoor
open Go.RowKit

section
variable {base : Nat} {w w' : World} {C : Nat} {u : Value} {ys : List Row}
/-- What an act of the reference's may do. -/
def RAct (base : Nat) (w w' : World) (C : Nat) (u : Value) (zs : List Row) : Prop := ∃ u', RMap base w' C u' zs ∧ Turn (fun g => g = C) w w' ∧ (∀ g, u'.ownBlock = some g → u.ownBlock = some g ∨ w.heap.size ≤ g)
theorem RAct.of_below (h : RMap base w C u ys) (hb : Below w.heap.size w w') : RAct base w w' C u ys := ⟨u, h.below hb, .of_below hb, fun _ h => .inl h⟩
theorem RAct.behind {w1 : World} {zs : List Row} (hb : Below w.heap.size w w1) (h : RAct base w1 w' C u zs) : RAct base w w' C u zs := by
  obtain ⟨u', r, t, n⟩ := h
  exact ⟨u', r, (Turn.of_below hb).step t fun _ _ h => h, fun g hg => (n g hg).imp id fun h => Nat.le_trans hb.size h⟩

set_option maxHeartbeats 400000 in
theorem rnew13_calls (w : World) : Calls Tryz.prog 10 #[] w fun e w' => e = .returned (.pointer (some ⟨w.heap.size, 0, none⟩)) ∧ Below w.heap.size w w' ∧ RMap w.heap.size w' w.heap.size (.slice none 0 0) [] := by
  go_enter Tryz.func10, Tryz.ntmps10
  go_wp2
  go_ret
  exact ⟨rfl, (Below.refl _ w).alloc (Nat.le_refl _) _, alloc_new w _, .nil _ _ _ _ _, List.Pairwise.nil, fun y hy => (by cases hy), Nat.le_refl _⟩

set_option maxHeartbeats 400000 in
theorem rput13_calls (h : RMap base w C u ys) (hl : ys.length ≤ 1000000) (k : ByteArray) (hk : k.size ≤ 9223372036854775807) (n : Int) :
    Calls Tryz.prog 13 #[.pointer (some ⟨C, 0, none⟩), .string k, .int .u32 n] w fun e w' => e = .returned (.int .i64 (if okKey k then 0 else 1)) ∧ RAct base w w' C u (if okKey k then putL k n ys else ys) := by
  have hck := rcheck_calls k w hk
  cases hb : okKey k
  · rw [hb] at hck
    have HN := Lib.hid (fun w1 (hb1 : Below w.heap.size w w1) => RAct.of_below h hb1)
    clear h
    go_enter Tryz.func13, Tryz.ntmps13
    go_wp2_with (go_at_call 83; refine hck.mono ?_; rintro e w1 ⟨rfl, hb1⟩)
    go_ret
    exact ⟨by simp, by simpa using HN.out _ hb1⟩
  · rw [hb] at hck
    have HS := Lib.hid (fun w1 (hb1 : Below w.heap.size w w1) => rset_calls (h.below hb1) hl k hb n false)
    clear h
    go_enter Tryz.func13, Tryz.ntmps13
    go_wp2_with (first
      | (go_at_call 83; refine hck.mono ?_; rintro e w1 ⟨rfl, hb1⟩)
      | (go_at_call 84; refine (HS.out _ hb1).mono ?_; rintro e w2 ⟨rfl, u', r', t', n'⟩))
    go_ret
    exact ⟨by simp, by simpa using RAct.behind hb1 ⟨u', r', t', fun g hg => .inr (n' g hg)⟩⟩

set_option maxHeartbeats 400000 in
theorem rdel13_calls (h : RMap base w C u ys) (hl : ys.length ≤ 1000000) (k : ByteArray) (hk : k.size ≤ 9223372036854775807) :
    Calls Tryz.prog 15 #[.pointer (some ⟨C, 0, none⟩), .string k] w fun e w' => e = .returned (.int .i64 (if okKey k then (if (getL k ys).isSome then 0 else 6) else 1)) ∧ RAct base w w' C u (if okKey k then delL k ys else ys) := by
  have hck := rcheck_calls k w hk
  cases hb : okKey k
  · rw [hb] at hck
    have HN := Lib.hid (fun w1 (hb1 : Below w.heap.size w w1) => RAct.of_below h hb1)
    clear h
    go_enter Tryz.func15, Tryz.ntmps15
    go_wp2_with (go_at_call 83; refine hck.mono ?_; rintro e w1 ⟨rfl, hb1⟩)
    go_ret
    exact ⟨by simp, by simpa using HN.out _ hb1⟩
  · rw [hb] at hck
    have HN := Lib.hid (fun w1 (hb1 : Below w.heap.size w w1) => RAct.of_below h hb1)
    have HS := Lib.hid (fun w1 (hb1 : Below w.heap.size w w1) => rset_calls (h.below hb1) hl k hb 0 true)
    have HGt := Lib.hid (fun w1 (hb1 : Below w.heap.size w w1) => rget_calls (h.below hb1) hl k)
    have hdn := Lib.hid (del_none k ys)
    clear h
    cases hg : getL k ys with
    | none =>
      rw [hg] at HGt
      have hd := hdn.out hg
      rw [hd]
      simp only [Option.getD_none, Option.isSome_none] at HGt
      clear hd hdn
      go_enter Tryz.func15, Tryz.ntmps15
      go_wp2_with (first
        | (go_at_call 83; refine hck.mono ?_; rintro e w1 ⟨rfl, hb1⟩)
        | (go_at_call 26; refine (HGt.out _ hb1).mono ?_; rintro e _ ⟨rfl, rfl⟩))
      go_ret
      exact ⟨by simp, by simpa using HN.out _ hb1⟩
    | some v =>
      rw [hg] at HGt
      simp only [Option.getD_some, Option.isSome_some] at HGt
      clear hdn
      go_enter Tryz.func15, Tryz.ntmps15
      go_wp2_with (first
        | (go_at_call 83; refine hck.mono ?_; rintro e w1 ⟨rfl, hb1⟩)
        | (go_at_call 26; refine (HGt.out _ hb1).mono ?_; rintro e _ ⟨rfl, rfl⟩)
        | (go_at_call 84; refine (HS.out _ hb1).mono ?_; rintro e w2 ⟨rfl, u', r', t', n'⟩))
      go_ret
      exact ⟨by simp, by simpa using RAct.behind hb1 ⟨u', r', t', fun g hg => .inr (n' g hg)⟩⟩

set_option maxHeartbeats 400000 in
theorem rrows13_calls (h : RMap base w C u ys) (hl : ys.length ≤ 1000000) :
    Calls Tryz.prog 29 #[.pointer (some ⟨C, 0, none⟩)] w fun e w' => ∃ v', e = .returned v' ∧ Below w.heap.size w w' ∧ Own Row.enc 2 44 w.heap.size w' v' ys := by
  have hrd := h.own.rd row_len
  have c0 := h.c0
  obtain ⟨A, c, rfl, hlc, hc⟩ := hrd.shape
  clear h
  have HR := Lib.hid hrd
  clear hrd
  go_enter Tryz.func29, Tryz.ntmps29
  go_wp2_with (at_builtin; refine append_allN (w0 := w) Row.enc 2 44 56 24 _ w.heap.size (.slice none 0 0) [] ys _ _ _ rfl _ _ rfl Tryz.underlying56 info_rowR rfl (by decide) (by decide) row_len row_one rfl rfl HR.out (.nil _ _ _ _ _) (Below.refl _ _) (Nat.le_refl _) (by simp <;> omega) ?_; intro v2 w2 own2 hb2 _)
  go_ret
  exact ⟨_, rfl, hb2, by simpa using own2⟩

set_option maxHeartbeats 400000 in
theorem rtwin13_calls (h : RMap base w C u ys) (hl : ys.length ≤ 1000000) :
    Calls Tryz.prog 24 #[.pointer (some ⟨C, 0, none⟩)] w fun e w' => ∃ C' u', e = .returned (.pointer (some ⟨C', 0, none⟩)) ∧ Below w.heap.size w w' ∧ RMap w.heap.size w' C' u' ys := by
  have hrows := rrows13_calls h hl
  have HO := Lib.hid (And.intro h.rise h.ok)
  clear h
  go_enter Tryz.func24, Tryz.ntmps24
  go_wp2_with (go_at_call 29; refine hrows.mono ?_; rintro e w1 ⟨v1, rfl, hb1, own1⟩; have hs1 := hb1.size; obtain ⟨A1, c1, rfl, _, _⟩ := own1.slice)
  go_ret
  have hba := (Below.refl _ w1).alloc (Nat.le_refl _) (.cells #[.slice A1 ys.length c1] 126)
  exact ⟨w1.heap.size, _, rfl, Below.step hb1 hba, alloc_new w1 _, own1.below hba, HO.out.1, HO.out.2, hs1⟩

set_option maxHeartbeats 800000 in
set_option maxRecDepth 100000 in
theorem rscan13_calls (h : RMap base w C u ys) (hl : ys.length ≤ 1000000) (f t : ByteArray) (hf : f.size ≤ 9223372036854775807) (ht : t.size ≤ 9223372036854775807) (most : Int) :
    Calls Tryz.prog 21 #[.pointer (some ⟨C, 0, none⟩), .agg #[.string f, .string t], .int .i64 most] w fun e w' => ∃ v', e = .returned v' ∧ Below w.heap.size w w' ∧ Own Row.enc 2 44 w.heap.size w' v' ((rowsIn f t ys).take most.toNat) := by
  have hrd := h.own.rd row_len
  have c0 := h.c0
  have hokx : ∀ x ∈ ys, x.k.size ≤ 9223372036854775807 := fun x hx => by have := okKey_size (h.ok x hx); omega
  obtain ⟨A, c, rfl, hlc, hc⟩ := hrd.shape
  clear h
  obtain ⟨N, hN⟩ : ∃ N, most.toNat = N := ⟨_, rfl⟩
  rw [hN]
  have hb0 : Below w.heap.size w (w.alloc (.cells #[.string f, .string t] 47)) := (Below.refl _ w).alloc (Nat.le_refl _) _
  have k0 : (w.alloc (.cells #[.string f, .string t] 47)).cell? ⟨w.heap.size, 0, none⟩ = some (.string f) := by rw [heap_cell (alloc_new w _)]; rfl
  have k1 : (w.alloc (.cells #[.string f, .string t] 47)).cell? ⟨w.heap.size, 1, none⟩ = some (.string t) := by rw [heap_cell (alloc_new w _)]; rfl
  go_enter Tryz.func21, Tryz.ntmps21
  go_wp2
  generalize hW0 : w.alloc (.cells #[.string f, .string t] 47) = W0 at *
  clear hW0
  replace hrd := hrd.below hb0
  replace c0 := Below.cell_some hb0 c0
  go_loopw [7, 8] (fun ov iv wr => ∃ m : Nat, m ≤ ys.length ∧ iv = .int .i64 m ∧ Own Row.enc 2 44 W0.heap.size wr ov ((rowsIn f t (ys.take m)).take N) ∧ Below W0.heap.size W0 wr) (fun _ iv _ => ys.length - (intOf iv).toNat)
  case atStart => exact ⟨0, Nat.zero_le _, rfl, by simpa [rowsIn] using Own.nil Row.enc 2 44 W0.heap.size W0, Below.refl _ _⟩
  case round =>
    obtain ⟨m, hm, rfl, hown, hb⟩ := hrel
    have hs := hb.size
    by_cases hlt : m < ys.length
    · have hx := List.getElem?_eq_getElem hlt
      obtain ⟨b, o, rfl, hx1, hx2⟩ := (hrd.below hb).row hx
      have hxs := hokx _ (List.getElem_mem hlt)
      have HSN := Lib.hid (rowsIn_snoc f t N ys m _ hx)
      generalize ys[m] = x at *
      have hlen : ((rowsIn f t (ys.take m)).take N).length ≤ 1000000 := by
        rw [List.length_take]
        have : (rowsIn f t (ys.take m)).length ≤ (ys.take m).length := List.length_filter_le ..
        rw [List.length_take] at this
        omega
      obtain ⟨Ao, co, rfl, hlo, hco⟩ := hown.slice
      generalize (rowsIn f t (ys.take m)).take N = os at *
      have c1 := fun p : Later wr => Later.cell p (Below.cell_some hb c0)
      have e1 := fun p : Later wr => Later.cell p (Below.cell_some hb k0)
      have e2 := fun p : Later wr => Later.cell p (Below.cell_some hb k1)
      have f1 := fun p : Later wr => Later.cell p hx1
      have hin := fun p : Later wr => rin_calls x.k f t p.val hxs hf ht
      have c2 := Below.cell_some hb c0
      have HB := Lib.hid hb
      have HO := Lib.hid hown
      have HX := Lib.hid (And.intro hx1 hx2)
      have HC0 := Lib.hid c0
      clear hown hb hx hx1 hx2 hrd c0 k0 k1 hokx
      cases hsin : sin x.k f t
      · simp only [hsin] at hin
        have HE : RowKit.Hid ((rowsIn f t (ys.take (m + 1))).take N = os) := by
          have := HSN.out
          rw [hsin] at this
          exact Lib.hid (by simpa using this)
        go_wp2
        refine wp_region_later (by kernel_rfl) (by kernel_rfl) ?_
        repeat (go_big_quiet_step ((go_at_call 91; with_reducible exact Calls.later (hin _))))
        refine wpQuiet_nil ?_
        rintro _ ⟨p, rfl⟩
        clear c1 e1 e2 f1 hin
        go_wp2
        go_roundw
        case rel => exact ⟨m + 1, by omega, by go_num, by rw [HE.out]; exact HO.out.below p.ok, Below.step HB.out p.ok⟩
        case measure => simp [intOf]; omega
      · simp only [hsin] at hin
        by_cases hmo : (os.length : Int) < most
        · have HE : RowKit.Hid ((rowsIn f t (ys.take (m + 1))).take N = os ++ [x]) := by
            have := HSN.out
            rw [if_pos ⟨hsin, by omega⟩] at this
            exact Lib.hid this
          go_wp2
          refine wp_region_later (by kernel_rfl) (by kernel_rfl) ?_
          repeat (go_big_quiet_step ((go_at_call 91; with_reducible exact Calls.later (hin _))))
          refine wpQuiet_nil ?_
          rintro _ ⟨p, rfl⟩
          have c3 := c1 p
          have f3 := f1 p
          have f4 := Later.cell p HX.out.2
          have HO3 := Lib.hid (HO.out.below p.ok)
          have HB3 := Lib.hid (Below.step HB.out p.ok)
          have hs3 := HB3.out.size
          clear c1 e1 e2 f1 hin c2 HO HB hs HX
          go_wp2_with (at_builtin; refine append_one Row.enc 2 44 56 24 _ W0.heap.size _ _ x rfl _ _ rfl Tryz.underlying56 info_rowR rfl (by decide) (by decide) row_len row_one rfl rfl HO3.out HB3.out hs3 (by omega) ?_; intro v' w' hown' hb' hgr hat; clear hgr hat)
          go_roundw
          case rel => exact ⟨m + 1, by omega, by go_num, by rw [HE.out]; exact hown', hb'⟩
          case measure => simp [intOf]; omega
        · have HE : RowKit.Hid ((rowsIn f t (ys.take (m + 1))).take N = os) := by
            have := HSN.out
            rw [if_neg (fun h => hmo (by have := h.2; omega))] at this
            exact Lib.hid this
          go_wp2
          refine wp_region_later (by kernel_rfl) (by kernel_rfl) ?_
          repeat (go_big_quiet_step ((go_at_call 91; with_reducible exact Calls.later (hin _))))
          refine wpQuiet_nil ?_
          rintro _ ⟨p, rfl⟩
          clear c1 e1 e2 f1 hin
          go_wp2
          go_roundw
          case rel => exact ⟨m + 1, by omega, by go_num, by rw [HE.out]; exact HO.out.below p.ok, Below.step HB.out p.ok⟩
          case measure => simp [intOf]; omega
    · have hme : m = ys.length := by omega
      subst hme
      rw [List.take_length] at hown
      have c2 := Below.cell_some hb c0
      obtain ⟨Ao, co, rfl, hlo, hco⟩ := hown.slice
      have HF := Lib.hid (And.intro hown (Below.step hb0 hb))
      have hs0 := hb0.size
      clear hown hb
      go_wp2
      go_ret
      exact ⟨_, rfl, HF.out.2, HF.out.1.lower hs0⟩

set_option maxHeartbeats 800000 in
set_option maxRecDepth 100000 in
theorem rchange13_calls (h : RMap base w C u ys) {vc : Value} {cs : List Change} (hv : Rd Change.enc 3 w vc cs) (hvb : ∀ b o n c, 0 < cs.length → vc = .slice (some ⟨b, o, none⟩) n c → b ≠ C) (hl : ys.length + cs.length ≤ 1000000) (hs : ∀ x ∈ cs, x.k.size ≤ 9223372036854775807) :
    Calls Tryz.prog 17 #[.pointer (some ⟨C, 0, none⟩), vc] w fun e w' => e = .returned (.int .i64 (if cs.all okChange then 0 else 1)) ∧ RAct base w w' C u (if cs.all okChange then doCs cs ys else ys) := by
  obtain ⟨A, c, rfl, hlc, hc⟩ := hv.shape
  have hCl := h.lt
  obtain ⟨E, hE⟩ : ∃ E : Int, (if cs.all okChange = true then 0 else 1) = E := ⟨_, rfl⟩
  obtain ⟨Z, hZ⟩ : ∃ Z, (if cs.all okChange = true then doCs cs ys else ys) = Z := ⟨_, rfl⟩
  rw [hE, hZ]
  have HEZ : RowKit.Hid ((cs.all okChange = true → E = 0 ∧ Z = doCs cs ys) ∧ (cs.all okChange = false → E = 1 ∧ Z = ys)) := by
    rw [← hE, ← hZ]
    exact Lib.hid ⟨fun h => by rw [h]; exact ⟨rfl, rfl⟩, fun h => by rw [h]; exact ⟨rfl, rfl⟩⟩
  clear hE hZ
  have hRB := fun (wr : World) (hb : Below w.heap.size w wr) => RAct.of_below h hb
  have HRB := Lib.hid hRB
  clear hRB
  go_enter Tryz.func17, Tryz.ntmps17
  go_wp2
  go_loopw [5] (fun iv wr => ∃ m : Nat, m ≤ cs.length ∧ iv = .int .i64 m ∧ (cs.take m).all okChange = true ∧ Below w.heap.size w wr) (fun iv _ => cs.length - (intOf iv).toNat)
  case atStart => exact ⟨0, Nat.zero_le _, rfl, rfl, Below.refl _ _⟩
  case round =>
    obtain ⟨m, hm, rfl, hal, hb⟩ := hrel
    by_cases hlt : m < cs.length
    · have hx := List.getElem?_eq_getElem hlt
      obtain ⟨b, o, rfl, hx1, hx2, hx3⟩ := (hv.below hb).change hx
      have hxs := hs _ (List.getElem_mem hlt)
      have hck := rcheck_calls cs[m].k wr hxs
      have hsn : (cs.take (m + 1)).all okChange = ((cs.take m).all okChange && okChange cs[m]) := by rw [List.take_succ_eq_append_getElem hlt, List.all_append]; simp
      rw [hal, Bool.true_and] at hsn
      have hfull : okChange cs[m] = false → cs.all okChange = false := fun h => by
        rw [Bool.eq_false_iff]
        intro h'
        rw [List.all_eq_true.1 h' _ (List.getElem_mem hlt)] at h
        cases h
      have HX := Lib.hid hx
      generalize cs[m] = x at *
      obtain ⟨xk, xv, xg⟩ := x
      have HB := Lib.hid hb
      have HSN := Lib.hid hsn
      have HFU := Lib.hid hfull
      have HX2 := Lib.hid (And.intro hx2 hx3)
      clear hb hsn hfull hx hal hs
      simp only at *
      cases hkk : okKey xk
      · rw [hkk] at hck
        have HO : RowKit.Hid (okChange ⟨xk, xv, xg⟩ = false) := Lib.hid (by simp [okChange, hkk])
        go_wp2_with (go_at_call 83; refine hck.mono ?_; rintro e w1 ⟨rfl, hb1⟩)
        go_ret
        obtain ⟨rfl, rfl⟩ := HEZ.out.2 (HFU.out HO.out)
        exact ⟨rfl, HRB.out _ (Below.step HB.out hb1)⟩
      · rw [hkk] at hck
        cases xg
        · have HO : RowKit.Hid (okChange ⟨xk, xv, false⟩ = true) := Lib.hid (by simp [okChange, hkk])
          go_wp2_with (go_at_call 83; refine hck.mono ?_; rintro e w1 ⟨rfl, hb1⟩; have g2 := Below.cell_some hb1 HX2.out.1; have g3 := Below.cell_some hb1 HX2.out.2)
          go_roundw
          case rel => exact ⟨m + 1, by omega, by go_num, by rw [HSN.out]; exact HO.out, Below.step HB.out hb1⟩
          case measure => simp [intOf]; omega
        · by_cases hv0 : xv = 0
          · subst hv0
            have HO : RowKit.Hid (okChange ⟨xk, 0, true⟩ = true) := Lib.hid (by simp [okChange, hkk])
            go_wp2_with (go_at_call 83; refine hck.mono ?_; rintro e w1 ⟨rfl, hb1⟩; have g2 := Below.cell_some hb1 HX2.out.1; have g3 := Below.cell_some hb1 HX2.out.2)
            go_roundw
            case rel => exact ⟨m + 1, by omega, by go_num, by rw [HSN.out]; exact HO.out, Below.step HB.out hb1⟩
            case measure => simp [intOf]; omega
          · have HO : RowKit.Hid (okChange ⟨xk, xv, true⟩ = false) := Lib.hid (by simp [okChange, hkk, hv0])
            have hne : (xv != 0) = true := by simp [hv0]
            go_wp2_with (go_at_call 83; refine hck.mono ?_; rintro e w1 ⟨rfl, hb1⟩; have g2 := Below.cell_some hb1 HX2.out.1; have g3 := Below.cell_some hb1 HX2.out.2)
            go_ret
            obtain ⟨rfl, rfl⟩ := HEZ.out.2 (HFU.out HO.out)
            exact ⟨rfl, HRB.out _ (Below.step HB.out hb1)⟩
    · have hme : m = cs.length := by omega
      subst hme
      rw [List.take_length] at hal
      obtain ⟨rfl, rfl⟩ := HEZ.out.1 hal
      have hok : ∀ x ∈ cs, okChange x = true := List.all_eq_true.1 hal
      clear HEZ hal
      go_wp2
      go_loopw [6] (fun iv wr2 => ∃ m : Nat, m ≤ cs.length ∧ iv = .int .i64 m ∧ RAct base w wr2 C u (doCs (cs.take m) ys)) (fun iv _ => cs.length - (intOf iv).toNat)
      case atStart => exact ⟨0, Nat.zero_le _, rfl, HRB.out _ hb⟩
      case round =>
        obtain ⟨m, hm, rfl, hra⟩ := hrel
        by_cases hlt : m < cs.length
        · have hx := List.getElem?_eq_getElem hlt
          have hkc := hok _ (List.getElem_mem hlt)
          have HSN := Lib.hid (doCs_snoc cs m _ hx ys)
          have hln := doCs_length (cs.take m) ys
          rw [List.length_take] at hln
          obtain ⟨u1, r1, t1, n1⟩ := hra
          obtain ⟨b, o, rfl, _⟩ := hv.at_ hx
          have hbC := hvb _ _ _ _ (by omega) rfl
          obtain ⟨b', o', e, hcell⟩ := hv.at_ hx
          injection e with e
          injection e with e1 e2
          subst e1 e2
          have hcw : ∀ j u, (cs[m]).enc[j]? = some u → wr.cell? ⟨b, o + m * 3 + j, none⟩ = some u := fun j u hu => by
            have h0 := hcell j u hu
            have hbl := World.block_lt_of_cell? w _ h0
            have := t1.block b hbl hbC
            unfold World.cell? at h0 ⊢
            rw [this]
            exact h0
          have x1 := hcw 0 _ rfl
          have x2 := hcw 1 _ rfl
          have x3 := hcw 2 _ rfl
          simp only [Nat.add_zero] at x1
          clear hcw hcell
          generalize cs[m] = x at *
          obtain ⟨xk, xv, xg⟩ := x
          simp only at x1 x2 x3
          have hkk : okKey xk = true := by
            unfold okChange at hkc
            simp only [Bool.and_eq_true] at hkc
            exact hkc.1
          have HSET : RowKit.Hid (∀ w2, Below wr.heap.size wr w2 → _) := Lib.hid fun w2 h2 => rset_calls (r1.below h2) (by omega) xk hkk xv xg
          have HT := Lib.hid (And.intro t1 n1)
          have HR := Lib.hid r1
          unfold doC at HSN
          simp only at HSN
          clear t1 n1 hx hkc hok hln r1
          go_wp2
          go_still_tail 16, (by kernel_rfl)
          change wpList _ _ _ _ _ wr.drew
          generalize hw2 : wr.drew = w2
          have hbd : Below wr.heap.size wr w2 := by rw [← hw2]; exact (Below.refl _ wr).drew
          clear hw2 x1 x2 x3
          go_wp2_with (go_at_call 84; refine (HSET.out _ hbd).mono ?_; rintro e w3 ⟨rfl, u3, r3, t3, n3⟩)
          go_roundw
          case rel =>
            refine ⟨m + 1, by omega, by go_num, ?_⟩
            rw [HSN.out]
            refine ⟨u3, r3, (HT.out.1.step (Turn.of_below hbd) fun _ _ h => h).trans t3, fun g hg => .inr ?_⟩
            have := n3 g hg
            have := HT.out.1.size
            have := hbd.size
            omega
          case measure => simp [intOf]; omega
        · have hme : m = cs.length := by omega
          subst hme
          rw [List.take_length] at hra
          go_wp2
          go_ret
          exact ⟨rfl, hra⟩
end

end Go.Proofs.YtanjgeacmpmjhaaGreatDoor
