import Derived.Test.YtimadkbdkdeepaaDoorPlJoinP
import Derived.Test.YtimadkbdkdeepaaDoorPlSame
import Derived.Test.YtimadkbdkdeepaaDoorTwRow
set_option linter.unusedVariables false
set_option linter.unusedSimpArgs false
set_option linter.unusedSectionVars false
namespace Go.Proofs.YtimadkbdkdeepaaDoor
open Go.RowKit

attribute [local go_sem ↓] Go.wp_at_zero Go.wp_at_succ

theorem info_opJ : (Tryd.prog.info? 42).map (fun i => (i.zero, i.size, i.bytes)) = some (some (.agg #[.int .u8 0, .string ⟨#[]⟩, .string ⟨#[]⟩, .int .u32 0]), 4, 48) := by kernel_rfl
theorem rdNil {α : Type} (enc : α → List Value) (k : Nat) (w : World) : Rd enc k w (.slice none 0 0) [] := ⟨none, 0, rfl, Nat.le_refl _, by omega, fun h => absurd h (by simp)⟩

section
variable {P : Program} {ops : Array Oper} {rest : List Oper} {o : Oper} {a : Act} {Q : Exit → Act → World → Prop}
/-- An append whose run is known, guarded or not. -/
theorem append_runG {w w2 : World} {sv xv v' : Value} (hw : Region.wanted o (yielded ops a.tmps) = true) (s x : Operand) (sT : TypeId) (ho : o.op = .call { callee := .builtin .append, args := #[s, x], argTypes := #[sT, sT] })
    (hs : a.eval s = sv) (hx : a.eval x = xv) (hrun : (Builtin.append_ #[sT, sT] o.type #[sv, xv]).run P w = .ok v' w2) (h : wpList P ops Q rest (a.put o.dst v') w2) :
    wpList P ops Q (o :: rest) a w := by
  refine wpList_step fun K hK => ?_
  rw [if_pos hw]
  unfold Oper.wp
  simp [execOp, ho, resolve, invoke, builtin, hs, hx, hrun, Result.andThen]
  exact hK _ _ h
end

set_option maxHeartbeats 2000000 in
set_option maxRecDepth 100000 in
theorem plansJoin_walk (v u t : Value) (rows : List Row) (a b : List Opn) (w : World) (hT : Tab10 w) (hv : Rd Row.enc 2 w v rows) (hu : Rd Opn.enc 4 w u a) (ht : Rd Opn.enc 4 w t b) (hza : a.length * 48 ≤ 140737488351232) (hzb : b.length * 48 ≤ 140737488351232) (hs : ∀ x ∈ rows, x.ok) (hs2 : ∀ x ∈ a, x.ok) (hs3 : ∀ x ∈ b, x.ok) :
    Calls Tryd.prog 5 #[v, u, t] w fun e w' => e = .returned (.bool true) ∧ Below w.heap.size w w' := by
  obtain ⟨A, c, rfl, hlc, hc⟩ := hv.shape
  obtain ⟨Au, cu, rfl, hlcu, hcu⟩ := hu.shape
  obtain ⟨At, ct, rfl, hlct, hct⟩ := ht.shape
  by_cases hlen : rows.length ≤ 300
  · by_cases hlen2 : a.length + b.length ≤ 100
    · have hk : ∀ x ∈ rows, x.k.size ≤ 9223372036854775807 := fun x hx => by
        have h1 := (hs x hx).1
        unfold small at h1
        omega
      have hka : ∀ x ∈ a, x.k.size ≤ 9223372036854775807 ∧ x.t.size ≤ 9223372036854775807 := fun x hx => by
        obtain ⟨_, h1, h2, _⟩ := hs2 x hx
        unfold small at h1 h2
        omega
      have hkb : ∀ x ∈ b, x.k.size ≤ 9223372036854775807 ∧ x.t.size ≤ 9223372036854775807 := fun x hx => by
        obtain ⟨_, h1, h2, _⟩ := hs3 x hx
        unfold small at h1 h2
        omega
      have hkab : ∀ x ∈ [] ++ a ++ b, x.k.size ≤ 9223372036854775807 ∧ x.t.size ≤ 9223372036854775807 := fun x hx => by
        rw [List.nil_append] at hx
        rcases List.mem_append.1 hx with h | h
        · exact hka x h
        · exact hkb x h
      have hlab : ([] ++ a ++ b).length ≤ 1000 := by simp; omega
      have hla : a.length ≤ 100 := by omega
      have hlb : b.length ≤ 100 := by omega
      clear hs hs2 hs3
      cases ha : runP rows a with
      | none =>
        have HA := Lib.hid ha
        have HAB := Lib.hid (show runP rows ([] ++ a ++ b) = none by rw [List.nil_append]; exact run_append_none ha)
        clear ha
        cases hb : runP [] b with
        | none =>
          have HB2 := Lib.hid hb
          clear hb
          go_enter Tryd.func5, Tryd.ntmps5
          go_wp2_with (first
            | (go_at_call 7; have := hrd4; refine (plRun_none _ _ rows ([] ++ a ++ b) w4 (hv.below hB4) hrd4 (by omega) hlab hk hkab HAB.out).mono ?_; rintro e w5 ⟨rfl, hb5⟩; have hB5 := Below.step hB4 hb5; clear this; have hBl := hB5)
            | (go_at_call 7; have := hrd1; refine (plRun_none _ _ [] b w1 hrd1 (ht.below hb1) (by decide) (by omega) (by simp) hkb HB2.out).mono ?_; rintro e w2 ⟨rfl, hb2⟩; have hB2 := Below.step hb1 hb2; clear this)
            | (go_at_call 7; refine (plRun_none _ _ rows a w hv hu (by omega) (by omega) hk hka HA.out).mono ?_; rintro e w1 ⟨rfl, hb1⟩; have hrd1 := rdNil Row.enc 2 w1)
            | (at_builtin; have := own3; refine append_all (w0 := w2) (W := w3) Opn.enc 4 42 23 48 _ w2.heap.size v3 ([] ++ a) b At ct rfl _ _ rfl Tryd.underlying23 info_opJ rfl (by decide) (by decide) opn_len opn_one rfl rfl ((ht.below hB2).below hb3) own3 hb3 hb3.size (by simp; omega) ?_; intro v4 w4 own4 hb4 hg4; have hB4 := Below.step hB2 hb4; have hrd4 := own4.rd opn_len; clear this)
            | (at_builtin; refine append_all (w0 := w2) (W := w2) Opn.enc 4 42 23 48 _ w2.heap.size (.slice none 0 0) [] a Au cu rfl _ _ rfl Tryd.underlying23 info_opJ rfl (by decide) (by decide) opn_len opn_one rfl rfl (hu.below hB2) (.nil _ _ _ _ _) (Below.refl _ _) (Nat.le_refl _) (by simp; omega) ?_; intro v3 w3 own3 hb3 hg3)
            | (go_at_call 6; refine (plives_calls _ (hT.stays hBl)).mono ?_; rintro e w9 ⟨rfl, hb9⟩))
          go_ret
          exact ⟨ret_bool (by simp), Below.step hBl hb9⟩
        | some ql =>
          obtain ⟨qs, fin⟩ := ql
          have HB2 := Lib.hid hb
          clear hb
          go_enter Tryd.func5, Tryd.ntmps5
          go_wp2_with (first
            | (go_at_call 7; have := hrd4; refine (plRun_none _ _ rows ([] ++ a ++ b) w4 (hv.below hB4) hrd4 (by omega) hlab hk hkab HAB.out).mono ?_; rintro e w5 ⟨rfl, hb5⟩; have hB5 := Below.step hB4 hb5; clear this; have hBl := hB5)
            | (go_at_call 7; have := hrd1; refine (plRun_some _ _ [] b w1 hrd1 (ht.below hb1) (by decide) (by omega) (by simp) hkb HB2.out).mono ?_; rintro e w2 ⟨As, ns, cs, Am, cm, rfl, hb2, hR2, hL2⟩; have hB2 := Below.step hb1 hb2; have hrd2 := hL2.rd row_len; have hres2 := hR2.rd; clear this)
            | (go_at_call 7; refine (plRun_none _ _ rows a w hv hu (by omega) (by omega) hk hka HA.out).mono ?_; rintro e w1 ⟨rfl, hb1⟩; have hrd1 := rdNil Row.enc 2 w1)
            | (at_builtin; have := own3; refine append_all (w0 := w2) (W := w3) Opn.enc 4 42 23 48 _ w2.heap.size v3 ([] ++ a) b At ct rfl _ _ rfl Tryd.underlying23 info_opJ rfl (by decide) (by decide) opn_len opn_one rfl rfl ((ht.below hB2).below hb3) own3 hb3 hb3.size (by simp; omega) ?_; intro v4 w4 own4 hb4 hg4; have hB4 := Below.step hB2 hb4; have hrd4 := own4.rd opn_len; clear this)
            | (at_builtin; refine append_all (w0 := w2) (W := w2) Opn.enc 4 42 23 48 _ w2.heap.size (.slice none 0 0) [] a Au cu rfl _ _ rfl Tryd.underlying23 info_opJ rfl (by decide) (by decide) opn_len opn_one rfl rfl (hu.below hB2) (.nil _ _ _ _ _) (Below.refl _ _) (Nat.le_refl _) (by simp; omega) ?_; intro v3 w3 own3 hb3 hg3)
            | (go_at_call 6; refine (plives_calls _ (hT.stays hBl)).mono ?_; rintro e w9 ⟨rfl, hb9⟩))
          go_ret
          exact ⟨ret_bool (by simp), Below.step hBl hb9⟩
      | some rl =>
        obtain ⟨rs, left⟩ := rl
        have HA := Lib.hid ha
        have hl2 : left.length ≤ 1000 := by have := (run_len ha).1; omega
        have hk2 : ∀ x ∈ left, x.k.size ≤ 9223372036854775807 := fun x hx => by have := okKey_size ((run_left ha).2.2 x hx); omega
        cases hb : runP left b with
        | none =>
          have HB2 := Lib.hid hb
          have HAB := Lib.hid (show runP rows ([] ++ a ++ b) = none by rw [List.nil_append, run_append ha, hb]; rfl)
          clear ha hb
          go_enter Tryd.func5, Tryd.ntmps5
          go_wp2_with (first
            | (go_at_call 7; have := hrd4; refine (plRun_none _ _ rows ([] ++ a ++ b) w4 (hv.below hB4) hrd4 (by omega) hlab hk hkab HAB.out).mono ?_; rintro e w5 ⟨rfl, hb5⟩; have hB5 := Below.step hB4 hb5; clear this; have hBl := hB5)
            | (go_at_call 7; have := hrd1; refine (plRun_none _ _ left b w1 hrd1 (ht.below hb1) hl2 (by omega) hk2 hkb HB2.out).mono ?_; rintro e w2 ⟨rfl, hb2⟩; have hB2 := Below.step hb1 hb2; clear this)
            | (go_at_call 7; refine (plRun_some _ _ rows a w hv hu (by omega) (by omega) hk hka HA.out).mono ?_; rintro e w1 ⟨Ar, nr, cr, Al, cl, rfl, hb1, hR1, hL1⟩; have hrd1 := hL1.rd row_len; have hres1 := hR1.rd)
            | (at_builtin; have := own3; refine append_all (w0 := w2) (W := w3) Opn.enc 4 42 23 48 _ w2.heap.size v3 ([] ++ a) b At ct rfl _ _ rfl Tryd.underlying23 info_opJ rfl (by decide) (by decide) opn_len opn_one rfl rfl ((ht.below hB2).below hb3) own3 hb3 hb3.size (by simp; omega) ?_; intro v4 w4 own4 hb4 hg4; have hB4 := Below.step hB2 hb4; have hrd4 := own4.rd opn_len; clear this)
            | (at_builtin; refine append_all (w0 := w2) (W := w2) Opn.enc 4 42 23 48 _ w2.heap.size (.slice none 0 0) [] a Au cu rfl _ _ rfl Tryd.underlying23 info_opJ rfl (by decide) (by decide) opn_len opn_one rfl rfl (hu.below hB2) (.nil _ _ _ _ _) (Below.refl _ _) (Nat.le_refl _) (by simp; omega) ?_; intro v3 w3 own3 hb3 hg3)
            | (go_at_call 6; refine (plives_calls _ (hT.stays hBl)).mono ?_; rintro e w9 ⟨rfl, hb9⟩))
          go_ret
          exact ⟨ret_bool (by simp), Below.step hBl hb9⟩
        | some ql =>
          obtain ⟨qs, fin⟩ := ql
          have hrl : rs.length ≤ 1000 := by have := (run_len ha).2; omega
          have hql : qs.length ≤ 1000 := by have := (run_len hb).2; omega
          have HB2 := Lib.hid hb
          have HAB := Lib.hid (show runP rows ([] ++ a ++ b) = some (rs ++ qs, fin) by rw [List.nil_append, run_append ha, hb]; rfl)
          clear ha hb
          go_enter Tryd.func5, Tryd.ntmps5
          go_wp2_with (first
            | (go_at_call 7; have := hrd4; refine (plRun_some _ _ rows ([] ++ a ++ b) w4 (hv.below hB4) hrd4 (by omega) hlab hk hkab HAB.out).mono ?_; rintro e w5 ⟨Ac, nc, cc, Ae, ce, rfl, hb5, hR5, hL5⟩; have hB5 := Below.step hB4 hb5; have hrd5 := hL5.rd row_len; have hres5 := hR5.rd; clear this; obtain ⟨v6, w6, hap6, hRd6, hb6, v7, w7, hap7, hRd7, hb7⟩ := resJoin (hres1.below (Below.step hb2 (Below.step hb4 hb5))) (hres2.below (Below.step hb4 hb5)) hrl hql)
            | (go_at_call 7; have := hrd1; refine (plRun_some _ _ left b w1 hrd1 (ht.below hb1) hl2 (by omega) hk2 hkb HB2.out).mono ?_; rintro e w2 ⟨As, ns, cs, Am, cm, rfl, hb2, hR2, hL2⟩; have hB2 := Below.step hb1 hb2; have hrd2 := hL2.rd row_len; have hres2 := hR2.rd; clear this)
            | (go_at_call 7; refine (plRun_some _ _ rows a w hv hu (by omega) (by omega) hk hka HA.out).mono ?_; rintro e w1 ⟨Ar, nr, cr, Al, cl, rfl, hb1, hR1, hL1⟩; have hrd1 := hL1.rd row_len; have hres1 := hR1.rd)
            | (at_builtin; have := hdone6; refine append_runG (by rfl) _ _ 26 rfl rfl rfl hap7 ?_; clear this)
            | (at_builtin; have := hap6; refine append_runG (by rfl) _ _ 26 rfl rfl rfl hap6 ?_; clear this; have hdone6 := hb6)
            | (at_builtin; have := own3; refine append_all (w0 := w2) (W := w3) Opn.enc 4 42 23 48 _ w2.heap.size v3 ([] ++ a) b At ct rfl _ _ rfl Tryd.underlying23 info_opJ rfl (by decide) (by decide) opn_len opn_one rfl rfl ((ht.below hB2).below hb3) own3 hb3 hb3.size (by simp; omega) ?_; intro v4 w4 own4 hb4 hg4; have hB4 := Below.step hB2 hb4; have hrd4 := own4.rd opn_len; clear this)
            | (at_builtin; refine append_all (w0 := w2) (W := w2) Opn.enc 4 42 23 48 _ w2.heap.size (.slice none 0 0) [] a Au cu rfl _ _ rfl Tryd.underlying23 info_opJ rfl (by decide) (by decide) opn_len opn_one rfl rfl (hu.below hB2) (.nil _ _ _ _ _) (Below.refl _ _) (Nat.le_refl _) (by simp; omega) ?_; intro v3 w3 own3 hb3 hg3)
            | (go_at_call 14; refine (same_calls _ _ (rs ++ qs) (rs ++ qs) w7 (hres5.below hb7) hRd7).mono ?_; rintro e w8 ⟨rfl, hb8⟩; have hB8 := Below.step hB5 (Below.step hb7 hb8))
            | (go_at_call 15; refine (sameRows_calls _ _ fin fin w8 (hrd5.below (Below.step hb7 hb8)) (hrd2.below (Below.step (Below.step hb4 hb5) (Below.step hb7 hb8)))).mono ?_; rintro e w9 ⟨rfl, hb9⟩; have hBl := Below.step hB8 hb9)
            | (go_at_call 6; refine (plives_calls _ (hT.stays hBl)).mono ?_; rintro e w10 ⟨rfl, hb10⟩))
          go_ret
          exact ⟨ret_bool (by simp), Below.step hBl hb10⟩
    · have hlt : (100 : Int) < (a.length : Int) + (b.length : Int) := by omega
      have hla : a.length ≤ 140737488351232 := by omega
      have hlb : b.length ≤ 140737488351232 := by omega
      go_enter Tryd.func5, Tryd.ntmps5
      go_wp2_with (go_at_call 6; refine (plives_calls _ hT).mono ?_; rintro e w1 ⟨rfl, hb1⟩)
      go_ret
      exact ⟨rfl, hb1⟩
  · go_enter Tryd.func5, Tryd.ntmps5
    go_wp2_with (go_at_call 6; refine (plives_calls _ hT).mono ?_; rintro e w1 ⟨rfl, hb1⟩)
    go_ret
    exact ⟨rfl, hb1⟩

end Go.Proofs.YtimadkbdkdeepaaDoor
