import Derived.Test.YtanjgeacmpmjhaaGreatDoorVerD
set_option linter.unusedVariables false
set_option linter.unusedSimpArgs false
namespace Go.Proofs.YtanjgeacmpmjhaaGreatDoor
open Go.RowKit Go.Shelf

theorem wass_under : Tryz.prog.underlying 147 = some (.slice 149) := by kernel_rfl
theorem info_was : (Tryz.prog.info? 149).map (fun i => (i.zero, i.size, i.bytes)) = some (some (.agg #[.int .u32 0, .int .u32 0, .bool false]), 3, 12) := by kernel_rfl
theorem was_one' (x : Was) : ∀ u ∈ x.enc, u.oneCell' = true := by
  intro u hu
  simp [Was.enc] at hu
  rcases hu with rfl | rfl | rfl <;> rfl

/-- What 'm[k] = append(old, x)' does. -/
theorem commit_tail {U : Nat → Prop} {base : Nat} {W : World} {M n' : Nat} {D' : DataW Value} {Hk : Hist} (hM : SMap Tryz.prog 9 klS okS Was.enc 3 149 base W M n' D' Hk) {xk : Str} (hx : okS xk) (hn : n' ≤ 1000000)
    {v v2 : Value} {ys : List Was} (hat : D'.atKey (klS xk) nilD = .held v) (ho : OwnO Was.enc 3 149 base W v2 ys) (hown : v2.ownBlock = v.ownBlock) (hlen : ys.length ≤ 1000000) (hbase : base ≤ W.heap.size) (hUM : U M) (hOD : OwnD U D') (hnew : ∀ i, W.heap.size ≤ i → U i) (y : Was) :
    ∃ A' n2 c' w5 w6, (Builtin.append_ #[147, 147] 147 #[v2, .slice (some ⟨W.heap.size, 0, none⟩) 1 1]).run Tryz.prog (W.alloc (.cells #[.int .u32 y.at_, .int .u32 y.v, .bool y.g] 149)) = .ok (.slice A' n2 c') w5 ∧
      (Instr.mapUpdate 140 (.map (some M)) (.string xk) (.slice A' n2 c')).run Tryz.prog w5 = .ok () w6 ∧
      SMap Tryz.prog 9 klS okS Was.enc 3 149 base w6 M (n' + 1) (D'.put (klS xk) (.held (.slice A' n2 c'))) (updS Hk xk (ys ++ [y])) ∧ (PStepU base U W w6 ∧ OwnD U (D'.put (klS xk) (.held (.slice A' n2 c')))) ∧
      (∀ i, i < W.heap.size → v.ownBlock ≠ some i → i ≠ M → w6.heap[i]? = W.heap[i]?) ∧ (∀ i, i < W.heap.size → v.ownBlock ≠ some i → w5.heap[i]? = W.heap[i]?) := by
  have hBa : Below W.heap.size W (W.alloc (.cells #[.int .u32 y.at_, .int .u32 y.v, .bool y.g] 149)) := (Below.refl _ W).alloc (Nat.le_refl _) _
  have hM2 := hM.below hBa
  have ho2 := ho.below hBa
  have hcell : ∀ j u, y.enc[j]? = some u → (W.alloc (.cells #[.int .u32 y.at_, .int .u32 y.v, .bool y.g] 149)).cell? ((⟨W.heap.size, 0, none⟩ : Addr).add j) = some u := fun j u hj => by
    rw [Addr.add_lit]
    refine (World.cell?_alloc_at (w := W) _ _ W.heap.size _ rfl).trans ?_
    have : (#[Value.int .u32 y.at_, .int .u32 y.v, .bool y.g] : Array Value)[0 + j]? = y.enc[j]? := by
      rw [Nat.zero_add]
      simp [Was.enc]
    rw [this]
    exact hj
  have hsz : (W.alloc (.cells #[.int .u32 y.at_, .int .u32 y.v, .bool y.g] 149)).heap.size = W.heap.size + 1 := by simp
  have hps1 : PStepU base U W (W.alloc (.cells #[.int .u32 y.at_, .int .u32 y.v, .bool y.g] 149)) := .of_below hBa
  have hal := fun i (hi : i < W.heap.size) => hBa.block i hi
  generalize (W.alloc (.cells #[.int .u32 y.at_, .int .u32 y.v, .bool y.g] 149)) = Wa at *
  obtain ⟨v', w5, hrun, ho5, hg5, hat5⟩ := run_append_off 147 147 12 _ y wass_under info_was rfl (by decide) (by decide) was_len was_one' ho2 (by omega) (by omega) ⟨W.heap.size, 0, none⟩ hcell
  obtain ⟨A', c', rfl, _, _⟩ := ho5.shape
  have hat' : (Value.slice A' (ys ++ [y]).length c').ownBlock = v.ownBlock ∨ ∃ g, (Value.slice A' (ys ++ [y]).length c').ownBlock = some g ∧ Wa.heap.size ≤ g := by
    rcases hat5 with e | e
    · exact .inl (e.trans hown)
    · exact .inr ⟨_, e, Nat.le_refl _⟩
  have hg5' := hg5
  rw [hown] at hg5'
  obtain ⟨w6, hmu, hM6, hg6⟩ := hM2.store keyS map_under (by unfold maxLen; omega) hx hat hg5' ho5 (by simp) hat'
  have hMlt := hM.own.lt
  refine ⟨A', _, c', w5, w6, hrun, hmu, hM6, ⟨(hps1.trans (.grown hg5 (fun g e => ?_))).trans (.grown hg6 (fun g e => ?_)), hOD.put hM.own.isMap hx (fun g hg => ?_)⟩, fun i hi h1 h2 => ?_, fun i hi h1 => (hg5'.block i (by omega) (fun e => h1 e.symm)).trans (hal i hi)⟩
  · obtain ⟨hb, _, cur, hc⟩ := ho2.lt g e
    exact ⟨safe_was hc hb, hOD xk v g hx hat (hown.symm.trans e)⟩
  · injection e with e
    subst e
    have hM5 := hM2.own.kept hg5' (fun e => hM2.off hx hat e.symm)
    obtain ⟨es, clock, hb, _⟩ := hM5
    exact ⟨safe_map hb hM2.low, hUM⟩
  · rcases hat' with e | ⟨g', e, hge⟩
    · exact hOD xk v g hx hat (e.symm.trans hg)
    · rw [e] at hg
      injection hg with hg
      subst hg
      exact hnew _ (by omega)
  · rw [hg6.block i (by have := hg5.size; omega) (fun e => h2 (by injection e)), hg5'.block i (by omega) (fun e => h1 e.symm)]
    exact hal i hi

section
variable {P : Program} {ops : Array Oper} {o : Oper} {a : Act} {w : World} {K : Act → World → Prop} {Q : Exit → Act → World → Prop}
/-- an append whose run is known, in a region that draws. -/
theorem step_append_run {E : Prop} (hgd : o.guard = none) (s x : Operand) (sT : TypeId) (ho : o.op = .call { callee := .builtin .append, args := #[s, x], argTypes := #[sT, sT] }) {sv xv v' : Value} {w2 : World}
    (hs : a.eval s = sv) (hx : a.eval x = xv) (hrun : (Builtin.append_ #[sT, sT] o.type #[sv, xv]).run P w = .ok v' w2) (h : K (a.put o.dst v') w2) :
    if Region.wanted o (yielded ops a.tmps) = true then Oper.wp P o a w K Q else E := by
  have hw : Region.wanted o (yielded ops a.tmps) = true := by simp [Region.wanted, hgd]
  rw [if_pos hw]
  unfold Oper.wp
  simp [execOp, ho, resolve, invoke, builtin, hs, hx, hrun, Result.andThen]
  exact h
end
end Go.Proofs.YtanjgeacmpmjhaaGreatDoor
