import Derived.Test.YtomhkflcimbbiaaLDoes
import Derived.Deep.Cut
set_option linter.unusedVariables false
set_option linter.unusedSimpArgs false
set_option linter.unusedSectionVars false
namespace Go.Proofs.Ytomhkflcimbbiaa
open Go.RowKit Go.Shelf


/-- 'append(s, x)': what was read of the slice is read behind it too. -/
theorem append_keepH {P : Program} {ops : Array Oper} {rest : List Oper} {o : Oper} {a : Act} {Q : Exit → Act → World → Prop} {α : Type} {w0 W : World} (H : Nat) (hH : W.heap.size = H) (enc : α → List Value) (k : Nat) (E : TypeId) (t : TypeId) (bytes : Nat) (z : Value) (base : Nat) (v : Value) (xs : List α) (y : α) (hgd : o.guard = none) (s x : Operand)
    (ho : o.op = .call { callee := .builtin .append, args := #[s, x], argTypes := #[t, t] })
    (ht : P.underlying t = some (.slice E)) (hinfo : (P.info? E).map (fun i => (i.zero, i.size, i.bytes)) = some (some z, k, bytes)) (hz : z.cells.size = k) (hk0 : 0 < k) (hb0 : 0 < bytes)
    (henc : ∀ x, (enc x).length = k) (h1 : ∀ x, ∀ u ∈ enc x, u.oneCell' = true)
    (hs : a.eval s = v) (hx : a.eval x = .slice (some ⟨H, 0, none⟩) 1 1)
    (hown : Own enc k E base W v xs) (HB : Below base w0 W) (hbase : base ≤ W.heap.size) (hl : (xs.length + 1) * bytes ≤ 140737488355328)
    (h : ∀ v' w', Own enc k E base w' v' (xs ++ [y]) → Below base w0 w' → W.grownBy w' v.ownBlock → Rd enc k w' v xs → wpList P ops Q rest (a.put o.dst v') w') :
    wpList P ops Q (o :: rest) a (W.alloc (.cells (enc y).toArray E)) := by
  subst hH
  obtain ⟨i0, hi, hzz⟩ := Option.map_eq_some_iff.1 hinfo
  simp only [Prod.mk.injEq] at hzz
  obtain ⟨hz0, hz1, hz2⟩ := hzz
  have hlen : xs.length + 1 ≤ 140737488355328 := Nat.le_trans (Nat.le_mul_of_pos_right _ hb0) hl
  have howna : (W.alloc (.cells (enc y).toArray E)).ownsRow base E k v xs.length (xs.flatMap enc) := World.ownsRow.alloc hown _
  have hba : Below W.heap.size W (W.alloc (.cells (enc y).toArray E)) := (Below.refl _ W).alloc (Nat.le_refl _) _
  have hnl : (enc y).length = 1 * k := by rw [henc, Nat.one_mul]
  have hnews : ∀ j u, (enc y)[j]? = some u → (W.alloc (.cells (enc y).toArray E)).cell? ((⟨W.heap.size, 0, none⟩ : Addr).add j) = some u := fun j u hu => by
    rw [show (⟨W.heap.size, 0, none⟩ : Addr).add j = ⟨W.heap.size, j, none⟩ from by unfold Addr.add; split <;> simp_all]
    simp only [World.cell?, World.alloc, Array.getElem?_push_size, Option.isSome_none, Bool.false_eq_true, if_false]
    simpa using hu
  have h63 : xs.length + 1 ≤ maxLen := by simp only [maxLen]; omega
  have hba2 : base ≤ (W.alloc (.cells (enc y).toArray E)).heap.size := Nat.le_trans hbase hba.size
  refine wpList_plain hgd fun K hK => ?_
  generalize hW : W.alloc (.cells (enc y).toArray E) = W0 at *
  obtain ⟨v', w', hr, h2, h3, h4, h5⟩ := run_append_own_at (P := P) W0 base t o.type E i0 z k bytes ht hi hz0 hz1 hz2 hz hk0 v xs.length (xs.flatMap enc) howna ⟨W.heap.size, 0, none⟩ 1 1 (enc y) hnl hnews (h1 y) h63 hl hba2
  have hown' : Own enc k E base w' v' (xs ++ [y]) := by
    unfold Own
    rw [List.flatMap_append, List.flatMap_singleton, List.length_append, List.length_singleton]
    exact h2
  have hrd : Rd enc k w' v xs := by
    have hrd0 : Rd enc k W0 v xs := Own.rd henc howna
    rcases howna.2 with ⟨rfl, h0⟩ | ⟨g, cap, cur, rfl, hbg, hg, hnc, hcm, hcs, htake⟩
    · refine ⟨none, 0, by rw [h0], by omega, by omega, fun hp => by omega⟩
    · by_cases hroom : xs.length + 1 ≤ cap
      · have hfit : xs.length * i0.size + (enc y).length ≤ cur.size := by rw [hz1, hnl, hcs, ← Nat.add_mul]; exact Nat.mul_le_mul_right _ hroom
        have hr2 := run_append_room (P := P) W0 t o.type E i0 ht hi g xs.length cap cur hg ⟨W.heap.size, 0, none⟩ 1 1 (enc y) (by rw [hz1]; exact hnl) hnews (h1 y) hroom hfit
        rw [hr] at hr2
        injection hr2 with e1 e2
        subst e1
        have := Own.rd henc hown'
        exact this.shorter
      · have holds : ∀ j u, (xs.flatMap enc)[j]? = some u → W0.cell? ((⟨g, 0, none⟩ : Addr).add j) = some u := howna.cells (g := g) rfl
        have hr2 := run_append_grow (P := P) W0 t o.type E i0 z ht hi hz0 ⟨g, 0, none⟩ xs.length cap (xs.flatMap enc) (by rw [hz1]; exact howna.1) holds ⟨W.heap.size, 0, none⟩ 1 1 (enc y) (by rw [hz1]; exact hnl) hnews (by omega) (by omega) (by rw [hz2]; exact growslice_fits (by omega) hl)
        rw [hr] at hr2
        injection hr2 with e1 e2
        subst e2
        exact hrd0.below ⟨rfl, rfl, rfl, by simp, fun i hi => Below.heap_alloc W0.drew _ i hi⟩
  unfold Oper.wp execOp
  simp only [ho, resolve, invoke, builtin, Sem.run_bind, Sem.run_pure, Result.andThen_ok, List.map_toArray, List.map_cons, List.map_nil, hs, hx, hr]
  refine hK _ _ (h v' w' hown' ?_ ?_ hrd)
  · rw [← hW] at h3
    exact (HB.alloc hbase _).grown h3 (Nat.le_trans hbase hba.size |> fun h => by rw [← hW] at h; exact h) (fun g hg' => Own.base_le hown g hg')
  · rw [← hW] at h3
    exact World.grownBy.trans (World.grownBy_alloc W _ _) h3

set_option maxHeartbeats 4000000 in
set_option maxRecDepth 100000 in
theorem doesR_calls {base : Nat} {w : World} {B nn : Nat} {T : Tab} (h : TabP base w B nn T) (hbase : base ≤ w.heap.size) {L : Nat} (hL : ∀ o, (T o).length ≤ L) (hLb : L ≤ 1000) (hnn : nn ≤ 1000) (hN : nn * L ≤ sortN)
    (q who : Int) (f t : ByteArray) (al : Bool) (hq : 0 ≤ q ∧ q ≤ 255) (hw : okU who) {vh : Value} {hs : List Held} (hh : Own Held.enc 4 50 base w vh hs) (hhl : hs.length ≤ 1000) :
    Calls Try.prog 18 #[.pointer (some ⟨B, 0, none⟩), vh, .agg #[.int .u8 q, .int .u32 who, .string f, .string t, .bool al]] w
      fun e w' => ∃ v' T' g n' w1, e = .returned (.tuple #[v', .bool true]) ∧ n' ≤ nn + 1 ∧ TabP base w' B n' T' ∧ TStep base w w1 ∧ w1.grownBy w' vh.ownBlock ∧ ActIs T ⟨q, who, f, t, al⟩ T' g ∧
        Own Held.enc 4 50 base w' v' (heldF ⟨q, who, f, t, al⟩ g hs) ∧ Rd Held.enc 4 w' vh hs := by
  obtain ⟨A, ca, rfl, hla, hca⟩ := hh.slice
  go_enter Try.func18, Try.ntmps18
  have hba : Below w.heap.size w (w.alloc (.cells #[.int .u8 q, .int .u32 who, .string f, .string t, .bool al] 45)) := (Below.refl _ w).alloc (Nat.le_refl _) _
  have s0 : (w.alloc (.cells #[.int .u8 q, .int .u32 who, .string f, .string t, .bool al] 45)).heap[w.heap.size]? = some (.cells #[.int .u8 q, .int .u32 who, .string f, .string t, .bool al] 45 (0, 0)) := lalloc_at _ rfl
  have hT := h.below hba
  have hh2 := hh.below hba
  have hst0 : TStep base w (w.alloc (.cells #[.int .u8 q, .int .u32 who, .string f, .string t, .bool al] 45)) := .of_below hba
  have hsz : (w.alloc (.cells #[.int .u8 q, .int .u32 who, .string f, .string t, .bool al] 45)).heap.size = w.heap.size + 1 := by simp
  have hr : q.tmod 6 = q % 6 := Int.tmod_eq_emod_of_nonneg hq.1
  go_upto_region 1 with fail
  generalize hW : w.alloc (.cells #[.int .u8 q, .int .u32 who, .string f, .string t, .bool al] 45) = W at *
  have hcase : (q % 6 = 0 ∨ q % 6 = 1 ∨ q % 6 = 2 ∨ q % 6 = 3) ∨ q % 6 = 4 ∨ q % 6 = 5 := by omega
  have cells : ∀ W' : World, W'.heap[w.heap.size]? = some (.cells #[.int .u8 q, .int .u32 who, .string f, .string t, .bool al] 45 (0, 0)) →
      W'.cell? ⟨w.heap.size, 0, none⟩ = some (.int .u8 q) ∧ W'.cell? ⟨w.heap.size, 1, none⟩ = some (.int .u32 who) ∧ W'.cell? ⟨w.heap.size, 2, none⟩ = some (.string f) ∧ W'.cell? ⟨w.heap.size, 3, none⟩ = some (.string t) ∧ W'.cell? ⟨w.heap.size, 4, none⟩ = some (.bool al) := fun W' e =>
    ⟨by simp [World.cell?, e], by simp [World.cell?, e], by simp [World.cell?, e], by simp [World.cell?, e], by simp [World.cell?, e]⟩
  obtain ⟨c0, c1, c2, c3, c4⟩ := cells W s0
  have CS := Lib.hid cells
  have hask := fun M D (h : TabAt base W B M nn D T) => ask_calls h (by omega) hL hLb hnn who hw f t al (c := L) (fun o => Nat.le_trans (List.length_filter_le _ _) (hL o)) hN
  obtain ⟨M, D, hTA⟩ := hT
  replace hask := hask M D hTA
  have HSZ := Lib.hid hsz
  have HS0 := Lib.hid s0
  clear cells hba hW hsz s0 hh
  rcases hcase with h03 | hm | hm
  · rcases h03 with hm | hm | hm | hm
    all_goals
      rw [hm] at hr
      have HM := Lib.hid hm
      clear hm
      go_wp2_with (first
        | (at_builtin; refine append_keepH (W := w2) (w0 := w2) w2.heap.size rfl Held.enc 4 50 43 48 _ base (.slice A hs.length ca) hs ⟨who, f, t, al⟩ rfl _ _ rfl held_under info_held rfl (by decide) (by decide) held_len held_one rfl rfl hhw (Below.refl _ _) hbz2 (by omega) ?_; intro v' w' hown' hb' hgr hrdo)
        | (go_at_call 11
           refine hask.mono ?_
           rintro e w2 hpost
           rcases hpost with ⟨hz, rfl, hT2, hs2⟩ | ⟨hz, v', l, rfl, hne, hown', hway, hT2, hs2⟩ | ⟨hz, hno, rfl, ⟨n', hn', hT2⟩, hs2⟩
           all_goals obtain ⟨d0, d1, d2, d3, d4⟩ := CS.out w2 (hs2.cells HS0.out (by decide))
           all_goals clear c0 c1 c2 c3 c4 d0
           all_goals have hhw := hh2.tstep hs2 (by decide)
           all_goals have hbz2 : base ≤ w2.heap.size := (by have := hs2.size; have := HSZ.out; omega)
           all_goals try (
             have hlp : 0 < l.length := List.length_pos_iff.2 hne
             obtain ⟨A5, c5, rfl, _, _⟩ := hown'.slice
             have hlz : decide ((0 : Int) < (l.length : Int)) = true := decide_eq_true (by omega))))
      · -- none that may be
        go_ret2
        exact ⟨_, T, false, nn, w2, rfl, by omega, hT2, hst0.trans hs2, .refl _ _, .inl ⟨by have := HM.out; simp only; omega, hz, rfl, rfl⟩, by
          rw [show heldF ⟨q, who, f, t, al⟩ false hs = hs by unfold heldF; rw [if_neg (by decide), if_neg (by have := HM.out; simp only; omega)]]
          exact ⟨hh2.tstep hs2 (by decide), (hh2.tstep hs2 (by decide)).rd held_len⟩⟩
      · -- somebody is in the way
        go_ret2
        refine ⟨_, T, false, nn, w2, rfl, by omega, hT2, hst0.trans hs2, .refl _ _, .inr (.inl ⟨by have := HM.out; simp only; omega, hz, ?_, rfl, rfl⟩), ?_⟩
        · obtain ⟨o, ho⟩ := List.exists_mem_of_ne_nil _ hne
          exact ⟨o, (hway.mem o).1 ho⟩
        · rw [show heldF ⟨q, who, f, t, al⟩ false hs = hs by unfold heldF; rw [if_neg (by decide), if_neg (by have := HM.out; simp only; omega)]]
          exact ⟨hh2.tstep hs2 (by decide), (hh2.tstep hs2 (by decide)).rd held_len⟩
      · -- one gets it
        go_ret2
        refine ⟨v', _, true, n', w2, rfl, hn', hT2.kept hgr (fun g e => ?_), hst0.trans hs2, hgr, .inr (.inr (.inl ⟨by have := HM.out; simp only; omega, hz, hno, rfl, rfl⟩)), hown', hrdo⟩
        obtain ⟨cur, fr, hc⟩ := hhw.cellsAt g e
        exact ⟨cur, _, fr, hc, by decide, by decide⟩
  · -- all of somebody is free
    rw [hm] at hr
    have HM := Lib.hid hm
    have hfree := tfree_calls hTA who hw
    clear hm hask
    go_wp2_with (go_at_call 13
                 refine hfree.mono ?_
                 rintro e w2 ⟨rfl, hT2, hs2⟩
                 have hx2 := hs2.cells HS0.out (by decide)
                 have hhw := hh2.tstep hs2 (by decide)
                 have hbz2 : base ≤ w2.heap.size := (by have := hs2.size; have := HSZ.out; omega)
                 have hlt2 : w.heap.size < w2.heap.size := (by have := hs2.size; have := HSZ.out; omega)
                 clear c0 c1 c2 c3 c4 hfree)
    go_loopw [10, 11] (fun rv iv wr => ∃ k : Nat, k ≤ hs.length ∧ iv = .int .i64 k ∧ Own Held.enc 4 50 w2.heap.size wr rv ((hs.take k).filter fun h => decide (h.who ≠ who)) ∧ Below w2.heap.size w2 wr) (fun _ iv _ => hs.length - (intOf iv).toNat)
    case atStart => exact ⟨0, Nat.zero_le _, rfl, Own.nil _ _ _ _ _, Below.refl _ _⟩
    case round =>
      obtain ⟨k, hk, rfl, hown, hb⟩ := hrel
      have hxw := (hb.block _ hlt2).trans hx2
      obtain ⟨_, e1, _, _, _⟩ := CS.out wr hxw
      by_cases hlt : k < hs.length
      · have hxk := List.getElem?_eq_getElem hlt
        have hsn := filter_snoc_held (fun h => decide (h.who ≠ who)) hs k _ hxk
        obtain ⟨b, o, rfl, y1, y2, y3, y4⟩ := ((hhw.rd held_len).below hb).held hxk
        generalize hs[k] = x at *
        obtain ⟨xw, xf, xt, xa⟩ := x
        simp only at y1 y2 y3 y4 hsn
        obtain ⟨F, hF⟩ : ∃ F, (hs.take (k + 1)).filter (fun h => decide (h.who ≠ who)) = F := ⟨_, rfl⟩
        rw [hF] at hsn
        have HF := Lib.hid hF
        have hfl : ((hs.take k).filter fun h => decide (h.who ≠ who)).length ≤ 1000 := Nat.le_trans (List.length_filter_le _ _) (by rw [List.length_take]; omega)
        generalize (hs.take k).filter (fun h => decide (h.who ≠ who)) = F0 at *
        clear hF hxk
        by_cases hne : xw = who
        · have hq1 : (xw != who) = false := by simp [hne]
          have hFe : F = F0 := by rw [hsn, if_neg (by simp [hne]), List.append_nil]
          have HS := Lib.hid hFe
          clear hsn hFe hne
          go_wp2
          go_region
          all_goals go_wp2
          go_roundw
          case rel => exact ⟨k + 1, by omega, by go_num, by rw [HF.out, HS.out]; exact hown.below (Below.refl _ _).drew, hb.drew⟩
          case measure => simp [intOf]; omega
        · have hq1 : (xw != who) = true := by simp [hne]
          have hFe : F = F0 ++ [⟨xw, xf, xt, xa⟩] := by rw [hsn, if_pos (by simp [hne])]
          have HS := Lib.hid hFe
          have hne2 := Lib.hid hne
          clear hsn hFe hne
          obtain ⟨A2, cc2, rfl, _, _⟩ := hown.slice
          have hownd : Own Held.enc 4 50 w2.heap.size wr.drew (.slice A2 F0.length cc2) F0 := hown.below (Below.refl _ _).drew
          have hbd := hb.drew
          have hzd : w2.heap.size ≤ wr.drew.heap.size := hbd.size
          go_wp2
          go_region
          all_goals go_wp2_with (at_builtin; refine append_oneH (W := wr.drew) wr.heap.size rfl Held.enc 4 50 43 48 _ w2.heap.size (.slice A2 F0.length cc2) F0 ⟨xw, xf, xt, xa⟩ rfl _ _ rfl held_under info_held rfl (by decide) (by decide) held_len held_one rfl rfl hownd hbd hzd (by omega) ?_; intro v' w' hown' hb' hgr hat; clear hgr hat hown hownd)
          go_roundw
          case rel => exact ⟨k + 1, by omega, by go_num, by rw [HF.out, HS.out]; exact hown', hb'⟩
          case measure => simp [intOf]; omega
      · have hkl : k = hs.length := by omega
        subst hkl
        rw [List.take_length] at hown
        obtain ⟨F, hF⟩ : ∃ F, (hs.filter fun h => decide (h.who ≠ who)) = F := ⟨_, rfl⟩
        rw [hF] at hown
        have HF := Lib.hid hF
        clear hF
        have hT3 := hT2.below hb
        obtain ⟨M3, D3, hTA3⟩ := hT3
        have hp0 : putT T who [] who = [] := by simp [putT]
        have hhas := thas_calls hTA3 who hw (by rw [hp0]; simp)
        rw [hp0, List.map_nil] at hhas
        have HP := Lib.hid hp0
        have HH := Lib.hid hhas
        clear hp0 hhas hT2
        obtain ⟨A2, cc2, rfl, _, _⟩ := hown.slice
        go_wp2_with (go_at_call 14; refine HH.out.mono ?_; rintro e w3 ⟨v', rfl, hh3, hb3⟩; obtain ⟨A3, cc3, rfl, _, _⟩ := hh3.slice)
        go_ret2
        have hs3 := (hst0.trans hs2).trans ((TStep.of_below (base := base) hb).trans (.of_below hb3))
        refine ⟨.slice A2 F.length cc2, putT T who [], false, nn, w3, rfl, by omega, ⟨M3, D3, hTA3.below hb3⟩, hs3, .refl _ _, .inr (.inr (.inr (.inl ⟨HM.out, rfl, rfl⟩))), ?_⟩
        rw [show heldF ⟨q, who, f, t, al⟩ false hs = F by rw [← HF.out]; unfold heldF; rw [if_neg (by decide), if_pos HM.out]]
        exact ⟨ownsRow_low (hown.below hb3) hbz2, ((hhw.rd held_len).below hb).below hb3⟩
  · -- nothing
    rw [hm] at hr
    have HM := Lib.hid hm
    clear hm hask
    go_wp2
    go_ret2
    refine ⟨_, T, false, nn, W, rfl, by omega, ⟨M, D, hTA⟩, hst0, .refl _ _, .inr (.inr (.inr (.inr ⟨HM.out, rfl, rfl⟩))), ?_⟩
    rw [show heldF ⟨q, who, f, t, al⟩ false hs = hs by unfold heldF; rw [if_neg (by decide), if_neg (by have := HM.out; simp only; omega)]]
    exact ⟨hh2, hh2.rd held_len⟩


end Go.Proofs.Ytomhkflcimbbiaa
