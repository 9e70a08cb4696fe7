import Derived.Test.YtanjgeacmpmjhaaGreatDoorMgVersionsPlay35
import Derived.Test.YtanjgeacmpmjhaaGreatDoorBkNil
import Derived.Test.YtanjgeacmpmjhaaGreatDoorVerP
import Derived.Deep.Cut
set_option linter.unusedVariables false
set_option linter.unusedSimpArgs false
set_option linter.unusedSectionVars false
namespace Go.Proofs.YtanjgeacmpmjhaaGreatDoor
open Go.RowKit

theorem rowss_under : Tryz.prog.underlying 143 = some (.slice 56) := by kernel_rfl
theorem info_rowss : (Tryz.prog.info? 56).map (fun i => (i.zero, i.size, i.bytes)) = some (some (.slice none 0 0), 1, 24) := by kernel_rfl
theorem changess_under : Tryz.prog.underlying 144 = some (.slice 45) := by kernel_rfl
theorem info_changeR14 : (Tryz.prog.info? 128).map (fun i => (i.zero, i.size, i.bytes)) = some (some (.agg #[.string ⟨#[]⟩, .int .u32 0, .bool false]), 3, 24) := by kernel_rfl
theorem info_changess : (Tryz.prog.info? 45).map (fun i => (i.zero, i.size, i.bytes)) = some (some (.slice none 0 0), 1, 24) := by kernel_rfl

theorem TurnT.trans {base : Nat} {w w1 w2 : World} {ts : List TypeId} (h : TurnT base w w1 ts) (k : TurnT base w1 w2 ts) : TurnT base w w2 ts := by
  obtain ⟨F, t, hF⟩ := h
  obtain ⟨G, u, hG⟩ := k
  refine ⟨fun g => F g ∨ (G g ∧ g < w.heap.size ∧ ¬ F g), ⟨u.os.trans t.os, u.tape.trans t.tape, u.output.trans t.output, Nat.le_trans t.size u.size, fun i hi hn => ?_⟩, ?_⟩
  · exact (u.block i (Nat.lt_of_lt_of_le hi t.size) fun hg => hn (.inr ⟨hg, hi, fun f => hn (.inl f)⟩)).trans (t.block i hi fun f => hn (.inl f))
  · rintro g (f | ⟨hg, hi, hn⟩)
    · exact hF g f
    · obtain ⟨hb, cur, T, e, hT⟩ := hG g hg
      exact ⟨hb, cur, T, (t.block g hi hn).symm.trans e, hT⟩
theorem TurnT.mono {base : Nat} {w w' : World} {ts us : List TypeId} (h : TurnT base w w' ts) (hs : ∀ T ∈ ts, T ∈ us) : TurnT base w w' us := by
  obtain ⟨F, t, hF⟩ := h
  exact ⟨F, t, fun g f => by
    obtain ⟨hb, cur, T, e, hT⟩ := hF g f
    exact ⟨hb, cur, T, e, hs T hT⟩⟩
theorem TurnT.of_belowA {base : Nat} {w w' : World} (ts : List TypeId) (h : Below w.heap.size w w') : TurnT base w w' ts := (TurnT.of_below h).mono fun T hT => by cases hT

/-- 'p.f = append(p.f, x)', x a slice that is kept, the past's cell i. -/
theorem past_push {α : Type} {enc : α → List Value} (henc : ∀ x, (enc x).length = 1) {E S : TypeId} (hS : Tryz.prog.underlying S = some (.slice E)) (hE : (Tryz.prog.info? E).map (fun i => (i.zero, i.size, i.bytes)) = some (some (.slice none 0 0), 1, 24)) (hEP : E ≠ 146)
    {base : Nat} {W2 : World} {C : Nat} {c0 c1 c2 : Value} (i : Nat) (hi : i < 3) (hob : W2.heap[C]? = some (.cells #[c0, c1, c2] 146 (0, 0))) (hC : base ≤ C) {Rv : Value} (hRv : #[c0, c1, c2][i]? = some Rv) {rs : List α} (hr : Own enc 1 E base W2 Rv rs) (y : α) {A : Option Addr} {n c : Nat} (hy : enc y = [.slice A n c]) (hbase : base ≤ W2.heap.size) (hl : rs.length ≤ 1000000) :
    ∃ A3 n3 c3 w4, (Builtin.append_ #[S, S] S #[Rv, .slice (some ⟨W2.heap.size, 0, none⟩) 1 1]).run Tryz.prog (W2.alloc (.cells #[.slice A n c] E)) = .ok (.slice A3 n3 c3) w4 ∧ w4.cell? ⟨C, i, none⟩ = some Rv ∧ w4.frozen? ⟨C, i, none⟩ = false ∧
      (w4.setCell ⟨C, i, none⟩ (.slice A3 n3 c3)).heap[C]? = some (.cells (#[c0, c1, c2].setIfInBounds i (.slice A3 n3 c3)) 146 (0, 0)) ∧ Own enc 1 E base (w4.setCell ⟨C, i, none⟩ (.slice A3 n3 c3)) (.slice A3 n3 c3) (rs ++ [y]) ∧ TurnT base W2 (w4.setCell ⟨C, i, none⟩ (.slice A3 n3 c3)) [146, E] := by
  have hba : Below W2.heap.size W2 (W2.alloc (.cells #[.slice A n c] E)) := (Below.refl _ W2).alloc (Nat.le_refl _) _
  obtain ⟨v3, w4, hrun, ho, hway⟩ := run_append_way (P := Tryz.prog) (W := W2.alloc (.cells #[.slice A n c] E)) enc 1 E S S 24 _ base Rv rs y hS hE rfl (by decide) (by decide) henc (fun u hu => by rw [hy] at hu; rw [List.mem_singleton.1 hu]; rfl)
    ⟨W2.heap.size, 0, none⟩ (fun j u hu => by rw [Addr.add_lit, heap_cell (alloc_new W2 _), Nat.zero_add]; rw [hy] at hu; simpa using hu) (hr.below hba) (Nat.le_trans hbase hba.size) (by omega)
  have ht : TurnT base W2 w4 [146, E] := by
    refine (TurnT.of_belowA _ hba).trans ?_
    rcases hway with ⟨g, cg, e1, e2, tn⟩ | ⟨tb, _⟩
    · refine ⟨_, tn, fun g' e => ?_⟩
      subst e
      have ho2 := (hr.below hba).typed g' (by rw [e1]; rfl)
      exact ⟨ho2.1, _, _, ho2.2.choose_spec, by simp⟩
    · exact TurnT.of_belowA _ tb
  have hob4 : w4.heap[C]? = some (.cells #[c0, c1, c2] 146 (0, 0)) := by
    have h1 := (hba.block C (Array.getElem?_eq_some_iff.1 hob).1).trans hob
    rcases hway with ⟨g, cg, e1, e2, tn⟩ | ⟨tb, _⟩
    · refine tn.heap h1 fun e => ?_
      have ho2 := (hr.below hba).typed g (by rw [e1]; rfl)
      exact ne_typed h1 ho2.2.choose_spec (fun e => hEP e.symm) e
    · exact (tb.block C (Array.getElem?_eq_some_iff.1 h1).1).trans h1
  have ts : Turn (fun g => g = C) w4 (w4.setCell ⟨C, i, none⟩ v3) := .setCell _ _ _ _
  obtain ⟨A3, c3, e3, _, _⟩ := ho.slice
  generalize (rs ++ [y]).length = n3 at e3
  subst e3
  refine ⟨A3, n3, c3, w4, hrun, by rw [heap_cell hob4]; exact hRv, heap_free hob4 i, Joins.block_setCell (i := i) hob4 _, ho.turn ts fun g hg e => ?_, ht.trans ⟨_, ts, fun g e => ?_⟩⟩
  · subst e
    exact ne_typed hob4 (ho.typed _ hg).2.choose_spec (fun e => hEP e.symm) rfl
  · subst e
    exact ⟨hC, _, _, hob4, by simp⟩

/-- The reference's past, its rows told of one commit more. -/
def MidR (base : Nat) (w : World) (C : Nat) (rs : List RV) (Cv : Value) (least : Int) (zs : List Row) (wx : World) : Prop :=
  ∃ Rv' v', wx.heap[C]? = some (.cells #[Rv', Cv, .int .u32 least] 146 (0, 0)) ∧ Own RV.enc 1 56 base wx Rv' (rs ++ [⟨v', zs⟩]) ∧ Own Row.enc 2 44 base wx v' zs ∧ TurnT base w wx [146, 56]

section
variable {base : Nat} {w w' : World} {C : Nat} {Rv : Value} {rs : List RV} {Cv : Value} {ls : List CV} {least : Int}
set_option maxHeartbeats 2000000 in
set_option maxRecDepth 100000 in
theorem rcommit14_calls (h : RPast base w C Rv rs Cv ls least) (hbase : base ≤ w.heap.size) (hl : ls.length ≤ 100000) {vc : Value} {cs : List Change} (hv : ∀ wx, Below base w wx → Rd Change.enc 3 wx vc cs) (hs : ∀ x ∈ cs, x.k.size ≤ 9223372036854775807) {x : RV} (hlast : rs[ls.length]? = some x) (hxl : x.xs.length + cs.length ≤ 1000000) :
    Calls Tryz.prog 38 #[.pointer (some ⟨C, 0, none⟩), vc] w fun e w' =>
      (cs.all okChange = false ∧ e = .returned (.tuple #[.int .u32 0, .int .i64 1]) ∧ RPast base w' C Rv rs Cv ls least ∧ Below w.heap.size w w') ∨
      (cs.all okChange = true ∧ e = .returned (.tuple #[.int .u32 ((ls.length : Int) + 1), .int .i64 0]) ∧ ∃ Rv' v' Cv' v2, RPast base w' C Rv' (rs ++ [⟨v', doCs cs x.xs⟩]) Cv' (ls ++ [⟨v2, cs⟩]) least ∧ TurnT base w w' [146, 56, 45]) := by
  have hmay := rmay14_calls (hv w (Below.refl _ _)) (by omega) hs
  obtain ⟨Ac, cc, rfl, _, _⟩ := (hv w (Below.refl _ _)).shape
  cases hal : cs.all okChange
  · rw [hal] at hmay
    have H0 := Lib.hid h
    clear h
    go_enter Tryz.func38, Tryz.ntmps38
    go_wp2_with (go_at_call 133; refine hmay.mono ?_; rintro e w1 ⟨rfl, hb1⟩)
    go_ret2
    exact .inl ⟨trivial, rfl, H0.out.below hb1, hb1⟩
  rw [hal] at hmay
  have HAL := Lib.hid hal
  clear hal
  go_enter Tryz.func38, Tryz.ntmps38
  go_upto_region 3 with (go_at_call 133; refine hmay.mono ?_; rintro e w1 ⟨rfl, hb1⟩)
  clear hmay
  obtain ⟨zs, hzs⟩ : ∃ zs, doCs cs x.xs = zs := ⟨_, rfl⟩
  have hd := Below.step hb1 (Below.refl w1.heap.size w1).drew
  have h1 := h.below hd
  obtain ⟨g, cg, rfl, hlc, hcm, hx⟩ := h1.row hlast
  have hrl : rs.length = ls.length + 1 := h1.len
  have hox := (h1.each x (List.mem_of_getElem? hlast)).1
  have hrx := (h1.each x (List.mem_of_getElem? hlast)).2.1
  have hch := rchange14_calls hox (Nat.le_trans hbase hd.size) hrx (hv _ (hd.mono hbase)) hxl
  rw [hzs] at hch
  have HH := Lib.hid h
  have HV := Lib.hid hv
  have HZ := Lib.hid hzs
  go_cut [] from 6 (fun wx => MidR base w C rs Cv least zs wx)
  case first =>
    obtain ⟨A, n, c, hxv⟩ : ∃ A n c, x.v = Value.slice A n c := by
      obtain ⟨A, c', e, _, _⟩ := hox.slice
      exact ⟨A, _, c', e⟩
    rw [hxv] at hx hch
    have c0 := h1.c0
    have hCl : C < w1.heap.size := (World.block_lt_of_cell? w1.drew _ c0)
    have hgl : g < w1.heap.size := (World.block_lt_of_cell? w1.drew _ hx)
    have hi0 : (0 : Int) ≤ (ls.length : Int) := by omega
    have hsub : IntKind.i64.wrap ((rs.length : Int) - 1) = (ls.length : Int) := by rw [IntKind.wrap_i64]; omega
    have hil : (ls.length : Int) < (rs.length : Int) := by omega
    have H1 := Lib.hid h1
    have HRL := Lib.hid hrl
    clear h h1 hrl hox hrx hv hxv hlast
    go_region_law (first
      | (refine step_tag 27 (by with_reducible rfl) ?_
         go_simp
         go_at_call 134
         refine hch.mono ?_
         rintro e w2 ⟨v2, rfl, o2, hb2⟩
         have e0 := Below.cell_some hb2 c0
         have ex := Below.cell_some hb2 hx
         have h2 := H1.out.below hb2
         obtain ⟨Av, cv, rfl, _, _⟩ := o2.slice
         have hba : Below w2.heap.size w2 (w2.alloc (.cells #[.slice Av zs.length cv] 56)) := (Below.refl _ w2).alloc (Nat.le_refl _) _
         have e0a := Below.cell_some hba e0
         obtain ⟨A3, n3, c3, w3, hr3, e03, f03, hob3, ho3, ht3⟩ := past_push rv_len rowss_under info_rowss (by decide) 0 (by decide) h2.obj h2.low (by rfl) h2.rows ⟨.slice Av zs.length cv, zs⟩ rfl (by have := hd.size; have := hb2.size; omega) (by have := HRL.out; omega)
         have HF := Lib.hid (And.intro hob3 (And.intro ho3 (And.intro o2 (And.intro ht3 (Below.step hd hb2)))))
         clear hba h2 hob3 ho3 o2 ht3
         go_wp2_with fail)
      | (refine step_tag 29 (by with_reducible rfl) ?_
         refine step_append_runB rfl (.tmp 13) (.tmp 28) 143 rfl rfl rfl hr3 ?_))
    all_goals
      go_wp2
      go_meet
      case rel =>
        obtain ⟨hob3, ho3, o2, ht3, hb3⟩ := HF.out
        exact ⟨_, .slice Av zs.length cv, hob3, ho3, ht3.own o2 (by decide), (TurnT.of_belowA _ hb3).trans ht3⟩
  case rest =>
    obtain ⟨Rv', v', hob, hro, hrow, ht⟩ := hcut
    have hbC := ht.below hbase
    have hzw := ht.size
    have hbd : Below wc.heap.size wc wc.drew := (Below.refl wc.heap.size wc).drew
    have hcsl : cs.length ≤ 1000000 := by omega
    obtain ⟨_, w5, hr1, A5, c5, rfl, ho5, hb5⟩ := run_copy_all (P := Tryz.prog) (W := wc.drew) Change.enc 3 128 45 45 24 _ cs Ac cs.length cc Tryz.underlying45 info_changeR14 rfl (by decide) (by decide) change_len change_one rfl (HV.out _ (hbC.drew)) (by omega)
    have hob5 := (hb5.block C (Array.getElem?_eq_some_iff.1 hob).1).trans hob
    have hbw5 := Below.step hbd hb5
    have hro5 := hro.below hbw5
    have hrow5 := hrow.below hbw5
    have hchs5 : Own CV.enc 1 45 base w5 Cv ls := (ht.own HH.out.chs (by decide)).below hbw5
    have hz5 := hbw5.size
    have hlow := HH.out.low
    have hcv0 := HH.out.chs
    obtain ⟨A6, n6, c6, w6, hr6, e06, f06, hob6, ho6, ht6⟩ := past_push cv_len changess_under info_changess (by decide) 1 (by decide) hob5 hlow (by rfl) hchs5 ⟨.slice A5 cs.length c5, cs⟩ rfl (by omega) (by omega)
    have hob6' : (w6.setCell ⟨C, 1, none⟩ (.slice A6 n6 c6)).heap[C]? = some (.cells #[Rv', .slice A6 n6 c6, .int .u32 least] 146 (0, 0)) := hob6
    have hT : TurnT base w (w6.setCell ⟨C, 1, none⟩ (.slice A6 n6 c6)) [146, 56, 45] :=
      ((ht.mono (by decide)).trans (TurnT.of_belowA _ hbw5)).trans (ht6.mono (by decide))
    have hP : RPast base (w6.setCell ⟨C, 1, none⟩ (.slice A6 n6 c6)) C Rv' (rs ++ [⟨v', zs⟩]) (.slice A6 n6 c6) (ls ++ [⟨.slice A5 cs.length c5, cs⟩]) least := by
      have H := HH.out
      refine ⟨hob6', ht6.own hro5 (by decide), fun y hy => ?_, ho6, fun y hy => ?_, fun y hy => ?_, by simp [H.len], H.low⟩
      · rcases List.mem_append.1 hy with hy | hy
        · exact ⟨hT.own (H.each y hy).1 (by decide), (H.each y hy).2⟩
        · rw [List.mem_singleton.1 hy]
          refine ⟨ht6.own hrow5 (by decide), ?_, fun q hq => ?_⟩
          · show Rising zs
            rw [← HZ.out]; exact doCs_rising _ (H.each x (List.mem_of_getElem? hlast)).2.1
          · have hq' : q ∈ doCs cs x.xs := by rw [HZ.out]; exact hq
            exact doCs_ok cs (fun c hc => okChange_key (List.all_eq_true.1 HAL.out c hc)) (H.each x (List.mem_of_getElem? hlast)).2.2 q hq'
      · rcases List.mem_append.1 hy with hy | hy
        · exact hT.own (H.eachC y hy) (by decide)
        · rw [List.mem_singleton.1 hy]
          exact ht6.own (ho5.lower (show base ≤ wc.heap.size by omega)) (by decide)
      · rcases List.mem_append.1 hy with hy | hy
        · exact H.okC y hy
        · rw [List.mem_singleton.1 hy]; exact hs
    have hnow := rnow14_calls hP (by simp; omega)
    rw [List.length_append, List.length_singleton, show ((ls.length + 1 : Nat) : Int) = (ls.length : Int) + 1 by omega] at hnow
    have HF := Lib.hid (And.intro hP hT)
    have e1 : wc.cell? ⟨C, 1, none⟩ = some Cv := by rw [heap_cell hob]; rfl
    have e1d := Below.cell_some hbd e1
    have e15 : w5.cell? ⟨C, 1, none⟩ = some Cv := by rw [heap_cell hob5]; rfl
    have e15a := Below.cell_some ((Below.refl _ w5).alloc (Nat.le_refl _) (.cells #[.slice A5 cs.length c5] 45)) e15
    obtain ⟨Aq, cq, rfl, _, _⟩ := hcv0.slice
    clear hob hro hrow ht hbC hob5 hro5 hrow5 hchs5 hlow hob6 hob6' ho6 ht6 hT hP hox hrx hch h1 h hv hx hlast ho5 hb5 hbw5 hcv0
    go_upto_region 4 with fail
    go_region_law (first
      | (refine step_tag 38 (by with_reducible rfl) ?_
         refine step_append_runB rfl (.const (.slice none 0 0)) (.tmp 37) 45 rfl rfl rfl hr1 ?_)
      | (refine step_tag 40 (by with_reducible rfl) ?_
         refine step_append_runB rfl (.tmp 36) (.tmp 39) 144 rfl rfl rfl hr6 ?_))
    all_goals
      go_wp2_with (go_at_call 40; refine hnow.mono ?_; rintro e _ ⟨rfl, rfl⟩)
      go_ret2
      refine .inr ⟨trivial, rfl, Rv', v', .slice A6 n6 c6, .slice A5 cs.length c5, ?_, HF.out.2⟩
      rw [HZ.out]
      exact HF.out.1
end

end Go.Proofs.YtanjgeacmpmjhaaGreatDoor
