import Derived.Test.YtanjgeacmpmjhaaGreatDoorMgLocksPlay37
import Derived.Test.YtanjgeacmpmjhaaGreatDoorMgLocksPlay14
set_option linter.unusedVariables false
set_option linter.unusedSimpArgs false
set_option linter.unusedSectionVars false
namespace Go.Proofs.YtanjgeacmpmjhaaGreatDoor
open Go.RowKit

def RAskPost (base : Nat) (w : World) (C : Nat) (hs : List Held) (who : Int) (f t : Str) (al : Bool) (e : Ending) (w' : World) : Prop :=
  (mayL who f t = false ∧ e = .returned (.tuple #[.slice none 0 0, .int .i64 1]) ∧ (∃ v', RTab base w' C v' hs) ∧ TurnR base w w') ∨
  (mayL who f t = true ∧ wayR who f t al hs ≠ [] ∧ (∃ v', e = .returned (.tuple #[v', .int .i64 8]) ∧ OwnU w.heap.size w' v' (wayR who f t al hs)) ∧ (∃ v', RTab base w' C v' hs) ∧ TurnR base w w') ∨
  (mayL who f t = true ∧ wayR who f t al hs = [] ∧ e = .returned (.tuple #[.slice none 0 0, .int .i64 0]) ∧ (∃ v', RTab base w' C v' (addH who f t al hs)) ∧ TurnR base w w')

set_option maxHeartbeats 4000000 in
set_option maxRecDepth 100000 in
theorem rask11_calls {base : Nat} {w : World} {C : Nat} {v : Value} {hs : List Held} (h : RTab base w C v hs) (hbase : base ≤ w.heap.size) (hl : hs.length ≤ 1000) (who : Int) (f t : ByteArray) (hf : f.size ≤ 9223372036854775807) (ht : t.size ≤ 9223372036854775807) (al : Bool) :
    Calls Tryz.prog 50 #[.pointer (some ⟨C, 0, none⟩), .int .u32 who, .agg #[.string f, .string t], .bool al] w fun e w' => RAskPost base w C hs who f t al e w' := by
  unfold RAskPost
  obtain ⟨ws, hws⟩ : ∃ ws, wayR who f t al hs = ws := ⟨_, rfl⟩
  rw [hws]
  have HT0 : RowKit.Hid (∀ w', Below w.heap.size w w' → RTab base w' C v hs) := Lib.hid fun w' hb => h.below hb
  have hb0 : Below w.heap.size w (w.alloc (.cells #[.string f, .string t] 47)) := (Below.refl _ w).alloc (Nat.le_refl _) _
  have s0 : (w.alloc (.cells #[.string f, .string t] 47)).heap[w.heap.size]? = some (.cells #[.string f, .string t] 47 (0, 0)) := alloc_new w _
  have hhas := fun W => rhas_calls f t W hf ht
  obtain ⟨A, c, rfl, hlc, hc⟩ := h.own.slice
  have hCl := h.lt
  go_enter Tryz.func50, Tryz.ntmps50
  go_upto_region 1 with fail
  generalize hW0 : w.alloc (.cells #[.string f, .string t] 47) = W0 at *
  clear hW0
  have k0 : W0.cell? ⟨w.heap.size, 0, none⟩ = some (.string f) := by rw [heap_cell s0]; rfl
  have k1 : W0.cell? ⟨w.heap.size, 1, none⟩ = some (.string t) := by rw [heap_cell s0]; rfl
  by_cases hw0 : who = 0
  · have hd : (who == 0) = true := by simp [hw0]
    have hmay : RowKit.Hid (mayL who f t = false) := Lib.hid (by simp [mayL, hw0])
    clear hw0
    go_wp2_with (go_at_call 145; refine (hhas _).mono ?_; rintro e w1 ⟨rfl, hb1⟩)
    go_ret2
    exact .inl ⟨hmay.out, rfl, ⟨_, HT0.out _ hb0⟩, .of_below hb0⟩
  have hd : (who == 0) = false := by simp [hw0]
  cases hsl : sle f t
  · have hmay : RowKit.Hid (mayL who f t = false) := Lib.hid (by simp [mayL, hsl])
    rw [hsl] at hhas
    clear hw0
    go_wp2_with (go_at_call 145; refine (hhas _).mono ?_; rintro e w1 ⟨rfl, hb1⟩)
    go_ret2
    exact .inl ⟨hmay.out, rfl, ⟨_, HT0.out _ (Below.step hb0 hb1)⟩, .of_below (Below.step hb0 hb1)⟩
  rw [hsl] at hhas
  have HMAY : RowKit.Hid (mayL who f t = true) := Lib.hid (by simp [mayL, hsl, hw0])
  clear hw0
  have hway : ∀ W, Below w.heap.size w W → Calls Tryz.prog 56 #[.pointer (some ⟨C, 0, none⟩), .int .u32 who, .agg #[.string f, .string t], .bool al] W
      fun e w' => ∃ A' c', e = .returned (.slice A' (wayR who f t al hs).length c') ∧ OwnU W.heap.size w' (.slice A' (wayR who f t al hs).length c') (wayR who f t al hs) ∧ Below W.heap.size W w' := fun W hb => by
    refine (rway11_calls (HT0.out W hb) (by omega) who f t hf ht al).mono ?_
    rintro e w' ⟨v', rfl, o, hb'⟩
    rw [if_pos HMAY.out] at o
    obtain ⟨A', c', rfl, _, _⟩ := o.slice
    exact ⟨A', c', rfl, o, hb'⟩
  simp only [hws] at hway
  by_cases hne : ws = []
  case neg =>
    have hpos : 0 < ws.length := List.length_pos_iff.2 hne
    have HNE := Lib.hid hne
    clear hne hws
    go_wp2_with (first
      | (go_at_call 145; refine (hhas _).mono ?_; rintro e w1 ⟨rfl, hb1⟩; clear hhas; replace k0 := Below.cell_some hb1 k0; replace k1 := Below.cell_some hb1 k1; replace hb0 := Below.step hb0 hb1)
      | (go_at_call 56; refine (hway _ hb0).mono ?_; rintro e w2 ⟨A2, c2, rfl, own2, hb2⟩; clear hway))
    go_ret2
    exact .inr (.inl ⟨HMAY.out, HNE.out, ⟨_, rfl, own2.lower hb0.size⟩, ⟨_, HT0.out _ (Below.step hb0 hb2)⟩, .of_below (Below.step hb0 hb2)⟩)
  subst hne
  clear hws
  have hsm := h.small
  have hlow := h.low
  have hnz : ((([] : List Int).length : Nat) : Int) = 0 := rfl
  go_wp2_with (first
    | (go_at_call 145; refine (hhas _).mono ?_; rintro e w1 ⟨rfl, hb1⟩; clear hhas; replace k0 := Below.cell_some hb1 k0; replace k1 := Below.cell_some hb1 k1; replace hb0 := Below.step hb0 hb1)
    | (go_at_call 56; refine (hway _ hb0).mono ?_; rintro e w2 ⟨A2, c2, rfl, own2, hb2⟩; clear hway own2; replace k0 := Below.cell_some hb2 k0; replace k1 := Below.cell_some hb2 k1; replace hb0 := Below.step hb0 hb2))
  have rT := HT0.out _ hb0
  have c0 := rT.c0
  have hown := rT.own
  have HB0 := Lib.hid hb0
  have hz0 := hb0.size
  clear hb0 hb2 s0
  have hg := eqg_span .eql
  go_loopw [11] (fun iv wr => ∃ m : Nat, m ≤ hs.length ∧ iv = .int .i64 m ∧ (∀ j x, j < m → hs[j]? = some x → sameH who f t x = false) ∧ Below w2.heap.size w2 wr) (fun iv _ => hs.length - (intOf iv).toNat)
  case atStart => exact ⟨0, Nat.zero_le _, rfl, fun j x hj => absurd hj (Nat.not_lt_zero _), Below.refl _ _⟩
  case round =>
    obtain ⟨m, hm, rfl, hmiss, hb⟩ := hrel
    have HB := Lib.hid hb
    have HMISS := Lib.hid hmiss
    have c1 := Below.cell_some hb c0
    have m0 := Below.cell_some hb k0
    have m1 := Below.cell_some hb k1
    have ho := hown.below hb
    clear hb hmiss
    by_cases hlt : m < hs.length
    · have hx := List.getElem?_eq_getElem hlt
      obtain ⟨g, cap, cur, hv, -⟩ := Own.some_block ho (by omega)
      injection hv with e1 _ e3
      subst e1
      obtain ⟨b, o, e, y0, y1, y2, y3⟩ := (ho.rd held_len).held hx
      injection e with e
      injection e with e1 e2
      subst e1 e2
      simp only [Nat.zero_add] at y0 y1 y2 y3
      have HX := Lib.hid hx
      clear hx
      generalize hs[m] = x at *
      obtain ⟨xw, xf, xt, xa⟩ := x
      simp only at y0 y1 y2 y3
      have z0 := fun p : Later wr => Later.cell p y0
      have z1 := fun p : Later wr => Later.cell p y1
      have z2 := fun p : Later wr => Later.cell p y2
      have z3 := fun p : Later wr => Later.cell p y3
      have z4 := fun p : Later wr => Later.cell p c1
      have z5 := fun p : Later wr => Later.cell p m0
      have z6 := fun p : Later wr => Later.cell p m1
      have NEXT : RowKit.Hid (sameH who f t ⟨xw, xf, xt, xa⟩ = false → ∀ j x, j < m + 1 → hs[j]? = some x → sameH who f t x = false) := Lib.hid fun hn j x hj hx => by
        rcases Nat.lt_or_ge j m with h | h
        · exact HMISS.out j x h hx
        · have : j = m := by omega
          subst this
          rw [HX.out] at hx
          injection hx with hx
          rw [← hx]; exact hn
      by_cases hxw : xw = who
      · have hd2 : (xw == who) = true := by simp [hxw]
        by_cases hsp : xf = f ∧ xt = t
        · have he : ∀ W, (binOp .eql 47 (.agg #[.string xf, .string xt]) (.agg #[.string f, .string t])).run Tryz.prog W = .ok (.bool true) W := fun W => by rw [eql_span]; simp [hsp]
          have HADD := Lib.hid (addH_hit (al := al) HX.out (by simp [sameH, hxw, hsp]) HMISS.out)
          clear hsp hxw
          have hmz : m * 4 + 3 = m * 4 + 3 := rfl
          have HIT : RowKit.Hid (∀ W', Below wr.heap.size wr W' → (∃ v', RTab base (W'.setCell ⟨g, m * 4 + 3, none⟩ (.bool (xa || al))) C v' (addH who f t al hs)) ∧ TurnR base w (W'.setCell ⟨g, m * 4 + 3, none⟩ (.bool (xa || al)))) := Lib.hid fun W' hb' => by
            have hbw : Below w.heap.size w W' := Below.step (Below.step HB0.out HB.out) hb'
            have r' := HT0.out _ hbw
            have hc := r'.own.cell held_len m ⟨xw, xf, xt, xa⟩ ⟨xw, xf, xt, xa || al⟩ 3 (.bool (xa || al)) HX.out rfl (by decide)
            have hty := (r'.own.typed g rfl).2
            have hgC : g ≠ C := fun e => ne_typed r'.obj hty.choose_spec (by decide) e.symm
            have hgw : base ≤ g ∧ ∃ cur, w.heap[g]? = some (.cells cur 166 (0, 0)) := h.own.typed g rfl
            refine ⟨⟨_, (hc.2 C fun e => hgC e.symm).trans r'.obj, by rw [HADD.out]; exact hc.1, fun y hy => ?_, hlow⟩, ⟨fun i => i = g, (Turn.of_below hbw).trans (.setCell _ _ _ _), fun i e => ?_⟩⟩
            · have hx := hsm _ (List.mem_of_getElem? HX.out)
              rcases addH_mem hy with ⟨h1, h2⟩ | ⟨z, hz, h1, h2⟩
              · exact ⟨by rw [h1]; exact hf, by rw [h2]; exact ht⟩
              · exact ⟨by rw [h1]; exact (hsm z hz).1, by rw [h2]; exact (hsm z hz).2⟩
            · subst e
              exact ⟨hgw.1, hgw.2.choose, _, hgw.2.choose_spec, .inr rfl⟩
          have hfz : ∀ W', Below wr.heap.size wr W' → W'.frozen? ⟨g, m * 4 + 3, none⟩ = false := fun W' hb' => by
            obtain ⟨cur, hcur⟩ := ((HT0.out _ (Below.step (Below.step HB0.out HB.out) hb')).own.typed g rfl).2
            exact heap_free hcur _
          have HFZ := Lib.hid hfz
          clear hfz hmz
          go_wp2
          refine wp_region_later (by kernel_rfl) (by kernel_rfl) ?_
          repeat (go_big_quiet_step ((fail)))
          refine wpQuiet_nil ?_
          rintro _ ⟨p, rfl⟩
          have q3 := z3 p
          have q4 := z4 p
          have hbp := p.ok
          have hfp := HFZ.out _ p.ok
          clear z0 z1 z2 z3 z4 z5 z6 he hg y0 y1 y2 y3
          generalize p.val = Wp at *
          cases xa
          all_goals
            go_wp2
            go_still_tail 18, (by kernel_rfl)
            change wpList _ _ _ _ _ Wp.drew
            have hbd : Below wr.heap.size wr Wp.drew := hbp.drew
            have hfd := HFZ.out _ hbd
            have q5 := Below.cell_some (Below.refl Wp.heap.size Wp).drew q3
            have HI := HIT.out _ hbd
            simp only [Bool.true_or, Bool.false_or] at HI
            have HII := Lib.hid HI
            clear HI hbd
            generalize Wp.drew = Wd at *
            go_wp2
            go_ret2
            exact .inr ⟨HMAY.out, rfl, HII.out.1, HII.out.2⟩
        · have he : ∀ W, (binOp .eql 47 (.agg #[.string xf, .string xt]) (.agg #[.string f, .string t])).run Tryz.prog W = .ok (.bool false) W := fun W => by
            rw [eql_span]
            by_cases h1 : xf = f <;> by_cases h2 : xt = t <;> simp_all
          have HN : RowKit.Hid (sameH who f t ⟨xw, xf, xt, xa⟩ = false) := Lib.hid (by
            unfold sameH
            by_cases h1 : xf = f <;> by_cases h2 : xt = t <;> simp_all)
          clear hsp hxw
          go_wp2
          refine wp_region_later (by kernel_rfl) (by kernel_rfl) ?_
          repeat (go_big_quiet_step ((fail)))
          refine wpQuiet_nil ?_
          rintro _ ⟨p, rfl⟩
          clear z0 z1 z2 z3 z4 z5 z6
          go_wp2
          go_roundw
          case rel => exact ⟨m + 1, by omega, by go_num, NEXT.out HN.out, Below.step HB.out p.ok⟩
          case measure => simp [intOf]; omega
      · have hd2 : (xw == who) = false := by simp [hxw]
        have HN : RowKit.Hid (sameH who f t ⟨xw, xf, xt, xa⟩ = false) := Lib.hid (by simp [sameH, hxw])
        clear hxw
        go_wp2
        refine wp_region_later (by kernel_rfl) (by kernel_rfl) ?_
        repeat (go_big_quiet_step ((fail)))
        refine wpQuiet_nil ?_
        rintro _ ⟨p, rfl⟩
        clear z0 z1 z2 z3 z4 z5 z6
        go_wp2
        go_roundw
        case rel => exact ⟨m + 1, by omega, by go_num, NEXT.out HN.out, Below.step HB.out p.ok⟩
        case measure => simp [intOf]; omega
    · have hme : m = hs.length := by omega
      subst hme
      have HADD := Lib.hid (addH_miss (al := al) (hs := hs) (who := who) (f := f) (t := t) fun x hx => by
        obtain ⟨j, hj, e⟩ := List.getElem_of_mem hx
        exact HMISS.out j x hj (by rw [List.getElem?_eq_getElem hj, e]))
      have hC1 : C < wr.heap.size := World.block_lt_of_cell? wr _ c1
      have hX1 : w.heap.size < wr.heap.size := World.block_lt_of_cell? wr _ m0
      have f1 : wr.frozen? ⟨C, 0, none⟩ = false := heap_free ((HB.out.block C (by omega)).trans rT.obj) 0
      have hba : Below wr.heap.size wr (wr.drew.alloc (.cells #[.int .u32 who, .string f, .string t, .bool al] 166)) := (Below.refl _ wr).drew.alloc (Nat.le_refl _) _
      have hbase2 : base ≤ wr.heap.size := by have := HB.out.size; omega
      obtain ⟨v', w4, hrun, hown2, hway⟩ := run_append_way (P := Tryz.prog) Held.enc 4 166 86 86 48 _ base _ hs ⟨who, f, t, al⟩ rlocks_under info_rlock rfl (by decide) (by decide) held_len (held_one _)
        ⟨wr.drew.heap.size, 0, none⟩ (fun j u hu => by rw [Addr.add_lit, heap_cell (alloc_new wr.drew _), Nat.zero_add, List.getElem?_toArray]; exact hu) (ho.below hba) (Nat.le_trans hbase2 hba.size) (by omega)
      obtain ⟨A3, c3, rfl, hlc3, hc3⟩ := hown2.slice
      rw [List.length_append, List.length_singleton] at hrun hown2
      have ht2 : Turn (fun g => (Value.slice A hs.length c).ownBlock = some g) w w4 := by
        have hw0 : Below w.heap.size w (wr.drew.alloc (.cells #[.int .u32 who, .string f, .string t, .bool al] 166)) := Below.step (Below.step HB0.out HB.out) hba
        rcases hway with ⟨g, c', e1, e2, tn⟩ | ⟨tb, _⟩
        · exact (Turn.of_below hw0).step tn fun i _ e => by rw [e1, e]; rfl
        · exact .of_below (Below.step hw0 tb)
      have hBv : ∀ g, (Value.slice A hs.length c).ownBlock = some g → ¬ g = C := fun g hg e => ne_typed h.obj (h.own.typed g hg).2.choose_spec (by decide) e.symm
      have hobj4 := ht2.heap h.obj (fun e => hBv C e rfl)
      have FIN : (∃ v', RTab base (w4.setCell ⟨C, 0, none⟩ (.slice A3 (hs.length + 1) c3)) C v' (addH who f t al hs)) ∧ TurnR base w (w4.setCell ⟨C, 0, none⟩ (.slice A3 (hs.length + 1) c3)) := by
        rw [HADD.out]
        refine ⟨⟨_, Joins.block_setCell (i := 0) hobj4 _, hown2.turn (.setCell _ _ _ _) (fun g hg e => ne_typed hobj4 (hown2.typed g hg).2.choose_spec (by decide) e.symm), fun y hy => ?_, hlow⟩,
          ⟨fun g => g = C ∨ (Value.slice A hs.length c).ownBlock = some g, (ht2.mono fun _ _ e => .inr e).trans ((Turn.setCell _ _ _ _).mono fun _ _ e => .inl e), fun g e => ?_⟩⟩
        · rcases List.mem_append.1 hy with hy | hy
          · exact hsm y hy
          · rw [List.mem_singleton.1 hy]; exact ⟨hf, ht⟩
        · rcases e with rfl | e
          · exact ⟨hlow, _, _, h.obj, .inl rfl⟩
          · exact ⟨(h.own.typed g e).1, _, _, (h.own.typed g e).2.choose_spec, .inr rfl⟩
      have q7 : w4.cell? ⟨C, 0, none⟩ = some (.slice A hs.length c) := by rw [heap_cell hobj4]; rfl
      have f7 := heap_free hobj4 0
      have HF := Lib.hid FIN
      have HR := Lib.hid hrun
      clear FIN hown2 hway ht2 hobj4 hBv hrun hba hg ho hown rT hlc3 hc3 HADD k0 k1 h
      go_wp2
      go_region_law (refine step_append_runB rfl (.tmp 81) (.tmp 86) 86 rfl rfl rfl HR.out ?_)
      all_goals
        go_wp2
        go_ret2
        exact .inr ⟨HMAY.out, rfl, HF.out.1, HF.out.2⟩

end Go.Proofs.YtanjgeacmpmjhaaGreatDoor
