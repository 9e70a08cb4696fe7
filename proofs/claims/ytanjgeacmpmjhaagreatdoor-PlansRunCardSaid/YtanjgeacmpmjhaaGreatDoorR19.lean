import Derived.Test.YtanjgeacmpmjhaaGreatDoorR14c
import Derived.Test.YtanjgeacmpmjhaaGreatDoorR19s
import Derived.Test.YtanjgeacmpmjhaaGreatDoorMgPlansRun20
import Derived.Test.YtanjgeacmpmjhaaGreatDoorBkNil
import Derived.Test.YtanjgeacmpmjhaaGreatDoorMgPlansRun44
import Derived.Deep.Cut
set_option linter.unusedVariables false
set_option linter.unusedSimpArgs false
set_option linter.unusedSectionVars false
namespace Go.Proofs.YtanjgeacmpmjhaaGreatDoor
open Go.RowKit

attribute [local go_sem ↓] Go.wp_at_zero Go.wp_at_succ

/-- Results, each with a list of one's own. -/
def OutL (base : Nat) (w : World) (v : Value) (rs : List (List Row)) : Prop :=
  ∃ ss : List SlV, Own SlV.enc 1 174 base w v ss ∧ ss.length = rs.length ∧ ∀ (i : Nat) (s : SlV) (r : List Row), ss[i]? = some s → rs[i]? = some r → Own Row.enc 2 44 base w s.val r
section
variable {base : Nat} {w w' : World} {v : Value} {rs : List (List Row)}
theorem OutL.nil (base : Nat) (w : World) : OutL base w (.slice none 0 0) [] := ⟨[], .nil _ _ _ _ _, rfl, fun i s r h => by simp at h⟩
theorem OutL.below (h : OutL base w v rs) (hb : Below w.heap.size w w') : OutL base w' v rs := by
  obtain ⟨ss, ho, hl, hs⟩ := h
  exact ⟨ss, ho.below hb, hl, fun i s r a b => (hs i s r a b).below hb⟩
theorem OutL.set (h : OutL base w v rs) {B : Nat} (hB : ∀ g, v.ownBlock = some g → g ≠ B) {cs : Array Value} (hob : w.heap[B]? = some (.cells cs 174 (0, 0))) (i : Nat) (u : Value) : OutL base (w.setCell ⟨B, i, none⟩ u) v rs := by
  obtain ⟨ss, ho, hl, hs⟩ := h
  exact ⟨ss, ho.turn (.setCell _ _ _ _) hB, hl, fun i s r a b => (hs i s r a b).turn (.setCell _ _ _ _) fun g hg e => ne_typed ((hs i s r a b).typed g hg).2.choose_spec hob (by decide) e⟩
theorem OutL.lt (h : OutL base w v rs) (g : Nat) (hg : v.ownBlock = some g) : g < w.heap.size := by
  obtain ⟨ss, ho, _⟩ := h
  exact ho.lt g hg
theorem OutL.rd (h : OutL base w v rs) : RdRes w v rs := by
  obtain ⟨ss, ho, hl, hs⟩ := h
  exact ⟨ss, ho.rd slv_len, hl, fun i s r a b => (hs i s r a b).rd row_len⟩
theorem outL_push {W : World} {ss : List SlV} {v' : Value} {s : SlV} {r : List Row} (ho : Own SlV.enc 1 174 base W v ss) (hl : ss.length = rs.length) (hs : ∀ (i : Nat) (s : SlV) (r : List Row), ss[i]? = some s → rs[i]? = some r → Own Row.enc 2 44 base W s.val r)
    (hr : Own Row.enc 2 44 base W s.val r) (hbase : base ≤ W.heap.size) (hown : Own SlV.enc 1 174 base w' v' (ss ++ [s]))
    (hway : (∃ g c, v = .slice (some ⟨g, 0, none⟩) ss.length c ∧ v' = .slice (some ⟨g, 0, none⟩) (ss.length + 1) c ∧ Turn (fun i => i = g) W w') ∨ (Below W.heap.size W w' ∧ ∃ g, v'.ownBlock = some g ∧ W.heap.size ≤ g)) :
    OutL base w' v' (rs ++ [r]) ∧ (∀ (u : Value) (xs : List Row), Own Row.enc 2 44 base W u xs → Own Row.enc 2 44 base w' u xs) ∧ Below base W w' := by
  have key : ∀ (u : Value) (xs : List Row), Own Row.enc 2 44 base W u xs → Own Row.enc 2 44 base w' u xs := fun u xs h => by
    rcases hway with ⟨g, c, e1, _, tn⟩ | ⟨tb, _⟩
    · refine h.turn tn fun g' hg' e => ?_
      subst e
      exact ne_typed (h.typed _ hg').2.choose_spec (ho.typed g' (by rw [e1]; rfl)).2.choose_spec (by decide) rfl
    · exact h.below tb
  refine ⟨⟨ss ++ [s], hown, by simp [hl], fun i s' r' h1 h2 => ?_⟩, key, ?_⟩
  · by_cases hi : i < ss.length
    · rw [List.getElem?_append_left hi] at h1
      rw [List.getElem?_append_left (by omega)] at h2
      exact key _ _ (hs i s' r' h1 h2)
    · rw [List.getElem?_append_right (by omega)] at h1
      rw [List.getElem?_append_right (by omega), ← hl] at h2
      have hz : i - ss.length = 0 := by
        have := (List.getElem?_eq_some_iff.1 h1).1
        simp at this
        omega
      rw [hz] at h1 h2
      simp at h1 h2
      subst h1 h2
      exact key _ _ hr
  · rcases hway with ⟨g, c, e1, _, tn⟩ | ⟨tb, _⟩
    · exact tn.below (fun i e => by rw [e]; exact ho.base_le g (by rw [e1]; rfl)) hbase
    · exact tb.mono hbase
end

theorem okKey_size19 {s : Str} (h : okKey s = true) : s.size ≤ 16 := by
  unfold okKey at h
  simp only [Bool.and_eq_true, decide_eq_true_eq] at h
  omega
/-- What the reference's run leaves. -/
def RRun (w : World) (rows : List Row) (ops : List Opn) (e : Ending) (w' : World) : Prop :=
  Below w.heap.size w w' ∧
  ((runP rows ops = none ∧ e = .returned (.tuple #[.slice none 0 0, .slice none 0 0, .int .i64 1])) ∨
   ∃ rs left v u, runP rows ops = some (rs, left) ∧ e = .returned (.tuple #[v, u, .int .i64 0]) ∧ RdRes w' v rs ∧ Rd Row.enc 2 w' u left)
theorem RRun.none {w w' : World} {rows : List Row} {ops : List Opn} (hb : Below w.heap.size w w') (h : (stOkF [] rows && ops.all okO) = false) :
    RRun w rows ops (.returned (.tuple #[.slice none 0 0, .slice none 0 0, .int .i64 1])) w' :=
  ⟨hb, .inl ⟨by unfold runP; rw [h]; rfl, rfl⟩⟩

set_option maxRecDepth 100000 in
set_option maxHeartbeats 1600000 in
theorem rRun19_calls (v u : Value) (rows : List Row) (ops : List Opn) (w : World) (hv : Rd Row.enc 2 w v rows) (hu : Rd Opn.enc 4 w u ops) (hl : rows.length ≤ 1000) (hl2 : ops.length ≤ 1000)
    (hs : ∀ x ∈ rows, x.k.size ≤ 9223372036854775807) (hs2 : ∀ x ∈ ops, x.k.size ≤ 9223372036854775807 ∧ x.t.size ≤ 9223372036854775807) :
    Calls Tryz.prog 72 #[v, u] w (RRun w rows ops) := by
  obtain ⟨A, c, rfl, hlc, hc⟩ := hv.shape
  obtain ⟨A2, c2, rfl, hlc2, hc2⟩ := hu.shape
  go_enter Tryz.func72, Tryz.ntmps72
  go_wp2
  go_loopw [7, 8] (fun mv i wr => ∃ k : Nat, k ≤ rows.length ∧ i = .int .i64 k ∧ Own Row.enc 2 44 w.heap.size wr mv (stM (rows.take k)) ∧ Below w.heap.size w wr ∧ stOkF [] rows = stOkF (stM (rows.take k)) (rows.drop k)) (fun _ i _ => rows.length - (intOf i).toNat)
  case atStart => exact ⟨0, Nat.zero_le _, rfl, .nil _ _ _ _ _, Below.refl _ _, rfl⟩
  case round =>
    obtain ⟨k, hk, rfl, hM, hb, hst⟩ := hrel
    have HST := Lib.hid hst
    clear hst
    have hmlen : (stM (rows.take k)).length ≤ 2000 := by
      have h1 := stM_len (rows.take k) []
      have h2 : (rows.take k).length ≤ k := by rw [List.length_take]; omega
      have h3 : (stM (rows.take k)).length ≤ ([] : List Row).length + (rows.take k).length := h1
      simp only [List.length_nil] at h3
      omega
    have hris := stM_rising (rows.take k)
    have hz := hb.size
    by_cases hlt : k < rows.length
    · obtain ⟨b, o, rfl, hx1, hx2⟩ := (hv.below hb).row (List.getElem?_eq_getElem hlt)
      have hxk := hs rows[k] (List.getElem_mem hlt)
      have HD := Lib.hid (drop_at (List.getElem?_eq_getElem hlt))
      have HS := Lib.hid (stM_snoc rows k _ (List.getElem?_eq_getElem hlt))
      generalize rows[k] = r at *
      obtain ⟨rk, rn⟩ := r
      dsimp only at hx1 hx2 hxk
      generalize hm : stM (rows.take k) = m at *
      have hstep : stOkF [] rows = (!(getL rk m).isSome && (okKey rk && stOkF (putL rk rn m) (rows.drop (k + 1)))) := by
        rw [HST.out, HD.out]
        rfl
      have HSTEP := Lib.hid hstep
      have hrdm := hM.rd row_len
      obtain ⟨Am, cm, rfl, _, _⟩ := hM.slice
      have hfind := rfind_calls _ m rk wr hrdm hris (by omega)
      have hck := rcheck_calls rk wr hxk
      have hput := fun (W : World) (hb : Below wr.heap.size wr W) => rput14_calls (hM.below hb) hris (by omega) rk rn
      clear hstep HST hm hrdm hM hv
      cases hg : getL rk m with
      | some y =>
        rw [hg] at hfind
        have HNO := Lib.hid (show stOkF [] rows = false by rw [HSTEP.out, hg]; rfl)
        simp only [Option.isSome_some] at hfind
        go_wp2_with (go_at_call 137; refine hfind.mono ?_; rintro e _ ⟨rfl, rfl⟩)
        go_ret3
        exact RRun.none hb (by rw [HNO.out]; rfl)
      | none =>
        rw [hg] at hfind
        simp only [Option.isSome_none] at hfind
        cases hkk : okKey rk with
        | false =>
          rw [hkk] at hck
          have HNO := Lib.hid (show stOkF [] rows = false by rw [HSTEP.out, hg, hkk]; rfl)
          go_wp2_with (first | (go_at_call 137; refine hfind.mono ?_; rintro e _ ⟨rfl, rfl⟩) | (go_at_call 83; refine hck.mono ?_; rintro e w1 ⟨rfl, hb1⟩))
          go_ret3
          exact RRun.none (Below.step hb hb1) (by rw [HNO.out]; rfl)
        | true =>
          rw [hkk] at hck
          go_upto_region 8 with (first | (go_at_call 137; refine hfind.mono ?_; rintro e _ ⟨rfl, rfl⟩) | (go_at_call 83; refine hck.mono ?_; rintro e w1 ⟨rfl, hb1⟩))
          have hd := Below.step hb1 (Below.refl w1.heap.size w1).drew
          have y1 := Below.cell_some hd hx1
          have y2 := Below.cell_some hd hx2
          clear hx1 hx2 hck hfind
          go_region_held3 (fun w' => w'.cell? ⟨b, o + k * 2, none⟩ = some (Value.string rk) ∧ w'.cell? ⟨b, o + k * 2 + 1, none⟩ = some (Value.int IntKind.u32 rn)) (go_keep) ((go_at_call 169; refine (hput _ hd).mono ?_; rintro e w2 ⟨v2, rfl, o2, hb2⟩; have z1 := Below.cell_some hb2 y1; have z2 := Below.cell_some hb2 y2))
          go_wp2
          go_roundw
          case rel =>
            refine ⟨k + 1, by omega, by go_num, ?_, Below.step hb (Below.step hd hb2), ?_⟩
            · rw [HS.out]
              exact o2.lower (Nat.le_trans hz hd.size)
            · rw [HSTEP.out, HS.out, hg, hkk]
              rfl
          case measure => simp [intOf]; omega
    · have hkl : k = rows.length := by omega
      subst hkl
      rw [List.take_length] at *
      have hok : stOkF [] rows = true := by
        rw [HST.out, List.drop_length]
        rfl
      clear HST hlt
      have hmlen2 : (stM rows).length ≤ 1000 := by
        have h1 := stM_len rows []
        have h3 : (stM rows).length ≤ ([] : List Row).length + rows.length := h1
        simp only [List.length_nil] at h3
        omega
      clear hmlen
      generalize hM0 : stM rows = m0 at *
      have hk0 : ∀ r ∈ m0, okKey r.k = true := fun r hr => stF_ok rows [] hok r ((stM_perm hok).mem_iff.1 (by rw [hM0]; exact hr))
      obtain ⟨wo, rfl⟩ : ∃ wo : World, wo = wr := ⟨_, rfl⟩
      go_wp2
      go_loopw [7, 11, 12] (fun mv ov i wr => ∃ k : Nat, k ≤ ops.length ∧ i = .int .i64 k ∧ Own Row.enc 2 44 w.heap.size wr mv (rowsR m0 (ops.take k)) ∧ OutL w.heap.size wr ov (outsR m0 (ops.take k)) ∧ Below w.heap.size w wr ∧ (ops.take k).all okO = true) (fun _ _ i _ => ops.length - (intOf i).toNat)
      case atStart => exact ⟨0, Nat.zero_le _, rfl, hM, .nil _ _, hb, rfl⟩
      case round =>
        obtain ⟨k, hk, rfl, hMk, ⟨ss, hso, hsl, hsr⟩, hb2, hall⟩ := hrel
        have hgood := rowsR_good (ops.take k) m0 (fun x hx => List.all_eq_true.1 hall x hx) hris hk0
        have HALL := Lib.hid hall
        have HOK := Lib.hid hok
        clear hall hok hM hb
        by_cases hlt : k < ops.length
        · obtain ⟨b, o, rfl, hx1, hx2, hx3, hx4⟩ := (hu.below hb2).opn (List.getElem?_eq_getElem hlt)
          obtain ⟨hxk, hxt⟩ := hs2 ops[k] (List.getElem_mem hlt)
          have HMEM := Lib.hid (List.getElem_mem hlt)
          have HT := Lib.hid (take_snoc (List.getElem?_eq_getElem hlt))
          generalize ops[k] = x at *
          obtain ⟨q, xk, xt, xd⟩ := x
          dsimp only at hx1 hx2 hx3 hx4 hxk hxt
          have HM := Lib.hid (show rowsR m0 (ops.take (k + 1)) = afterD ⟨q, xk, xt, xd⟩ (rowsR m0 (ops.take k)) by rw [HT.out, rowsR_append]; rfl)
          have HO := Lib.hid (show outsR m0 (ops.take (k + 1)) = outsR m0 (ops.take k) ++ [tellD ⟨q, xk, xt, xd⟩ (rowsR m0 (ops.take k))] by rw [HT.out, outsR_append]; rfl)
          have hmlen : (rowsR m0 (ops.take k)).length ≤ 3000 := by
            have h1 := rowsR_len (ops.take k) m0
            have h2 : (ops.take k).length ≤ k := by rw [List.length_take]; omega
            omega
          have holen : ss.length ≤ 1000 := by
            rw [hsl, outsR_len]
            have h2 : (ops.take k).length ≤ k := by rw [List.length_take]; omega
            omega
          generalize rowsR m0 (ops.take k) = m at *
          generalize outsR m0 (ops.take k) = outs at *
          obtain ⟨hris2, hkk2⟩ := hgood
          have hkeys : ∀ r ∈ m, r.k.size ≤ 9223372036854775807 := fun r hr => by have := okKey_size19 (hkk2 r hr); omega
          obtain ⟨Ao, co, rfl, _, _⟩ := hso.slice
          obtain ⟨Am, cm, rfl, _, _⟩ := hMk.slice
          have hck := rcheck02_calls q xk xt xd hxk hxt wr
          have HSL := Lib.hid hsl
          clear hs hs2 hM0 hk0 hkk2 hv hu hsl
          cases hok : okOp q xk xt xd with
          | false =>
            rw [hok] at hck
            have HNO := Lib.hid (show ops.all okO = false by rw [List.all_eq_false]; exact ⟨_, HMEM.out, by rw [show okO ⟨q, xk, xt, xd⟩ = false from hok]; decide⟩)
            go_wp2_with (go_at_call 161; refine hck.mono ?_; rintro e w1 ⟨rfl, hb1⟩; clear hx1 hx2 hx3 hx4)
            go_ret3
            exact RRun.none (Below.step hb2 hb1) (by rw [HNO.out, Bool.and_false])
          | true =>
            rw [hok] at hck
            have hok2 := hok
            unfold okOp at hok2
            simp only [Bool.and_eq_true, decide_eq_true_eq] at hok2
            obtain ⟨⟨⟨⟨hq1, hq4⟩, hkk⟩, -⟩, -⟩ := hok2
            have HOX := Lib.hid (show okO ⟨q, xk, xt, xd⟩ = true from hok)
            clear hok hkk
            have hq : q = 1 ∨ q = 2 ∨ q = 3 ∨ q = 4 := by omega
            clear hq1 hq4
            rcases hq with rfl | rfl | rfl | rfl
            · go_upto_region 16 with (go_at_call 161; refine hck.mono ?_; rintro e w1 ⟨rfl, hb1⟩)
              have hbA : Below w1.heap.size w1 (w1.alloc (.cells #[.slice none 0 0] 174)) := (Below.refl _ w1).alloc (Nat.le_refl _) _
              have hR0 := alloc_new w1 (.cells #[.slice none 0 0] 174)
              generalize w1.alloc (.cells #[.slice none 0 0] 174) = w2 at *
              have h12 := Below.step hb1 hbA
              have y1 := Below.cell_some h12 hx1
              have y2 := Below.cell_some h12 hx2
              have y3 := Below.cell_some h12 hx3
              have y4 := Below.cell_some h12 hx4
              have hof := rof_calls 1 xk xt xd w2
              have hsc := fun (W : World) (hb : Below w2.heap.size w2 W) => rscan14_calls (((hMk.below h12).below hb).rd row_len) (by omega) hkeys xk (spanOf 1 xk xt) hxk (by unfold spanOf; split <;> assumption) 256
              obtain ⟨zs, hzs⟩ : ∃ zs, tellD ⟨1, xk, xt, xd⟩ m = zs := ⟨_, rfl⟩
              have hzs2 : (rowsIn xk (spanOf 1 xk xt) m).take (256 : Int).toNat = zs := by rw [← hzs]; rfl
              rw [hzs2] at hsc
              have HZ := Lib.hid hzs
              have hlo := hso.lt
              have hr1 : wr.heap.size ≤ w1.heap.size := hb1.size
              clear hck hzs hzs2 hx1 hx2 hx3 hx4
              go_upto_region 23 with (first
                | (go_at_call 162; refine hof.mono ?_; rintro e w3 ⟨rfl, hb3⟩; clear y1 y2 y3 y4)
                | (go_at_call 138; refine (hsc _ hb3).mono ?_; rintro e w4 ⟨v4, rfl, hb4, o4⟩; obtain ⟨As, cs, rfl, _, _⟩ := o4.slice; have h24 := Below.step hb3 hb4; have hR4 := (h24.block _ (Array.getElem?_eq_some_iff.1 hR0).1).trans hR0; have u0 : w4.cell? ⟨w1.heap.size, 0, none⟩ = some (.slice none 0 0) := (by rw [heap_cell hR4]; rfl); have u1 := heap_free hR4 0))
              have hB4 := Below.step h12 h24
              have hts : Turn (fun i => i = w1.heap.size) w4 (w4.setCell ⟨w1.heap.size, 0, none⟩ (.slice As zs.length cs)) := .setCell _ _ _ _
              have hneR : ∀ (uu : Value) (xs : List Row), Own Row.enc 2 44 w.heap.size w4 uu xs → Own Row.enc 2 44 w.heap.size (w4.setCell ⟨w1.heap.size, 0, none⟩ (.slice As zs.length cs)) uu xs := fun uu xs h => h.turn hts fun g hg e => ne_typed (h.typed g hg).2.choose_spec hR4 (by decide) e
              have hso5 := (hso.below hB4).turn hts fun g hg e => by have := hlo g hg; omega
              have hsr5 := fun i s r h1 h2 => hneR _ _ ((hsr i s r h1 h2).below hB4)
              have hm5 := hneR _ _ (hMk.below hB4)
              have o5 := hneR _ _ (o4.lower (Nat.le_trans hb2.size (Nat.le_trans h12.size hb3.size)))
              have hB5 : Below w.heap.size w (w4.setCell ⟨w1.heap.size, 0, none⟩ (.slice As zs.length cs)) := (Below.step hb2 hB4).setCell (Nat.le_trans hb2.size hr1) _
              have u5 : (w4.setCell ⟨w1.heap.size, 0, none⟩ (.slice As zs.length cs)).cell? ⟨w1.heap.size, 0, none⟩ = some (.slice As zs.length cs) := by rw [heap_cell (Joins.block_setCell (i := 0) hR4 _)]; rfl
              generalize w4.setCell ⟨w1.heap.size, 0, none⟩ (.slice As zs.length cs) = w5 at *
              clear hR4 hts hneR hso hsr hMk o4 u0 u1
              go_wp2_with (at_builtin; refine append_wayH (W := w5) w5.heap.size rfl SlV.enc 1 174 112 24 _ w.heap.size (.slice Ao ss.length co) ss ⟨As, zs.length, cs⟩ rfl _ _ rfl Tryz.underlying112 info_res rfl (by decide) (by decide) slv_len (slv_one _) rfl rfl hso5 hB5.size (by omega) ?_; intro v' w6 hown' hway)
              go_roundw
              case rel =>
                obtain ⟨p1, p2, p3⟩ := outL_push hso5 HSL.out hsr5 o5 hB5.size hown' hway
                refine ⟨k + 1, by omega, by go_num, ?_, ?_, hB5.trans p3, ?_⟩
                · rw [HM.out]; exact p2 _ _ hm5
                · rw [HO.out, HZ.out]; exact p1
                · rw [HT.out, List.all_append, HALL.out]
                  simp [HOX.out]
              case measure => simp [intOf]; omega
            · go_upto_region 16 with (go_at_call 161; refine hck.mono ?_; rintro e w1 ⟨rfl, hb1⟩)
              have hbA : Below w1.heap.size w1 (w1.alloc (.cells #[.slice none 0 0] 174)) := (Below.refl _ w1).alloc (Nat.le_refl _) _
              have hR0 := alloc_new w1 (.cells #[.slice none 0 0] 174)
              generalize w1.alloc (.cells #[.slice none 0 0] 174) = w2 at *
              have h12 := Below.step hb1 hbA
              have y1 := Below.cell_some h12 hx1
              have y2 := Below.cell_some h12 hx2
              have y3 := Below.cell_some h12 hx3
              have y4 := Below.cell_some h12 hx4
              have hp := fun (W : World) (hb : Below w2.heap.size w2 W) => rput14_calls (((hMk.below h12)).below hb) hris2 (by omega) xk xd
              clear hck hx1 hx2 hx3 hx4
              go_upto_region 22 with fail
              have hd := (Below.refl w2.heap.size w2).drew
              have z1 := Below.cell_some hd y1
              have z2 := Below.cell_some hd y2
              have z4 := Below.cell_some hd y4
              clear y1 y2 y3 y4
              go_region_held3 (fun w' => w'.cell? ⟨b, o + k * 4 + 1, none⟩ = some (Value.string xk) ∧ w'.cell? ⟨b, o + k * 4 + 3, none⟩ = some (Value.int IntKind.u32 xd)) (go_keep) ((go_at_call 169; refine (hp _ hd).mono ?_; rintro e w5 ⟨v5, rfl, o5, hb5⟩; have t2 := Below.cell_some hb5 z2; have t4 := Below.cell_some hb5 z4))
              have h25 := Below.step hd hb5
              have u5 : w5.cell? ⟨w1.heap.size, 0, none⟩ = some (.slice none 0 0) := by rw [heap_cell ((h25.block _ (Array.getElem?_eq_some_iff.1 hR0).1).trans hR0)]; rfl
              have hB5 := Below.step hb2 (Below.step h12 h25)
              have hso5 := (hso.below h12).below h25
              have hsr5 := fun i s r h1 h2 => ((hsr i s r h1 h2).below h12).below h25
              have hm5 := o5.lower (Nat.le_trans hb2.size (Nat.le_trans h12.size hd.size))
              obtain ⟨Av, cv, rfl, _, _⟩ := hm5.slice
              have hm6 := Lib.hid hm5
              clear hso hsr hMk hm5 o5
              go_wp2_with (at_builtin; refine append_wayH (W := w5) w5.heap.size rfl SlV.enc 1 174 112 24 _ w.heap.size (.slice Ao ss.length co) ss ⟨none, 0, 0⟩ rfl _ _ rfl Tryz.underlying112 info_res rfl (by decide) (by decide) slv_len (slv_one _) rfl rfl hso5 hB5.size (by omega) ?_; intro v' w6 hown' hway)
              go_roundw
              case rel =>
                obtain ⟨p1, p2, p3⟩ := outL_push (s := ⟨none, 0, 0⟩) (r := []) hso5 HSL.out hsr5 (.nil _ _ _ _ _) hB5.size hown' hway
                refine ⟨k + 1, by omega, by go_num, ?_, ?_, hB5.trans p3, ?_⟩
                · rw [HM.out]; exact p2 _ _ hm6.out
                · rw [HO.out]; exact p1
                · rw [HT.out, List.all_append, HALL.out]
                  simp [HOX.out]
              case measure => simp [intOf]; omega
            · go_upto_region 16 with (go_at_call 161; refine hck.mono ?_; rintro e w1 ⟨rfl, hb1⟩)
              have hbA : Below w1.heap.size w1 (w1.alloc (.cells #[.slice none 0 0] 174)) := (Below.refl _ w1).alloc (Nat.le_refl _) _
              have hR0 := alloc_new w1 (.cells #[.slice none 0 0] 174)
              generalize w1.alloc (.cells #[.slice none 0 0] 174) = w2 at *
              have h12 := Below.step hb1 hbA
              have y1 := Below.cell_some h12 hx1
              have y2 := Below.cell_some h12 hx2
              have y3 := Below.cell_some h12 hx3
              have y4 := Below.cell_some h12 hx4
              have hp := fun (W : World) (hb : Below w2.heap.size w2 W) => rdel14_calls (((hMk.below h12)).below hb) (Nat.le_trans hb2.size (Nat.le_trans h12.size hb.size)) hris2 (by omega) xk
              clear hck hx1 hx2 hx3 hx4
              go_upto_region 23 with (go_at_call 170; refine (hp _ (Below.refl _ _)).mono ?_; rintro e w5 ⟨v5, rfl, o5, hb5⟩)
              clear y1 y2 y3 y4
              have h25 := hb5
              have u5 : w5.cell? ⟨w1.heap.size, 0, none⟩ = some (.slice none 0 0) := by rw [heap_cell ((h25.block _ (Array.getElem?_eq_some_iff.1 hR0).1).trans hR0)]; rfl
              have hB5 := Below.step hb2 (Below.step h12 h25)
              have hso5 := (hso.below h12).below h25
              have hsr5 := fun i s r h1 h2 => ((hsr i s r h1 h2).below h12).below h25
              have hm5 := o5
              obtain ⟨Av, cv, rfl, _, _⟩ := hm5.slice
              have hm6 := Lib.hid hm5
              clear hso hsr hMk hm5 o5
              go_wp2_with (at_builtin; refine append_wayH (W := w5) w5.heap.size rfl SlV.enc 1 174 112 24 _ w.heap.size (.slice Ao ss.length co) ss ⟨none, 0, 0⟩ rfl _ _ rfl Tryz.underlying112 info_res rfl (by decide) (by decide) slv_len (slv_one _) rfl rfl hso5 hB5.size (by omega) ?_; intro v' w6 hown' hway)
              go_roundw
              case rel =>
                obtain ⟨p1, p2, p3⟩ := outL_push (s := ⟨none, 0, 0⟩) (r := []) hso5 HSL.out hsr5 (.nil _ _ _ _ _) hB5.size hown' hway
                refine ⟨k + 1, by omega, by go_num, ?_, ?_, hB5.trans p3, ?_⟩
                · rw [HM.out]; exact p2 _ _ hm6.out
                · rw [HO.out]; exact p1
                · rw [HT.out, List.all_append, HALL.out]
                  simp [HOX.out]
              case measure => simp [intOf]; omega
            · go_upto_region 16 with (go_at_call 161; refine hck.mono ?_; rintro e w1 ⟨rfl, hb1⟩)
              have hbA : Below w1.heap.size w1 (w1.alloc (.cells #[.slice none 0 0] 174)) := (Below.refl _ w1).alloc (Nat.le_refl _) _
              have hR0 := alloc_new w1 (.cells #[.slice none 0 0] 174)
              generalize w1.alloc (.cells #[.slice none 0 0] 174) = w2 at *
              have h12 := Below.step hb1 hbA
              have y1 := Below.cell_some h12 hx1
              have y2 := Below.cell_some h12 hx2
              have y3 := Below.cell_some h12 hx3
              have y4 := Below.cell_some h12 hx4
              have hof := rof_calls 4 xk xt xd w2
              have hsc := fun (W : World) (hb : Below w2.heap.size w2 W) => rscan14_calls (((hMk.below h12).below hb).rd row_len) (by omega) hkeys xk (spanOf 4 xk xt) hxk (by unfold spanOf; split <;> assumption) 256
              obtain ⟨zs, hzs⟩ : ∃ zs, tellD ⟨4, xk, xt, xd⟩ m = zs := ⟨_, rfl⟩
              have hzs2 : (rowsIn xk (spanOf 4 xk xt) m).take (256 : Int).toNat = zs := by rw [← hzs]; rfl
              rw [hzs2] at hsc
              have HZ := Lib.hid hzs
              have hlo := hso.lt
              have hr1 : wr.heap.size ≤ w1.heap.size := hb1.size
              clear hck hzs hzs2 hx1 hx2 hx3 hx4
              go_upto_region 23 with (first
                | (go_at_call 162; refine hof.mono ?_; rintro e w3 ⟨rfl, hb3⟩; clear y1 y2 y3 y4)
                | (go_at_call 138; refine (hsc _ hb3).mono ?_; rintro e w4 ⟨v4, rfl, hb4, o4⟩; obtain ⟨As, cs, rfl, _, _⟩ := o4.slice; have h24 := Below.step hb3 hb4; have hR4 := (h24.block _ (Array.getElem?_eq_some_iff.1 hR0).1).trans hR0; have u0 : w4.cell? ⟨w1.heap.size, 0, none⟩ = some (.slice none 0 0) := (by rw [heap_cell hR4]; rfl); have u1 := heap_free hR4 0))
              have hB4 := Below.step h12 h24
              have hts : Turn (fun i => i = w1.heap.size) w4 (w4.setCell ⟨w1.heap.size, 0, none⟩ (.slice As zs.length cs)) := .setCell _ _ _ _
              have hneR : ∀ (uu : Value) (xs : List Row), Own Row.enc 2 44 w.heap.size w4 uu xs → Own Row.enc 2 44 w.heap.size (w4.setCell ⟨w1.heap.size, 0, none⟩ (.slice As zs.length cs)) uu xs := fun uu xs h => h.turn hts fun g hg e => ne_typed (h.typed g hg).2.choose_spec hR4 (by decide) e
              have hso5 := (hso.below hB4).turn hts fun g hg e => by have := hlo g hg; omega
              have hsr5 := fun i s r h1 h2 => hneR _ _ ((hsr i s r h1 h2).below hB4)
              have hm5 := hneR _ _ (hMk.below hB4)
              have o5 := hneR _ _ (o4.lower (Nat.le_trans hb2.size (Nat.le_trans h12.size hb3.size)))
              have hB5 : Below w.heap.size w (w4.setCell ⟨w1.heap.size, 0, none⟩ (.slice As zs.length cs)) := (Below.step hb2 hB4).setCell (Nat.le_trans hb2.size hr1) _
              have u5 : (w4.setCell ⟨w1.heap.size, 0, none⟩ (.slice As zs.length cs)).cell? ⟨w1.heap.size, 0, none⟩ = some (.slice As zs.length cs) := by rw [heap_cell (Joins.block_setCell (i := 0) hR4 _)]; rfl
              generalize w4.setCell ⟨w1.heap.size, 0, none⟩ (.slice As zs.length cs) = w5 at *
              clear hR4 hts hneR hso hsr hMk o4 u0 u1
              go_wp2_with (at_builtin; refine append_wayH (W := w5) w5.heap.size rfl SlV.enc 1 174 112 24 _ w.heap.size (.slice Ao ss.length co) ss ⟨As, zs.length, cs⟩ rfl _ _ rfl Tryz.underlying112 info_res rfl (by decide) (by decide) slv_len (slv_one _) rfl rfl hso5 hB5.size (by omega) ?_; intro v' w6 hown' hway)
              go_roundw
              case rel =>
                obtain ⟨p1, p2, p3⟩ := outL_push hso5 HSL.out hsr5 o5 hB5.size hown' hway
                refine ⟨k + 1, by omega, by go_num, ?_, ?_, hB5.trans p3, ?_⟩
                · rw [HM.out]; exact p2 _ _ hm5
                · rw [HO.out, HZ.out]; exact p1
                · rw [HT.out, List.all_append, HALL.out]
                  simp [HOX.out]
              case measure => simp [intOf]; omega
        · have hkl : k = ops.length := by omega
          subst hkl
          rw [List.take_length] at *
          have hrun : runP rows ops = some (outsR m0 ops, rowsR m0 ops) := by
            unfold runP
            rw [HOK.out, HALL.out, hM0]
            rfl
          have HRUN := Lib.hid hrun
          have HF := Lib.hid (And.intro (OutL.rd ⟨ss, hso, hsl, hsr⟩) (hMk.rd row_len))
          clear hrun hso hsr hsl hMk hgood
          go_wp2
          go_ret3
          exact ⟨hb2, .inr ⟨_, _, _, _, HRUN.out, rfl, HF.out.1, HF.out.2⟩⟩

end Go.Proofs.YtanjgeacmpmjhaaGreatDoor
