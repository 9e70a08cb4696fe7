import Derived.Test.YtanjgeacmpmjhaaGreatDoorPlRes
set_option linter.unusedVariables false
set_option linter.unusedSimpArgs false
set_option linter.unusedSectionVars false
namespace Go.Proofs.YtanjgeacmpmjhaaGreatDoor
open Go.RowKit

attribute [local go_sem ↓] Go.wp_at_zero Go.wp_at_succ

/-- A row that lies in a cell of its own. -/
def RowB (w : World) (B : Nat) (k : ByteArray) (n : Int) : Prop := w.heap[B]? = some (.cells #[.string k, .int .u32 n] 44 (0, 0))
theorem RowB.alloc (w : World) (k : ByteArray) (n : Int) : RowB (w.alloc (.cells #[.string k, .int .u32 n] 44)) w.heap.size k n := alloc_at _ _
theorem RowB.below {w w' : World} {B : Nat} {k : ByteArray} {n : Int} (h : RowB w B k n) (hb : Below w.heap.size w w') : RowB w' B k n :=
  (hb.block B (Array.getElem?_eq_some_iff.1 h).1).trans h
theorem RowB.cells {w : World} {B : Nat} {k : ByteArray} {n : Int} (h : RowB w B k n) : w.cell? ⟨B, 0, none⟩ = some (.string k) ∧ w.cell? ⟨B, 1, none⟩ = some (.int .u32 n) := by
  unfold RowB at h
  simp [World.cell?, h]

theorem OpB.step {base : Nat} {w w' : World} {B i : Nat} {v v' : Value} {xs : List Row} {q : Int} {k t : ByteArray} {d : Int} (h : OpB w i q k t d) (hM : MapAt base w B v xs) (st : Step w w' B v v') : OpB w' i q k t d := by
  refine (st.block i (Array.getElem?_eq_some_iff.1 h).1 ?_ ?_).trans h
  · rintro rfl
    have := hM.obj.symm.trans h
    simp at this
  · intro e
    obtain ⟨_, cur, e2⟩ := hM.own.typed i e
    have := e2.symm.trans h
    simp at this

/-- What a run of ops leaves. -/
def RunR (w : World) (rows : List Row) (ops : List Opn) (e : Ending) (w' : World) : Prop :=
  Below w.heap.size w w' ∧
  ((runP rows ops = none ∧ e = .returned (.tuple #[.slice none 0 0, .slice none 0 0, .int .i64 1])) ∨
   ∃ rs left A n c A' n' c', runP rows ops = some (rs, left) ∧ e = .returned (.tuple #[.slice A n n, .slice A' n' c', .int .i64 0]) ∧
     ResL w.heap.size w' (.slice A n c) rs (fun g => (Value.slice A' n' c').ownBlock ≠ some g) ∧ Own Row.enc 2 44 w.heap.size w' (.slice A' n' c') left)

theorem RunR.none {w w' : World} {rows : List Row} {ops : List Opn} (hb : Below w.heap.size w w') (h : (stOkF [] rows && ops.all okO) = false) :
    RunR w rows ops (.returned (.tuple #[.slice none 0 0, .slice none 0 0, .int .i64 1])) w' :=
  ⟨hb, .inl ⟨by unfold runP; rw [h]; rfl, rfl⟩⟩

/-- slices.Clip, at results. -/
theorem clip_calls {base : Nat} {w0 : World} {A : Option Addr} {n c : Nat} {rs : List (List Row)} {N : Nat → Prop} (h : ResL base w0 (.slice A n c) rs N) (w : World) :
    Calls Tryz.prog 168 #[.slice A n c] w fun e w' => e = .returned (.slice A n n) ∧ w' = w := by
  obtain ⟨ss, ho, hl, _⟩ := h
  clear hl
  rcases ho.2 with ⟨e, h0⟩ | ⟨g, cap, cur, e, h2, h3, h4, h5, h6⟩
  · injection e with e1 e2 e3
    subst e1 e2 e3
    go_enter Tryz.func168, Tryz.ntmps168
    go_wp2
    go_ret
    exact ⟨rfl, rfl⟩
  · injection e with e1 e2 e3
    subst e1 e2 e3
    unfold maxLen at h5
    generalize ss.length = n at *
    have i1 : (0 : Int) ≤ (n : Int) := by omega
    have i2 : (n : Int) ≤ (c : Int) := by omega
    go_enter Tryz.func168, Tryz.ntmps168
    go_wp2
    go_ret
    exact ⟨rfl, rfl⟩

set_option maxRecDepth 100000 in
set_option maxHeartbeats 1600000 in
theorem plRun_calls (v u : Value) (rows : List Row) (ops : List Opn) (w : World) (hv : Rd Row.enc 2 w v rows) (hu : Rd Opn.enc 4 w u ops) (hl : rows.length ≤ 1000) (hl2 : ops.length ≤ 1000)
    (hs : ∀ x ∈ rows, x.k.size ≤ 9223372036854775807) (hs2 : ∀ x ∈ ops, x.k.size ≤ 9223372036854775807 ∧ x.t.size ≤ 9223372036854775807) :
    Calls Tryz.prog 71 #[v, u] w (RunR w rows ops) := by
  obtain ⟨A, c, rfl, hlc, hc⟩ := hv.shape
  obtain ⟨A2, c2, rfl, hlc2, hc2⟩ := hu.shape
  go_enter Tryz.func71, Tryz.ntmps71
  go_wp2_with (go_at_call 9; refine (new_calls _).mono ?_; rintro e w0 ⟨rfl, hb0, hM0⟩)
  have hsz0 := hb0.size
  have hM0lt := hM0.lt
  generalize hB : w.heap.size = B at *
  go_loopw [4, 17] (fun ov i wr => ∃ k : Nat, k ≤ rows.length ∧ i = .int .i64 k ∧ ov = .slice none 0 0 ∧ (∃ vm, MapAt B wr B vm (stM (rows.take k))) ∧ Below B w wr ∧ stOkF [] rows = stOkF (stM (rows.take k)) (rows.drop k)) (fun _ i _ => rows.length - (intOf i).toNat)
  case atStart => exact ⟨0, Nat.zero_le _, rfl, rfl, ⟨_, hM0⟩, hb0, rfl⟩
  case round =>
    obtain ⟨k, hk, rfl, rfl, ⟨vm, hM⟩, hb, hst⟩ := hrel
    have HST := Lib.hid hst
    clear hst
    have hmlen : (stM (rows.take k)).length ≤ 1000000 := by
      have h1 := stM_len (rows.take k) []
      have h2 : (rows.take k).length ≤ k := by rw [List.length_take]; omega
      have h3 : (stM (rows.take k)).length ≤ ([] : List Row).length + (rows.take k).length := h1
      simp only [List.length_nil] at h3
      omega
    clear hM0 hb0 hsz0 hM0lt
    have HB := Lib.hid hB
    by_cases hlt : k < rows.length
    · obtain ⟨b, o, rfl, hx1, hx2⟩ := (hv.below (hB ▸ hb)).row (List.getElem?_eq_getElem hlt)
      have hxk := hs rows[k] (List.getElem_mem hlt)
      have HD := Lib.hid (drop_at (List.getElem?_eq_getElem hlt))
      have HS := Lib.hid (stM_snoc rows k _ (List.getElem?_eq_getElem hlt))
      generalize rows[k] = r at *
      obtain ⟨rk, rn⟩ := r
      dsimp only at hx1 hx2 hxk
      have hsz : B ≤ wr.heap.size := hB ▸ hb.size
      have hR0 := Lib.hid (RowB.alloc wr rk rn)
      have hA : Below wr.heap.size wr (wr.alloc (.cells #[.string rk, .int .u32 rn] 44)) := (Below.refl _ wr).alloc (Nat.le_refl _) _
      have hbA : Below B w (wr.alloc (.cells #[.string rk, .int .u32 rn] 44)) := hb.alloc hsz _
      have hMA := hM.below hA
      have hget := get_calls hMA hmlen rk
      generalize hm : stM (rows.take k) = m at *
      have hstep : stOkF [] rows = (!(getL rk m).isSome && (okKey rk && stOkF (putL rk rn m) (rows.drop (k + 1)))) := by
        rw [HST.out, HD.out]
        rfl
      have HSTEP := Lib.hid hstep
      clear hstep HST hM hm hB
      cases hg : getL rk m with
      | some y =>
        rw [hg] at hget
        have hno : stOkF [] rows = false := by rw [HSTEP.out, hg]; rfl
        have HNO := Lib.hid hno
        clear hno
        go_wp2_with (go_at_call 25; refine hget.mono ?_; rintro e w1 ⟨rfl, hb1⟩; obtain ⟨u0, u1⟩ := (hR0.out.below hb1).cells; clear hx1 hx2)
        go_ret3
        exact RunR.none (by rw [HB.out]; exact Below.trans hbA (hb1.mono (by simp; omega))) (by rw [HNO.out]; rfl)
      | none =>
        rw [hg] at hget
        cases hkk : okKey rk with
        | false =>
          have hno : stOkF [] rows = false := by rw [HSTEP.out, hg, hkk]; rfl
          have HNO := Lib.hid hno
          clear hno
          go_wp2_with (first | (go_at_call 25; refine hget.mono ?_; rintro e w1 ⟨rfl, hb1⟩; obtain ⟨u0, u1⟩ := (hR0.out.below hb1).cells; clear hx1 hx2) | (go_at_call 12; refine (put_calls (hMA.below hb1) hmlen rk rn hxk).mono ?_; rintro e w2 ⟨v2, rfl, hM2, st2⟩; rw [hkk]))
          go_ret3
          exact RunR.none (by rw [HB.out]; exact (Below.trans hbA (hb1.mono (by simp; omega))).trans (st2.below (hMA.below hb1))) (by rw [HNO.out]; rfl)
        | true =>
          go_wp2_with (first | (go_at_call 25; refine hget.mono ?_; rintro e w1 ⟨rfl, hb1⟩; obtain ⟨u0, u1⟩ := (hR0.out.below hb1).cells; clear hx1 hx2) | (go_at_call 12; refine (put_calls (hMA.below hb1) hmlen rk rn hxk).mono ?_; rintro e w2 ⟨v2, rfl, hM2, st2⟩; rw [hkk]; rw [hkk] at hM2))
          go_roundw
          case rel =>
            refine ⟨k + 1, by omega, by go_num, rfl, ⟨v2, ?_⟩, (Below.trans hbA (hb1.mono (by simp; omega))).trans (st2.below (hMA.below hb1)), ?_⟩
            · rw [HS.out]
              simpa using hM2
            · rw [HSTEP.out, HS.out, hg, hkk]
              rfl
          case measure => simp [intOf]; omega
    · have hkl : k = rows.length := by omega
      subst hkl
      rw [List.take_length] at *
      have hok : stOkF [] rows = true := by
        rw [HST.out, List.drop_length]
        rfl
      clear HST hlt
      have hmlen2 : (stM rows).length ≤ 1000 := by
        have h1 := stM_len rows []
        have h3 : (stM rows).length ≤ ([] : List Row).length + rows.length := h1
        simp only [List.length_nil] at h3
        omega
      clear hmlen
      generalize hM0 : stM rows = m0 at *
      obtain ⟨wo, rfl⟩ : ∃ wo : World, wo = wr := ⟨_, rfl⟩
      go_wp2_with fail
      go_loopw [4, 41] (fun ov i wr => ∃ k : Nat, k ≤ ops.length ∧ i = .int .i64 k ∧ (∃ A n c vm, ov = .slice A n c ∧ MapAt B wr B vm (rowsR m0 (ops.take k)) ∧ ResL B wr (.slice A n c) (outsR m0 (ops.take k)) (offM B vm)) ∧ Below B w wr ∧ (ops.take k).all okO = true) (fun _ i _ => ops.length - (intOf i).toNat)
      case atStart => exact ⟨0, Nat.zero_le _, rfl, ⟨none, 0, 0, vm, rfl, hM, ResL.nil _ _ _⟩, hb, rfl⟩
      case round =>
        obtain ⟨k, hk, rfl, ⟨Ao, no, co, vm2, rfl, hM2, hR2⟩, hb2, hall⟩ := hrel
        have HALL := Lib.hid hall
        have HOK := Lib.hid hok
        clear hall hok hM hb
        by_cases hlt : k < ops.length
        · obtain ⟨b, o, rfl, hx1, hx2, hx3, hx4⟩ := (hu.below (hB ▸ hb2)).opn (List.getElem?_eq_getElem hlt)
          obtain ⟨hxk, hxt⟩ := hs2 ops[k] (List.getElem_mem hlt)
          have HMEM := Lib.hid (List.getElem_mem hlt)
          have HT := Lib.hid (take_snoc (List.getElem?_eq_getElem hlt))
          generalize ops[k] = x at *
          obtain ⟨q, xk, xt, xd⟩ := x
          dsimp only at hx1 hx2 hx3 hx4 hxk hxt
          have HM := Lib.hid (show rowsR m0 (ops.take (k + 1)) = afterD ⟨q, xk, xt, xd⟩ (rowsR m0 (ops.take k)) by rw [HT.out, rowsR_append]; rfl)
          have HO := Lib.hid (show outsR m0 (ops.take (k + 1)) = outsR m0 (ops.take k) ++ [tellD ⟨q, xk, xt, xd⟩ (rowsR m0 (ops.take k))] by rw [HT.out, outsR_append]; rfl)
          have hmlen : (rowsR m0 (ops.take k)).length ≤ 1000000 := by
            have h1 := rowsR_len (ops.take k) m0
            have h2 : (ops.take k).length ≤ k := by rw [List.length_take]; omega
            omega
          have holen : (outsR m0 (ops.take k)).length ≤ 1000000 := by
            rw [outsR_len]
            have h2 : (ops.take k).length ≤ k := by rw [List.length_take]; omega
            omega
          generalize rowsR m0 (ops.take k) = m at *
          generalize outsR m0 (ops.take k) = outs at *
          have hsz : B ≤ wr.heap.size := hB ▸ hb2.size
          have hO0 := Lib.hid (OpB.alloc wr q xk xt xd)
          have hA : Below wr.heap.size wr (wr.alloc (.cells #[.int .u8 q, .string xk, .string xt, .int .u32 xd] 172)) := (Below.refl _ wr).alloc (Nat.le_refl _) _
          have hbA : Below B w (wr.alloc (.cells #[.int .u8 q, .string xk, .string xt, .int .u32 xd] 172)) := hb2.alloc hsz _
          have hMA := hM2.below hA
          have hRA := hR2.below hA
          have hck := opcheck_calls q xk xt xd hxk hxt (wr.alloc (.cells #[.int .u8 q, .string xk, .string xt, .int .u32 xd] 172))
          clear hM2 hR2 hA hb2 hB hs hs2 hM0
          cases hok : okOp q xk xt xd with
          | false =>
            rw [hok] at hck
            have HNO := Lib.hid (show ops.all okO = false by rw [List.all_eq_false]; exact ⟨_, HMEM.out, by rw [show okO ⟨q, xk, xt, xd⟩ = false from hok]; decide⟩)
            go_wp2_with (go_at_call 153; refine hck.mono ?_; rintro e w1 ⟨rfl, hb1⟩; clear hx1 hx2 hx3 hx4)
            go_ret3
            exact RunR.none (by rw [HB.out]; exact Below.trans hbA (hb1.mono (by simp; omega))) (by rw [HNO.out, Bool.and_false])
          | true =>
            rw [hok] at hck
            have hok2 := hok
            unfold okOp at hok2
            simp only [Bool.and_eq_true, decide_eq_true_eq] at hok2
            obtain ⟨⟨⟨⟨hq1, hq4⟩, hkk⟩, -⟩, -⟩ := hok2
            have HOX := Lib.hid (show okO ⟨q, xk, xt, xd⟩ = true from hok)
            clear hok
            have hq : q = 1 ∨ q = 2 ∨ q = 3 ∨ q = 4 := by omega
            clear hq1 hq4
            rcases hq with rfl | rfl | rfl | rfl
            · have hidx := idx1
              have hfld := fld 226
              have hdoes := fun W (hW : MapAt B W B vm2 m) => scans_calls hW hmlen ⟨1, xk, xt, xd⟩ (by simp)
              go_wp2_with (go_at_call 153; refine hck.mono ?_; rintro e w1 ⟨rfl, hb1⟩; clear hx1 hx2 hx3 hx4)
              have hO1 := Lib.hid ((hO0.out.below hb1).below (Below.refl _ w1).drew)
              obtain ⟨u0, u1, u2, u3⟩ := hO1.out.cells
              have hMd := (hMA.below hb1).below (Below.refl _ w1).drew
              have hRd := (hRA.below hb1).below (Below.refl _ w1).drew
              have hbd : Below B w w1.drew := (Below.trans hbA (hb1.mono (by simp; omega))).drew
              clear hMA hRA hbA hb1 hO0 hck
              go_region_held3 (fun w' => w'.cell? ⟨wr.heap.size, 0, none⟩ = some (.int .u8 1) ∧ w'.cell? ⟨wr.heap.size, 1, none⟩ = some (.string xk) ∧ w'.cell? ⟨wr.heap.size, 2, none⟩ = some (.string xt) ∧ w'.cell? ⟨wr.heap.size, 3, none⟩ = some (.int .u32 xd)) (go_keep) ((first
                | (go_at_call 167; refine (deeds_calls _).mono ?_; rintro e w3 ⟨rfl, hb3⟩; have hO3 := Lib.hid (hO1.out.below hb3); obtain ⟨t0, t1, t2, t3⟩ := hO3.out.cells; have hM3 := hMd.below hb3; have hR3 := hRd.below hb3; have hb03 := Below.trans hbd (hb3.mono (HB.out ▸ hbd.size)))
                | (go_at_call 226; go_must (refine (hdoes _ hM3).mono ?_); rintro e w4 ⟨A4, n4, c4, v4, rfl, hM4, st4, own4, sep4⟩; have hO4 := Lib.hid (hO3.out.step hM3 st4); obtain ⟨s0, s1, s2, s3⟩ := hO4.out.cells; have hR4 := hR3.bound.step hM3 st4; have hb04 := hb03.trans (st4.below hM3))
                | (obtain ⟨A5, n5, c5, w5, hap, hM5, hR5, hb5, hk5⟩ := hR4.append hM4 (own4.lower (HB.out ▸ hb03.size)) sep4 (HB.out ▸ hb04.size) holen (fun g hg e => Nat.lt_irrefl _ (Nat.lt_of_lt_of_le hg (own4.base_le g e))); have hO5 := Lib.hid (hk5 _ _ hO4.out (by intro cur; simp)); obtain ⟨r0, r1, r2, r3⟩ := OpB.cells hO5.out; refine step_append_run rfl (.tmp 48) (.tmp 58) 112 rfl rfl rfl hap ?_)))
              go_wp2
              refine ⟨⟨k + 1, by omega, by go_num, ⟨_, _, _, v4, rfl, ?_, ?_⟩, ?_, ?_⟩, by simp [intOf]; omega⟩
              · rw [HM.out]; exact hM5
              · rw [HO.out]; exact hR5
              · exact hb04.trans hb5
              · rw [HT.out, List.all_append, HALL.out]
                simp [HOX.out]
            · have hidx := idx2
              have hfld := fld 227
              have hdoes := fun W (hW : MapAt B W B vm2 m) => puts2_calls hW hmlen ⟨2, xk, xt, xd⟩ hxk hkk rfl
              go_wp2_with (go_at_call 153; refine hck.mono ?_; rintro e w1 ⟨rfl, hb1⟩; clear hx1 hx2 hx3 hx4)
              have hO1 := Lib.hid ((hO0.out.below hb1).below (Below.refl _ w1).drew)
              obtain ⟨u0, u1, u2, u3⟩ := hO1.out.cells
              have hMd := (hMA.below hb1).below (Below.refl _ w1).drew
              have hRd := (hRA.below hb1).below (Below.refl _ w1).drew
              have hbd : Below B w w1.drew := (Below.trans hbA (hb1.mono (by simp; omega))).drew
              clear hMA hRA hbA hb1 hO0 hck
              go_region_held3 (fun w' => w'.cell? ⟨wr.heap.size, 0, none⟩ = some (.int .u8 2) ∧ w'.cell? ⟨wr.heap.size, 1, none⟩ = some (.string xk) ∧ w'.cell? ⟨wr.heap.size, 2, none⟩ = some (.string xt) ∧ w'.cell? ⟨wr.heap.size, 3, none⟩ = some (.int .u32 xd)) (go_keep) ((first
                | (go_at_call 167; refine (deeds_calls _).mono ?_; rintro e w3 ⟨rfl, hb3⟩; have hO3 := Lib.hid (hO1.out.below hb3); obtain ⟨t0, t1, t2, t3⟩ := hO3.out.cells; have hM3 := hMd.below hb3; have hR3 := hRd.below hb3; have hb03 := Below.trans hbd (hb3.mono (HB.out ▸ hbd.size)))
                | (go_at_call 227; go_must (refine (hdoes _ hM3).mono ?_); rintro e w4 ⟨A4, n4, c4, v4, rfl, hM4, st4, own4, sep4⟩; have hO4 := Lib.hid (hO3.out.step hM3 st4); obtain ⟨s0, s1, s2, s3⟩ := hO4.out.cells; have hR4 := hR3.bound.step hM3 st4; have hb04 := hb03.trans (st4.below hM3))
                | (obtain ⟨A5, n5, c5, w5, hap, hM5, hR5, hb5, hk5⟩ := hR4.append hM4 (own4.lower (HB.out ▸ hb03.size)) sep4 (HB.out ▸ hb04.size) holen (fun g hg e => Nat.lt_irrefl _ (Nat.lt_of_lt_of_le hg (own4.base_le g e))); have hO5 := Lib.hid (hk5 _ _ hO4.out (by intro cur; simp)); obtain ⟨r0, r1, r2, r3⟩ := OpB.cells hO5.out; refine step_append_run rfl (.tmp 48) (.tmp 58) 112 rfl rfl rfl hap ?_)))
              go_wp2
              refine ⟨⟨k + 1, by omega, by go_num, ⟨_, _, _, v4, rfl, ?_, ?_⟩, ?_, ?_⟩, by simp [intOf]; omega⟩
              · rw [HM.out]; exact hM5
              · rw [HO.out]; exact hR5
              · exact hb04.trans hb5
              · rw [HT.out, List.all_append, HALL.out]
                simp [HOX.out]
            · have hidx := idx3
              have hfld := fld 228
              have hdoes := fun W (hW : MapAt B W B vm2 m) => dels2_calls hW hmlen ⟨3, xk, xt, xd⟩ hxk hkk rfl
              go_wp2_with (go_at_call 153; refine hck.mono ?_; rintro e w1 ⟨rfl, hb1⟩; clear hx1 hx2 hx3 hx4)
              have hO1 := Lib.hid ((hO0.out.below hb1).below (Below.refl _ w1).drew)
              obtain ⟨u0, u1, u2, u3⟩ := hO1.out.cells
              have hMd := (hMA.below hb1).below (Below.refl _ w1).drew
              have hRd := (hRA.below hb1).below (Below.refl _ w1).drew
              have hbd : Below B w w1.drew := (Below.trans hbA (hb1.mono (by simp; omega))).drew
              clear hMA hRA hbA hb1 hO0 hck
              go_region_held3 (fun w' => w'.cell? ⟨wr.heap.size, 0, none⟩ = some (.int .u8 3) ∧ w'.cell? ⟨wr.heap.size, 1, none⟩ = some (.string xk) ∧ w'.cell? ⟨wr.heap.size, 2, none⟩ = some (.string xt) ∧ w'.cell? ⟨wr.heap.size, 3, none⟩ = some (.int .u32 xd)) (go_keep) ((first
                | (go_at_call 167; refine (deeds_calls _).mono ?_; rintro e w3 ⟨rfl, hb3⟩; have hO3 := Lib.hid (hO1.out.below hb3); obtain ⟨t0, t1, t2, t3⟩ := hO3.out.cells; have hM3 := hMd.below hb3; have hR3 := hRd.below hb3; have hb03 := Below.trans hbd (hb3.mono (HB.out ▸ hbd.size)))
                | (go_at_call 228; go_must (refine (hdoes _ hM3).mono ?_); rintro e w4 ⟨A4, n4, c4, v4, rfl, hM4, st4, own4, sep4⟩; have hO4 := Lib.hid (hO3.out.step hM3 st4); obtain ⟨s0, s1, s2, s3⟩ := hO4.out.cells; have hR4 := hR3.bound.step hM3 st4; have hb04 := hb03.trans (st4.below hM3))
                | (obtain ⟨A5, n5, c5, w5, hap, hM5, hR5, hb5, hk5⟩ := hR4.append hM4 (own4.lower (HB.out ▸ hb03.size)) sep4 (HB.out ▸ hb04.size) holen (fun g hg e => Nat.lt_irrefl _ (Nat.lt_of_lt_of_le hg (own4.base_le g e))); have hO5 := Lib.hid (hk5 _ _ hO4.out (by intro cur; simp)); obtain ⟨r0, r1, r2, r3⟩ := OpB.cells hO5.out; refine step_append_run rfl (.tmp 48) (.tmp 58) 112 rfl rfl rfl hap ?_)))
              go_wp2
              refine ⟨⟨k + 1, by omega, by go_num, ⟨_, _, _, v4, rfl, ?_, ?_⟩, ?_, ?_⟩, by simp [intOf]; omega⟩
              · rw [HM.out]; exact hM5
              · rw [HO.out]; exact hR5
              · exact hb04.trans hb5
              · rw [HT.out, List.all_append, HALL.out]
                simp [HOX.out]
            · have hidx := idx4
              have hfld := fld 226
              have hdoes := fun W (hW : MapAt B W B vm2 m) => scans_calls hW hmlen ⟨4, xk, xt, xd⟩ (by simp)
              go_wp2_with (go_at_call 153; refine hck.mono ?_; rintro e w1 ⟨rfl, hb1⟩; clear hx1 hx2 hx3 hx4)
              have hO1 := Lib.hid ((hO0.out.below hb1).below (Below.refl _ w1).drew)
              obtain ⟨u0, u1, u2, u3⟩ := hO1.out.cells
              have hMd := (hMA.below hb1).below (Below.refl _ w1).drew
              have hRd := (hRA.below hb1).below (Below.refl _ w1).drew
              have hbd : Below B w w1.drew := (Below.trans hbA (hb1.mono (by simp; omega))).drew
              clear hMA hRA hbA hb1 hO0 hck
              go_region_held3 (fun w' => w'.cell? ⟨wr.heap.size, 0, none⟩ = some (.int .u8 4) ∧ w'.cell? ⟨wr.heap.size, 1, none⟩ = some (.string xk) ∧ w'.cell? ⟨wr.heap.size, 2, none⟩ = some (.string xt) ∧ w'.cell? ⟨wr.heap.size, 3, none⟩ = some (.int .u32 xd)) (go_keep) ((first
                | (go_at_call 167; refine (deeds_calls _).mono ?_; rintro e w3 ⟨rfl, hb3⟩; have hO3 := Lib.hid (hO1.out.below hb3); obtain ⟨t0, t1, t2, t3⟩ := hO3.out.cells; have hM3 := hMd.below hb3; have hR3 := hRd.below hb3; have hb03 := Below.trans hbd (hb3.mono (HB.out ▸ hbd.size)))
                | (go_at_call 226; go_must (refine (hdoes _ hM3).mono ?_); rintro e w4 ⟨A4, n4, c4, v4, rfl, hM4, st4, own4, sep4⟩; have hO4 := Lib.hid (hO3.out.step hM3 st4); obtain ⟨s0, s1, s2, s3⟩ := hO4.out.cells; have hR4 := hR3.bound.step hM3 st4; have hb04 := hb03.trans (st4.below hM3))
                | (obtain ⟨A5, n5, c5, w5, hap, hM5, hR5, hb5, hk5⟩ := hR4.append hM4 (own4.lower (HB.out ▸ hb03.size)) sep4 (HB.out ▸ hb04.size) holen (fun g hg e => Nat.lt_irrefl _ (Nat.lt_of_lt_of_le hg (own4.base_le g e))); have hO5 := Lib.hid (hk5 _ _ hO4.out (by intro cur; simp)); obtain ⟨r0, r1, r2, r3⟩ := OpB.cells hO5.out; refine step_append_run rfl (.tmp 48) (.tmp 58) 112 rfl rfl rfl hap ?_)))
              go_wp2
              refine ⟨⟨k + 1, by omega, by go_num, ⟨_, _, _, v4, rfl, ?_, ?_⟩, ?_, ?_⟩, by simp [intOf]; omega⟩
              · rw [HM.out]; exact hM5
              · rw [HO.out]; exact hR5
              · exact hb04.trans hb5
              · rw [HT.out, List.all_append, HALL.out]
                simp [HOX.out]
        · have hkl : k = ops.length := by omega
          subst hkl
          rw [List.take_length] at *
          have hmlen : (rowsR m0 ops).length ≤ 1000000 := by
            have h1 := rowsR_len ops m0
            omega
          have hrun : runP rows ops = some (outsR m0 ops, rowsR m0 ops) := by
            unfold runP
            rw [HOK.out, HALL.out, hM0]
            rfl
          have HRUN := Lib.hid hrun
          have hclip := clip_calls (rs := outsR m0 ops) hR2
          have hrows := rows_calls hM2 hmlen
          have hlow := hb2.size
          clear hrun hmlen hlt hlow
          go_wp2_with (first | (go_at_call 168; refine (hclip _).mono ?_; rintro e w1 ⟨rfl, rfl⟩) | (go_at_call 28; refine hrows.mono ?_; rintro e w2 ⟨v2, rfl, hb3, own3⟩; obtain ⟨A3, c3, rfl, _⟩ := own3.slice))
          go_ret3
          obtain rfl := HB.out
          have hlow := hb2.size
          refine ⟨Below.trans hb2 (hb3.mono hlow), .inr ⟨outsR m0 ops, rowsR m0 ops, Ao, no, co, A3, _, c3, HRUN.out, rfl, ?_, own3.lower hlow⟩⟩
          refine hR2.mono (fun g _ ⟨_, e⟩ => hb3.block g (Array.getElem?_eq_some_iff.1 e).1) (fun g ⟨_, e⟩ _ => ⟨hb3.block g (Array.getElem?_eq_some_iff.1 e).1, fun e' => ?_⟩)
          have h1 := own3.base_le g e'
          have h2 := (Array.getElem?_eq_some_iff.1 e).1
          omega

theorem plRun_none (v u : Value) (rows : List Row) (ops : List Opn) (w : World) (hv : Rd Row.enc 2 w v rows) (hu : Rd Opn.enc 4 w u ops) (hl : rows.length ≤ 1000) (hl2 : ops.length ≤ 1000)
    (hs : ∀ x ∈ rows, x.k.size ≤ 9223372036854775807) (hs2 : ∀ x ∈ ops, x.k.size ≤ 9223372036854775807 ∧ x.t.size ≤ 9223372036854775807) (h : runP rows ops = none) :
    Calls Tryz.prog 71 #[v, u] w fun e w' => e = .returned (.tuple #[.slice none 0 0, .slice none 0 0, .int .i64 1]) ∧ Below w.heap.size w w' := by
  refine (plRun_calls v u rows ops w hv hu hl hl2 hs hs2).mono ?_
  rintro e w' ⟨hb, ⟨_, rfl⟩ | ⟨rs, left, A, n, c, A', n', c', h', rfl, _, _⟩⟩
  · exact ⟨rfl, hb⟩
  · rw [h] at h'
    cases h'

theorem plRun_some (v u : Value) (rows : List Row) (ops : List Opn) (w : World) (hv : Rd Row.enc 2 w v rows) (hu : Rd Opn.enc 4 w u ops) (hl : rows.length ≤ 1000) (hl2 : ops.length ≤ 1000)
    (hs : ∀ x ∈ rows, x.k.size ≤ 9223372036854775807) (hs2 : ∀ x ∈ ops, x.k.size ≤ 9223372036854775807 ∧ x.t.size ≤ 9223372036854775807) {rs : List (List Row)} {left : List Row} (h : runP rows ops = some (rs, left)) :
    Calls Tryz.prog 71 #[v, u] w fun e w' => ∃ A n c A' c', e = .returned (.tuple #[.slice A n n, .slice A' left.length c', .int .i64 0]) ∧ Below w.heap.size w w' ∧
      ResL w.heap.size w' (.slice A n c) rs (fun g => (Value.slice A' left.length c').ownBlock ≠ some g) ∧ Own Row.enc 2 44 w.heap.size w' (.slice A' left.length c') left := by
  refine (plRun_calls v u rows ops w hv hu hl hl2 hs hs2).mono ?_
  rintro e w' ⟨hb, ⟨h', rfl⟩ | ⟨rs', left', A, n, c, A', n', c', h', rfl, hR, hL⟩⟩
  · rw [h] at h'
    cases h'
  · rw [h] at h'
    injection h' with h'
    injection h' with h1 h2
    subst h1 h2
    obtain ⟨A2, c2, e2, _⟩ := hL.slice
    injection e2 with e21 e22 e23
    subst e21 e22 e23
    exact ⟨A, n, c, A', c', rfl, hb, hR, hL⟩

end Go.Proofs.YtanjgeacmpmjhaaGreatDoor
