import Derived.Test.YtanjgeacmpmjhaaGreatDoorPlay11
import Derived.Deep.Cut
set_option linter.unusedVariables false
set_option linter.unusedSimpArgs false
set_option linter.unusedSectionVars false
namespace Go.Proofs.YtanjgeacmpmjhaaGreatDoor
open Go.RowKit Go.Shelf

theorem Tab10.low {w : World} (h : Tab10 w) : 0 < w.heap.size := by
  unfold Tab10 Lib.TabIs World.var? at h
  rw [show Tryz.prog.globalNamed "internal/strconv.uint64pow10" = some 0 by kernel_rfl] at h
  simp only [Option.bind_some] at h
  rcases Nat.lt_or_ge 0 w.heap.size with h' | h'
  · exact h'
  · rw [Array.getElem?_eq_none h'] at h; cases h
theorem sameSpans_eqL (v u : Value) (xs : List Span) (w : World) (hv : Rd Span.enc 2 w v xs) (hu : Rd Span.enc 2 w u xs) :
    Calls Tryz.prog 58 #[v, u] w fun e w' => e = .returned (.bool true) ∧ Below w.heap.size w w' := by
  have := sameSpans_calls v u xs xs w hv hu
  rw [decide_eq_true rfl] at this
  exact this
theorem sameIds_eqL (v u : Value) (xs : List Int) (w : World) (hv : Rd encU 1 w v xs) (hu : Rd encU 1 w u xs) :
    Calls Tryz.prog 51 #[v, u] w fun e w' => e = .returned (.bool true) ∧ Below w.heap.size w w' := by
  have := sameIds_calls v u xs xs w hv hu
  rw [decide_eq_true rfl] at this
  exact this
theorem TabP.lower {base base' : Nat} {w : World} {B n : Nat} {T : Tab} (h : TabP base w B n T) (hb : base' ≤ base) : TabP base' w B n T := by
  obtain ⟨M, D, h⟩ := h
  exact ⟨M, D, h.obj, ⟨h.map.own, Nat.le_trans hb h.map.low, h.map.has, fun x hx => let ⟨v, hv, ho⟩ := h.map.elem x hx; ⟨v, hv, ho.lower hb⟩, h.map.apart⟩, Nat.le_trans hb h.low, h.dom⟩

/-- What goes on in the play. -/
def GoingL (W wr : World) (l : List LAct) (B C K : Nat) (iv : Value) : Prop :=
  ∃ (i nn : Nat) (hs : List Held) (n : Nat) (vI : Value) (hsI : List Hd) (vS : Value) (hsS : List Hd), i ≤ l.length ∧ iv = .int .i64 i ∧ PlayL W.heap.size wr B nn (tabOf hs) C hs K n vI hsI vS hsS ∧
    hs.length ≤ i ∧ nn ≤ i ∧ n ≤ 2 * i ∧ hsI.length ≤ i ∧ hsS.length ≤ i ∧ Below W.heap.size W wr

set_option maxHeartbeats 40000000 in
set_option maxRecDepth 100000 in
theorem locksPlay_walk (v : Value) (l : List LAct) (W : World) (hv : Rd LAct.enc 5 W v l) (hok : ∀ x ∈ l, x.ok) (hT : Tab10 W) :
    Calls Tryz.prog 5 #[v] W fun e w' => e = .returned (.bool true) ∧ Below W.heap.size W w' := by
  have hgr := lgreat_calls v l W hv
  obtain ⟨A, c, rfl, hlc, hc⟩ := hv.shape
  have hrs := hT.low
  have HT := Lib.hid hT
  clear hT
  go_enter Tryz.func5, Tryz.ntmps5
  go_wp2_with (first
    | (go_at_call 47; refine hgr.mono ?_; rintro e w1 ⟨hg, h1⟩; rcases hg with rfl | ⟨rfl, h200⟩)
    | (go_at_call 48; refine (tnew_calls w1).mono ?_; rintro e w2 ⟨rfl, h2, t2⟩))
  · go_ret
    exact ⟨rfl, h1⟩
  have bC : Below w2.heap.size w2 (w2.alloc (.cells #[.slice none 0 0] 88)) := (Below.refl _ w2).alloc (Nat.le_refl _) _
  have bK : Below (w2.alloc (.cells #[.slice none 0 0] 88)).heap.size (w2.alloc (.cells #[.slice none 0 0] 88)) ((w2.alloc (.cells #[.slice none 0 0] 88)).alloc (.cells #[.int .i64 0, nilV, nilV, nilV, nilV, nilV, nilV, nilV, nilV, nilV, nilV, nilV, nilV] bookT)) := (Below.refl _ _).alloc (Nat.le_refl _) _
  have z1 := h1.size
  have z2 := h2.size
  have bW : Below W.heap.size W ((w2.alloc (.cells #[.slice none 0 0] 88)).alloc (.cells #[.int .i64 0, nilV, nilV, nilV, nilV, nilV, nilV, nilV, nilV, nilV, nilV, nilV, nilV] bookT)) := Below.step (Below.step (Below.step h1 h2) bC) bK
  have rC : RTab W.heap.size (w2.alloc (.cells #[.slice none 0 0] 88)) w2.heap.size (.slice none 0 0) [] := ⟨alloc_new w2 _, .nil _ _ _ _ _, fun y hy => (by cases hy), by omega⟩
  have kK := BookIS.start W.heap.size (w2.alloc (.cells #[.slice none 0 0] 88)) (by simp; omega)
  have HS : RowKit.Hid (GoingL W ((w2.alloc (.cells #[.slice none 0 0] 88)).alloc (.cells #[.int .i64 0, nilV, nilV, nilV, nilV, nilV, nilV, nilV, nilV, nilV, nilV, nilV, nilV] bookT)) l (w1.heap.size + 1) w2.heap.size (w2.heap.size + 1) (.int .i64 0)) :=
    Lib.hid ⟨0, 0, [], 0, _, [], _, [], Nat.zero_le _, rfl, ⟨((t2.below bC).below bK).lower z1, ⟨_, rC.below bK⟩, by simpa using kK⟩, by simp, by omega, by omega, by simp, by simp, bW⟩
  clear bC bK bW rC kK t2 h1 h2 z1 z2
  generalize (w2.alloc (.cells #[.slice none 0 0] 88)).alloc (.cells #[.int .i64 0, nilV, nilV, nilV, nilV, nilV, nilV, nilV, nilV, nilV, nilV, nilV, nilV] bookT) = w5 at *
  generalize w2.heap.size + 1 = K at *
  generalize w2.heap.size = C at *
  generalize w1.heap.size + 1 = B at *
  go_loopw [6] (fun iv wr => GoingL W wr l B C K iv) (fun iv _ => l.length - (intOf iv).toNat)
  case atStart => exact HS.out
  case round =>
    clear HS
    obtain ⟨i, nn, hs, n, vI, hsI, vS, hsS, hi, rfl, hP, hhl, hnn, hn, hlI, hlS, hb⟩ := hrel
    by_cases hlt : i < l.length
    · have hx := List.getElem?_eq_getElem hlt
      obtain ⟨bl, ol, rfl, x0, x1, x2, x3, x4⟩ := (hv.below hb).lact hx
      have ho := hok _ (List.getElem_mem hlt)
      generalize l[i] = x at *
      obtain ⟨q, xw, xf, xt, xa⟩ := x
      have hw : okU xw := ho.2.1
      have hfs0 := ho.2.2.1
      have hts0 := ho.2.2.2
      have hqb := LAct.byte (x := ⟨q, xw, xf, xt, xa⟩) ho
      unfold small at hfs0 hts0
      simp only at *
      have hfs : xf.size ≤ 9223372036854775807 := by omega
      have hts2 : xt.size ≤ 9223372036854775807 := by omega
      have hba : Below wr.heap.size wr (wr.alloc (.cells #[.int .u8 q, .int .u32 xw, .string xf, .string xt, .bool xa] 90)) := (Below.refl _ wr).alloc (Nat.le_refl _) _
      have s1 : (wr.alloc (.cells #[.int .u8 q, .int .u32 xw, .string xf, .string xt, .bool xa] 90)).heap[wr.heap.size]? = some (.cells #[.int .u8 q, .int .u32 xw, .string xf, .string xt, .bool xa] 90 (0, 0)) := alloc_new _ _
      have p1 := hP.below hba
      have b1 := Below.step hb hba
      go_upto_region 12 with fail
      generalize hW1 : wr.alloc (.cells #[.int .u8 q, .int .u32 xw, .string xf, .string xt, .bool xa] 90) = w1 at *
      have CS : RowKit.Hid (∀ W' : World, W'.heap[wr.heap.size]? = some (.cells #[.int .u8 q, .int .u32 xw, .string xf, .string xt, .bool xa] 90 (0, 0)) →
          W'.cell? ⟨wr.heap.size, 0, none⟩ = some (.int .u8 q) ∧ W'.cell? ⟨wr.heap.size, 1, none⟩ = some (.int .u32 xw) ∧ W'.cell? ⟨wr.heap.size, 2, none⟩ = some (.string xf) ∧ W'.cell? ⟨wr.heap.size, 3, none⟩ = some (.string xt) ∧ W'.cell? ⟨wr.heap.size, 4, none⟩ = some (.bool xa)) :=
        Lib.hid fun W' e => ⟨by simp [World.cell?, e], by simp [World.cell?, e], by simp [World.cell?, e], by simp [World.cell?, e], by simp [World.cell?, e]⟩
      obtain ⟨a0, a1, a2, a3, a4⟩ := CS.out w1 s1
      clear hW1 hba hP hb x0 x1 x2 x3 x4 hv hx hfs0 hts0 ho
      have hr : q.tmod 6 = q % 6 := Int.tmod_eq_emod_of_nonneg hqb.1
      have hcase : (q % 6 = 0 ∨ q % 6 = 1 ∨ q % 6 = 2 ∨ q % 6 = 3) ∨ q % 6 = 4 ∨ q % 6 = 5 := by omega
      clear hok hqb
      rcases hcase with h03 | hm | hm
      · rcases h03 with hm | hm | hm | hm
        all_goals
          rw [hm] at hr
          clear hm
          have hnl := nextL_length xw xf xt xa hs
          have htl := toldL_length xw xf xt xa hs
          have hlen : (nextL xw xf xt xa hs).length ≤ 400 := by omega
          have hzl : ((tabOf (nextL xw xf xt xa hs) xw).map spOf).length ≤ 1000000 := by rw [List.length_map]; have := tabOf_length (nextL xw xf xt xa hs) xw; omega
          have hlh : hs.length ≤ 400 := by omega
          have htold : (toldL xw xf xt xa hs).length ≤ 1000000 := by omega
          have HN : RowKit.Hid ((nextL xw xf xt xa hs).length ≤ i + 1) := Lib.hid (by omega)
          have HAP := Lib.hid (fun (w' : World) (B' : Nat) (e : True) => trivial)
          obtain ⟨ts, hts⟩ : ∃ ts, toldL xw xf xt xa hs = ts := ⟨_, rfl⟩
          obtain ⟨zs, hzs⟩ : ∃ zs, (tabOf (nextL xw xf xt xa hs) xw).map spOf = zs := ⟨_, rfl⟩
          have hask := p1.ask b1.size hlh (by omega) xw hw xf xt xa
          have hrask : ∀ (w' : World) (nn' : Nat) (T' : Tab), PlayL W.heap.size w' B nn' T' C hs K n vI hsI vS hsS → Below W.heap.size W w' → _ := fun w' nn' T' p hb => p.rask hb.size hlh xw xf xt hfs hts2 xa
          have hhas : ∀ (w' : World) (nn' n' : Nat) (vI' : Value) (hsI' : List Hd), PlayL W.heap.size w' B nn' (tabOf (nextL xw xf xt xa hs)) C (nextL xw xf xt xa hs) K n' vI' hsI' vS hsS → _ := fun w' nn' n' vI' hsI' p => p.has hlen xw hw
          have hrhas : ∀ (w' : World) (nn' n' : Nat) (vI' : Value) (hsI' : List Hd), PlayL W.heap.size w' B nn' (tabOf (nextL xw xf xt xa hs)) C (nextL xw xf xt xa hs) K n' vI' hsI' vS hsS → _ := fun w' nn' n' vI' hsI' p => p.rhas hlen xw
          rw [hts] at hask htold
          rw [hzs] at hzl
          simp only [hts] at hrask
          simp only [hzs] at hhas hrhas
          have HNX := Lib.hid (rfl : nextL xw xf xt xa hs = nextL xw xf xt xa hs)
          generalize nextL xw xf xt xa hs = hs2 at *
          generalize codeL xw xf xt xa hs = cd at *
          clear hnl htl hts hzs HNX HAP
          go_wp2_with (first
            | (go_at_call 49; refine hask.mono ?_; rintro e w2 ⟨Aa, ca, rfl, ⟨nn', hnn', p2⟩, t2, oa⟩; have hoffa := p1.freshI oa; have oa2 := oa.lower b1.size; clear oa; have s2 := t2.heapC s1 (by decide); obtain ⟨c0, c1, c2, c3, c4⟩ := CS.out _ s2; have b2 := b1.trans (t2.below (b1.size)); clear t2; clear p1 s1 b1 a0 a1 a2 a3 a4)
            | (go_at_call 50; refine (hrask _ _ _ p2 b2).mono ?_; rintro e w3 ⟨Ab, cb, rfl, p3, t3, ob⟩; have oa3 := t3.own oa2 (by decide); have s3 := t3.heap s2 (by decide); obtain ⟨e0, e1, e2, e3, e4⟩ := CS.out _ s3; have b3 := b2.trans (t3.below (b2.size)); clear t3 oa2; clear p2 s2 b2 c0 c1 c2 c3 c4)
            | (go_at_call 51; refine (sameIds_eqL _ _ _ _ (oa3.rd encU_len) (ob.rd encU_len)).mono ?_; rintro e w4 ⟨rfl, h4⟩; have oa4 := oa3.below h4; have p4 := p3.below h4; have s4 := (h4.block _ (Array.getElem?_eq_some_iff.1 s3).1).trans s3; obtain ⟨g0, g1, g2, g3, g4⟩ := CS.out _ s4; have b4 := Below.step b3 h4; clear h4 oa3 ob; clear p3 s3 b3 e0 e1 e2 e3 e4)
            | (go_at_call 52; refine (p4.tellId (by omega) (by omega) b4.size oa4 htold hoffa).mono ?_; rintro e w5 ⟨rfl, ⟨vI', p5⟩, t5⟩; have s5 := t5.heap s4 (by decide); obtain ⟨k0, k1, k2, k3, k4⟩ := CS.out _ s5; have b5 := b4.trans (t5.below (b4.size)); clear t5 oa4; clear p4 s4 b4 g0 g1 g2 g3 g4)
            | (go_at_call 57; refine (hhas _ _ _ _ _ p5).mono ?_; rintro e w10 ⟨Az, cz, rfl, p10, h10, oz⟩; have hoffz := p5.freshS oz; have oz10 := oz.lower b5.size; clear oz; have s10 := (h10.block _ (Array.getElem?_eq_some_iff.1 s5).1).trans s5; obtain ⟨t0, t1, t2, t3, t4⟩ := CS.out _ s10; have b10 := Below.step b5 h10; clear h10; clear p5 s5 b5 k0 k1 k2 k3 k4)
            | (go_at_call 59; refine (hrhas _ _ _ _ _ p10).mono ?_; rintro e w11 ⟨vr, rfl, p11, h11, or11⟩; have oz11 := oz10.below h11; have s11 := (h11.block _ (Array.getElem?_eq_some_iff.1 s10).1).trans s10; obtain ⟨x0, x1, x2, x3, x4⟩ := CS.out _ s11; have b11 := Below.step b10 h11; clear h11 oz10; clear p10 s10 b10 t0 t1 t2 t3 t4)
            | (go_at_call 58; refine (sameSpans_eqL _ _ _ _ (oz11.rd span_len) (or11.rd span_len)).mono ?_; rintro e w12 ⟨rfl, h12⟩; have oz12 := oz11.below h12; have p12 := p11.below h12; have s12 := (h12.block _ (Array.getElem?_eq_some_iff.1 s11).1).trans s11; obtain ⟨y0, y1, y2, y3, y4⟩ := CS.out _ s12; have b12 := Below.step b11 h12; clear h12 oz11 or11; clear p11 s11 b11 x0 x1 x2 x3 x4)
            | (go_at_call 60; refine (p12.tellSpan (by omega) (by omega) b12.size oz12 hzl hoffz).mono ?_; rintro e w13 ⟨rfl, ⟨vS', p13⟩, t13⟩; have b13 := b12.trans (t13.below b12.size); clear t13 oz12; clear p12 s12 b12 y0 y1 y2 y3 y4))
          have HLEN := Lib.hid (And.intro HN.out (show nn' ≤ i + 1 by omega))
          go_roundw
          case rel => exact ⟨i + 1, _, _, _, _, _, _, _, by omega, by go_num, p13, HLEN.out.1, HLEN.out.2, by omega, by first | omega | (simp only [List.length_append, List.length_singleton]; omega), by first | omega | (simp only [List.length_append, List.length_singleton]; omega), b13⟩
          case measure => simp [intOf]; omega
      · rw [hm] at hr
        clear hm
        go_upto_region 27 with fail
        have hfl : (hs.filter fun h => decide (h.who ≠ xw)).length ≤ hs.length := List.length_filter_le ..
        have hfree := fun (w' : World) (p : PlayL W.heap.size w' B nn (tabOf hs) C hs K n vI hsI vS hsS) => p.free xw hw
        have hrfree : ∀ (w' : World) (T' : Tab), PlayL W.heap.size w' B nn T' C hs K n vI hsI vS hsS → Below W.heap.size W w' → _ := fun w' T' p hb => p.rfree hb.size (by omega) xw
        generalize (hs.filter fun h => decide (h.who ≠ xw)) = hs2 at *
        generalize (tabOf hs xw).length = N at *
        have hlen : (hs2).length ≤ 400 := by omega
        have hzl : ((tabOf (hs2) xw).map spOf).length ≤ 1000000 := by rw [List.length_map]; have := tabOf_length (hs2) xw; omega
        have HLEN : RowKit.Hid (hs2.length ≤ i + 1 ∧ nn ≤ i + 1) := Lib.hid ⟨by omega, by omega⟩
        have hhas := fun (w' : World) (p : PlayL W.heap.size w' B nn (tabOf hs2) C hs2 K n vI hsI vS hsS) => p.has hlen xw hw
        have hrhas := fun (w' : World) (p : PlayL W.heap.size w' B nn (tabOf hs2) C hs2 K n vI hsI vS hsS) => p.rhas hlen xw
        generalize (tabOf hs2 xw).map spOf = zs at *
        have hsd := (Below.refl w1.heap.size w1).drew
        have p20 := p1.below hsd
        have s20 := (hsd.block _ (Array.getElem?_eq_some_iff.1 s1).1).trans s1
        obtain ⟨u0, u1, u2, u3, u4⟩ := CS.out _ s20
        have b20 := Below.step b1 hsd
        clear p1 s1 b1 a0 a1 a2 a3 a4 hsd
        go_region_held3 (fun w' => w'.cell? ⟨wr.heap.size, 0, none⟩ = some (.int .u8 q) ∧ w'.cell? ⟨wr.heap.size, 1, none⟩ = some (.int .u32 xw) ∧ w'.cell? ⟨wr.heap.size, 2, none⟩ = some (.string xf) ∧ w'.cell? ⟨wr.heap.size, 3, none⟩ = some (.string xt) ∧ w'.cell? ⟨wr.heap.size, 4, none⟩ = some (.bool xa)) (go_keep) ((first
          | (go_at_call 53; refine (hfree _ p20).mono ?_; rintro e w3 ⟨rfl, p3, t3⟩; have s3 := t3.heapC s20 (by decide); obtain ⟨e0, e1, e2, e3, e4⟩ := CS.out _ s3; have b3 := b20.trans (t3.below (b20.size)))
          | (go_at_call 54; refine (hrfree _ _ p3 b3).mono ?_; rintro e w4 ⟨rfl, p4, t4⟩; have s4 := t4.heap s3 (by decide); obtain ⟨g0, g1, g2, g3, g4⟩ := CS.out _ s4; have b4 := b3.trans (t4.below (b3.size)))))
        clear p3 s3 b3 p20 s20 b20 hfree hrfree
        go_wp2_with (first
          | (go_at_call 57; refine (hhas _ p4).mono ?_; rintro e w10 ⟨Az, cz, rfl, p10, h10, oz⟩; have hoffz := p4.freshS oz; have oz10 := oz.lower b4.size; clear oz; have s10 := (h10.block _ (Array.getElem?_eq_some_iff.1 s4).1).trans s4; obtain ⟨t0, t1, t2, t3, t4⟩ := CS.out _ s10; have b10 := Below.step b4 h10; clear h10; clear p4 s4 b4)
          | (go_at_call 59; refine (hrhas _ p10).mono ?_; rintro e w11 ⟨vr, rfl, p11, h11, or11⟩; have oz11 := oz10.below h11; have s11 := (h11.block _ (Array.getElem?_eq_some_iff.1 s10).1).trans s10; obtain ⟨x0, x1, x2, x3, x4⟩ := CS.out _ s11; have b11 := Below.step b10 h11; clear h11 oz10; clear p10 s10 b10 t0 t1 t2 t3 t4)
          | (go_at_call 58; refine (sameSpans_eqL _ _ _ _ (oz11.rd span_len) (or11.rd span_len)).mono ?_; rintro e w12 ⟨rfl, h12⟩; have oz12 := oz11.below h12; have p12 := p11.below h12; have s12 := (h12.block _ (Array.getElem?_eq_some_iff.1 s11).1).trans s11; obtain ⟨y0, y1, y2, y3, y4⟩ := CS.out _ s12; have b12 := Below.step b11 h12; clear h12 oz11 or11; clear p11 s11 b11 x0 x1 x2 x3 x4)
          | (go_at_call 60; refine (p12.tellSpan (by omega) (by omega) b12.size oz12 hzl hoffz).mono ?_; rintro e w13 ⟨rfl, ⟨vS', p13⟩, t13⟩; have b13 := b12.trans (t13.below b12.size); clear t13 oz12; clear p12 s12 b12 y0 y1 y2 y3 y4))
        go_roundw
        case rel => exact ⟨i + 1, _, _, _, _, _, _, _, by omega, by go_num, p13, HLEN.out.1, HLEN.out.2, by omega, by first | omega | (simp only [List.length_append, List.length_singleton]; omega), by first | omega | (simp only [List.length_append, List.length_singleton]; omega), b13⟩
        case measure => simp [intOf]; omega
      · rw [hm] at hr
        clear hm
        have htl := toldL_length xw xf xt xa hs
        have htold : (toldL xw xf xt xa hs).length ≤ 1000000 := by omega
        have hlen : (hs).length ≤ 400 := by omega
        have hzl : ((tabOf (hs) xw).map spOf).length ≤ 1000000 := by rw [List.length_map]; have := tabOf_length (hs) xw; omega
        have HLEN : RowKit.Hid (hs.length ≤ i + 1 ∧ nn ≤ i + 1) := Lib.hid ⟨by omega, by omega⟩
        have hway := p1.way hlen (by omega) xw xf xt xa
        have hrway := fun (w' : World) (p : PlayL W.heap.size w' B nn (tabOf hs) C hs K n vI hsI vS hsS) => p.rway hlen xw xf xt hfs hts2 xa
        have hhas : ∀ (w' : World) (n' : Nat) (vI' : Value) (hsI' : List Hd), PlayL W.heap.size w' B nn (tabOf hs) C hs K n' vI' hsI' vS hsS → _ := fun w' n' vI' hsI' p => p.has hlen xw hw
        have hrhas : ∀ (w' : World) (n' : Nat) (vI' : Value) (hsI' : List Hd), PlayL W.heap.size w' B nn (tabOf hs) C hs K n' vI' hsI' vS hsS → _ := fun w' n' vI' hsI' p => p.rhas hlen xw
        generalize toldL xw xf xt xa hs = ts at *
        generalize (tabOf hs xw).map spOf = zs at *
        go_wp2_with (first
          | (go_at_call 55; refine hway.mono ?_; rintro e w2 ⟨Aa, ca, rfl, p2, h2, oa⟩; have hoffa := p1.freshI oa; have oa2 := oa.lower b1.size; clear oa; have s2 := (h2.block _ (Array.getElem?_eq_some_iff.1 s1).1).trans s1; obtain ⟨c0, c1, c2, c3, c4⟩ := CS.out _ s2; have b2 := Below.step b1 h2; clear h2; clear p1 s1 b1 a0 a1 a2 a3 a4)
          | (go_at_call 56; refine (hrway _ p2).mono ?_; rintro e w3 ⟨vb, rfl, p3, h3, ob⟩; have oa3 := oa2.below h3; have s3 := (h3.block _ (Array.getElem?_eq_some_iff.1 s2).1).trans s2; obtain ⟨e0, e1, e2, e3, e4⟩ := CS.out _ s3; have b3 := Below.step b2 h3; clear h3 oa2; clear p2 s2 b2 c0 c1 c2 c3 c4)
          | (go_at_call 51; refine (sameIds_eqL _ _ _ _ (oa3.rd encU_len) (ob.rd encU_len)).mono ?_; rintro e w4 ⟨rfl, h4⟩; have oa4 := oa3.below h4; have p4 := p3.below h4; have s4 := (h4.block _ (Array.getElem?_eq_some_iff.1 s3).1).trans s3; obtain ⟨g0, g1, g2, g3, g4⟩ := CS.out _ s4; have b4 := Below.step b3 h4; clear h4 oa3 ob; clear p3 s3 b3 e0 e1 e2 e3 e4)
          | (go_at_call 52; refine (p4.tellId (by omega) (by omega) b4.size oa4 htold hoffa).mono ?_; rintro e w5 ⟨rfl, ⟨vI', p5⟩, t5⟩; have s5 := t5.heap s4 (by decide); obtain ⟨k0, k1, k2, k3, k4⟩ := CS.out _ s5; have b5 := b4.trans (t5.below (b4.size)); clear t5 oa4; clear p4 s4 b4 g0 g1 g2 g3 g4)
          | (go_at_call 57; refine (hhas _ _ _ _ p5).mono ?_; rintro e w10 ⟨Az, cz, rfl, p10, h10, oz⟩; have hoffz := p5.freshS oz; have oz10 := oz.lower b5.size; clear oz; have s10 := (h10.block _ (Array.getElem?_eq_some_iff.1 s5).1).trans s5; obtain ⟨t0, t1, t2, t3, t4⟩ := CS.out _ s10; have b10 := Below.step b5 h10; clear h10; clear p5 s5 b5 k0 k1 k2 k3 k4)
          | (go_at_call 59; refine (hrhas _ _ _ _ p10).mono ?_; rintro e w11 ⟨vr, rfl, p11, h11, or11⟩; have oz11 := oz10.below h11; have s11 := (h11.block _ (Array.getElem?_eq_some_iff.1 s10).1).trans s10; obtain ⟨x0, x1, x2, x3, x4⟩ := CS.out _ s11; have b11 := Below.step b10 h11; clear h11 oz10; clear p10 s10 b10 t0 t1 t2 t3 t4)
          | (go_at_call 58; refine (sameSpans_eqL _ _ _ _ (oz11.rd span_len) (or11.rd span_len)).mono ?_; rintro e w12 ⟨rfl, h12⟩; have oz12 := oz11.below h12; have p12 := p11.below h12; have s12 := (h12.block _ (Array.getElem?_eq_some_iff.1 s11).1).trans s11; obtain ⟨y0, y1, y2, y3, y4⟩ := CS.out _ s12; have b12 := Below.step b11 h12; clear h12 oz11 or11; clear p11 s11 b11 x0 x1 x2 x3 x4)
          | (go_at_call 60; refine (p12.tellSpan (by omega) (by omega) b12.size oz12 hzl hoffz).mono ?_; rintro e w13 ⟨rfl, ⟨vS', p13⟩, t13⟩; have b13 := b12.trans (t13.below b12.size); clear t13 oz12; clear p12 s12 b12 y0 y1 y2 y3 y4))
        go_roundw
        case rel => exact ⟨i + 1, _, _, _, _, _, _, _, by omega, by go_num, p13, HLEN.out.1, HLEN.out.2, by omega, by first | omega | (simp only [List.length_append, List.length_singleton]; omega), by first | omega | (simp only [List.length_append, List.length_singleton]; omega), b13⟩
        case measure => simp [intOf]; omega
    · have hie : i = l.length := by omega
      subst hie
      go_wp2_with (go_at_call 30; refine (hP.k.apart (HT.out.stays hb) ⟨hrs, hb.size⟩).mono ?_; rintro e w7 ⟨rfl, h7⟩)
      go_ret
      exact ⟨rfl, hb.trans h7⟩

end Go.Proofs.YtanjgeacmpmjhaaGreatDoor
