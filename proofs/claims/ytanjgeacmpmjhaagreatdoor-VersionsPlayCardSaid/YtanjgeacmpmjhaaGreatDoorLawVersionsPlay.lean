import Derived.Test.YtanjgeacmpmjhaaGreatDoorPlay14
import Derived.Test.YtanjgeacmpmjhaaGreatDoorMgVersionsPlay10
import Derived.Test.YtanjgeacmpmjhaaGreatDoorTwChange
import Derived.Deep.Cut
import Derived.Deep.CutRange
set_option linter.unusedVariables false
set_option linter.unusedSimpArgs false
set_option linter.unusedSectionVars false
namespace Go.Proofs.YtanjgeacmpmjhaaGreatDoor
open Go.RowKit Go.Shelf

theorem Tab10.low {w : World} (h : Tab10 w) : 0 < w.heap.size := by
  unfold Tab10 Lib.TabIs World.var? at h
  rw [show Tryz.prog.globalNamed "internal/strconv.uint64pow10" = some 0 by kernel_rfl] at h
  simp only [Option.bind_some] at h
  rcases Nat.lt_or_ge 0 w.heap.size with h' | h'
  · exact h'
  · rw [Array.getElem?_eq_none h'] at h; cases h
theorem sameRows_eq (v u : Value) (xs : List Row) (w : World) (hv : Rd Row.enc 2 w v xs) (hu : Rd Row.enc 2 w u xs) :
    Calls Tryz.prog 20 #[v, u] w fun e w' => e = .returned (.bool true) ∧ Below w.heap.size w w' := by
  have := sameRows_calls v u xs xs w hv hu
  rw [decide_eq_true rfl] at this
  exact this
theorem ownBlock_slice (A : Option Addr) (n m c d : Nat) : (Value.slice A n c).ownBlock = (Value.slice A m d).ownBlock := by cases A <;> rfl

/-- What goes on in the play, i acts done; what is told of an act's past: j. -/
def GoingV (W wr : World) (l : List VAct) (B C K : Nat) (sf st : Str) (iv : Value) : Prop :=
  ∃ (i : Nat) (hist : List (List Change)) (trim n : Nat) (vR : Value) (hsR : List Hd) (vC : Value) (hsC : List Hd), i ≤ l.length ∧ iv = .int .i64 i ∧ PlayV W.heap.size wr B hist trim C hist trim K n vR hsR vC hsC ∧
    hist.length ≤ i ∧ hist.flatten.length ≤ sumA (l.take i) ∧ n ≤ 2 * i ∧ hsR.length ≤ i ∧ hsC.length ≤ i ∧ wr.heap[W.heap.size]? = some (.cells #[.string sf, .string st] 47 (0, 0)) ∧ Below W.heap.size W wr
def DoneV (W wx : World) (S i B C K : Nat) (sf st : Str) (vR : Value) (hsR : List Hd) : Prop :=
  ∃ (hist : List (List Change)) (trim n : Nat) (vC : Value) (hsC : List Hd), PlayV W.heap.size wx B hist trim C hist trim K n vR hsR vC hsC ∧
    hist.length ≤ i + 1 ∧ hist.flatten.length ≤ S ∧ n ≤ 2 * i + 1 ∧ hsC.length ≤ i + 1 ∧ wx.heap[W.heap.size]? = some (.cells #[.string sf, .string st] 47 (0, 0)) ∧ Below W.heap.size W wx

set_option maxHeartbeats 40000000 in
set_option maxRecDepth 100000 in
theorem versionsPlay_walk (v : Value) (l : List VAct) (s : Span) (most : Int) (W : World) (hv : Rd VAct.enc 3 W v l) (hll : l.length ≤ 140737488351232) (hok : ∀ x ∈ l, x.ok W) (hso : s.ok) (hT : Tab10 W) :
    Calls Tryz.prog 4 #[v, .agg #[.string s.f, .string s.t], .int .i64 most] W fun e w' => e = .returned (.bool true) ∧ Below W.heap.size W w' := by
  obtain ⟨sf, st⟩ := s
  obtain ⟨hsf, hst⟩ := hso
  unfold small at hsf hst
  simp only at hsf hst ⊢
  have hbx : Below W.heap.size W (W.alloc (.cells #[.string sf, .string st] 47)) := (Below.refl _ W).alloc (Nat.le_refl _) _
  have hgr := vgreat_calls v l _ (hv.below hbx) hll fun x hx => (hok x hx).below hbx
  obtain ⟨A, c, rfl, hlc, hc⟩ := hv.shape
  have hrs := hT.low
  have HT := Lib.hid hT
  have sW := alloc_new W (.cells #[.string sf, .string st] 47)
  clear hT
  go_enter Tryz.func4, Tryz.ntmps4
  go_upto_region 1 with fail
  generalize W.alloc (.cells #[.string sf, .string st] 47) = W1 at *
  go_wp2_with (first
    | (go_at_call 31; refine hgr.mono ?_; rintro e w1 ⟨⟨g, rfl, hg⟩, h1⟩; clear hgr; cases g)
    | (go_at_call 32; refine (lives_calls w1).mono ?_; rintro e w2 ⟨rfl, h2⟩)
    | (go_at_call 33; refine (pnew_calls w1).mono ?_; rintro e w2 ⟨rfl, h2, p2⟩)
    | (go_at_call 34; refine (rnew14_calls w2).mono ?_; rintro e w3 ⟨Rv, rfl, h3, r3⟩))
  rotate_left
  · go_ret
    exact ⟨rfl, Below.step (Below.step hbx h1) h2⟩
  obtain ⟨h60, h600⟩ := hg trivial
  have bK : Below w3.heap.size w3 (w3.alloc (.cells #[.int .i64 0, nilV, nilV, nilV, nilV, nilV, nilV, nilV, nilV, nilV, nilV, nilV, nilV] bookT)) := (Below.refl _ w3).alloc (Nat.le_refl _) _
  have z0 := hbx.size
  have z1 := h1.size
  have z2 := h2.size
  have z3 := h3.size
  have bW1 : Below W1.heap.size W1 (w3.alloc (.cells #[.int .i64 0, nilV, nilV, nilV, nilV, nilV, nilV, nilV, nilV, nilV, nilV, nilV, nilV] bookT)) := Below.step (Below.step (Below.step h1 h2) h3) bK
  have sK := (bW1.block _ (Array.getElem?_eq_some_iff.1 sW).1).trans sW
  have bW := Below.step hbx bW1
  have pW : PlayV W.heap.size (w3.alloc (.cells #[.int .i64 0, nilV, nilV, nilV, nilV, nilV, nilV, nilV, nilV, nilV, nilV, nilV, nilV] bookT)) (w1.heap.size + 1) [] 0 (w2.heap.size + 1) [] 0 w3.heap.size 0 nilV [] nilV [] := by
    have r4 := r3.below bK
    refine ⟨((p2.below h3).below bK).lower (by omega), ⟨Rv, [⟨.slice none 0 0, []⟩], .slice none 0 0, [], ⟨r4.obj, r4.rows.lower (by omega), fun x hx => ?_, r4.chs.lower (by omega), fun x hx => (by cases hx), r4.okC, r4.len, by have := r4.low; omega⟩, rfl, fun j x hx => ?_⟩, BookRC.start _ _ (by omega)⟩
    · rw [List.mem_singleton.1 hx]; exact ⟨.nil _ _ _ _ _, .nil, fun y hy => (by cases hy)⟩
    · cases j with
      | zero => simp only [List.getElem?_cons_zero, Option.some.injEq] at hx; rw [← hx]; rfl
      | succ j => simp at hx
  have HS : RowKit.Hid (GoingV W (w3.alloc (.cells #[.int .i64 0, nilV, nilV, nilV, nilV, nilV, nilV, nilV, nilV, nilV, nilV, nilV, nilV] bookT)) l (w1.heap.size + 1) (w2.heap.size + 1) w3.heap.size sf st (.int .i64 0)) :=
    Lib.hid ⟨0, [], 0, 0, _, [], _, [], Nat.zero_le _, rfl, pW, by simp, by simp, by omega, by simp, by simp, sK, bW⟩
  clear bK pW bW bW1 sK sW p2 r3 h1 h2 h3 z0 z1 z2 z3 hbx hg
  generalize w3.alloc (.cells #[.int .i64 0, nilV, nilV, nilV, nilV, nilV, nilV, nilV, nilV, nilV, nilV, nilV, nilV] bookT) = w5 at *
  generalize w3.heap.size = K at *
  generalize w2.heap.size + 1 = C at *
  generalize w1.heap.size + 1 = B at *
  go_loopw [10] (fun iv wr => GoingV W wr l B C K sf st iv) (fun iv _ => l.length - (intOf iv).toNat)
  case atStart => exact HS.out
  case round =>
    clear HS
    obtain ⟨i, hist, trim, n, vR, hsR, vC, hsC, hi, rfl, hP, hhl, hfl, hn, hlR, hlC, hsx, hb⟩ := hrel
    have HV := Lib.hid hv
    by_cases hlt : i < l.length
    · have hx := List.getElem?_eq_getElem hlt
      obtain ⟨bl, ol, rfl, x0, x1, x2⟩ := (hv.below hb).vact hx
      have ho := hok _ (List.getElem_mem hlt)
      have hsum := sumA_take l i _ hx
      have hsumle := sumA_le l (i + 1)
      generalize l[i] = x at *
      obtain ⟨q, xv, cs, xa⟩ := x
      have hqw := ho.q
      have hrd0 := ho.rd
      have hcz : ∀ c ∈ cs, c.k.size ≤ 9223372036854775807 := fun c hc => by have := (ho.each c hc).1; unfold small at this; omega
      obtain ⟨a, ha⟩ := nat_of_u32 ho.at_
      simp only at hqw hrd0 hsum ha x0 x1 x2
      subst ha
      have hq0 : 0 ≤ q := by
        have h0 : IntKind.u8.min = 0 := by decide +kernel
        simp [Lit.wf] at hqw
        omega
      obtain ⟨Ax, cx, rfl, hlcx, hcx⟩ := hrd0.shape
      have hcl : cs.length ≤ 600 := by omega
      have hrdW : RowKit.Hid (∀ wx, Below W.heap.size W wx → Rd Change.enc 3 wx (.slice Ax cs.length cx) cs) := Lib.hid fun wx hb => hrd0.below hb
      have hba : Below wr.heap.size wr (wr.alloc (.cells #[.int .u8 q, .slice Ax cs.length cx, .int .u32 a] 72)) := (Below.refl _ wr).alloc (Nat.le_refl _) _
      have s1 : (wr.alloc (.cells #[.int .u8 q, .slice Ax cs.length cx, .int .u32 a] 72)).heap[wr.heap.size]? = some (.cells #[.int .u8 q, .slice Ax cs.length cx, .int .u32 a] 72 (0, 0)) := alloc_new _ _
      have p1 := hP.below hba
      have b1 := Below.step hb hba
      have sx1 := (hba.block _ (Array.getElem?_eq_some_iff.1 hsx).1).trans hsx
      go_upto_region 10 with fail
      generalize wr.alloc (.cells #[.int .u8 q, .slice Ax cs.length cx, .int .u32 a] 72) = w1 at *
      have CS : RowKit.Hid (∀ W' : World, W'.heap[wr.heap.size]? = some (.cells #[.int .u8 q, .slice Ax cs.length cx, .int .u32 a] 72 (0, 0)) →
          W'.cell? ⟨wr.heap.size, 0, none⟩ = some (.int .u8 q) ∧ W'.cell? ⟨wr.heap.size, 1, none⟩ = some (.slice Ax cs.length cx) ∧ W'.cell? ⟨wr.heap.size, 2, none⟩ = some (.int .u32 a)) :=
        Lib.hid fun W' e => ⟨by simp [World.cell?, e], by simp [World.cell?, e], by simp [World.cell?, e]⟩
      obtain ⟨a0, a1, a2⟩ := CS.out w1 s1
      have HSF : RowKit.Hid (sf.size ≤ 9223372036854775807 ∧ st.size ≤ 9223372036854775807) := Lib.hid ⟨by omega, by omega⟩
      clear hba hP hb x0 x1 x2 hv hx hsf hst hok ho hqw hsx hrd0
      have htw := twinChanges_calls (.slice Ax cs.length cx) cs w1 (hrdW.out _ b1) (by omega)
      have HSUM := Lib.hid (And.intro hsum hsumle)
      clear hsum hsumle
      go_upto_if 44 with (go_at_call 11; refine htw.mono ?_; rintro e w2 ⟨Av, cv, rfl, ho2, h2⟩; have p2 := p1.below h2; have hoff := p1.freshC (ho2.shorter change_len); have s2 := (h2.block _ (Array.getElem?_eq_some_iff.1 s1).1).trans s1; obtain ⟨c0, c1, c2⟩ := CS.out _ s2; have sx2 := (h2.block _ (Array.getElem?_eq_some_iff.1 sx1).1).trans sx1; have b2 := Below.step b1 h2; have o2 := ho2.lower b1.size; clear ho2 h2 p1 s1 b1 sx1 a0 a1 a2 htw)
      go_cut [] from 28 to 151 (fun wx => DoneV W wx (sumA (l.take (i + 1))) i B C K sf st vR hsR)
      case first =>
        have hfl6 : hist.flatten.length ≤ 600 := by have := HSUM.out; omega
        by_cases hm : q % 4 = 3
        · have hd1 : decide (q % 4 = 3) = true := decide_eq_true hm
          have hd2 : (q % 4 == 3) = true := by simpa using hm
          go_upto_region 12 with fail
          have hsd := (Below.refl w2.heap.size w2).drew
          have p20 := p2.below hsd
          have s20 := (hsd.block _ (Array.getElem?_eq_some_iff.1 s2).1).trans s2
          have sx20 := (hsd.block _ (Array.getElem?_eq_some_iff.1 sx2).1).trans sx2
          obtain ⟨u0, u1, u2⟩ := CS.out _ s20
          have b20 := Below.step b2 hsd
          clear p2 s2 b2 sx2 c0 c1 c2 hsd o2
          go_region_held3 (fun w' => w'.cell? ⟨wr.heap.size, 2, none⟩ = some (Value.int IntKind.u32 (a : Int))) (go_keep) ((first
            | (go_at_call 35; refine (p20.p.trimA (by omega) a).mono ?_; rintro e w3 ⟨rfl, q3, t3⟩; have p3 := p20.pstep t3 q3; have s3 := t3.heapC s20 (by decide) (by decide); obtain ⟨e0, e1, e2⟩ := CS.out _ s3; have sx3 := t3.heapC sx20 (by decide) (by decide); have b3 := b20.trans (t3.below b20.size))
            | (go_at_call 36; refine (p3.r.trimA (by omega) a).mono ?_; rintro e w4 ⟨rfl, r4, t4⟩; have p4 := p3.rstep t4 (by decide) r4; have s4 := t4.heap s3 (by decide); obtain ⟨g0, g1, g2⟩ := CS.out _ s4; have sx4 := t4.heap sx3 (by decide); have b4 := b3.trans (t4.below b3.size))))
          go_wp2
          go_meet
          case rel => exact ⟨hist, _, n, _, hsC, p4, by omega, by have := HSUM.out; omega, by omega, by omega, sx4, b4⟩
        · have hd1 : decide (q % 4 = 3) = false := decide_eq_false hm
          have hd2 : (q % 4 == 3) = false := by simpa using hm
          go_wp2_with (first
            | (go_at_call 37; refine (p2.p.commitA (o2.shorter change_len) hcz (by omega) (by omega)).mono ?_; rintro e w3 ⟨rfl, q3, t3⟩; have p3 := p2.pstep t3 q3; have o3 := o2.pstepC t3 (by decide) (by decide); have s3 := t3.heapC s2 (by decide) (by decide); obtain ⟨e0, e1, e2⟩ := CS.out _ s3; have sx3 := t3.heapC sx2 (by decide) (by decide); have b3 := b2.trans (t3.below b2.size); clear p2 o2 s2 sx2 b2 c0 c1 c2 q3 t3)
            | (go_at_call 38; refine (p3.r.commitA b3.size (fun wx hb => hrdW.out wx (b3.trans hb)) hcz (by omega) (by omega)).mono ?_; rintro e w4 ⟨rfl, r4, t4⟩; have p4 := p3.rstep t4 (by decide) r4; have o4 := t4.own o3 (by decide); have s4 := t4.heap s3 (by decide); obtain ⟨g0, g1, g2⟩ := CS.out _ s4; have sx4 := t4.heap sx3 (by decide); have b4 := b3.trans (t4.below b3.size); clear p3 o3 s3 sx3 b3 e0 e1 e2 r4 t4)
            | (go_at_call 18; refine (leftChanges_calls _ _ _ cs _ (o4.rd change_len) (hrdW.out _ b4)).mono ?_; rintro e w5 ⟨rfl, h5⟩; have p5 := p4.below h5; have o5 := o4.below h5; have sx5 := (h5.block _ (Array.getElem?_eq_some_iff.1 sx4).1).trans sx4; have b5 := Below.step b4 h5; clear p4 o4 s4 sx4 b4 g0 g1 g2 h5)
            | (go_at_call 27; refine (p5.tellChange (by omega) (by omega) b5.size (o5.shorter change_len) (by omega) hoff).mono ?_; rintro e w6 ⟨rfl, ⟨vC', p6⟩, t6⟩; have sx6 := t6.heap sx5 (by decide); have b6 := b5.trans (t6.below b5.size); clear p5 o5 sx5 b5 t6))
          go_meet
          case rel => exact ⟨_, _, _, _, _, p6, by have := hC_length hist cs; omega, by have := HSUM.out; have := hC_flat hist cs; omega, by omega, by rw [List.length_append, List.length_singleton]; omega, sx6, b6⟩
      case rest =>
        clear p2 s2 b2 sx2 c0 c1 c2 o2 hoff CS hrdW hcz hq0 hlcx hcx hhl hfl hn hlC
        obtain ⟨hist, trim, n, vC, hsC, hP, hhl, hfl, hn, hlC, hsx, hb⟩ := hcut
        have hfl6 : hist.flatten.length ≤ 600 := by have := HSUM.out; omega
        go_wp2_with (first
          | (go_at_call 39; refine (pnow_P hP.p).mono ?_; rintro e _ ⟨rfl, rfl⟩)
          | (go_at_call 40; refine (hP.r.now (by omega)).mono ?_; rintro e _ ⟨rfl, rfl⟩))
        clear hcl hlc hc
        go_loopw [17] (fun av wr2 => ∃ (d n' : Nat) (vR' : Value) (hsR' : List Hd), d ≤ hist.length + 2 ∧ av = .int .u32 (d : Int) ∧ PlayV W.heap.size wr2 B hist trim C hist trim K n' vR' hsR' vC hsC ∧ n' ≤ 2 * i + 1 + (if hist.length < d then 1 else 0) ∧ hsR'.length ≤ i + (if hist.length < d then 1 else 0) ∧
            wr2.heap[W.heap.size]? = some (.cells #[.string sf, .string st] 47 (0, 0)) ∧ Below W.heap.size W wr2) (fun av _ => hist.length + 2 - (intOf av).toNat)
        case atStart => exact ⟨0, n, vR, hsR, by omega, rfl, hP, by simp; omega, by simp; omega, hsx, hb⟩
        case round =>
          clear hP hsx hb hn
          obtain ⟨d, n', vR', hsR', hd, rfl, p1, hn', hR', sx1, b1⟩ := hrel
          have hadd : IntKind.u32.wrap ((hist.length : Int) + 1) = (hist.length : Int) + 1 := by rw [IntKind.wrap_u32]; omega
          have hnow := fun (w' : World) (p : RPastP W.heap.size w' C hist trim) => p.now (by omega)
          by_cases hle : d ≤ hist.length + 1
          · have hli : (d : Int) ≤ (hist.length : Int) + 1 := by omega
            have hd1 : IntKind.u32.wrap ((d : Int) + 1) = (d : Int) + 1 := by rw [IntKind.wrap_u32]; omega
            have CB : RowKit.Hid (∀ W' : World, W'.heap[W.heap.size]? = some (.cells #[.string sf, .string st] 47 (0, 0)) → W'.cell? ⟨W.heap.size, 0, none⟩ = some (.string sf) ∧ W'.cell? ⟨W.heap.size, 1, none⟩ = some (.string st)) :=
              Lib.hid fun W' e => ⟨by simp [World.cell?, e], by simp [World.cell?, e]⟩
            obtain ⟨a0, a1⟩ := CB.out _ sx1
            have hscan := p1.p.scanA (by omega) d sf st most
            have hget := fun (w' : World) (p : PastP W.heap.size w' B hist trim) => p.getA (by omega) d sf HSF.out.1
            have hrget := fun (w' : World) (p : RPastP W.heap.size w' C hist trim) => p.get (by omega) (by omega) d sf
            have hrscan := fun (w' : World) (p : RPastP W.heap.size w' C hist trim) => p.scan (by omega) (by omega) d sf st HSF.out.1 HSF.out.2 most
            have hsince := fun (w' : World) (p : PastP W.heap.size w' B hist trim) => psince_P p d sf st (by omega)
            have hrsince := fun (w' : World) (p : RPastP W.heap.size w' C hist trim) => p.since (by omega) d (by omega) sf st HSF.out.1 HSF.out.2
            have hzl : ((rowsIn sf st (rowsN hist (max d trim))).take most.toNat).length ≤ 1000000 := by
              rw [List.length_take]
              have h1 : (rowsIn sf st (rowsN hist (max d trim))).length ≤ (rowsN hist (max d trim)).length := List.length_filter_le ..
              have := rowsN_length hist (max d trim)
              omega
            generalize (rowsIn sf st (rowsN hist (max d trim))).take most.toNat = zs at *
            generalize (getL sf (rowsN hist (max d trim))).getD 0 = gv at *
            generalize (getL sf (rowsN hist (max d trim))).isSome = gb at *
            generalize (decide (d < trim) || sinceH hist d sf st) = sb at *
            have HLR := Lib.hid hzl
            clear hzl
            go_upto_region 27 with (first
              | (go_at_call 40; refine (hnow _ p1.r).mono ?_; rintro e _ ⟨rfl, rfl⟩)
              | (go_at_call 41; refine hscan.mono ?_; rintro e w2 ⟨Aa, ca, rfl, h2, oa⟩; clear hscan; have hoffa := p1.freshR oa; have oa2 := oa.lower b1.size; clear oa; have p2 := p1.below h2; have sx2 := (h2.block _ (Array.getElem?_eq_some_iff.1 sx1).1).trans sx1; obtain ⟨c0, c1⟩ := CB.out _ sx2; have b2 := Below.step b1 h2; clear h2 p1 sx1 b1 a0 a1)
              | (go_at_call 42; refine (hget _ p2.p).mono ?_; rintro e w3 ⟨rfl, h3⟩; have p3 := p2.below h3; have oa3 := oa2.below h3; have sx3 := (h3.block _ (Array.getElem?_eq_some_iff.1 sx2).1).trans sx2; obtain ⟨e0, e1⟩ := CB.out _ sx3; have b3 := Below.step b2 h3; clear h3 p2 sx2 b2 c0 c1 oa2)
              | (go_at_call 43; refine (hrget _ p3.r).mono ?_; rintro e w4 ⟨rfl, h4⟩; have p4 := p3.below h4; have oa4 := oa3.below h4; have sx4 := (h4.block _ (Array.getElem?_eq_some_iff.1 sx3).1).trans sx3; obtain ⟨g0, g1⟩ := CB.out _ sx4; have b4 := Below.step b3 h4; clear h4 p3 sx3 b3 e0 e1 oa3))
            have hsd := (Below.refl w4.heap.size w4).drew
            have p40 := p4.below hsd
            have oa40 := oa4.below hsd
            have sx40 := (hsd.block _ (Array.getElem?_eq_some_iff.1 sx4).1).trans sx4
            obtain ⟨k0, k1⟩ := CB.out _ sx40
            have b40 := Below.step b4 hsd
            clear p4 oa4 sx4 g0 g1 b4 hsd
            go_region_held3 (fun w' => w'.cell? ⟨W.heap.size, 0, none⟩ = some (Value.string sf) ∧ w'.cell? ⟨W.heap.size, 1, none⟩ = some (Value.string st)) (go_keep) ((first
              | (go_at_call 44; refine (hrscan _ p40.r).mono ?_; rintro e w5 ⟨v5, rfl, h5, ob⟩; have p5 := p40.below h5; have oa5 := oa40.below h5; have sx5 := (h5.block _ (Array.getElem?_eq_some_iff.1 sx40).1).trans sx40; obtain ⟨m0, m1⟩ := CB.out _ sx5; have b5 := Below.step b40 h5)
              | (go_at_call 20; refine (sameRows_eq _ _ _ _ (oa5.rd row_len) (ob.rd row_len)).mono ?_; rintro e w6 ⟨rfl, h6⟩; have p6 := p5.below h6; have oa6 := oa5.below h6; have sx6 := (h6.block _ (Array.getElem?_eq_some_iff.1 sx5).1).trans sx5; obtain ⟨t0, t1⟩ := CB.out _ sx6; have b6 := Below.step b5 h6)
              | (go_at_call 45; refine (hsince _ p6.p).mono ?_; rintro e w7 ⟨rfl, h7⟩; have p7 := p6.below h7; have oa7 := oa6.below h7; have sx7 := (h7.block _ (Array.getElem?_eq_some_iff.1 sx6).1).trans sx6; obtain ⟨y0, y1⟩ := CB.out _ sx7; have b7 := Below.step b6 h7)
              | (go_at_call 46; refine (hrsince _ p7.r).mono ?_; rintro e w8 ⟨rfl, h8⟩; have p8 := p7.below h8; have oa8 := oa7.below h8; have sx8 := (h8.block _ (Array.getElem?_eq_some_iff.1 sx7).1).trans sx7; obtain ⟨z0, z1⟩ := CB.out _ sx8; have b8 := Below.step b7 h8)))
            clear p40 oa40 sx40 k0 k1 b40 p5 oa5 sx5 m0 m1 b5 p6 oa6 sx6 t0 t1 b6 p7 oa7 sx7 y0 y1 b7 h5 h6 h7 h8 ob
            by_cases hde : d = hist.length
            · have hq1 : ((d : Int) == (hist.length : Int)) = true := by simp [hde]
              have hq2 : decide ((d : Int) = (hist.length : Int)) = true := by simp [hde]
              have hnn : n' ≤ 2 * i + 1 := by rw [if_neg (by omega)] at hn'; exact hn'
              have hRR : hsR'.length ≤ i := by rw [if_neg (by omega)] at hR'; exact hR'
              clear hde hn' hR'
              go_wp2_with (first
                | (go_at_call 40; refine (hnow _ p8.r).mono ?_; rintro e _ ⟨rfl, rfl⟩)
                | (go_at_call 22; refine (p8.tellRow (by omega) (by omega) b8.size oa8 HLR.out hoffa).mono ?_; rintro e w9 ⟨rfl, ⟨vR9, p9⟩, t9⟩; have sx9 := t9.heap sx8 (by decide); have b9 := b8.trans (t9.below b8.size)))
              go_roundw
              case rel =>
                have hdl : d = hist.length := by have := of_decide_eq_true hq2; omega
                refine ⟨d + 1, _, _, _, by omega, by go_num, p9, ?_, ?_, sx9, b9⟩
                · rw [if_pos (by omega)]; omega
                · rw [if_pos (by omega), List.length_append, List.length_singleton]; omega
              case measure => simp [intOf]; omega
            · have hq1 : ((d : Int) == (hist.length : Int)) = false := by simp; omega
              have hq2 : decide ((d : Int) = (hist.length : Int)) = false := by simp; omega
              go_wp2_with (go_at_call 40; refine (hnow _ p8.r).mono ?_; rintro e _ ⟨rfl, rfl⟩)
              go_roundw
              case rel => exact ⟨d + 1, _, _, _, by omega, by go_num, p8, by split at hn' <;> (split <;> omega), by split at hR' <;> (split <;> omega), sx8, b8⟩
              case measure => simp [intOf]; omega
          · have hde : d = hist.length + 2 := by omega
            subst hde
            have hli : ¬ (((hist.length + 2 : Nat) : Int) ≤ (hist.length : Int) + 1) := by omega
            go_wp2_with (go_at_call 40; refine (hnow _ p1.r).mono ?_; rintro e _ ⟨rfl, rfl⟩)
            go_roundw
            case rel => exact ⟨i + 1, hist, trim, n', vR', hsR', vC, hsC, by omega, by go_num, p1, hhl, hfl, by split at hn' <;> omega, by split at hR' <;> omega, hlC, sx1, b1⟩
            case measure => simp [intOf]; omega
    · have hie : i = l.length := by omega
      subst hie
      go_wp2_with (first
        | (go_at_call 30; refine (hP.k.apart (HT.out.stays hb) ⟨hrs, hb.size⟩).mono ?_; rintro e w7 ⟨rfl, h7⟩)
        | (go_at_call 32; refine (lives_calls w7).mono ?_; rintro e w8 ⟨rfl, h8⟩))
      go_ret
      exact ⟨rfl, hb.trans (h7.trans (h8.mono (Nat.le_trans hb.size h7.size)))⟩

end Go.Proofs.YtanjgeacmpmjhaaGreatDoor
