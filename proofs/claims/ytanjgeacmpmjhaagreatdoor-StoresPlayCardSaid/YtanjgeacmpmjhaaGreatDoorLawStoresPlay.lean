import Derived.Test.YtanjgeacmpmjhaaGreatDoorPlay13b
import Derived.Deep.Cut
set_option linter.unusedVariables false
set_option linter.unusedSimpArgs false
set_option linter.unusedSectionVars false
namespace Go.Proofs.YtanjgeacmpmjhaaGreatDoor
open Go.RowKit

theorem Tab10.low {w : World} (h : Tab10 w) : 0 < w.heap.size := by
  unfold Tab10 Lib.TabIs World.var? at h
  rw [show Tryz.prog.globalNamed "internal/strconv.uint64pow10" = some 0 by kernel_rfl] at h
  simp only [Option.bind_some] at h
  rcases Nat.lt_or_ge 0 w.heap.size with h' | h'
  · exact h'
  · rw [Array.getElem?_eq_none h'] at h; cases h
theorem sameRows_eq (v u : Value) (xs : List Row) (w : World) (hv : Rd Row.enc 2 w v xs) (hu : Rd Row.enc 2 w u xs) :
    Calls Tryz.prog 20 #[v, u] w fun e w' => e = .returned (.bool true) ∧ Below w.heap.size w w' := by
  have := sameRows_calls v u xs xs w hv hu
  rw [decide_eq_true rfl] at this
  exact this

theorem PlayAt.putOld {base : Nat} {w w1 : World} {B : Nat} {v : Value} {xs : List Row} {C : Nat} {u : Value} {ys : List Row} {K n : Nat} {vR : Value} {hsR : List Hd} {vC : Value} {hsC : List Hd} (h : PlayAt base w B v xs C u ys K n vR hsR vC hsC) (hb : Below w.heap.size w w1) (hw : base ≤ w.heap.size)
    {B' : Nat} {v' : Value} (m' : MapAt w.heap.size w1 B' v' xs) (hl : xs.length ≤ 1000000) :
    Calls Tryz.prog 12 #[.pointer (some ⟨B, 0, none⟩), .string ⟨#[111, 108, 100]⟩, .int .u32 1] w1 fun e w' => e = .returned (.int .i64 0) ∧ PlayAt base w' B' v' xs C u ys K n vR hsR vC hsC ∧ TurnT base w1 w' [124, 44] := by
  refine (put_calls (h.m.below hb) hl ⟨#[111, 108, 100]⟩ 1 (by decide)).mono fun e w' ⟨v1, he, m1, s⟩ => ⟨?_, h.twin hb hw m' s m1, PlayAt.stepT (h.m.below hb) s⟩
  rw [he, show okKey ⟨#[111, 108, 100]⟩ = true by decide]
  rfl

theorem ownBlock_slice (A : Option Addr) (n m c d : Nat) : (Value.slice A n c).ownBlock = (Value.slice A m d).ownBlock := by cases A <;> rfl

/-- What goes on in the play. -/
def Going (W wr : World) (l : List SAct) (K : Nat) (sv mv iv : Value) : Prop :=
  ∃ (i B C n : Nat) (v : Value) (xs : List Row) (u vR : Value) (hsR : List Hd) (vC : Value) (hsC : List Hd), i ≤ l.length ∧ iv = .int .i64 i ∧ sv = .pointer (some ⟨B, 0, none⟩) ∧ mv = .pointer (some ⟨C, 0, none⟩) ∧
    PlayAt W.heap.size wr B v xs C u xs K n vR hsR vC hsC ∧ (xs.length : Int) ≤ szS (l.take i) ∧ n ≤ 2 * i ∧ hsR.length ≤ i ∧ hsC.length ≤ i ∧ Below W.heap.size W wr

set_option maxHeartbeats 40000000 in
set_option maxRecDepth 100000 in
theorem storesPlay_walk (v : Value) (l : List SAct) (W : World) (hv : Rd SAct.enc 7 W v l) (hok : ∀ x ∈ l, x.ok W) (hll : l.length ≤ 140737488351232) (hT : Tab10 W) :
    Calls Tryz.prog 3 #[v] W fun e w' => e = .returned (.bool true) ∧ Below W.heap.size W w' := by
  have hgr := sgreat_calls v l W hv hok hll
  obtain ⟨A, c, rfl, hlc, hc⟩ := hv.shape
  cases hG : greatS l
  case true =>
    rw [hG] at hgr
    go_enter Tryz.func3, Tryz.ntmps3
    go_wp2_with (go_at_call 8; refine hgr.mono ?_; rintro e w1 ⟨rfl, hb1⟩)
    go_ret
    exact ⟨rfl, hb1⟩
  rw [hG] at hgr
  have hsum : szS l ≤ 10000 ∧ l.length ≤ 200 := by
    unfold greatS at hG
    simp only [Bool.or_eq_false_iff, decide_eq_false_iff_not] at hG
    omega
  have hrs := hT.low
  have HT := Lib.hid hT
  clear hG hT
  go_enter Tryz.func3, Tryz.ntmps3
  go_wp2_with (first
    | (go_at_call 8; refine hgr.mono ?_; rintro e w1 ⟨rfl, h1⟩; clear hgr)
    | (go_at_call 9; refine (new_calls w1).mono ?_; rintro e w2 ⟨rfl, h2, m2⟩)
    | (go_at_call 10; refine (rnew13_calls w2).mono ?_; rintro e w3 ⟨rfl, h3, r3⟩))
  have bK : Below w3.heap.size w3 (w3.alloc (.cells #[.int .i64 0, nilV, nilV, nilV, nilV, nilV, nilV, nilV, nilV, nilV, nilV, nilV, nilV] bookT)) := (Below.refl _ w3).alloc (Nat.le_refl _) _
  have z1 := h1.size
  have z2 := h2.size
  have z3 := h3.size
  have bW : Below W.heap.size W (w3.alloc (.cells #[.int .i64 0, nilV, nilV, nilV, nilV, nilV, nilV, nilV, nilV, nilV, nilV, nilV, nilV] bookT)) := Below.step (Below.step (Below.step h1 h2) h3) bK
  have pW : PlayAt W.heap.size (w3.alloc (.cells #[.int .i64 0, nilV, nilV, nilV, nilV, nilV, nilV, nilV, nilV, nilV, nilV, nilV, nilV] bookT)) w1.heap.size (.slice none 0 0) [] w2.heap.size (.slice none 0 0) [] w3.heap.size 0 nilV [] nilV [] :=
    ⟨((m2.below h3).below bK).lower z1, ⟨((r3.below bK)).obj, .nil _ _ _ _ _, .nil, fun y hy => (by cases hy), by omega⟩, BookRC.start _ _ (by omega), fun g hg => (by simp [Value.ownBlock] at hg), fun g hg => (by simp [Value.ownBlock] at hg)⟩
  have HS : RowKit.Hid (Going W (w3.alloc (.cells #[.int .i64 0, nilV, nilV, nilV, nilV, nilV, nilV, nilV, nilV, nilV, nilV, nilV, nilV] bookT)) l w3.heap.size (.pointer (some ⟨w1.heap.size, 0, none⟩)) (.pointer (some ⟨w2.heap.size, 0, none⟩)) (.int .i64 0)) :=
    Lib.hid ⟨0, _, _, 0, _, [], _, _, [], _, [], Nat.zero_le _, rfl, rfl, rfl, pW, by simp [szS], by omega, by simp, by simp, bW⟩
  clear bK pW bW m2 r3 h1 h2 h3 z1 z2 z3
  generalize w3.heap.size = K at *
  go_loopw [3, 4, 6] (fun sv mv iv wr => Going W wr l K sv mv iv) (fun _ _ iv _ => l.length - (intOf iv).toNat)
  case atStart => exact HS.out
  case round =>
    clear HS
    obtain ⟨i, B, C, n, v, xs, u, vR, hsR, vC, hsC, hi, rfl, rfl, rfl, hP, hxl, hn, hlR, hlC, hb⟩ := hrel
    have hsz := szS_le l i
    have hl2 : xs.length ≤ 1000000 := by omega
    by_cases hlt : i < l.length
    · have hx := List.getElem?_eq_getElem hlt
      obtain ⟨bl, ol, rfl, x0, x1, x2, x3, x4, x5, x6⟩ := (hv.below hb).sact hx
      have ho := hok _ (List.getElem_mem hlt)
      have HSZ := Lib.hid (szS_take l i _ hx)
      have hszn := szS_le l (i + 1)
      generalize l[i] = x at *
      obtain ⟨q, xk, xn, xv, cs, xf, xt, most⟩ := x
      have hcl := ho.len
      have hks := ho.k
      have hfs := ho.f
      have hts := ho.t
      have hq := ho.q
      have hge := sizeChanges_ge cs
      have hcsz : ∀ x ∈ cs, x.k.size ≤ 9223372036854775807 := fun x hx => by have := (ho.each x hx).1; unfold small at this; omega
      simp only [SAct.sz] at HSZ
      unfold small at hks hfs hts
      simp only at *
      have HRD := Lib.hid ho.rd
      simp only at HRD
      obtain ⟨Av, cv, rfl, _, _⟩ := HRD.out.shape
      rw [HSZ.out] at hszn
      replace hks : xk.size ≤ 9223372036854775807 := by omega
      replace hfs : xf.size ≤ 9223372036854775807 := by omega
      replace hts : xt.size ≤ 9223372036854775807 := by omega
      replace hcl : cs.length ≤ 1000000 := by omega
      have hsums : (xs.length : Int) + cs.length ≤ 1000000 := by omega
      have hxl2 : (xs.length : Int) + (1 + cs.length) ≤ szS (l.take i) + (1 + xk.size + sizeChanges cs + xf.size + xt.size) := by omega
      have hba : Below wr.heap.size wr (wr.alloc (.cells #[.int .u8 q, .string xk, .int .u32 xn, .slice Av cs.length cv, .string xf, .string xt, .int .i64 most] 49)) := (Below.refl _ wr).alloc (Nat.le_refl _) _
      have s1 : (wr.alloc (.cells #[.int .u8 q, .string xk, .int .u32 xn, .slice Av cs.length cv, .string xf, .string xt, .int .i64 most] 49)).heap[wr.heap.size]? = some (.cells #[.int .u8 q, .string xk, .int .u32 xn, .slice Av cs.length cv, .string xf, .string xt, .int .i64 most] 49 (0, 0)) := alloc_new _ _
      have p1 := hP.below hba
      have b1 := Below.step hb hba
      go_upto_region 12 with fail
      generalize hW1 : wr.alloc (.cells #[.int .u8 q, .string xk, .int .u32 xn, .slice Av cs.length cv, .string xf, .string xt, .int .i64 most] 49) = w1 at *
      have CS : RowKit.Hid (∀ W' : World, W'.heap[wr.heap.size]? = some (.cells #[.int .u8 q, .string xk, .int .u32 xn, .slice Av cs.length cv, .string xf, .string xt, .int .i64 most] 49 (0, 0)) →
          W'.cell? ⟨wr.heap.size, 0, none⟩ = some (.int .u8 q) ∧ W'.cell? ⟨wr.heap.size, 1, none⟩ = some (.string xk) ∧ W'.cell? ⟨wr.heap.size, 2, none⟩ = some (.int .u32 xn) ∧ W'.cell? ⟨wr.heap.size, 3, none⟩ = some (.slice Av cs.length cv) ∧ W'.cell? ⟨wr.heap.size, 4, none⟩ = some (.string xf) ∧ W'.cell? ⟨wr.heap.size, 5, none⟩ = some (.string xt) ∧ W'.cell? ⟨wr.heap.size, 6, none⟩ = some (.int .i64 most)) :=
        Lib.hid fun W' e => ⟨by simp [World.cell?, e], by simp [World.cell?, e], by simp [World.cell?, e], by simp [World.cell?, e], by simp [World.cell?, e], by simp [World.cell?, e], by simp [World.cell?, e]⟩
      obtain ⟨a0, a1, a2, a3, a4, a5, a6⟩ := CS.out w1 s1
      have htw := twinChanges_calls _ cs w1 (HRD.out.below b1) (by omega)
      clear hW1 hba hP hb x0 x1 x2 x3 x4 x5 x6 hv hx
      go_upto_region 13 with (go_at_call 11; refine htw.mono ?_; rintro e w2 ⟨At, ct, rfl, ot, h2⟩)
      have p2 := p1.below h2
      have b2 := Below.step b1 h2
      have s2 := (h2.block _ (Array.getElem?_eq_some_iff.1 s1).1).trans s1
      have hoff : ∀ g, (Value.slice At cs.length ct).ownBlock = some g → ¬ Blk hsC g := fun g hg => p1.freshC ot g ((ownBlock_slice At _ _ _ _).trans hg)
      have o2 : Own Change.enc 3 128 W.heap.size w2 (.slice At (cs.length + 1) ct) (cs ++ [spareChange]) := ot.lower b1.size
      clear p1 b1 s1 h2 ot a0 a1 a2 a3 a4 a5 a6 htw
      obtain ⟨c0, c1, c2, c3, c4, c5, c6⟩ := CS.out w2 s2
      have hqb : 0 ≤ q ∧ q ≤ 255 := by simp [Lit.wf, IntKind.min, IntKind.max, IntKind.signed, IntKind.bits] at hq; omega
      have hr : q.tmod 7 = q % 7 := Int.tmod_eq_emod_of_nonneg hqb.1
      have hcase : (q % 7 = 0 ∨ q % 7 = 1 ∨ q % 7 = 2) ∨ q % 7 = 3 ∨ q % 7 = 4 ∨ q % 7 = 5 ∨ q % 7 = 6 := by omega
      clear hq hok
      rcases hcase with h012 | hm | hm | hm | hm
      · rcases h012 with hm | hm | hm
        all_goals
          rw [hm] at hr
          go_upto_region 22 with fail
          have hsd := (Below.refl w2.heap.size w2).drew
          have p20 := p2.below hsd
          have s20 := (hsd.block _ (Array.getElem?_eq_some_iff.1 s2).1).trans s2
          obtain ⟨u0, u1, u2, u3, u4, u5, u6⟩ := CS.out _ s20
          have o20 := o2.below hsd
          have b20 := Below.step b2 hsd
          clear p2 s2 o2 b2 c0 c1 c2 c3 c4 c5 c6 hsd
          have hw0 := b20.size
          go_region_held3 (fun w' => w'.cell? ⟨wr.heap.size, 0, none⟩ = some (.int .u8 q) ∧ w'.cell? ⟨wr.heap.size, 1, none⟩ = some (.string xk) ∧ w'.cell? ⟨wr.heap.size, 2, none⟩ = some (.int .u32 xn) ∧ w'.cell? ⟨wr.heap.size, 3, none⟩ = some (.slice Av cs.length cv) ∧ w'.cell? ⟨wr.heap.size, 4, none⟩ = some (.string xf) ∧ w'.cell? ⟨wr.heap.size, 5, none⟩ = some (.string xt) ∧ w'.cell? ⟨wr.heap.size, 6, none⟩ = some (.int .i64 most)) (go_keep) ((first
            | (go_at_call 12; refine (p20.put hl2 xk xn hks).mono ?_; rintro e w3 ⟨rfl, ⟨v3, p3⟩, t3⟩; have s3 := t3.heap s20 (by decide); obtain ⟨e0, e1, e2, e3, e4, e5, e6⟩ := CS.out _ s3; have o3 := t3.own o20 (by decide); have b3 := b20.trans (t3.below (b20.size)))
            | (go_at_call 13; refine (p3.rput hl2 xk xn hks).mono ?_; rintro e w4 ⟨rfl, ⟨u4, p4⟩, t4⟩; have s4 := t4.heap s3 (by decide); obtain ⟨g0, g1, g2, g3, g4, g5, g6⟩ := CS.out _ s4; have o4 := t4.own o3 (by decide); have b4 := b3.trans (t4.below (b3.size)))))
          have hq4 := putK_length xk xn xs
          have hl4 : (putK xk xn xs).length ≤ 1000000 := by omega
          have HL4 : RowKit.Hid (((putK xk xn xs).length : Int) ≤ szS (l.take (i + 1))) := Lib.hid (by rw [HSZ.out]; omega)
          clear hq4 p3 s3 o3 b3 p20 s20 o20 b20
          go_wp2_with (first
            | (go_at_call 25; refine (p4.get hl4 xk).mono ?_; rintro e w10 ⟨rfl, p10, h10⟩; have s10 := (h10.block _ (Array.getElem?_eq_some_iff.1 s4).1).trans s4; obtain ⟨t0, t1, t2, t3, t4, t5, t6⟩ := CS.out _ s10; have o10 := o4.below h10; have b10 := Below.step b4 h10; clear h10)
            | (go_at_call 26; refine (p10.rget hl4 xk).mono ?_; rintro e _ ⟨rfl, rfl⟩)
            | (go_at_call 27; refine (p10.tellChange (by omega) (by omega) b10.size (o10.shorter change_len) hcl hoff).mono ?_; rintro e w11 ⟨rfl, ⟨vC', p11⟩, t11⟩; have b11 := b10.trans (t11.below b10.size)))
          go_roundw
          case rel => exact ⟨i + 1, _, _, _, _, _, _, _, _, _, _, by omega, by go_num, rfl, rfl, p11, HL4.out, by first | omega | (simp only [List.length_append, List.length_singleton]; omega), by first | omega | (simp only [List.length_append, List.length_singleton]; omega), by first | omega | (simp only [List.length_append, List.length_singleton]; omega), b11⟩
          case measure => simp [intOf]; omega
      · rw [hm] at hr
        go_upto_region 25 with fail
        have hsd := (Below.refl w2.heap.size w2).drew
        have p20 := p2.below hsd
        have s20 := (hsd.block _ (Array.getElem?_eq_some_iff.1 s2).1).trans s2
        obtain ⟨u0, u1, u2, u3, u4, u5, u6⟩ := CS.out _ s20
        have o20 := o2.below hsd
        have b20 := Below.step b2 hsd
        clear p2 s2 o2 b2 c0 c1 c2 c3 c4 c5 c6 hsd
        go_region_held3 (fun w' => w'.cell? ⟨wr.heap.size, 0, none⟩ = some (.int .u8 q) ∧ w'.cell? ⟨wr.heap.size, 1, none⟩ = some (.string xk) ∧ w'.cell? ⟨wr.heap.size, 2, none⟩ = some (.int .u32 xn) ∧ w'.cell? ⟨wr.heap.size, 3, none⟩ = some (.slice Av cs.length cv) ∧ w'.cell? ⟨wr.heap.size, 4, none⟩ = some (.string xf) ∧ w'.cell? ⟨wr.heap.size, 5, none⟩ = some (.string xt) ∧ w'.cell? ⟨wr.heap.size, 6, none⟩ = some (.int .i64 most)) (go_keep) ((first
          | (go_at_call 14; refine (p20.del hl2 xk hks).mono ?_; rintro e w3 ⟨rfl, ⟨v3, p3⟩, t3⟩; have s3 := t3.heap s20 (by decide); obtain ⟨e0, e1, e2, e3, e4, e5, e6⟩ := CS.out _ s3; have o3 := t3.own o20 (by decide); have b3 := b20.trans (t3.below (b20.size)))
          | (go_at_call 15; refine (p3.rdel hl2 xk hks).mono ?_; rintro e w4 ⟨rfl, ⟨u4, p4⟩, t4⟩; have s4 := t4.heap s3 (by decide); obtain ⟨g0, g1, g2, g3, g4, g5, g6⟩ := CS.out _ s4; have o4 := t4.own o3 (by decide); have b4 := b3.trans (t4.below (b3.size)))))
        have hq4 := delK_length xk xs
        have hl4 : (delK xk xs).length ≤ 1000000 := by omega
        have HL4 : RowKit.Hid (((delK xk xs).length : Int) ≤ szS (l.take (i + 1))) := Lib.hid (by rw [HSZ.out]; omega)
        clear hq4 p3 s3 o3 b3 p20 s20 o20 b20
        go_wp2_with (first
          | (go_at_call 25; refine (p4.get hl4 xk).mono ?_; rintro e w10 ⟨rfl, p10, h10⟩; have s10 := (h10.block _ (Array.getElem?_eq_some_iff.1 s4).1).trans s4; obtain ⟨t0, t1, t2, t3, t4, t5, t6⟩ := CS.out _ s10; have o10 := o4.below h10; have b10 := Below.step b4 h10; clear h10)
          | (go_at_call 26; refine (p10.rget hl4 xk).mono ?_; rintro e _ ⟨rfl, rfl⟩)
          | (go_at_call 27; refine (p10.tellChange (by omega) (by omega) b10.size (o10.shorter change_len) hcl hoff).mono ?_; rintro e w11 ⟨rfl, ⟨vC', p11⟩, t11⟩; have b11 := b10.trans (t11.below b10.size)))
        go_roundw
        case rel => exact ⟨i + 1, _, _, _, _, _, _, _, _, _, _, by omega, by go_num, rfl, rfl, p11, HL4.out, by first | omega | (simp only [List.length_append, List.length_singleton]; omega), by first | omega | (simp only [List.length_append, List.length_singleton]; omega), by first | omega | (simp only [List.length_append, List.length_singleton]; omega), b11⟩
        case measure => simp [intOf]; omega
      · rw [hm] at hr
        go_upto_region 28 with fail
        have hsd := (Below.refl w2.heap.size w2).drew
        have p20 := p2.below hsd
        have s20 := (hsd.block _ (Array.getElem?_eq_some_iff.1 s2).1).trans s2
        obtain ⟨u0, u1, u2, u3, u4, u5, u6⟩ := CS.out _ s20
        have o20 := o2.below hsd
        have b20 := Below.step b2 hsd
        clear p2 s2 o2 b2 c0 c1 c2 c3 c4 c5 c6 hsd
        go_region_held3 (fun w' => w'.cell? ⟨wr.heap.size, 0, none⟩ = some (.int .u8 q) ∧ w'.cell? ⟨wr.heap.size, 1, none⟩ = some (.string xk) ∧ w'.cell? ⟨wr.heap.size, 2, none⟩ = some (.int .u32 xn) ∧ w'.cell? ⟨wr.heap.size, 3, none⟩ = some (.slice Av cs.length cv) ∧ w'.cell? ⟨wr.heap.size, 4, none⟩ = some (.string xf) ∧ w'.cell? ⟨wr.heap.size, 5, none⟩ = some (.string xt) ∧ w'.cell? ⟨wr.heap.size, 6, none⟩ = some (.int .i64 most)) (go_keep) ((first
          | (go_at_call 16; refine (p20.change o20 (by omega) hcsz).mono ?_; rintro e w3 ⟨rfl, ⟨v3, p3⟩, t3⟩; have s3 := t3.heap s20 (by decide); obtain ⟨e0, e1, e2, e3, e4, e5, e6⟩ := CS.out _ s3; have o3 := t3.own o20 (by decide); have b3 := b20.trans (t3.below (b20.size)))
          | (go_at_call 17; refine (p3.rchange b3 HRD.out (by omega) hcsz).mono ?_; rintro e w4 ⟨rfl, ⟨u4, p4⟩, t4⟩; have s4 := t4.heap s3 (by decide); obtain ⟨g0, g1, g2, g3, g4, g5, g6⟩ := CS.out _ s4; have o4 := t4.own o3 (by decide); have b4 := b3.trans (t4.below (b3.size)))
          | (go_at_call 18; refine (leftChanges_calls _ _ _ cs _ (o4.rd change_len) (HRD.out.below b4)).mono ?_; rintro e w5 ⟨rfl, h5⟩; have p5 := p4.below h5; have s5 := (h5.block _ (Array.getElem?_eq_some_iff.1 s4).1).trans s4; obtain ⟨k0, k1, k2, k3, k4, k5, k6⟩ := CS.out _ s5; have o5 := o4.below h5; have b5 := Below.step b4 h5)))
        have hq4 := doK_length cs xs
        have hl5 : (doK cs xs).length ≤ 1000000 := by omega
        have HL4 : RowKit.Hid (((doK cs xs).length : Int) ≤ szS (l.take (i + 1))) := Lib.hid (by rw [HSZ.out]; omega)
        clear hq4 p3 s3 o3 b3 p20 s20 o20 b20 p4 s4 o4 b4
        go_wp2_with (first
          | (go_at_call 25; refine (p5.get hl5 xk).mono ?_; rintro e w10 ⟨rfl, p10, h10⟩; have s10 := (h10.block _ (Array.getElem?_eq_some_iff.1 s5).1).trans s5; obtain ⟨t0, t1, t2, t3, t4, t5, t6⟩ := CS.out _ s10; have o10 := o5.below h10; have b10 := Below.step b5 h10; clear h10)
          | (go_at_call 26; refine (p10.rget hl5 xk).mono ?_; rintro e _ ⟨rfl, rfl⟩)
          | (go_at_call 27; refine (p10.tellChange (by omega) (by omega) b10.size (o10.shorter change_len) hcl hoff).mono ?_; rintro e w11 ⟨rfl, ⟨vC', p11⟩, t11⟩; have b11 := b10.trans (t11.below b10.size)))
        go_roundw
        case rel => exact ⟨i + 1, _, _, _, _, _, _, _, _, _, _, by omega, by go_num, rfl, rfl, p11, HL4.out, by first | omega | (simp only [List.length_append, List.length_singleton]; omega), by first | omega | (simp only [List.length_append, List.length_singleton]; omega), by first | omega | (simp only [List.length_append, List.length_singleton]; omega), b11⟩
        case measure => simp [intOf]; omega
      · rw [hm] at hr
        have hrl : ((rowsIn xf xt xs).take most.toNat).length ≤ 1000000 := by rw [List.length_take]; have : (rowsIn xf xt xs).length ≤ xs.length := List.length_filter_le ..; omega
        have HL4 : RowKit.Hid ((xs.length : Int) ≤ szS (l.take (i + 1))) := Lib.hid (by rw [HSZ.out]; omega)
        obtain ⟨zs, hzs⟩ : ∃ zs, (rowsIn xf xt xs).take most.toNat = zs := ⟨_, rfl⟩
        have hscan := p2.scan hl2 xf xt most
        have hrscan : ∀ (w' : World) (u' : Value), RMap W.heap.size w' C u' xs → Calls Tryz.prog 21 #[.pointer (some ⟨C, 0, none⟩), .agg #[.string xf, .string xt], .int .i64 most] w' fun e w'' => ∃ v', e = .returned v' ∧ Below w'.heap.size w' w'' ∧ Own Row.enc 2 44 w'.heap.size w'' v' zs := fun w' u' r => by rw [← hzs]; exact rscan13_calls r hl2 xf xt hfs hts most
        rw [hzs] at hscan hrl
        have HLR := Lib.hid hrl
        have hl6 := hl2
        clear hrl hzs
        go_wp2_with (first
          | (go_at_call 19; refine hscan.mono ?_; rintro e w3 ⟨Aa, ca, rfl, p3, h3, oa, hoffa⟩; clear hscan; have oa3 := oa.lower b2.size; clear oa; have s3 := (h3.block _ (Array.getElem?_eq_some_iff.1 s2).1).trans s2; obtain ⟨e0, e1, e2, e3, e4, e5, e6⟩ := CS.out _ s3; have o3 := o2.below h3; have b3 := Below.step b2 h3; clear h3 p2 s2 o2 b2 c0 c1 c2 c3 c4 c5 c6)
          | (go_at_call 21; refine (hrscan _ _ p3.r).mono ?_; rintro e w4 ⟨v4, rfl, h4, or4⟩; clear hrscan; have p4 := p3.below h4; have oa4 := oa3.below h4; have s4 := (h4.block _ (Array.getElem?_eq_some_iff.1 s3).1).trans s3; obtain ⟨g0, g1, g2, g3, g4, g5, g6⟩ := CS.out _ s4; have o4 := o3.below h4; have b4 := Below.step b3 h4; clear h4 p3 s3 o3 b3 oa3 e0 e1 e2 e3 e4 e5 e6)
          | (go_at_call 20; refine (sameRows_eq _ _ _ _ (oa4.rd row_len) (or4.rd row_len)).mono ?_; rintro e w5 ⟨rfl, h5⟩; have p5 := p4.below h5; have oa5 := oa4.below h5; have s5 := (h5.block _ (Array.getElem?_eq_some_iff.1 s4).1).trans s4; obtain ⟨k0, k1, k2, k3, k4, k5, k6⟩ := CS.out _ s5; have o5 := o4.below h5; have b5 := Below.step b4 h5; clear h5 p4 s4 o4 b4 oa4 or4 g0 g1 g2 g3 g4 g5 g6)
          | (go_at_call 22; refine (p5.tellRow (by omega) (by omega) b5.size oa5 HLR.out hoffa).mono ?_; rintro e w6 ⟨rfl, ⟨vR', p6⟩, t6⟩; have s6 := t6.heap s5 (by decide); obtain ⟨m0, m1, m2, m3, m4, m5, m6⟩ := CS.out _ s6; have o6 := t6.own o5 (by decide); have b6 := b5.trans (t6.below (b5.size)); clear p5 s5 o5 b5 oa5 k0 k1 k2 k3 k4 k5 k6)
          | (go_at_call 25; refine (p6.get hl6 xk).mono ?_; rintro e w10 ⟨rfl, p10, h10⟩; have s10 := (h10.block _ (Array.getElem?_eq_some_iff.1 s6).1).trans s6; obtain ⟨t0, t1, t2, t3, t4, t5, t6⟩ := CS.out _ s10; have o10 := o6.below h10; have b10 := Below.step b6 h10; clear h10)
          | (go_at_call 26; refine (p10.rget hl6 xk).mono ?_; rintro e _ ⟨rfl, rfl⟩)
          | (go_at_call 27; refine (p10.tellChange (by omega) (by omega) b10.size (o10.shorter change_len) hcl hoff).mono ?_; rintro e w11 ⟨rfl, ⟨vC', p11⟩, t11⟩; have b11 := b10.trans (t11.below b10.size)))
        go_roundw
        case rel => exact ⟨i + 1, _, _, _, _, _, _, _, _, _, _, by omega, by go_num, rfl, rfl, p11, HL4.out, by first | omega | (simp only [List.length_append, List.length_singleton]; omega), by first | omega | (simp only [List.length_append, List.length_singleton]; omega), by first | omega | (simp only [List.length_append, List.length_singleton]; omega), b11⟩
        case measure => simp [intOf]; omega
      · rw [hm] at hr
        have HL4 : RowKit.Hid ((xs.length : Int) ≤ szS (l.take (i + 1))) := Lib.hid (by rw [HSZ.out]; omega)
        have hl5 := hl2
        go_wp2_with (first
          | (go_at_call 23; refine (twin_calls p2.m hl2).mono ?_; rintro e w3 ⟨B', v3, rfl, h3, m3⟩; have HP := Lib.hid p2; have HB3 := Lib.hid h3; have hz2 := b2.size; have s3 := (h3.block _ (Array.getElem?_eq_some_iff.1 s2).1).trans s2; obtain ⟨e0, e1, e2, e3, e4, e5, e6⟩ := CS.out _ s3; have o3 := o2.below h3; have b3 := Below.step b2 h3; clear h3 p2 s2 o2 b2 c0 c1 c2 c3 c4 c5 c6)
          | (go_at_call 12; refine (HP.out.putOld HB3.out hz2 m3 hl2).mono ?_; rintro e w4 ⟨rfl, p4, t4⟩; have s4 := t4.heap s3 (by decide); obtain ⟨g0, g1, g2, g3, g4, g5, g6⟩ := CS.out _ s4; have o4 := t4.own o3 (by decide); have b4 := b3.trans (t4.below (b3.size)); clear s3 o3 b3 m3 HP HB3 e0 e1 e2 e3 e4 e5 e6)
          | (go_at_call 24; refine (rtwin13_calls p4.r hl2).mono ?_; rintro e w5 ⟨C', u5, rfl, h5, r5⟩; have p5 := p4.rtwin h5 b4.size r5; have s5 := (h5.block _ (Array.getElem?_eq_some_iff.1 s4).1).trans s4; obtain ⟨k0, k1, k2, k3, k4, k5, k6⟩ := CS.out _ s5; have o5 := o4.below h5; have b5 := Below.step b4 h5; clear h5 p4 s4 o4 b4 g0 g1 g2 g3 g4 g5 g6)
          | (go_at_call 25; refine (p5.get hl5 xk).mono ?_; rintro e w10 ⟨rfl, p10, h10⟩; have s10 := (h10.block _ (Array.getElem?_eq_some_iff.1 s5).1).trans s5; obtain ⟨t0, t1, t2, t3, t4, t5, t6⟩ := CS.out _ s10; have o10 := o5.below h10; have b10 := Below.step b5 h10; clear h10)
          | (go_at_call 26; refine (p10.rget hl5 xk).mono ?_; rintro e _ ⟨rfl, rfl⟩)
          | (go_at_call 27; refine (p10.tellChange (by omega) (by omega) b10.size (o10.shorter change_len) hcl hoff).mono ?_; rintro e w11 ⟨rfl, ⟨vC', p11⟩, t11⟩; have b11 := b10.trans (t11.below b10.size)))
        go_roundw
        case rel => exact ⟨i + 1, _, _, _, _, _, _, _, _, _, _, by omega, by go_num, rfl, rfl, p11, HL4.out, by first | omega | (simp only [List.length_append, List.length_singleton]; omega), by first | omega | (simp only [List.length_append, List.length_singleton]; omega), by first | omega | (simp only [List.length_append, List.length_singleton]; omega), b11⟩
        case measure => simp [intOf]; omega
    · have hie : i = l.length := by omega
      subst hie
      have hz := hb.size
      go_wp2_with (first
        | (go_at_call 28; refine (hP.rows hl2).mono ?_; rintro e w3 ⟨Aa, ca, rfl, p3, h3, oa, hoffa⟩; have oa3 := oa.lower hz; have b3 := Below.step hb h3; clear oa)
        | (go_at_call 22; refine (p3.tellRow (by omega) (by omega) b3.size oa3 hl2 hoffa).mono ?_; rintro e w4 ⟨rfl, ⟨vR', p4⟩, t4⟩; have oa4 := t4.own oa3 (by decide); have b4 := b3.trans (t4.below b3.size); clear t4 oa3 p3)
        | (go_at_call 29; refine (rrows13_calls p4.r hl2).mono ?_; rintro e w5 ⟨v5, rfl, h5, or5⟩; have oa5 := oa4.below h5; have p5 := p4.below h5; have b5 := Below.step b4 h5; clear h5 oa4 p4)
        | (go_at_call 20; refine (sameRows_eq _ _ _ _ (oa5.rd row_len) (or5.rd row_len)).mono ?_; rintro e w6 ⟨rfl, h6⟩; have p6 := p5.below h6; have b6 := Below.step b5 h6; clear h6 oa5 p5 or5)
        | (go_at_call 30; refine (p6.k.apart (HT.out.stays b6) ⟨hrs, b6.size⟩).mono ?_; rintro e w7 ⟨rfl, h7⟩))
      go_ret
      exact ⟨rfl, b6.trans h7⟩

end Go.Proofs.YtanjgeacmpmjhaaGreatDoor
