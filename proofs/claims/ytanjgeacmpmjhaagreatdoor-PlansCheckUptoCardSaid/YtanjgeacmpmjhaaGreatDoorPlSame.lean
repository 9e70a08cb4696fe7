import Derived.Test.YtanjgeacmpmjhaaGreatDoorPlRes
import Derived.Test.YtanjgeacmpmjhaaGreatDoorMgPlansCheckUpto9
import Derived.Test.YtanjgeacmpmjhaaGreatDoorApp
set_option linter.unusedVariables false
set_option linter.unusedSimpArgs false
set_option linter.unusedSectionVars false
namespace Go.Proofs.YtanjgeacmpmjhaaGreatDoor
open Go.RowKit

attribute [local go_sem ↓] Go.wp_at_zero Go.wp_at_succ

set_option maxHeartbeats 800000 in
theorem one_calls (x y : Row) (w : World) : Calls Tryz.prog 172 #[.agg #[.string x.k, .int .u32 x.v], .agg #[.string y.k, .int .u32 y.v]] w fun e w' => e = .returned (.bool (decide (x = y))) ∧ Below w.heap.size w w' := by
  have heqg := eqg_row
  have heql := eql_row
  rw [← row_eq_b]
  go_enter Tryz.func172, Tryz.ntmps172
  go_wp2
  go_ret
  exact ⟨rfl, ((Below.refl _ _).alloc (Nat.le_refl _) _).alloc (by simp) _⟩

theorem eq_take {α : Type} [DecidableEq α] (xs ys : List α) (k : Nat) (x y : α) (hx : xs[k]? = some x) (hy : ys[k]? = some y) (h : xs.take k = ys.take k) :
    (x = y → xs.take (k + 1) = ys.take (k + 1)) ∧ (x ≠ y → xs ≠ ys) := by
  refine ⟨fun e => ?_, fun hne e => ?_⟩
  · rw [List.take_add_one, List.take_add_one, hx, hy, h, e]
  · subst e
    rw [hx] at hy
    injection hy with hy
    exact hne hy

set_option maxRecDepth 100000 in
set_option maxHeartbeats 1600000 in
theorem eqRows_calls (v u : Value) (xs ys : List Row) (w : World) (hv : Rd Row.enc 2 w v xs) (hu : Rd Row.enc 2 w u ys) :
    Calls Tryz.prog 175 #[v, u, .func (.func 172) #[] #[]] w fun e w' => e = .returned (.bool (decide (xs = ys))) ∧ Below w.heap.size w w' := by
  obtain ⟨A, c, rfl, hlc, hc⟩ := hv.shape
  obtain ⟨B, d, rfl, hlc', hc'⟩ := hu.shape
  by_cases hn : xs.length = ys.length
  · have hnb : ((xs.length : Int) != ys.length) = false := by simp [hn]
    have HN := Lib.hid hn
    clear hn
    go_enter Tryz.func175, Tryz.ntmps175
    go_wp2
    go_loopw [17] (fun i wr => ∃ k : Nat, k ≤ xs.length ∧ i = .int .i64 k ∧ xs.take k = ys.take k ∧ Below w.heap.size w wr) (fun i _ => xs.length - (intOf i).toNat)
    case atStart => exact ⟨0, Nat.zero_le _, rfl, rfl, Below.refl _ _⟩
    case round =>
      obtain ⟨k, hk, rfl, htk, hb⟩ := hrel
      have HTK := Lib.hid htk
      clear htk
      by_cases hlt : k < xs.length
      · have hlt2 : k < ys.length := by rw [← HN.out]; exact hlt
        obtain ⟨b, o, rfl, hx1, hx2⟩ := (hv.below hb).row (List.getElem?_eq_getElem hlt)
        obtain ⟨b2, o2, rfl, hy1, hy2⟩ := (hu.below hb).row (List.getElem?_eq_getElem hlt2)
        have HE := Lib.hid (eq_take xs ys k _ _ (List.getElem?_eq_getElem hlt) (List.getElem?_eq_getElem hlt2) HTK.out)
        generalize xs[k] = x at *
        generalize ys[k] = y at *
        have i1 := fun W => one_calls x y W
        have hlo0 : (0 : Int) ≤ (k : Int) := by omega
        have hlo1 : (k : Int) < (ys.length : Int) := by omega
        have hsz := hb.size
        have hA1 : Below wr.heap.size wr (wr.alloc (.cells #[.string x.k, .int .u32 x.v] 44)) := (Below.refl _ wr).alloc (Nat.le_refl _) _
        replace hy1 := Below.cell_some hA1 hy1
        replace hy2 := Below.cell_some hA1 hy2
        clear hA1
        have hbA : Below w.heap.size w ((wr.alloc (.cells #[.string x.k, .int .u32 x.v] 44)).alloc (.cells #[.string y.k, .int .u32 y.v] 44)) := (hb.alloc hsz _).alloc (by simp; omega) _
        by_cases hxy : x = y
        · have hd : decide (x = y) = true := decide_eq_true hxy
          rw [hd] at i1
          have HXY := Lib.hid hxy
          clear hxy hd
          go_wp2_with (go_at_call 172; refine (i1 _).mono ?_; rintro e w1 ⟨rfl, hb1⟩; clear hx1 hx2 hy1 hy2)
          go_roundw
          case rel => exact ⟨k + 1, by omega, by go_num, HE.out.1 HXY.out, Below.step hbA hb1⟩
          case measure => simp [intOf]; omega
        · have hd : decide (x = y) = false := decide_eq_false hxy
          rw [hd] at i1
          have HXY := Lib.hid hxy
          clear hxy hd
          go_wp2_with (go_at_call 172; refine (i1 _).mono ?_; rintro e w1 ⟨rfl, hb1⟩; clear hx1 hx2 hy1 hy2)
          go_ret
          exact ⟨ret_bool (decide_eq_false (HE.out.2 HXY.out)).symm, Below.step hbA hb1⟩
      · have e : xs = ys := by
          have h1 := HTK.out
          rw [List.take_of_length_le (by omega), List.take_of_length_le (by rw [← HN.out]; omega)] at h1
          exact h1
        have HEQ := Lib.hid e
        clear e
        go_wp2
        go_ret
        exact ⟨ret_bool (decide_eq_true HEQ.out).symm, hb⟩
  · have hnb : ((xs.length : Int) != ys.length) = true := by simp; omega
    have HN := Lib.hid hn
    clear hn
    go_enter Tryz.func175, Tryz.ntmps175
    go_wp2
    go_ret
    exact ⟨ret_bool (decide_eq_false (fun e => HN.out (by rw [e]))).symm, Below.refl _ _⟩

/-- Results that are read. -/
def RdRes (w : World) (v : Value) (rs : List (List Row)) : Prop :=
  ∃ ss : List SlV, Rd SlV.enc 1 w v ss ∧ ss.length = rs.length ∧ ∀ (i : Nat) (s : SlV) (r : List Row), ss[i]? = some s → rs[i]? = some r → Rd Row.enc 2 w s.val r
theorem RdRes.below {w w' : World} {v : Value} {rs : List (List Row)} (h : RdRes w v rs) (hb : Below w.heap.size w w') : RdRes w' v rs := by
  obtain ⟨ss, h1, h2, h3⟩ := h
  exact ⟨ss, h1.below hb, h2, fun i s r a b => (h3 i s r a b).below hb⟩
theorem ResL.rd {base : Nat} {w : World} {A : Option Addr} {n c : Nat} {rs : List (List Row)} {N : Nat → Prop} (h : ResL base w (.slice A n c) rs N) : RdRes w (.slice A n n) rs := by
  obtain ⟨ss, ho, hl, hs, _⟩ := h
  refine ⟨ss, ?_, hl, fun i s r a b => ?_⟩
  · obtain ⟨A', c', e, h1, h2, h3⟩ := ho.rd slv_len
    injection e with e1 e2 e3
    subst e1 e2 e3
    exact ⟨_, ss.length, rfl, Nat.le_refl _, by omega, h3⟩
  · exact (hs i s r a b).1.rd row_len

set_option maxHeartbeats 800000 in
theorem same2_calls (s t : SlV) (xs ys : List Row) (B : Nat) (w : World) (hv : Rd Row.enc 2 w s.val xs) (hu : Rd Row.enc 2 w t.val ys) (hc : w.cell? ⟨B, 0, none⟩ = some (.func (.func 172) #[] #[])) :
    Calls Tryz.prog 174 #[.agg #[.slice s.A s.n s.c], .agg #[.slice t.A t.n t.c], .pointer (some ⟨B, 0, none⟩)] w fun e w' => e = .returned (.bool (decide (xs = ys))) ∧ Below w.heap.size w w' := by
  have hb1 : Below w.heap.size w ((w.alloc (.cells #[.slice s.A s.n s.c] 174)).alloc (.cells #[.slice t.A t.n t.c] 174)) := ((Below.refl _ _).alloc (Nat.le_refl _) _).alloc (by simp) _
  have he := eqRows_calls _ _ xs ys _ (hv.below hb1) (hu.below hb1)
  have hc1 := Below.cell_some hb1 hc
  clear hc
  go_enter Tryz.func174, Tryz.ntmps174
  go_wp2_with (go_at_call 175; refine he.mono ?_; rintro e w1 ⟨rfl, hb2⟩)
  go_ret
  exact ⟨rfl, Below.step hb1 hb2⟩

set_option maxRecDepth 100000 in
set_option maxHeartbeats 1600000 in
theorem eqRes_calls (v u : Value) (rs qs : List (List Row)) (F : Nat) (w : World) (hv : RdRes w v rs) (hu : RdRes w u qs) (hF : w.cell? ⟨F, 0, none⟩ = some (.func (.func 172) #[] #[])) :
    Calls Tryz.prog 173 #[v, u, .func (.func 174) #[] #[.pointer (some ⟨F, 0, none⟩)]] w fun e w' => e = .returned (.bool (decide (rs = qs))) ∧ Below w.heap.size w w' := by
  obtain ⟨ss, hr, hlen, hrow⟩ := hv
  obtain ⟨ts, hq, hlen2, hrow2⟩ := hu
  obtain ⟨A, c, rfl, hlc, hc⟩ := hr.shape
  obtain ⟨B, d, rfl, hlc', hc'⟩ := hq.shape
  have HL := Lib.hid hlen
  have HL2 := Lib.hid hlen2
  clear hlen hlen2
  by_cases hn : ss.length = ts.length
  · have hnb : ((ss.length : Int) != ts.length) = false := by simp [hn]
    have HN := Lib.hid hn
    clear hn
    go_enter Tryz.func173, Tryz.ntmps173
    go_wp2
    go_loopw [17] (fun i wr => ∃ k : Nat, k ≤ ss.length ∧ i = .int .i64 k ∧ rs.take k = qs.take k ∧ Below w.heap.size w wr) (fun i _ => ss.length - (intOf i).toNat)
    case atStart => exact ⟨0, Nat.zero_le _, rfl, rfl, Below.refl _ _⟩
    case round =>
      obtain ⟨k, hk, rfl, htk, hb⟩ := hrel
      have HTK := Lib.hid htk
      clear htk
      by_cases hlt : k < ss.length
      · have hlt2 : k < ts.length := by rw [← HN.out]; exact hlt
        have hlt3 : k < rs.length := by rw [← HL.out]; exact hlt
        have hlt4 : k < qs.length := by rw [← HL2.out]; exact hlt2
        obtain ⟨b, o, rfl, hx1⟩ := (hr.below hb).slv (List.getElem?_eq_getElem hlt)
        obtain ⟨b2, o2, rfl, hy1⟩ := (hq.below hb).slv (List.getElem?_eq_getElem hlt2)
        have HE := Lib.hid (eq_take rs qs k _ _ (List.getElem?_eq_getElem hlt3) (List.getElem?_eq_getElem hlt4) HTK.out)
        have hx := hrow k _ _ (List.getElem?_eq_getElem hlt) (List.getElem?_eq_getElem hlt3)
        have hy := hrow2 k _ _ (List.getElem?_eq_getElem hlt2) (List.getElem?_eq_getElem hlt4)
        generalize ss[k] = s at *
        generalize ts[k] = t at *
        generalize rs[k] = x at *
        generalize qs[k] = y at *
        have hlo0 : (0 : Int) ≤ (k : Int) := by omega
        have hlo1 : (k : Int) < (ts.length : Int) := by omega
        have hsz := hb.size
        have hA1 : Below wr.heap.size wr (wr.alloc (.cells #[.slice s.A s.n s.c] 174)) := (Below.refl _ wr).alloc (Nat.le_refl _) _
        replace hy1 := Below.cell_some hA1 hy1
        clear hA1
        have hbA : Below w.heap.size w ((wr.alloc (.cells #[.slice s.A s.n s.c] 174)).alloc (.cells #[.slice t.A t.n t.c] 174)) := (hb.alloc hsz _).alloc (by simp; omega) _
        have i1 := same2_calls s t x y F _ (hx.below hbA) (hy.below hbA) (Below.cell_some hbA hF)
        clear hx hy hlt3 hlt4
        by_cases hxy : x = y
        · have hd : decide (x = y) = true := decide_eq_true hxy
          rw [hd] at i1
          have HXY := Lib.hid hxy
          clear hxy hd
          go_wp2_with (go_at_call 174; refine i1.mono ?_; rintro e w1 ⟨rfl, hb1⟩; clear hx1 hy1)
          go_roundw
          case rel => exact ⟨k + 1, by omega, by go_num, HE.out.1 HXY.out, Below.step hbA hb1⟩
          case measure => simp [intOf]; omega
        · have hd : decide (x = y) = false := decide_eq_false hxy
          rw [hd] at i1
          have HXY := Lib.hid hxy
          clear hxy hd
          go_wp2_with (go_at_call 174; refine i1.mono ?_; rintro e w1 ⟨rfl, hb1⟩; clear hx1 hy1)
          go_ret
          exact ⟨ret_bool (decide_eq_false (HE.out.2 HXY.out)).symm, Below.step hbA hb1⟩
      · have e : rs = qs := by
          have h1 := HTK.out
          rw [List.take_of_length_le (by rw [← HL.out]; omega), List.take_of_length_le (by rw [← HL2.out, ← HN.out]; omega)] at h1
          exact h1
        have HEQ := Lib.hid e
        clear e
        go_wp2
        go_ret
        exact ⟨ret_bool (decide_eq_true HEQ.out).symm, hb⟩
  · have hnb : ((ss.length : Int) != ts.length) = true := by simp; omega
    have HN := Lib.hid hn
    clear hn
    go_enter Tryz.func173, Tryz.ntmps173
    go_wp2
    go_ret
    exact ⟨ret_bool (decide_eq_false (fun e => HN.out (by rw [HL.out, HL2.out, e]))).symm, Below.refl _ _⟩

set_option maxHeartbeats 800000 in
theorem same_calls (v u : Value) (rs qs : List (List Row)) (w : World) (hv : RdRes w v rs) (hu : RdRes w u qs) :
    Calls Tryz.prog 76 #[v, u] w fun e w' => e = .returned (.bool (decide (rs = qs))) ∧ Below w.heap.size w w' := by
  go_enter Tryz.func76, Tryz.ntmps76
  go_wp2_with (go_at_call 173; refine (eqRes_calls v u rs qs w.heap.size _ (hv.below ((Below.refl _ w).alloc (Nat.le_refl _) _)) (hu.below ((Below.refl _ w).alloc (Nat.le_refl _) _)) (World.cell?_alloc_at (w := w) _ _ w.heap.size 0 rfl)).mono ?_; rintro e w1 ⟨rfl, hb1⟩)
  go_ret
  exact ⟨rfl, Below.step ((Below.refl _ w).alloc (Nat.le_refl _) _) hb1⟩

/-- append(append([]Result(nil), p..), q..). -/
theorem resJoin {w : World} {A1 A2 : Option Addr} {n1 c1 n2 c2 : Nat} {rs qs : List (List Row)} (h1 : RdRes w (.slice A1 n1 c1) rs) (h2 : RdRes w (.slice A2 n2 c2) qs) (hl1 : rs.length ≤ 1000) (hl2 : qs.length ≤ 1000) :
    ∃ v6 w6, (Builtin.append_ #[112, 112] 112 #[.slice none 0 0, .slice A1 n1 c1]).run Tryz.prog w = .ok v6 w6 ∧ RdRes w6 v6 rs ∧ Below w.heap.size w w6 ∧
      ∃ v7 w7, (Builtin.append_ #[112, 112] 112 #[v6, .slice A2 n2 c2]).run Tryz.prog w6 = .ok v7 w7 ∧ RdRes w7 v7 (rs ++ qs) ∧ Below w.heap.size w w7 := by
  obtain ⟨ss, r1, e1, k1⟩ := h1
  obtain ⟨ts, r2, e2, k2⟩ := h2
  obtain ⟨A, c, ev, _⟩ := r1.shape
  injection ev with ev1 ev2 ev3
  subst ev1 ev2 ev3
  obtain ⟨A', c', ev, _⟩ := r2.shape
  injection ev with ev1 ev2 ev3
  subst ev1 ev2 ev3
  obtain ⟨v6, w6, hr6, ho6, hb6, hg6⟩ := run_append_all (P := Tryz.prog) (w0 := w) (W := w) SlV.enc 1 174 112 112 24 _ w.heap.size (.slice none 0 0) [] ss A1 c1 Tryz.underlying112 info_res rfl (by decide) (by decide) slv_len slv_one r1 (.nil _ _ _ _ _) (Below.refl _ _) (Nat.le_refl _) (by simp; omega)
  obtain ⟨v7, w7, hr7, ho7, hb7, hg7⟩ := run_append_all (P := Tryz.prog) (w0 := w) (W := w6) SlV.enc 1 174 112 112 24 _ w.heap.size v6 ([] ++ ss) ts A2 c2 Tryz.underlying112 info_res rfl (by decide) (by decide) slv_len slv_one (r2.below hb6) ho6 hb6 hb6.size (by simp; omega)
  refine ⟨v6, w6, hr6, ⟨ss, ho6.rd slv_len, e1, fun i s r a b => (k1 i s r a b).below hb6⟩, hb6, v7, w7, hr7, ⟨ss ++ ts, ho7.rd slv_len, by simp [e1, e2], fun i s r a b => ?_⟩, hb7⟩
  by_cases hi : i < ss.length
  · rw [List.getElem?_append_left hi] at a
    rw [List.getElem?_append_left (by omega)] at b
    exact (k1 i s r a b).below hb7
  · rw [List.getElem?_append_right (by omega)] at a
    rw [List.getElem?_append_right (by omega), ← e1] at b
    exact (k2 _ s r a b).below hb7

end Go.Proofs.YtanjgeacmpmjhaaGreatDoor
