import Derived.Test.YtanjgeacmpmjhaaGreatDoorMgPlansRun9
import Derived.Test.YtanjgeacmpmjhaaGreatDoorMapP
import Derived.Test.YtanjgeacmpmjhaaGreatDoorMgPlansRun20
import Derived.Test.YtanjgeacmpmjhaaGreatDoorTwRow
import Derived.Test.YtanjgeacmpmjhaaGreatDoorMgPlansRun2
import Derived.Test.YtanjgeacmpmjhaaGreatDoorRJoinC
import Derived.Deep.QuietTactic
import Derived.BigQuiet
import Derived.Deep.RegionLaw
import Derived.StillTailTactics
import Derived.Lib.SmallJoins
set_option linter.unusedVariables false
set_option linter.unusedSimpArgs false
set_option linter.unusedSectionVars false
namespace Go.Proofs.YtanjgeacmpmjhaaGreatDoor
open Go.RowKit

theorem okKey_size14 {k : Str} (h : okKey k = true) : k.size ≤ 16 := by
  unfold okKey at h
  simp only [Bool.and_eq_true, decide_eq_true_eq] at h
  exact h.1.2
/-- Where a key's row is put, or taken away. -/
theorem put_del_at14 (k : Str) (n : Int) {xs : List Row} (hr : Rising xs) : ∃ q, q = posL k xs + (if (getL k xs).isSome then 1 else 0) ∧ q ≤ xs.length ∧ putL k n xs = xs.take (posL k xs) ++ ⟨k, n⟩ :: xs.drop q ∧ delL k xs = xs.take (posL k xs) ++ xs.drop q := by
  have hple := posL_le k xs
  cases hg : getL k xs with
  | none => exact ⟨posL k xs, by simp, hple, put_at k n xs hg hr, by rw [del_none k xs hg, List.take_append_drop]⟩
  | some u =>
    obtain ⟨h1, _, h3, h4⟩ := put_over k n xs u hg hr
    refine ⟨posL k xs + 1, by simp, by omega, ?_, h4⟩
    rw [h3, List.set_eq_take_append_cons_drop, if_pos h1]
theorem info_rowR14 : (Tryz.prog.info? 44).map (fun i => (i.zero, i.size, i.bytes)) = some (some (.agg #[.string ⟨#[]⟩, .int .u32 0]), 2, 24) := by kernel_rfl

set_option maxHeartbeats 800000 in
set_option maxRecDepth 100000 in
/-- The reference's Find. -/
theorem rfind_calls (v : Value) (xs : List Row) (k : ByteArray) (w : World) (hv : Rd Row.enc 2 w v xs) (hr : Rising xs) (hl : xs.length ≤ 1000000) :
    Calls Tryz.prog 137 #[v, .string k] w fun e w' => e = .returned (.tuple #[.int .i64 (posL k xs), .bool (getL k xs).isSome]) ∧ w = w' := by
  obtain ⟨A, c, rfl, hlc, hc⟩ := hv.shape
  have hple := posL_le k xs
  have hfound := Lib.hid (pos_found (k := k) hr)
  have hsearch := Lib.hid (pos_search (k := k) hr)
  go_enter Tryz.func137, Tryz.ntmps137
  go_wp2
  go_loopw [6] (fun i wr => ∃ m : Nat, m ≤ posL k xs ∧ i = .int .i64 m ∧ w = wr) (fun i _ => xs.length - (intOf i).toNat)
  case atStart => exact ⟨0, Nat.zero_le _, rfl, rfl⟩
  case round =>
    obtain ⟨m, hm, rfl, rfl⟩ := hrel
    by_cases hlt : m < xs.length
    · obtain ⟨b, o, rfl, hx1, hx2⟩ := hv.row (List.getElem?_eq_getElem hlt)
      have HX := Lib.hid (List.getElem?_eq_getElem hlt)
      generalize xs[m] = x at *
      have hs := hsearch.out m x HX.out
      by_cases hk : x.k = k
      · have hmp : posL k xs = m := by
          have : ¬ m < posL k xs := fun h => by
            have := hs.2 h
            rw [hk, slt_irrefl] at this
            cases this
          omega
        have hg : (getL k xs).isSome = true := by
          have h1 := hfound.out.1 ⟨x, by rw [hmp]; exact HX.out, hk⟩
          exact Option.isSome_iff_ne_none.2 h1
        have E := Lib.hid (And.intro hmp hg)
        have hd : decide (x.k = k) = true := decide_eq_true hk
        clear hmp hg hs hk hm hple
        go_wp2
        go_ret2
        rw [E.out.1, E.out.2]
        exact ⟨rfl, rfl⟩
      · have hd : decide (x.k = k) = false := decide_eq_false hk
        cases hlt2 : slt x.k k
        · have hmp : posL k xs = m := by
            have : ¬ m < posL k xs := fun h => by
              have := hs.2 h
              rw [hlt2] at this
              cases this
            omega
          have hg : (getL k xs).isSome = false := by
            cases hgg : getL k xs with
            | none => rfl
            | some u =>
              obtain ⟨y, hy, hyk⟩ := hfound.out.2 (by rw [hgg]; simp)
              rw [hmp, HX.out] at hy
              injection hy with hy
              subst hy
              exact absurd hyk hk
          have E := Lib.hid (And.intro hmp hg)
          have hgt : sle x.k k = false := by
            rw [not_sle]
            cases h : slt k x.k
            · exact absurd (slt_total hlt2 h) hk
            · rfl
          have hgt2 := not_sle.1 hgt
          clear hmp hg hs hk hm hple
          go_wp2
          go_ret2
          rw [E.out.1, E.out.2]
          exact ⟨rfl, rfl⟩
        · have hm2 : m + 1 ≤ posL k xs := hs.1 hlt2
          have hle2 : sle x.k k = true := sle_of_slt hlt2
          have HM := Lib.hid hm2
          clear hs hm hm2 hk
          go_wp2
          go_roundw
          case rel => exact ⟨m + 1, HM.out, by go_num, by first | rfl | trivial⟩
          case measure => simp [intOf]; omega
    · have hmp : posL k xs = xs.length := by omega
      have hg : (getL k xs).isSome = false := by
        cases hgg : getL k xs with
        | none => rfl
        | some u =>
          obtain ⟨y, hy, hyk⟩ := hfound.out.2 (by rw [hgg]; simp)
          rw [hmp] at hy
          have := (List.getElem?_eq_some_iff.1 hy).1
          omega
      have E := Lib.hid (And.intro hmp hg)
      clear hmp hg hple hm
      go_wp2
      go_ret2
      rw [E.out.1, E.out.2]
      exact ⟨rfl, by first | rfl | trivial⟩

set_option maxHeartbeats 1000000 in
set_option maxRecDepth 100000 in
/-- The reference's Put. -/
theorem rput14_calls {base : Nat} {w : World} {v : Value} {xs : List Row} (h : Own Row.enc 2 44 base w v xs) (hr : Rising xs) (hl : xs.length ≤ 1000000) (k : ByteArray) (n : Int) :
    Calls Tryz.prog 169 #[v, .string k, .int .u32 n] w fun e w' => ∃ v', e = .returned v' ∧ Own Row.enc 2 44 w.heap.size w' v' (putL k n xs) ∧ Below w.heap.size w w' := by
  have hrd := h.rd row_len
  have hf := rfind_calls v xs k w hrd hr hl
  obtain ⟨A, c, rfl, hlc, hc⟩ := hrd.shape
  have hple := posL_le k xs
  obtain ⟨q, hqe, hql, hput, hdel⟩ := put_del_at14 k n hr
  have HD0 : RowKit.Hid (∀ W, Below w.heap.size w W → Rd Row.enc 2 W (.slice A (posL k xs) c) (xs.take (posL k xs))) := Lib.hid fun W hb => (hrd.takeQ _ hple).below hb
  have HC0 : RowKit.Hid (∀ W, Below w.heap.size w W → Rd Row.enc 2 W (.slice (if c = q then A else A.map fun x => x.add (q * 2)) (xs.length - q) (c - q)) (xs.drop q)) := Lib.hid fun W hb => (hrd.cut q hql).below hb
  have hlt1 : (xs.take (posL k xs)).length = posL k xs := by rw [List.length_take]; omega
  have hlt2 : (xs.drop q).length = xs.length - q := List.length_drop
  rw [hput]
  clear hput hdel h
  generalize posL k xs = p at *
  generalize (getL k xs).isSome = is at *
  have HL1 := Lib.hid hlt1
  have HL2 := Lib.hid hlt2
  clear hlt1 hlt2
  generalize hT : xs.take p = T at *
  generalize hD : xs.drop q = D at *
  have HDE := Lib.hid hD
  clear hT hD
  have hqx : (is = false ∧ p = q) ∨ (is = true ∧ p + 1 = q) := by cases is <;> simp at hqe <;> simp [hqe]
  clear hqe
  rcases hqx with ⟨rfl, rfl⟩ | ⟨rfl, rfl⟩
  all_goals
    rcases Nat.eq_zero_or_pos xs.length with h0 | hpos
    · have hx0 : xs = [] := List.length_eq_zero_iff.1 h0
      subst hx0
      first
        | (exfalso; simp at hql; done)
        | (obtain rfl := Nat.le_zero.1 hple
           have HE : RowKit.Hid True := Lib.hid trivial
           clear h0
           cases A <;> rcases Nat.eq_zero_or_pos c with rfl | hc0
           all_goals
             go_enter Tryz.func169, Tryz.ntmps169
             go_wp2_with (first
               | (go_at_call 137; refine hf.mono ?_; rintro e _ ⟨rfl, rfl⟩; clear hf; have HB1 : RowKit.Hid True := Lib.hid trivial)
               | (at_builtin; have := own3; refine append_allN (w0 := w) Row.enc 2 44 56 24 _ w.heap.size v3 _ D _ _ _ rfl _ _ rfl Tryz.underlying56 info_rowR14 rfl (by decide) (by decide) row_len row_one rfl rfl (by first | exact HE.out _ HB3.out | (have := HC0.out _ HB3.out; simpa [Addr.add_lit] using this) | (have := HC0.out _ HB3.out; simpa [Addr.add] using this)) own3 HB3.out HB3.out.size (by simp [HL1.out, HL2.out] <;> omega) ?_; intro v9 w9 own9 hb9 _; have HB9 := Lib.hid hb9; clear hb9 this)
               | (at_builtin; have := HB2; refine append_oneH w2.heap.size rfl Row.enc 2 44 56 24 _ w.heap.size v2 _ ⟨k, n⟩ rfl _ _ rfl Tryz.underlying56 info_rowR14 rfl (by decide) (by decide) row_len row_one rfl rfl own2 HB2.out HB2.out.size (by simp [HL1.out] <;> omega) ?_; intro v3 w3 own3 hb3 _ _; have HB3 := Lib.hid hb3; clear hb3 HB2 own2 this; have hz3 := HB3.out.size)
               | (at_builtin; have := HB1; refine append_allN (w0 := w) Row.enc 2 44 56 24 _ w.heap.size (.slice none 0 0) [] T _ _ _ rfl _ _ rfl Tryz.underlying56 info_rowR14 rfl (by decide) (by decide) row_len row_one rfl rfl (HD0.out _ (Below.refl _ _)) (.nil _ _ _ _ _) (Below.refl _ _) (Nat.le_refl _) (by rw [HL1.out]; simp <;> omega) ?_; intro v2 w2 own2 hb2 _; have HB2 := Lib.hid hb2; clear hb2 HB1 this; have hz2 := HB2.out.size))
             all_goals
               go_ret
               exact ⟨_, rfl, by simpa using own9, HB9.out⟩)
    · obtain ⟨b, o, hA, _⟩ := hrd.at_ (List.getElem?_eq_getElem hpos)
      subst hA
      have hlc2 : p ≤ c := by omega
      have HE : RowKit.Hid (∀ W, Below w.heap.size w W → Rd Row.enc 2 W (.slice (some ⟨b, o + _ * 2, none⟩) (xs.length - _) (c - _)) D) := Lib.hid fun W hb => by rw [← HDE.out]; exact (hrd.drop _ hql _ rfl).below hb
      clear hrd
      go_enter Tryz.func169, Tryz.ntmps169
      go_wp2_with (first
        | (go_at_call 137; refine hf.mono ?_; rintro e _ ⟨rfl, rfl⟩; clear hf; have HB1 : RowKit.Hid True := Lib.hid trivial)
        | (at_builtin; have := own3; refine append_allN (w0 := w) Row.enc 2 44 56 24 _ w.heap.size v3 _ D _ _ _ rfl _ _ rfl Tryz.underlying56 info_rowR14 rfl (by decide) (by decide) row_len row_one rfl rfl (by first | exact HE.out _ HB3.out | (have := HC0.out _ HB3.out; simpa [Addr.add_lit] using this) | (have := HC0.out _ HB3.out; simpa [Addr.add] using this)) own3 HB3.out HB3.out.size (by simp [HL1.out, HL2.out] <;> omega) ?_; intro v9 w9 own9 hb9 _; have HB9 := Lib.hid hb9; clear hb9 this)
        | (at_builtin; have := HB2; refine append_oneH w2.heap.size rfl Row.enc 2 44 56 24 _ w.heap.size v2 _ ⟨k, n⟩ rfl _ _ rfl Tryz.underlying56 info_rowR14 rfl (by decide) (by decide) row_len row_one rfl rfl own2 HB2.out HB2.out.size (by simp [HL1.out] <;> omega) ?_; intro v3 w3 own3 hb3 _ _; have HB3 := Lib.hid hb3; clear hb3 HB2 own2 this; have hz3 := HB3.out.size)
        | (at_builtin; have := HB1; refine append_allN (w0 := w) Row.enc 2 44 56 24 _ w.heap.size (.slice none 0 0) [] T _ _ _ rfl _ _ rfl Tryz.underlying56 info_rowR14 rfl (by decide) (by decide) row_len row_one rfl rfl (HD0.out _ (Below.refl _ _)) (.nil _ _ _ _ _) (Below.refl _ _) (Nat.le_refl _) (by rw [HL1.out]; simp <;> omega) ?_; intro v2 w2 own2 hb2 _; have HB2 := Lib.hid hb2; clear hb2 HB1 this; have hz2 := HB2.out.size))
      all_goals
        go_ret
        exact ⟨_, rfl, by simpa using own9, HB9.out⟩

end Go.Proofs.YtanjgeacmpmjhaaGreatDoor
