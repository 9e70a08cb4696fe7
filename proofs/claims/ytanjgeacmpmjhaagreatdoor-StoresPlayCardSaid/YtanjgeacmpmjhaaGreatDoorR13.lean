import Derived.Test.YtanjgeacmpmjhaaGreatDoorRef0
import Derived.Test.YtanjgeacmpmjhaaGreatDoorMapP
import Derived.Test.YtanjgeacmpmjhaaGreatDoorScanP
import Derived.Test.YtanjgeacmpmjhaaGreatDoorChPure
import Derived.Test.YtanjgeacmpmjhaaGreatDoorTwRow
import Derived.Test.YtanjgeacmpmjhaaGreatDoorLess
import Derived.Lib.SmallJoins
set_option linter.unusedVariables false
set_option linter.unusedSimpArgs false
set_option linter.unusedSectionVars false
namespace Go.Proofs.YtanjgeacmpmjhaaGreatDoor
open Go.RowKit

theorem okKey_size {k : Str} (h : okKey k = true) : k.size ≤ 16 := by
  unfold okKey at h
  simp only [Bool.and_eq_true, decide_eq_true_eq] at h
  exact h.1.2

/-- Where a key's row is put, or taken away. -/
theorem put_del_at (k : Str) (n : Int) {xs : List Row} (hr : Rising xs) : ∃ q, q = posL k xs + (if (getL k xs).isSome then 1 else 0) ∧ q ≤ xs.length ∧ putL k n xs = xs.take (posL k xs) ++ ⟨k, n⟩ :: xs.drop q ∧ delL k xs = xs.take (posL k xs) ++ xs.drop q := by
  have hple := posL_le k xs
  cases hg : getL k xs with
  | none => exact ⟨posL k xs, by simp, hple, put_at k n xs hg hr, by rw [del_none k xs hg, List.take_append_drop]⟩
  | some u =>
    obtain ⟨h1, _, h3, h4⟩ := put_over k n xs u hg hr
    refine ⟨posL k xs + 1, by simp, by omega, ?_, h4⟩
    rw [h3, List.set_eq_take_append_cons_drop, if_pos h1]

theorem info_rowR : (Tryz.prog.info? 44).map (fun i => (i.zero, i.size, i.bytes)) = some (some (.agg #[.string ⟨#[]⟩, .int .u32 0]), 2, 24) := by kernel_rfl

/-- The reference's map of rows. -/
structure RMap (base : Nat) (w : World) (C : Nat) (u : Value) (ys : List Row) : Prop where
  obj : w.heap[C]? = some (.cells #[u] 126 (0, 0))
  own : Own Row.enc 2 44 base w u ys
  rise : Rising ys
  ok : ∀ y ∈ ys, okKey y.k = true
  low : base ≤ C
section
variable {base : Nat} {w w' : World} {C : Nat} {u : Value} {ys : List Row}
theorem RMap.below (h : RMap base w C u ys) (hb : Below w.heap.size w w') : RMap base w' C u ys := ⟨(hb.block C (Array.getElem?_eq_some_iff.1 h.obj).1).trans h.obj, h.own.below hb, h.rise, h.ok, h.low⟩
theorem RMap.lt (h : RMap base w C u ys) : C < w.heap.size := (Array.getElem?_eq_some_iff.1 h.obj).1
theorem RMap.c0 (h : RMap base w C u ys) : w.cell? ⟨C, 0, none⟩ = some u := by rw [heap_cell h.obj]; rfl

theorem getL_step (k : Str) {ys : List Row} {m : Nat} {x : Row} (hx : ys[m]? = some x) (hne : x.k ≠ k) : getL k (ys.drop (m + 1)) = getL k (ys.drop m) := by
  obtain ⟨hm, rfl⟩ := List.getElem?_eq_some_iff.1 hx
  rw [List.drop_eq_getElem_cons hm, getL, if_neg hne]
theorem getL_hit (k : Str) {ys : List Row} {m : Nat} {x : Row} (hx : ys[m]? = some x) (he : x.k = k) : getL k (ys.drop m) = some x.v := by
  obtain ⟨hm, rfl⟩ := List.getElem?_eq_some_iff.1 hx
  rw [List.drop_eq_getElem_cons hm, getL, if_pos he]

set_option maxHeartbeats 400000 in
theorem rget_calls (h : RMap base w C u ys) (hl : ys.length ≤ 1000000) (k : ByteArray) :
    Calls Tryz.prog 26 #[.pointer (some ⟨C, 0, none⟩), .string k] w fun e w' => e = .returned (.tuple #[.int .u32 ((getL k ys).getD 0), .bool (getL k ys).isSome]) ∧ w = w' := by
  have hrd := h.own.rd row_len
  have c0 := h.c0
  obtain ⟨A, c, rfl, hlc, hc⟩ := hrd.shape
  clear h
  go_enter Tryz.func26, Tryz.ntmps26
  go_wp2
  go_loopw [6] (fun i wr => ∃ m : Nat, m ≤ ys.length ∧ i = .int .i64 m ∧ getL k (ys.drop m) = getL k ys ∧ w = wr) (fun i _ => ys.length - (intOf i).toNat)
  case atStart => exact ⟨0, Nat.zero_le _, rfl, rfl, rfl⟩
  case round =>
    obtain ⟨m, hm, rfl, hg, rfl⟩ := hrel
    by_cases hlt : m < ys.length
    · have HX := Lib.hid (List.getElem?_eq_getElem hlt)
      obtain ⟨b, o, rfl, hx1, hx2⟩ := hrd.row (List.getElem?_eq_getElem hlt)
      generalize ys[m] = x at *
      by_cases hk : x.k = k
      · have HG := Lib.hid (hg.symm.trans (getL_hit k HX.out hk))
        have hd : decide (x.k = k) = true := decide_eq_true hk
        clear hg hk
        go_wp2
        go_ret2
        rw [HG.out]
        exact ⟨rfl, rfl⟩
      · have HG := Lib.hid ((getL_step k HX.out hk).trans hg)
        have hd : decide (x.k = k) = false := decide_eq_false hk
        clear hg hk
        go_wp2
        go_roundw
        case rel => exact ⟨m + 1, by omega, by go_num, HG.out, by first | rfl | trivial⟩
        case measure => simp [intOf]; omega
    · have hme : m = ys.length := by omega
      subst hme
      rw [List.drop_length] at hg
      have HG := Lib.hid hg
      clear hg
      go_wp2
      go_ret2
      rw [← HG.out]
      exact ⟨rfl, by first | rfl | trivial⟩

set_option maxHeartbeats 1000000 in
set_option maxRecDepth 100000 in
theorem rset_calls (h : RMap base w C u ys) (hl : ys.length ≤ 1000000) (k : ByteArray) (hk : okKey k = true) (n : Int) (gone : Bool) :
    Calls Tryz.prog 84 #[.pointer (some ⟨C, 0, none⟩), .string k, .int .u32 n, .bool gone] w fun e w' => e = .returned (.tuple #[]) ∧
      ∃ u', RMap base w' C u' (if gone then delL k ys else putL k n ys) ∧ Turn (fun g => g = C) w w' ∧ (∀ g, u'.ownBlock = some g → w.heap.size ≤ g) := by
  have hrd := h.own.rd row_len
  have c0 := h.c0
  have f0 := heap_free h.obj 0
  obtain ⟨A, c, rfl, hlc, hc⟩ := hrd.shape
  have hCl := h.lt
  have hple := posL_le k ys
  obtain ⟨q, hqe, hql, hput, hdel⟩ := put_del_at k n h.rise
  have hsearch := Lib.hid (pos_search (k := k) h.rise)
  have hfound := Lib.hid (pos_found (k := k) h.rise)
  have hks := okKey_size hk
  have hend : (∃ x, posL k ys < ys.length ∧ ys[posL k ys]? = some x ∧ slt x.k k = false ∧ decide (x.k = k) = (getL k ys).isSome) ∨ (posL k ys = ys.length ∧ (getL k ys).isSome = false) := by
    by_cases hp : posL k ys < ys.length
    · have hx := List.getElem?_eq_getElem hp
      refine .inl ⟨_, hp, hx, ?_, ?_⟩
      · cases h : slt ys[posL k ys].k k
        · rfl
        · exact absurd ((hsearch.out _ _ hx).1 h) (by omega)
      · rw [Bool.eq_iff_iff, decide_eq_true_eq, Option.isSome_iff_ne_none, ← hfound.out]
        exact ⟨fun h => ⟨_, hx, h⟩, fun ⟨y, hy, hk⟩ => by rw [hx] at hy; injection hy with hy; rw [hy]; exact hk⟩
    · refine .inr ⟨by omega, ?_⟩
      cases hg : getL k ys with
      | none => rfl
      | some v =>
        obtain ⟨y, hy, _⟩ := hfound.out.2 (by rw [hg]; simp)
        exact absurd (List.getElem?_eq_some_iff.1 hy).1 hp
  have hlow : ∀ (m : Nat) (x : Row), ys[m]? = some x → m < posL k ys → slt x.k k = true := fun m x hx => (hsearch.out m x hx).2
  clear hsearch hfound
  have hok := h.ok
  have FIN : ∀ (zs : List Row) (v3 : Value) (w4 : World), Rising zs → (∀ y ∈ zs, okKey y.k = true) → Own Row.enc 2 44 w.heap.size w4 v3 zs → Below w.heap.size w w4 →
      ∃ u', RMap base (w4.setCell ⟨C, 0, none⟩ v3) C u' zs ∧ Turn (fun g => g = C) w (w4.setCell ⟨C, 0, none⟩ v3) ∧ (∀ g, u'.ownBlock = some g → w.heap.size ≤ g) := by
    intro zs v3 w4 hz hzo ho hb
    have hlb := h.low
    have ho4 := (hb.block C hCl).trans h.obj
    refine ⟨v3, ⟨Joins.block_setCell (i := 0) ho4 _, (ho.lower (by omega)).turn (.setCell _ _ _ _) fun g hg e => by have := ho.base_le g hg; omega, hz, hzo, hlb⟩, (Turn.of_below hb).trans (.setCell _ _ _ _), fun g hg => ho.base_le g hg⟩
  have hpo : ∀ y ∈ putL k n ys, okKey y.k = true := fun y hy => by
    rcases putL_mem hy with rfl | hy
    · exact hk
    · exact hok y hy
  have HF1 := Lib.hid (FIN _ · · (putL_rising (k := k) (v := n) h.rise) hpo)
  have HF2 := Lib.hid (FIN _ · · (delL_rising (k := k) h.rise) (fun y hy => hok y (delL_mem hy)))
  clear hpo
  have HG : RowKit.Hid ((if gone = true then delL k ys else putL k n ys) = if gone = true then ys.take (posL k ys) ++ ys.drop q else ys.take (posL k ys) ++ ⟨k, n⟩ :: ys.drop q) := by
    rw [← hput, ← hdel]; exact Lib.hid rfl
  rw [hput] at HF1
  rw [hdel] at HF2
  rw [HG.out]
  have hobj := h.obj
  have hokx : ∀ x ∈ ys, x.k.size ≤ 9223372036854775807 := fun x hx => by have := okKey_size (hok x hx); omega
  clear FIN hput hdel HG h hok hk
  generalize posL k ys = p at *
  generalize (getL k ys).isSome = is at *
  have HD0 : RowKit.Hid (∀ W, Below w.heap.size w W → Rd Row.enc 2 W (.slice A p c) (ys.take p)) := Lib.hid fun W hb => (hrd.takeQ p hple).below hb
  have HC0 : RowKit.Hid (∀ W, Below w.heap.size w W → Rd Row.enc 2 W (.slice (if c = q then A else A.map fun x => x.add (q * 2)) (ys.length - q) (c - q)) (ys.drop q)) := Lib.hid fun W hb => (hrd.cut q hql).below hb
  have hlt1 : (ys.take p).length = p := by rw [List.length_take]; omega
  have hlt2 : (ys.drop q).length = ys.length - q := List.length_drop
  have HL1 := Lib.hid hlt1
  have HL2 := Lib.hid hlt2
  clear hlt1 hlt2
  generalize hT : ys.take p = T at *
  generalize hD : ys.drop q = D at *
  have HDE := Lib.hid hD
  clear hT hD
  cases gone
  case' false => have TF : RowKit.Hid True := Lib.hid trivial
  case' true => have TT : RowKit.Hid True := Lib.hid trivial
  all_goals
    simp only [Bool.false_eq_true, if_false, if_true]
    go_enter Tryz.func84, Tryz.ntmps84
    go_wp2
    go_loopw [9] (fun i wr => ∃ m : Nat, m ≤ p ∧ i = .int .i64 m ∧ Below w.heap.size w wr) (fun i _ => p - (intOf i).toNat)
    case atStart => exact ⟨0, Nat.zero_le _, rfl, Below.refl _ _⟩
    case round =>
      obtain ⟨m, hm, rfl, hb⟩ := hrel
      have c1 := Below.cell_some hb c0
      by_cases hlt : m < p
      · have hx := List.getElem?_eq_getElem (show m < ys.length by omega)
        have hsl := hlow m _ hx hlt
        obtain ⟨b, o, rfl, hx1, hx2⟩ := hrd.row hx
        generalize ys[m] = x at *
        have hy1 := Below.cell_some hb hx1
        have hxs := hokx x (List.mem_of_getElem? hx)
        have hml : m < ys.length := by omega
        have hles := less_calls x.k k wr hxs (by omega)
        rw [hsl] at hles
        have HB := Lib.hid hb
        clear hsl hx hx1 hx2 c0 hb hend hobj HF1 HF2 HD0 HC0 HL1 HL2
        go_wp2_with (go_at_call 181; refine hles.mono ?_; rintro e w1 ⟨rfl, hb1⟩)
        go_roundw
        case rel => exact ⟨m + 1, by omega, by go_num, Below.step HB.out hb1⟩
        case measure => simp [intOf]; omega
      · have hmp : m = p := by omega
        subst hmp
        have HB := Lib.hid hb
        rcases hend with ⟨x, hpl, hx, hsl, hdk⟩ | ⟨hpe, hise⟩
        · obtain ⟨b, o, rfl, hx1, hx2⟩ := hrd.row hx
          have hy1 := Below.cell_some hb hx1
          have hxs := hokx x (List.mem_of_getElem? hx)
          have hles := less_calls x.k k wr hxs (by omega)
          rw [hsl] at hles
          have HE : RowKit.Hid (∀ W, Below w.heap.size w W → Rd Row.enc 2 W (.slice (some ⟨b, o + q * 2, none⟩) (ys.length - q) (c - q)) D) := Lib.hid fun W hb => by rw [← HDE.out]; exact (hrd.drop q hql _ rfl).below hb
          have hqx : (is = false ∧ m = q) ∨ (is = true ∧ m + 1 = q) := by cases is <;> simp at hqe <;> simp [hqe]
          clear hb hsl hx hx2 hlow hokx hlt hm hrd hqe
          rcases hqx with ⟨rfl, rfl⟩ | ⟨rfl, rfl⟩
          all_goals
            go_wp2_with (first
              | (go_at_call 181; refine hles.mono ?_; rintro e w1 ⟨rfl, hb1⟩; have HB1 := Lib.hid (Below.step HB.out hb1); clear hb1 hles; have c2 := Below.cell_some HB1.out c0)
              | (at_builtin; have := own3; refine append_allN (w0 := w) Row.enc 2 44 56 24 _ w.heap.size v3 _ D _ _ _ rfl _ _ rfl Tryz.underlying56 info_rowR rfl (by decide) (by decide) row_len row_one rfl rfl (by first | exact HE.out _ HB3.out | (have := HC0.out _ HB3.out; simpa [Addr.add_lit] using this) | (have := HC0.out _ HB3.out; simpa [Addr.add] using this)) own3 HB3.out HB3.out.size (by simp [HL1.out, HL2.out] <;> omega) ?_; intro v9 w9 own9 hb9 _; have f9 := heap_free ((hb9.block C hCl).trans hobj) 0; have c9c := Below.cell_some hb9 c0; have HB9 := Lib.hid hb9; clear hb9 this; have e9 : ∃ A n c, v9 = Value.slice A n c := ⟨_, _, _, own9.slice.choose_spec.choose_spec.1⟩; obtain ⟨A9, n9, c9, rfl⟩ := e9)
              | (at_builtin; have := TF; have := HB2; refine append_oneH w2.heap.size rfl Row.enc 2 44 56 24 _ w.heap.size v2 _ ⟨k, n⟩ rfl _ _ rfl Tryz.underlying56 info_rowR rfl (by decide) (by decide) row_len row_one rfl rfl own2 HB2.out HB2.out.size (by simp [HL1.out] <;> omega) ?_; intro v3 w3 own3 hb3 _ _; have HB3 := Lib.hid hb3; clear hb3 HB2 own2 this c3 f3 HY; have c4 := Below.cell_some HB3.out c0; have hz3 := HB3.out.size; have f4 := heap_free ((HB3.out.block C hCl).trans hobj) 0 ; have hy3 := Below.cell_some HB3.out hx1)
              | (at_builtin; have := own2; refine append_allN (w0 := w) Row.enc 2 44 56 24 _ w.heap.size v2 _ D _ _ _ rfl _ _ rfl Tryz.underlying56 info_rowR rfl (by decide) (by decide) row_len row_one rfl rfl (by first | exact HE.out _ HB2.out | (have := HC0.out _ HB2.out; simpa [Addr.add_lit] using this) | (have := HC0.out _ HB2.out; simpa [Addr.add] using this)) own2 HB2.out HB2.out.size (by simp [HL1.out, HL2.out] <;> omega) ?_; intro v9 w9 own9 hb9 _; have f9 := heap_free ((hb9.block C hCl).trans hobj) 0; have c9c := Below.cell_some hb9 c0; have HB9 := Lib.hid hb9; clear hb9 this; have e9 : ∃ A n c, v9 = Value.slice A n c := ⟨_, _, _, own9.slice.choose_spec.choose_spec.1⟩; obtain ⟨A9, n9, c9, rfl⟩ := e9)
              | (at_builtin; have := HB1; refine append_allN (w0 := w) Row.enc 2 44 56 24 _ w.heap.size (.slice none 0 0) [] T _ _ _ rfl _ _ rfl Tryz.underlying56 info_rowR rfl (by decide) (by decide) row_len row_one rfl rfl (HD0.out _ HB1.out) (.nil _ _ _ _ _) HB1.out HB1.out.size (by rw [HL1.out]; simp <;> omega) ?_; intro v2 w2 own2 hb2 _; have HB2 := Lib.hid hb2; clear hb2 HB1 HB this c1 c2; have c3 := Below.cell_some HB2.out c0; have hz2 := HB2.out.size; have f3 := heap_free ((HB2.out.block C hCl).trans hobj) 0; have hy2 := Below.cell_some HB2.out hx1; have HY := hy2))
            all_goals
              go_end0
              first | exact ⟨rfl, (have := TF; HF1.out _ _ (by simpa using own9) HB9.out)⟩ | exact ⟨rfl, (have := TT; HF2.out _ _ (by simpa using own9) HB9.out)⟩
        · have HE : RowKit.Hid True := Lib.hid trivial
          have hqx : m = q := by rw [hise] at hqe; simp at hqe; omega
          have HB1 := Lib.hid hb
          rcases Nat.eq_zero_or_pos ys.length with h0 | hpos
          · have hy0 : ys = [] := List.length_eq_zero_iff.1 h0
            subst hy0
            simp only [List.length_nil] at hpe
            subst hpe
            subst hqx
            clear hb hlow hokx hlt hm hrd hqe HB hise is h0
            cases A <;> rcases Nat.eq_zero_or_pos c with rfl | hc0
            all_goals
              go_wp2_with (first
                | (at_builtin; have := own3; refine append_allN (w0 := w) Row.enc 2 44 56 24 _ w.heap.size v3 _ D _ _ _ rfl _ _ rfl Tryz.underlying56 info_rowR rfl (by decide) (by decide) row_len row_one rfl rfl (by first | exact HE.out _ HB3.out | (have := HC0.out _ HB3.out; simpa [Addr.add_lit] using this) | (have := HC0.out _ HB3.out; simpa [Addr.add] using this)) own3 HB3.out HB3.out.size (by simp [HL1.out, HL2.out] <;> omega) ?_; intro v9 w9 own9 hb9 _; have f9 := heap_free ((hb9.block C hCl).trans hobj) 0; have c9c := Below.cell_some hb9 c0; have HB9 := Lib.hid hb9; clear hb9 this; have e9 : ∃ A n c, v9 = Value.slice A n c := ⟨_, _, _, own9.slice.choose_spec.choose_spec.1⟩; obtain ⟨A9, n9, c9, rfl⟩ := e9)
                | (at_builtin; have := TF; have := HB2; refine append_oneH w2.heap.size rfl Row.enc 2 44 56 24 _ w.heap.size v2 _ ⟨k, n⟩ rfl _ _ rfl Tryz.underlying56 info_rowR rfl (by decide) (by decide) row_len row_one rfl rfl own2 HB2.out HB2.out.size (by simp [HL1.out] <;> omega) ?_; intro v3 w3 own3 hb3 _ _; have HB3 := Lib.hid hb3; clear hb3 HB2 own2 this c3 f3; have c4 := Below.cell_some HB3.out c0; have hz3 := HB3.out.size; have f4 := heap_free ((HB3.out.block C hCl).trans hobj) 0 )
                | (at_builtin; have := own2; refine append_allN (w0 := w) Row.enc 2 44 56 24 _ w.heap.size v2 _ D _ _ _ rfl _ _ rfl Tryz.underlying56 info_rowR rfl (by decide) (by decide) row_len row_one rfl rfl (by first | exact HE.out _ HB2.out | (have := HC0.out _ HB2.out; simpa [Addr.add_lit] using this) | (have := HC0.out _ HB2.out; simpa [Addr.add] using this)) own2 HB2.out HB2.out.size (by simp [HL1.out, HL2.out] <;> omega) ?_; intro v9 w9 own9 hb9 _; have f9 := heap_free ((hb9.block C hCl).trans hobj) 0; have c9c := Below.cell_some hb9 c0; have HB9 := Lib.hid hb9; clear hb9 this; have e9 : ∃ A n c, v9 = Value.slice A n c := ⟨_, _, _, own9.slice.choose_spec.choose_spec.1⟩; obtain ⟨A9, n9, c9, rfl⟩ := e9)
                | (at_builtin; have := HB1; refine append_allN (w0 := w) Row.enc 2 44 56 24 _ w.heap.size (.slice none 0 0) [] T _ _ _ rfl _ _ rfl Tryz.underlying56 info_rowR rfl (by decide) (by decide) row_len row_one rfl rfl (HD0.out _ HB1.out) (.nil _ _ _ _ _) HB1.out HB1.out.size (by rw [HL1.out]; simp <;> omega) ?_; intro v2 w2 own2 hb2 _; have HB2 := Lib.hid hb2; clear hb2 HB1 this c1; have c3 := Below.cell_some HB2.out c0; have hz2 := HB2.out.size; have f3 := heap_free ((HB2.out.block C hCl).trans hobj) 0))
              all_goals
                go_end0
                first | exact ⟨rfl, (have := TF; HF1.out _ _ (by simpa using own9) HB9.out)⟩ | exact ⟨rfl, (have := TT; HF2.out _ _ (by simpa using own9) HB9.out)⟩
          · obtain ⟨b, o, hA, _⟩ := hrd.at_ (List.getElem?_eq_getElem hpos)
            subst hA
            clear hb hlow hokx hlt hm hrd hqe HB hise is
            subst hqx
            subst hpe
            go_wp2_with (first
              | (at_builtin; have := own3; refine append_allN (w0 := w) Row.enc 2 44 56 24 _ w.heap.size v3 _ D _ _ _ rfl _ _ rfl Tryz.underlying56 info_rowR rfl (by decide) (by decide) row_len row_one rfl rfl (by first | exact HE.out _ HB3.out | (have := HC0.out _ HB3.out; simpa [Addr.add_lit] using this) | (have := HC0.out _ HB3.out; simpa [Addr.add] using this)) own3 HB3.out HB3.out.size (by simp [HL1.out, HL2.out] <;> omega) ?_; intro v9 w9 own9 hb9 _; have f9 := heap_free ((hb9.block C hCl).trans hobj) 0; have c9c := Below.cell_some hb9 c0; have HB9 := Lib.hid hb9; clear hb9 this; have e9 : ∃ A n c, v9 = Value.slice A n c := ⟨_, _, _, own9.slice.choose_spec.choose_spec.1⟩; obtain ⟨A9, n9, c9, rfl⟩ := e9)
              | (at_builtin; have := TF; have := HB2; refine append_oneH w2.heap.size rfl Row.enc 2 44 56 24 _ w.heap.size v2 _ ⟨k, n⟩ rfl _ _ rfl Tryz.underlying56 info_rowR rfl (by decide) (by decide) row_len row_one rfl rfl own2 HB2.out HB2.out.size (by simp [HL1.out] <;> omega) ?_; intro v3 w3 own3 hb3 _ _; have HB3 := Lib.hid hb3; clear hb3 HB2 own2 this c3 f3; have c4 := Below.cell_some HB3.out c0; have hz3 := HB3.out.size; have f4 := heap_free ((HB3.out.block C hCl).trans hobj) 0 )
              | (at_builtin; have := own2; refine append_allN (w0 := w) Row.enc 2 44 56 24 _ w.heap.size v2 _ D _ _ _ rfl _ _ rfl Tryz.underlying56 info_rowR rfl (by decide) (by decide) row_len row_one rfl rfl (by first | exact HE.out _ HB2.out | (have := HC0.out _ HB2.out; simpa [Addr.add_lit] using this) | (have := HC0.out _ HB2.out; simpa [Addr.add] using this)) own2 HB2.out HB2.out.size (by simp [HL1.out, HL2.out] <;> omega) ?_; intro v9 w9 own9 hb9 _; have f9 := heap_free ((hb9.block C hCl).trans hobj) 0; have c9c := Below.cell_some hb9 c0; have HB9 := Lib.hid hb9; clear hb9 this; have e9 : ∃ A n c, v9 = Value.slice A n c := ⟨_, _, _, own9.slice.choose_spec.choose_spec.1⟩; obtain ⟨A9, n9, c9, rfl⟩ := e9)
              | (at_builtin; have := HB1; refine append_allN (w0 := w) Row.enc 2 44 56 24 _ w.heap.size (.slice none 0 0) [] T _ _ _ rfl _ _ rfl Tryz.underlying56 info_rowR rfl (by decide) (by decide) row_len row_one rfl rfl (HD0.out _ HB1.out) (.nil _ _ _ _ _) HB1.out HB1.out.size (by rw [HL1.out]; simp <;> omega) ?_; intro v2 w2 own2 hb2 _; have HB2 := Lib.hid hb2; clear hb2 HB1 this c1; have c3 := Below.cell_some HB2.out c0; have hz2 := HB2.out.size; have f3 := heap_free ((HB2.out.block C hCl).trans hobj) 0))
            all_goals
              go_end0
              first | exact ⟨rfl, (have := TF; HF1.out _ _ (by simpa using own9) HB9.out)⟩ | exact ⟨rfl, (have := TT; HF2.out _ _ (by simpa using own9) HB9.out)⟩
end

end Go.Proofs.YtanjgeacmpmjhaaGreatDoor
