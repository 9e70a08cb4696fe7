import Derived.Test.YtimadkbdkdeepaaVerF
import Derived.Test.YtimadkbdkdeepaaVAct
set_option linter.unusedVariables false
set_option linter.unusedSimpArgs false
namespace Go.Proofs.Ytimadkbdkdeepaa
open Go.RowKit Go.Shelf

theorem two_wraps {a b : Nat} (h : a + (1 + b) ≤ 360000000000000) : wrap64 (wrap64 ((a : Int) + 1) + b) = ((a + (1 + b) : Nat) : Int) := by
  unfold wrap64
  omega

/-- what great tells. -/
def Told (xs : List VAct) (e : Ending) : Prop := ∃ g, e = .returned (.bool g) ∧ (g = false → xs.length ≤ 60 ∧ sumA xs ≤ 600)

set_option maxHeartbeats 400000 in
theorem vgreat_calls (v : Value) (xs : List VAct) (w : World) (hv : Rd VAct.enc 3 w v xs) (hl : xs.length ≤ 140737488351232) (hok : ∀ x ∈ xs, x.ok w) :
    Calls Try.prog 7 #[v] w fun e w' => Told xs e ∧ Below w.heap.size w w' := by
  have hsum := sumA_bound xs hok
  obtain ⟨A, c, rfl, hlc, hc⟩ := hv.shape
  go_enter Try.func7, Try.ntmps7
  go_wp2
  go_loopw [3, 4] (fun nv iv wr => ∃ (k : Nat) (n : Int), k ≤ xs.length ∧ iv = .int .i64 k ∧ nv = .int .i64 n ∧ (xs.length ≤ 60 → n = sumA (xs.take k)) ∧ Below w.heap.size w wr) (fun _ iv _ => xs.length - (intOf iv).toNat)
  case atStart => exact ⟨0, 0, Nat.zero_le _, rfl, rfl, fun _ => rfl, Below.refl _ _⟩
  case round =>
    obtain ⟨k, n, hk, rfl, rfl, hn, hb⟩ := hrel
    by_cases hlt : k < xs.length
    · have hxk := List.getElem?_eq_getElem hlt
      have hxo := hok _ (List.getElem_mem hlt)
      have hsn := sumA_take xs k _ hxk
      have hsl := sumA_le xs (k + 1)
      obtain ⟨b, o, rfl, hx1, hx2, hx3⟩ := (hv.below hb).vact hxk
      generalize xs[k] = x at *
      obtain ⟨xq, xv, xc, xa⟩ := x
      obtain ⟨A2, c2, hsh, hlc2, hc2⟩ := hxo.rd.shape
      simp only at hsh hx1 hx2 hx3
      subst hsh
      have HN := Lib.hid hn
      have HS := Lib.hid hsn
      clear hn hsn
      go_wp2
      go_roundw
      case rel =>
        refine ⟨k + 1, _, by omega, by go_num, rfl, fun h60 => ?_, hb⟩
        have h1 := HN.out h60
        have h2 := HS.out
        simp only at h2
        have hs60 : sumA xs ≤ 360000000000000 := by omega
        rw [h2] at hsl ⊢
        rw [h1]
        exact two_wraps (by omega)
      case measure => simp [intOf]; omega
    · have hkl : k = xs.length := by omega
      subst hkl
      rw [List.take_length] at hn
      by_cases h1 : n > 600
      · go_wp2
        go_ret
        exact ⟨⟨true, rfl, fun h => by cases h⟩, hb⟩
      · by_cases h2 : xs.length > 60
        · go_wp2
          go_ret
          exact ⟨⟨decide (60 < (xs.length : Int)), rfl, fun h => by simp at h; omega⟩, hb⟩
        · go_wp2
          go_ret
          exact ⟨⟨decide (60 < (xs.length : Int)), rfl, fun _ => ⟨by omega, by have := hn (by omega); omega⟩⟩, hb⟩

theorem nat_of_u32 {m : Int} (hm : (Lit.int .u32 m).wf = true) : ∃ a : Nat, m = a := by
  have h0 : IntKind.u32.min = 0 := by decide +kernel
  simp [Lit.wf] at hm
  exact ⟨m.toNat, by omega⟩

/-- A past, behind some acts. -/
def PastI (base : Nat) (W0 : World) (B : Nat) (S k : Nat) (w : World) : Prop := ∃ hist trim, PastP base w B hist trim ∧ hist.flatten.length ≤ S ∧ hist.length ≤ k ∧ PStep base W0 w

theorem vtrim_I {base : Nat} {W0 w : World} {B S k : Nat} (h : PastI base W0 B S k w) (hS : S ≤ 1000000) {m : Int} (hm : (Lit.int .u32 m).wf = true) :
    Calls Try.prog 10 #[.pointer (some ⟨B, 0, none⟩), .int .u32 m] w fun e w' => (∃ r, e = .returned (.int .i64 r)) ∧ PastI base W0 B S (k + 1) w' := by
  obtain ⟨hist, trim, hP, h1, h2, hps⟩ := h
  obtain ⟨a, rfl⟩ : ∃ a : Nat, m = a := nat_of_u32 hm
  refine (ptrim_P hP a (by omega)).mono ?_
  rintro e w' ⟨⟨_, _, rfl, hP'⟩ | ⟨_, rfl, hP'⟩, hps'⟩
  · exact ⟨⟨_, rfl⟩, hist, a, hP', h1, by omega, hps.trans hps'⟩
  · exact ⟨⟨_, rfl⟩, hist, trim, hP', h1, by omega, hps.trans hps'⟩

theorem vcommit_I {base : Nat} {W0 w : World} {B S k : Nat} (h : PastI base W0 B S k w) {vc : Value} {cs : List Change} (hc : RdS Change.enc 3 base w vc cs) (hk : ∀ c ∈ cs, c.ok) (hS : S + cs.length ≤ 1000000) (hkk : k ≤ 1000000) :
    Calls Try.prog 11 #[.pointer (some ⟨B, 0, none⟩), vc] w fun e w' => (∃ a r, e = .returned (.tuple #[.int .u32 a, .int .i64 r])) ∧ PastI base W0 B (S + cs.length) (k + 1) w' := by
  obtain ⟨hist, trim, hP, h1, h2, hps⟩ := h
  refine (pcommit_P hP hc (fun c hcm => by have := (hk c hcm).1; unfold small at this; omega) (by omega) (by omega)).mono ?_
  rintro e w' ⟨⟨_, rfl, hP'⟩ | ⟨_, rfl, hP'⟩, hps'⟩
  · exact ⟨⟨_, _, rfl⟩, hist ++ [cs], trim, hP', by rw [List.flatten_append, List.length_append]; simp only [List.flatten_cons, List.flatten_nil, List.append_nil]; omega, by simp; omega, hps.trans hps'⟩
  · exact ⟨⟨_, _, rfl⟩, hist, trim, hP', by omega, by omega, hps.trans hps'⟩

theorem PastI.below {base : Nat} {W0 w : World} {B S k : Nat} (h : PastI base W0 B S k w) (hb : base ≤ W0.heap.size) : Below base W0 w := by
  obtain ⟨_, _, _, _, _, hps⟩ := h
  exact hps.below hb
theorem PastI.mono {base : Nat} {W0 w : World} {B S k S' k' : Nat} (h : PastI base W0 B S k w) (hS : S ≤ S') (hk : k ≤ k') : PastI base W0 B S' k' w := by
  obtain ⟨hist, trim, hP, h1, h2, hps⟩ := h
  exact ⟨hist, trim, hP, by omega, by omega, hps⟩
theorem VAct.ok.below {w W : World} {x : VAct} (h : x.ok w) (hb : Below w.heap.size w W) : x.ok W := ⟨h.q, h.at_, h.rd.below hb, h.len, h.each⟩

/-- A scan of all. -/
theorem pscan_all {base : Nat} {w : World} {B : Nat} {hist : List (List Change)} {trim : Nat} (h : PastP base w B hist trim) (hl : hist.flatten.length ≤ 1000) (at' : Nat) (f t : ByteArray) (rs : List Row) (hrs : rowsIn f t (rowsN hist (max at' trim)) = rs) :
    Calls Try.prog 13 #[.pointer (some ⟨B, 0, none⟩), .int .u32 at', .agg #[.string f, .string t], .int .i64 1000] w
      fun e w' => ∃ A c, e = .returned (.slice A rs.length c) ∧ Below w.heap.size w w' ∧ Rd Row.enc 2 w' (.slice A rs.length c) rs := by
  have := pscan_P h (by omega) at' f t 1000
  rw [hrs] at this
  have e : rs.take (1000 : Int).toNat = rs := by
    refine List.take_of_length_le ?_
    have h1 := rowsN_length hist (max at' trim)
    have h2 : rs.length ≤ (rowsN hist (max at' trim)).length := by rw [← hrs]; exact List.length_filter_le _ _
    show rs.length ≤ 1000
    omega
  rwa [e] at this

/-- A commit of what is typed out. -/
theorem vcommit_any {base : Nat} {w : World} {B : Nat} {hist : List (List Change)} {trim : Nat} (cs : List Change) (hk : ∀ c ∈ cs, c.k.size ≤ 9223372036854775807) (hl : hist.flatten.length + cs.length ≤ 1000000) (hl2 : hist.length ≤ 1000000) (h : PastP base w B hist trim) :
    Calls Try.prog 11 #[.pointer (some ⟨B, 0, none⟩), .slice (some ⟨w.heap.size, 0, none⟩) cs.length cs.length] (w.alloc (.cells (cs.flatMap Change.enc).toArray 48))
      fun e w' => ((cs.all okChange = true ∧ e = .returned (.tuple #[.int .u32 ((hist.length : Int) + 1), .int .i64 0]) ∧ PastP base w' B (hist ++ [cs]) trim) ∨
        (cs.all okChange = false ∧ e = .returned (.tuple #[.int .u32 0, .int .i64 1]) ∧ PastP base w' B hist trim)) ∧ PStep base w w' := by
  have hb : Below w.heap.size w (w.alloc (.cells (cs.flatMap Change.enc).toArray 48)) := (Below.refl _ w).alloc (Nat.le_refl _) _
  have hr : RdS Change.enc 3 base (w.alloc (.cells (cs.flatMap Change.enc).toArray 48)) (.slice (some ⟨w.heap.size, 0, none⟩) cs.length cs.length) cs := by
    refine ⟨rd_lit Change.enc 3 change_len 48 cs (by omega) w, fun b e _ => .inr ?_⟩
    injection e with e
    subst e
    exact ⟨_, _, _, alloc_at' _ rfl, by decide, by decide⟩
  refine (pcommit_P (h.below hb) hr hk hl hl2).mono ?_
  rintro e w' ⟨⟨h1, rfl, hP⟩ | ⟨h1, rfl, hP⟩, hps⟩
  · exact ⟨.inl ⟨h1, rfl, hP⟩, (PStep.of_below hb).trans hps⟩
  · exact ⟨.inr ⟨h1, rfl, hP⟩, (PStep.of_below hb).trans hps⟩

theorem add0_l (b : ByteArray) : (Str.l (b ++ (⟨#[48]⟩ : ByteArray))) = Str.l b ++ [48] := by
  show (b ++ (⟨#[48]⟩ : ByteArray)).data.toList = b.data.toList ++ [48]
  rw [ByteArray.data_append]
  simp

end Go.Proofs.Ytimadkbdkdeepaa
