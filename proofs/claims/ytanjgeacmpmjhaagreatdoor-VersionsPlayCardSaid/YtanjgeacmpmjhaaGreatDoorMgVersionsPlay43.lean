import Derived.Test.YtanjgeacmpmjhaaGreatDoorVerF
import Derived.Test.YtanjgeacmpmjhaaGreatDoorMgVersionsPlay10
import Derived.Test.YtanjgeacmpmjhaaGreatDoorMgVersionsPlay28
set_option linter.unusedVariables false
set_option linter.unusedSimpArgs false
namespace Go.Proofs.YtanjgeacmpmjhaaGreatDoor
open Go.RowKit Go.Shelf

theorem two_wraps {a b : Nat} (h : a + (1 + b) ≤ 360000000000000) : wrap64 (wrap64 ((a : Int) + 1) + b) = ((a + (1 + b) : Nat) : Int) := by
  unfold wrap64
  omega

/-- what great tells. -/
def Told (xs : List VAct) (e : Ending) : Prop := ∃ g, e = .returned (.bool g) ∧ (g = false → xs.length ≤ 60 ∧ sumA xs ≤ 600)

set_option maxHeartbeats 400000 in
theorem vgreat_calls (v : Value) (xs : List VAct) (w : World) (hv : Rd VAct.enc 3 w v xs) (hl : xs.length ≤ 140737488351232) (hok : ∀ x ∈ xs, x.ok w) :
    Calls Tryz.prog 31 #[v] w fun e w' => Told xs e ∧ Below w.heap.size w w' := by
  have hsum := sumA_bound xs hok
  obtain ⟨A, c, rfl, hlc, hc⟩ := hv.shape
  go_enter Tryz.func31, Tryz.ntmps31
  go_wp2
  go_loopw [3, 4] (fun nv iv wr => ∃ (k : Nat) (n : Int), k ≤ xs.length ∧ iv = .int .i64 k ∧ nv = .int .i64 n ∧ (xs.length ≤ 60 → n = sumA (xs.take k)) ∧ Below w.heap.size w wr) (fun _ iv _ => xs.length - (intOf iv).toNat)
  case atStart => exact ⟨0, 0, Nat.zero_le _, rfl, rfl, fun _ => rfl, Below.refl _ _⟩
  case round =>
    obtain ⟨k, n, hk, rfl, rfl, hn, hb⟩ := hrel
    by_cases hlt : k < xs.length
    · have hxk := List.getElem?_eq_getElem hlt
      have hxo := hok _ (List.getElem_mem hlt)
      have hsn := sumA_take xs k _ hxk
      have hsl := sumA_le xs (k + 1)
      obtain ⟨b, o, rfl, hx1, hx2, hx3⟩ := (hv.below hb).vact hxk
      generalize xs[k] = x at *
      obtain ⟨xq, xv, xc, xa⟩ := x
      obtain ⟨A2, c2, hsh, hlc2, hc2⟩ := hxo.rd.shape
      simp only at hsh hx1 hx2 hx3
      subst hsh
      have HN := Lib.hid hn
      have HS := Lib.hid hsn
      clear hn hsn
      go_wp2
      go_roundw
      case rel =>
        refine ⟨k + 1, _, by omega, by go_num, rfl, fun h60 => ?_, hb⟩
        have h1 := HN.out h60
        have h2 := HS.out
        simp only at h2
        have hs60 : sumA xs ≤ 360000000000000 := by omega
        rw [h2] at hsl ⊢
        rw [h1]
        exact two_wraps (by omega)
      case measure => simp [intOf]; omega
    · have hkl : k = xs.length := by omega
      subst hkl
      rw [List.take_length] at hn
      by_cases h1 : n > 600
      · go_wp2
        go_ret
        exact ⟨⟨true, rfl, fun h => by cases h⟩, hb⟩
      · by_cases h2 : xs.length > 60
        · go_wp2
          go_ret
          exact ⟨⟨decide (60 < (xs.length : Int)), rfl, fun h => by simp at h; omega⟩, hb⟩
        · go_wp2
          go_ret
          exact ⟨⟨decide (60 < (xs.length : Int)), rfl, fun _ => ⟨by omega, by have := hn (by omega); omega⟩⟩, hb⟩

theorem nat_of_u32 {m : Int} (hm : (Lit.int .u32 m).wf = true) : ∃ a : Nat, m = a := by
  have h0 : IntKind.u32.min = 0 := by decide +kernel
  simp [Lit.wf] at hm
  exact ⟨m.toNat, by omega⟩

/-- A past, behind some acts. -/
def PastI (base : Nat) (W0 : World) (B : Nat) (S k : Nat) (w : World) : Prop := ∃ hist trim, PastP base w B hist trim ∧ hist.flatten.length ≤ S ∧ hist.length ≤ k ∧ PStep base W0 w

theorem vtrim_I {base : Nat} {W0 w : World} {B S k : Nat} (h : PastI base W0 B S k w) (hS : S ≤ 1000000) {m : Int} (hm : (Lit.int .u32 m).wf = true) :
    Calls Tryz.prog 35 #[.pointer (some ⟨B, 0, none⟩), .int .u32 m] w fun e w' => (∃ r, e = .returned (.int .i64 r)) ∧ PastI base W0 B S (k + 1) w' := by
  obtain ⟨hist, trim, hP, h1, h2, hps⟩ := h
  obtain ⟨a, rfl⟩ : ∃ a : Nat, m = a := nat_of_u32 hm
  refine (ptrim_P hP a (by omega)).mono ?_
  rintro e w' ⟨⟨_, _, rfl, hP'⟩ | ⟨_, rfl, hP'⟩, hps'⟩
  · exact ⟨⟨_, rfl⟩, hist, a, hP', h1, by omega, hps.trans hps'⟩
  · exact ⟨⟨_, rfl⟩, hist, trim, hP', h1, by omega, hps.trans hps'⟩

theorem vcommit_I {base : Nat} {W0 w : World} {B S k : Nat} (h : PastI base W0 B S k w) {vc : Value} {cs : List Change} (hc : RdS Change.enc 3 base w vc cs) (hk : ∀ c ∈ cs, c.ok) (hS : S + cs.length ≤ 1000000) (hkk : k ≤ 1000000) :
    Calls Tryz.prog 37 #[.pointer (some ⟨B, 0, none⟩), vc] w fun e w' => (∃ a r, e = .returned (.tuple #[.int .u32 a, .int .i64 r])) ∧ PastI base W0 B (S + cs.length) (k + 1) w' := by
  obtain ⟨hist, trim, hP, h1, h2, hps⟩ := h
  refine (pcommit_P hP hc (fun c hcm => by have := (hk c hcm).1; unfold small at this; omega) (by omega) (by omega)).mono ?_
  rintro e w' ⟨⟨_, rfl, hP'⟩ | ⟨_, rfl, hP'⟩, hps'⟩
  · exact ⟨⟨_, _, rfl⟩, hist ++ [cs], trim, hP', by rw [List.flatten_append, List.length_append]; simp only [List.flatten_cons, List.flatten_nil, List.append_nil]; omega, by simp; omega, hps.trans hps'⟩
  · exact ⟨⟨_, _, rfl⟩, hist, trim, hP', by omega, by omega, hps.trans hps'⟩

theorem PastI.below {base : Nat} {W0 w : World} {B S k : Nat} (h : PastI base W0 B S k w) (hb : base ≤ W0.heap.size) : Below base W0 w := by
  obtain ⟨_, _, _, _, _, hps⟩ := h
  exact hps.below hb
theorem PastI.mono {base : Nat} {W0 w : World} {B S k S' k' : Nat} (h : PastI base W0 B S k w) (hS : S ≤ S') (hk : k ≤ k') : PastI base W0 B S' k' w := by
  obtain ⟨hist, trim, hP, h1, h2, hps⟩ := h
  exact ⟨hist, trim, hP, by omega, by omega, hps⟩
theorem VAct.ok.below {w W : World} {x : VAct} (h : x.ok w) (hb : Below w.heap.size w W) : x.ok W := ⟨h.q, h.at_, h.rd.below hb, h.len, h.each⟩

/-- A scan of all. -/
theorem pscan_all {base : Nat} {w : World} {B : Nat} {hist : List (List Change)} {trim : Nat} (h : PastP base w B hist trim) (hl : hist.flatten.length ≤ 1000) (at' : Nat) (f t : ByteArray) (rs : List Row) (hrs : rowsIn f t (rowsN hist (max at' trim)) = rs) :
    Calls Tryz.prog 41 #[.pointer (some ⟨B, 0, none⟩), .int .u32 at', .agg #[.string f, .string t], .int .i64 1000] w
      fun e w' => ∃ A c, e = .returned (.slice A rs.length c) ∧ Below w.heap.size w w' ∧ Rd Row.enc 2 w' (.slice A rs.length c) rs := by
  have := pscan_P h (by omega) at' f t 1000
  rw [hrs] at this
  have e : rs.take (1000 : Int).toNat = rs := by
    refine List.take_of_length_le ?_
    have h1 := rowsN_length hist (max at' trim)
    have h2 : rs.length ≤ (rowsN hist (max at' trim)).length := by rw [← hrs]; exact List.length_filter_le _ _
    show rs.length ≤ 1000
    omega
  rwa [e] at this

/-- A commit of what is typed out. -/
theorem vcommit_any {base : Nat} {w : World} {B : Nat} {hist : List (List Change)} {trim : Nat} (cs : List Change) (hk : ∀ c ∈ cs, c.k.size ≤ 9223372036854775807) (hl : hist.flatten.length + cs.length ≤ 1000000) (hl2 : hist.length ≤ 1000000) (h : PastP base w B hist trim) :
    Calls Tryz.prog 37 #[.pointer (some ⟨B, 0, none⟩), .slice (some ⟨w.heap.size, 0, none⟩) cs.length cs.length] (w.alloc (.cells (cs.flatMap Change.enc).toArray 128))
      fun e w' => ((cs.all okChange = true ∧ e = .returned (.tuple #[.int .u32 ((hist.length : Int) + 1), .int .i64 0]) ∧ PastP base w' B (hist ++ [cs]) trim) ∨
        (cs.all okChange = false ∧ e = .returned (.tuple #[.int .u32 0, .int .i64 1]) ∧ PastP base w' B hist trim)) ∧ PStep base w w' := by
  have hb : Below w.heap.size w (w.alloc (.cells (cs.flatMap Change.enc).toArray 128)) := (Below.refl _ w).alloc (Nat.le_refl _) _
  have hr : RdS Change.enc 3 base (w.alloc (.cells (cs.flatMap Change.enc).toArray 128)) (.slice (some ⟨w.heap.size, 0, none⟩) cs.length cs.length) cs := by
    refine ⟨rd_lit Change.enc 3 change_len 128 cs (by omega) w, fun b e _ => .inr ?_⟩
    injection e with e
    subst e
    exact ⟨_, _, _, alloc_at' _ rfl, by decide, by decide⟩
  refine (pcommit_P (h.below hb) hr hk hl hl2).mono ?_
  rintro e w' ⟨⟨h1, rfl, hP⟩ | ⟨h1, rfl, hP⟩, hps⟩
  · exact ⟨.inl ⟨h1, rfl, hP⟩, (PStep.of_below hb).trans hps⟩
  · exact ⟨.inr ⟨h1, rfl, hP⟩, (PStep.of_below hb).trans hps⟩

theorem add0_l (b : ByteArray) : (Str.l (b ++ (⟨#[48]⟩ : ByteArray))) = Str.l b ++ [48] := by
  show (b ++ (⟨#[48]⟩ : ByteArray)).data.toList = b.data.toList ++ [48]
  rw [ByteArray.data_append]
  simp

end Go.Proofs.YtanjgeacmpmjhaaGreatDoor

set_option linter.unusedVariables false
set_option linter.unusedSimpArgs false
namespace Go.Proofs.YtanjgeacmpmjhaaGreatDoor
open Go.RowKit Go.Shelf

/-! ### a past and a map of rows, one beside the other -/
theorem Own.same {α : Type} {enc : α → List Value} {k : Nat} {E : TypeId} {base : Nat} {w w' : World} {v : Value} {xs : List α} (h : Own enc k E base w v xs) (hs : ∀ g, v.ownBlock = some g → w'.heap[g]? = w.heap[g]?) : Own enc k E base w' v xs := by
  refine ⟨h.1, ?_⟩
  rcases h.2 with h2 | ⟨g, cap, cur, rfl, hb, hh, hr⟩
  · exact .inl h2
  · exact .inr ⟨g, cap, cur, rfl, hb, (hs g rfl).trans hh, hr⟩
theorem OwnO.same {α : Type} {enc : α → List Value} {k : Nat} {E : TypeId} {base : Nat} {w w' : World} {v : Value} {xs : List α} (h : OwnO enc k E base w v xs) (hs : ∀ g, v.ownBlock = some g → w'.heap[g]? = w.heap[g]?) : OwnO enc k E base w' v xs := by
  rcases h with h2 | ⟨g, o, cap, cur, rfl, hb, hh, hr⟩
  · exact .inl h2
  · exact .inr ⟨g, o, cap, cur, rfl, hb, (hs g rfl).trans hh, hr⟩

theorem MapAt.pstep {b base : Nat} {w w' : World} {B : Nat} {v : Value} {xs : List Row} (h : MapAt b w B v xs) (s : PStep base w w') : MapAt b w' B v xs := by
  refine ⟨(s.block B h.lt (.inr ⟨_, _, _, h.obj, by decide, by decide⟩)).trans h.obj, h.own.same fun g hg => ?_, h.rise, h.apart, h.low⟩
  rcases h.own.2 with ⟨e, _⟩ | ⟨g', cap, cur, e, hb, hh, hr⟩
  · rw [e] at hg; cases hg
  · rw [e] at hg
    injection hg with hg
    subst hg
    exact s.block _ (Array.getElem?_eq_some_iff.1 hh).1 (.inr ⟨_, _, _, hh, by decide, by decide⟩)

theorem PastP.step {b base : Nat} {w w' : World} {B : Nat} {hist : List (List Change)} {trim : Nat} (h : PastP base w B hist trim) {B' : Nat} {v v' : Value} {xs : List Row} (hM : MapAt b w B' v xs) (s : Step w w' B' v v') : PastP base w' B hist trim := by
  obtain ⟨M, n, D, H, h⟩ := h
  -- what one of the past's blocks is
  have keep : ∀ g, g < w.heap.size → (∀ cur fr, w.heap[g]? ≠ some (.cells cur 124 fr)) → (∀ cur fr, w.heap[g]? ≠ some (.cells cur 44 fr)) → w'.heap[g]? = w.heap[g]? := fun g hg h1 h2 => by
    refine s.block g hg (fun e => h1 _ _ (by rw [e]; exact hM.obj)) (fun e => ?_)
    rcases hM.own.2 with ⟨e1, _⟩ | ⟨g', cap, cur, e1, hb, hh, hr⟩
    · rw [e1] at e; cases e
    · rw [e1] at e
      injection e with e
      subst e
      exact h2 _ _ hh
  have hB := keep B h.lt (fun cur fr e => by rw [h.obj] at e; injection e with e; injection e with _ e; exact absurd e (by decide)) (fun cur fr e => by rw [h.obj] at e; injection e with e; injection e with _ e; exact absurd e (by decide))
  obtain ⟨es, clock, hb, hrest⟩ := h.map.own
  have hMm := keep M (Array.getElem?_eq_some_iff.1 hb).1 (fun cur fr e => by rw [hb] at e; cases e) (fun cur fr e => by rw [hb] at e; cases e)
  refine ⟨M, n, D, H, hB.trans h.obj, ⟨⟨es, clock, hMm.trans hb, hrest⟩, h.map.low, h.map.has, fun x hx => ?_, h.map.apart⟩, h.past, h.low, h.cnt, h.len⟩
  obtain ⟨u, hu, ho⟩ := h.map.elem x hx
  refine ⟨u, hu, ho.same fun g hg => ?_⟩
  obtain ⟨_, hlt, cur, hc⟩ := ho.lt g hg
  exact keep g hlt (fun cur' fr e => by rw [hc] at e; injection e with e; injection e with _ e; exact absurd e (by decide)) (fun cur' fr e => by rw [hc] at e; injection e with e; injection e with _ e; exact absurd e (by decide))

theorem mapAt_lower {b base : Nat} {w : World} {B : Nat} {v : Value} {xs : List Row} (h : MapAt b w B v xs) (hb : base ≤ b) : MapAt base w B v xs :=
  ⟨h.obj, ownsRow_lower h.own hb, h.rise, h.apart, Nat.le_trans hb h.low⟩

/-- a block of another kind stays as it is. -/
theorem keep_step {b : Nat} {w w' : World} {B : Nat} {v v' : Value} {xs : List Row} (hM : MapAt b w B v xs) (s : Step w w' B v v') {S : Nat} {cur : Array Value} {E : TypeId} {fr : Nat × Nat} (h : w.heap[S]? = some (.cells cur E fr)) (h1 : E ≠ 124) (h2 : E ≠ 44) : w'.heap[S]? = some (.cells cur E fr) := by
  refine (s.block S (Array.getElem?_eq_some_iff.1 h).1 (fun e => ?_) (fun e => ?_)).trans h
  · subst e
    rw [hM.obj] at h
    injection h with h
    injection h with _ h
    exact h1 h.symm
  · rcases hM.own.2 with ⟨e1, _⟩ | ⟨g', cap, c', e1, hb, hh, hr⟩
    · rw [e1] at e; cases e
    · rw [e1] at e
      injection e with e
      subst e
      rw [hh] at h
      injection h with h
      injection h with _ h
      exact h2 h.symm
theorem keep_pstep {base : Nat} {w w' : World} (s : PStep base w w') {S : Nat} {cur : Array Value} {E : TypeId} {fr : Nat × Nat} (h : w.heap[S]? = some (.cells cur E fr)) (h1 : E ≠ 149) (h2 : E ≠ 142) : w'.heap[S]? = some (.cells cur E fr) :=
  (s.block S (Array.getElem?_eq_some_iff.1 h).1 (.inr ⟨_, _, _, h, h1, h2⟩)).trans h
theorem keep_below {w w' : World} (s : Below w.heap.size w w') {S : Nat} {o : Obj} (h : w.heap[S]? = some o) : w'.heap[S]? = some o :=
  (s.block S (Array.getElem?_eq_some_iff.1 h).1).trans h

end Go.Proofs.YtanjgeacmpmjhaaGreatDoor
