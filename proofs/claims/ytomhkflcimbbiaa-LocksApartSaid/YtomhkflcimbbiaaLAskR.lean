import Derived.Test.YtomhkflcimbbiaaLHad
set_option linter.unusedVariables false
set_option linter.unusedSimpArgs false
set_option linter.unusedSectionVars false
namespace Go.Proofs.Ytomhkflcimbbiaa
open Go.RowKit Go.Shelf

/-- What an asking comes to. -/
def AskR (T : Tab) (who : Int) (f t : Str) (al : Bool) (e : Int) (T' : Tab) : Prop :=
  (e = 1 ∧ mayL who f t = false ∧ T' = T) ∨ (e = 8 ∧ mayL who f t = true ∧ (∃ o, InWay T who f t al o) ∧ T' = T) ∨
  (e = 0 ∧ mayL who f t = true ∧ (∀ o, ¬ InWay T who f t al o) ∧ T' = putT T who (addL f t al (T who)))
theorem AskR.codes {T T' : Tab} {who : Int} {f t : Str} {al : Bool} {e : Int} (h : AskR T who f t al e T') : e = 0 ∨ e = 1 ∨ e = 8 := by
  rcases h with ⟨h, _⟩ | ⟨h, _⟩ | ⟨h, _⟩ <;> omega
theorem AskR.tidy {T T' : Tab} {who : Int} {f t : Str} {al : Bool} {e : Int} (h : AskR T who f t al e T') (ht : Tidy T) : Tidy T' := by
  rcases h with ⟨_, _, rfl⟩ | ⟨_, _, _, rfl⟩ | ⟨_, hm, hno, rfl⟩
  · exact ht
  · exact ht
  · exact ht.add hm hno
theorem AskR.len {T T' : Tab} {who : Int} {f t : Str} {al : Bool} {e : Int} {k : Nat} (h : AskR T who f t al e T') (hl : ∀ o, (T o).length ≤ k) (o : Int) : (T' o).length ≤ k + 1 := by
  have h0 := hl o
  rcases h with ⟨_, _, rfl⟩ | ⟨_, _, _, rfl⟩ | ⟨_, hm, hno, rfl⟩
  · omega
  · omega
  · unfold putT
    split
    · exact Nat.le_trans (addL_length _ _ _ _) (by have := hl who; omega)
    · omega
theorem way_put {T : Tab} {who : Int} {l : List Lock} {f t : Str} {al : Bool} {o : Int} : InWay (putT T who l) who f t al o ↔ InWay T who f t al o := by
  unfold InWay putT
  constructor
  · rintro ⟨h1, h2⟩
    rw [if_neg (fun e => h1 e.symm)] at h2
    exact ⟨h1, h2⟩
  · rintro ⟨h1, h2⟩
    refine ⟨h1, ?_⟩
    rw [if_neg (fun e => h1 e.symm)]
    exact h2
/-- asked again, it is as it was. -/
theorem AskR.again {T T' T'' : Tab} {who : Int} {f t : Str} {al : Bool} {e e2 : Int} (h : AskR T who f t al e T') (h2 : AskR T' who f t al e2 T'') : e2 = e ∧ ∀ o, (T'' o).map spOf = (T' o).map spOf := by
  rcases h with ⟨rfl, hm, rfl⟩ | ⟨rfl, hm, hw, rfl⟩ | ⟨rfl, hm, hno, rfl⟩
  · rcases h2 with ⟨rfl, _, rfl⟩ | ⟨rfl, hm2, _⟩ | ⟨rfl, hm2, _⟩
    · exact ⟨rfl, fun _ => rfl⟩
    · rw [hm] at hm2; cases hm2
    · rw [hm] at hm2; cases hm2
  · rcases h2 with ⟨rfl, hm2, _⟩ | ⟨rfl, _, _, rfl⟩ | ⟨rfl, _, hno, _⟩
    · rw [hm] at hm2; cases hm2
    · exact ⟨rfl, fun _ => rfl⟩
    · obtain ⟨o, ho⟩ := hw
      exact absurd ho (hno o)
  · rcases h2 with ⟨rfl, hm2, _⟩ | ⟨rfl, _, ⟨o, ho⟩, _⟩ | ⟨rfl, _, _, rfl⟩
    · rw [hm] at hm2; cases hm2
    · exact absurd (way_put.1 ho) (hno o)
    · refine ⟨rfl, fun o => ?_⟩
      unfold putT
      by_cases e : who = o
      · subst e
        rw [if_pos rfl, if_pos rfl]
        rw [addL_spans f t al (addL f t al (T who)), if_pos]
        obtain ⟨y, hy, h1, h2, _⟩ := addL_has (f := f) (t := t) (al := al) (l := T who)
        exact List.any_eq_true.2 ⟨y, hy, sameSp_true.2 ⟨h1, h2⟩⟩
      · rw [if_neg e, if_neg e]

theorem askR_calls {base : Nat} {w : World} {B nn : Nat} {T : Tab} (h : TabP base w B nn T) (hbase : base ≤ w.heap.size) {L : Nat} (hL : ∀ o, (T o).length ≤ L) (hLb : L ≤ 1000) (hnn : nn ≤ 1000) (hN : nn * L ≤ sortN) (who : Int) (hw : okU who) (f t : ByteArray) (al : Bool) :
    Calls Try.prog 11 #[.pointer (some ⟨B, 0, none⟩), .int .u32 who, .agg #[.string f, .string t], .bool al] w
      fun e w' => ∃ (a : Value) (l : List Int) (c : Int) (T' : Tab) (n' : Nat), e = .returned (.tuple #[a, .int .i64 c]) ∧ n' ≤ nn + 1 ∧ TabP base w' B n' T' ∧ TStep base w w' ∧ AskR T who f t al c T' ∧ OwnU w.heap.size w' a l ∧ (c = 8 → l ≠ [] ∧ WayIs T who f t al l) ∧ (c ≠ 8 → l = []) := by
  obtain ⟨M, D, h⟩ := h
  refine (ask_calls h hbase hL hLb hnn who hw f t al (c := L) (fun o => Nat.le_trans (List.length_filter_le _ _) (hL o)) hN).mono ?_
  rintro e w' (⟨hz, rfl, hT, hs⟩ | ⟨hz, v', l, rfl, hne, hown, hway, hT, hs⟩ | ⟨hz, hno, rfl, ⟨n', hn', hT⟩, hs⟩)
  · exact ⟨_, [], 1, T, nn, rfl, by omega, hT, hs, .inl ⟨rfl, hz, rfl⟩, Own.nil _ _ _ _ _, fun h => by omega, fun _ => rfl⟩
  · refine ⟨_, l, 8, T, nn, rfl, by omega, hT, hs, .inr (.inl ⟨rfl, hz, ?_, rfl⟩), hown, fun _ => ⟨hne, hway⟩, fun h => absurd rfl h⟩
    obtain ⟨o, ho⟩ := List.exists_mem_of_ne_nil _ hne
    exact ⟨o, (hway.mem o).1 ho⟩
  · exact ⟨_, [], 0, _, n', rfl, hn', hT, hs, .inr (.inr ⟨rfl, hz, hno, rfl⟩), Own.nil _ _ _ _ _, fun h => by omega, fun _ => rfl⟩

theorem wayP_calls {base : Nat} {w : World} {B nn : Nat} {T : Tab} (h : TabP base w B nn T) {L : Nat} (hL : ∀ o, (T o).length ≤ L) (hLb : L ≤ 1000) (hnn : nn ≤ 1000) (hN : nn * L ≤ sortN) (who : Int) (f t : ByteArray) (al : Bool) :
    Calls Try.prog 12 #[.pointer (some ⟨B, 0, none⟩), .int .u32 who, .agg #[.string f, .string t], .bool al] w
      fun e w' => ∃ (v' : Value) (l : List Int), e = .returned v' ∧ OwnU w.heap.size w' v' l ∧ Below w.heap.size w w' ∧ (if mayL who f t then WayIs T who f t al l else l = []) ∧ l.length ≤ 1000000 := by
  obtain ⟨M, D, h⟩ := h
  exact way_callsN h hL hLb hnn who f t al (c := L) (fun o => Nat.le_trans (List.length_filter_le _ _) (hL o)) hN
theorem hasP_calls {base : Nat} {w : World} {B nn : Nat} {T : Tab} (h : TabP base w B nn T) (who : Int) (hw : okU who) (hl : (T who).length ≤ 1000000) :
    Calls Try.prog 14 #[.pointer (some ⟨B, 0, none⟩), .int .u32 who] w
      fun e w' => ∃ v', e = .returned v' ∧ Own Span.enc 2 24 w.heap.size w' v' ((T who).map spOf) ∧ Below w.heap.size w w' := by
  obtain ⟨M, D, h⟩ := h
  exact thas_calls h who hw hl
theorem freeP_calls {base : Nat} {w : World} {B nn : Nat} {T : Tab} (h : TabP base w B nn T) (who : Int) (hw : okU who) :
    Calls Try.prog 13 #[.pointer (some ⟨B, 0, none⟩), .int .u32 who] w
      fun e w' => e = .returned (.int .i64 ((T who).length : Int)) ∧ TabP base w' B nn (putT T who []) ∧ TStep base w w' := by
  obtain ⟨M, D, h⟩ := h
  exact tfree_calls h who hw

/-- A table, behind some acts. -/
structure Acted (w0 : World) (bb k : Nat) (w : World) (T : Tab) : Prop where
  tab : ∃ n, n ≤ k ∧ TabP bb w (bb + 1) n T
  tidy : Tidy T
  len : ∀ o, (T o).length ≤ k
  room : bb ≤ w.heap.size
  below : Below w0.heap.size w0 w
theorem Acted.does {w0 w : World} {bb k : Nat} {T : Tab} (h : Acted w0 bb k w T) (hk : k ≤ 200) (hbb : w0.heap.size ≤ bb) (q who : Int) (f t : ByteArray) (al : Bool) (hq : 0 ≤ q ∧ q ≤ 255) (hw : okU who) :
    Calls Try.prog 18 #[.pointer (some ⟨bb + 1, 0, none⟩), .slice none 0 0, .agg #[.int .u8 q, .int .u32 who, .string f, .string t, .bool al]] w
      fun e w' => ∃ v' T', e = .returned (.tuple #[v', .bool true]) ∧ Acted w0 bb (k + 1) w' T' ∧ TStep bb w w' := by
  obtain ⟨n, hn, hT⟩ := h.tab
  refine (does0_calls hT h.room h.len (by omega) (by omega) (Nat.le_trans (Nat.mul_le_mul_right k hn) (Nat.le_trans (Nat.mul_le_mul hk hk) (by decide))) q who f t al hq hw).mono ?_
  rintro e w' ⟨v', T', g, n', rfl, hn', hT', hs, ha⟩
  exact ⟨v', T', rfl, ⟨⟨n', by omega, hT'⟩, ha.tidy h.tidy, ha.len h.len, Nat.le_trans h.room hs.size, h.below.trans ((hs.below h.room).mono hbb)⟩, hs⟩
end Go.Proofs.Ytomhkflcimbbiaa
