import Derived.Test.YtomhkflcimbbiaaLActP
import Derived.Test.YtomhkflcimbbiaaApp
set_option linter.unusedVariables false
set_option linter.unusedSimpArgs false
set_option linter.unusedSectionVars false
namespace Go.Proofs.Ytomhkflcimbbiaa
open Go.RowKit Go.Shelf

/-! ### one into a list that rises -/
def putL : List Int → Int → List Int
  | [], x => [x]
  | y :: l, x => if y < x then y :: putL l x else if y = x then y :: l else x :: y :: l
theorem putL_at : ∀ {l : List Int} {x : Int} {k : Nat}, (∀ j y, j < k → l[j]? = some y → y < x) → k ≤ l.length → (∀ y, l[k]? = some y → ¬ y < x) → putL l x = if l[k]? = some x then l else l.take k ++ [x] ++ l.drop k
  | [], x, k, _, hk, _ => by
    have : k = 0 := by simpa using hk
    subst this
    simp [putL]
  | y :: l, x, 0, _, _, h => by
    have h0 := h y rfl
    unfold putL
    rw [if_neg h0]
    by_cases e : y = x
    · simp [e]
    · rw [if_neg e, if_neg (by simp [e])]; simp
  | y :: l, x, k + 1, hl, hk, h => by
    have h0 := hl 0 y (by omega) rfl
    unfold putL
    rw [if_pos h0, putL_at (l := l) (k := k) (fun j z hj hz => hl (j + 1) z (by omega) (by simpa using hz)) (by simpa using hk) (fun z hz => h z (by simpa using hz))]
    simp only [List.getElem?_cons_succ]
    split <;> simp
theorem putL_mem : ∀ (l : List Int) (x y : Int), y ∈ putL l x ↔ y ∈ l ∨ y = x
  | [], x, y => by simp [putL]
  | z :: l, x, y => by
    unfold putL
    split
    · rw [List.mem_cons, putL_mem l x y, List.mem_cons, or_assoc]
    · split
      · rename_i e
        constructor
        · exact .inl
        · rintro (h | rfl)
          · exact h
          · exact List.mem_cons.2 (.inl e.symm)
      · simp only [List.mem_cons]
        constructor
        · rintro (h | h | h)
          · exact .inr h
          · exact .inl (.inl h)
          · exact .inl (.inr h)
        · rintro ((h | h) | h)
          · exact .inr (.inl h)
          · exact .inr (.inr h)
          · exact .inl h
theorem putL_rise : ∀ {l : List Int} {x : Int}, l.Pairwise (· < ·) → (putL l x).Pairwise (· < ·)
  | [], x, _ => by simp [putL]
  | z :: l, x, h => by
    rw [List.pairwise_cons] at h
    unfold putL
    split
    · rename_i hz
      rw [List.pairwise_cons]
      refine ⟨fun y hy => ?_, putL_rise h.2⟩
      rcases (putL_mem l x y).1 hy with hy | rfl
      · exact h.1 y hy
      · exact hz
    · split
      · rw [List.pairwise_cons]; exact h
      · rename_i h1 h2
        rw [List.pairwise_cons]
        refine ⟨fun y hy => ?_, List.pairwise_cons.2 h⟩
        rcases List.mem_cons.1 hy with rfl | hy
        · omega
        · have := h.1 y hy; omega
theorem putL_length : ∀ (l : List Int) (x : Int), (putL l x).length ≤ l.length + 1
  | [], x => by simp [putL]
  | z :: l, x => by
    have := putL_length l x
    unfold putL
    split
    · simp; omega
    · split <;> simp

theorem rd_nilU (w : World) (A : Option Addr) (c : Nat) (hc : c ≤ 9223372036854775807) : Rd encU 1 w (.slice A ([] : List Int).length c) [] := ⟨A, c, rfl, Nat.zero_le _, hc, fun h => absurd h (Nat.lt_irrefl _)⟩

set_option maxHeartbeats 1000000 in
set_option maxRecDepth 100000 in
theorem put_calls {base : Nat} {w : World} {v : Value} {l : List Int} (hv : RdT base encU 1 w v l) (hbase : base ≤ w.heap.size) (hl : l.length ≤ 100000) (x : Int) :
    Calls Try.prog 21 #[v, .int .u32 x] w fun e w' => ∃ v', e = .returned v' ∧ RdT base encU 1 w' v' (putL l x) ∧ Below w.heap.size w w' := by
  obtain ⟨A, c, rfl, hlc, hc⟩ := hv.1.shape
  go_enter Try.func21, Try.ntmps21
  go_wp2
  go_loopw [5] (fun kv wr => ∃ k : Nat, k ≤ l.length ∧ kv = .int .i64 k ∧ (∀ j y, j < k → l[j]? = some y → y < x) ∧ wr = w) (fun kv _ => l.length - (intOf kv).toNat)
  case atStart => exact ⟨0, Nat.zero_le _, rfl, fun j y hj => absurd hj (Nat.not_lt_zero _), rfl⟩
  case round =>
    obtain ⟨k, hk, rfl, hlo, rfl⟩ := hrel
    have HLO := Lib.hid hlo
    clear hlo
    by_cases hlt : k < l.length
    · have hxk := List.getElem?_eq_getElem hlt
      obtain ⟨b, o, rfl, hx1⟩ := hv.1.int hxk
      generalize l[k] = a at *
      by_cases ha : a < x
      · have HK := Lib.hid hxk
        clear hxk
        go_wp2
        go_roundw
        case rel =>
          refine ⟨k + 1, by omega, by go_num, fun j y hj hy => ?_, (by first | rfl | trivial)⟩
          by_cases e : j = k
          · subst e
            rw [HK.out] at hy
            injection hy with hy
            omega
          · exact HLO.out j y (by omega) hy
        case measure => simp [intOf]; omega
      · have hp := putL_at HLO.out hk (fun y hy => by rw [hxk] at hy; injection hy with hy; omega)
        by_cases he : a = x
        · rw [hxk, if_pos (by rw [he])] at hp
          have HP := Lib.hid hp
          clear hp hxk
          go_wp2
          go_ret
          exact ⟨_, rfl, by rw [HP.out]; exact hv, Below.refl _ _⟩
        · rw [hxk, if_neg (by simp; exact he)] at hp
          have HP := Lib.hid hp
          have hq : (a == x) = false := by simp [he]
          have ht := hv.1.takeQ k hk
          have hd := hv.1.drop k hk (o + k) (by omega)
          have htl : (l.take k).length = k := by rw [List.length_take]; omega
          have hdl : (l.drop k).length = l.length - k := List.length_drop
          have HV := Lib.hid hv
          have hck : ¬ c = k := by omega
          have hkc : k ≤ c := by omega
          clear hp hxk hv he
          generalize l.take k = L1 at *
          generalize l.drop k = L2 at *
          go_wp2_with (first
            | (at_builtin; refine append_all (w0 := wr) encU 1 22 30 4 _ wr.heap.size v10 (L1 ++ [x]) L2 (some ⟨b, o + k, none⟩) (c - k) rfl _ _ rfl u32s_under info_u32i rfl (by decide) (by decide) encU_len encU_one rfl (by rw [hdl]; rfl) (by rw [hdl]; exact hd.below hb10) hown10 hb10 hb10.size (by first | omega | (simp <;> omega) | (simp only [List.length_append, List.length_singleton, List.length_nil]; omega)) ?_; intro v11 w11 hown11 hb11 hg11; clear hown10)
            | (at_builtin; refine append_oneH (W := w9) w9.heap.size rfl encU 1 22 30 4 _ wr.heap.size v9 L1 x rfl _ _ rfl u32s_under info_u32i rfl (by decide) (by decide) encU_len encU_one rfl rfl hown9 hb9 hb9.size (by omega) ?_; intro v10 w10 hown10 hb10 hg10 hat; clear hown9 hg10 hat)
            | (at_builtin; refine append_all (w0 := wr) encU 1 22 30 4 _ wr.heap.size (.slice none 0 0) [] L1 (some ⟨b, o, none⟩) c rfl _ _ rfl u32s_under info_u32i rfl (by decide) (by decide) encU_len encU_one rfl (by rw [htl]; rfl) (by rw [htl]; exact ht) (Own.nil _ _ _ _ _) (Below.refl _ _) (Nat.le_refl _) (by first | omega | (simp <;> omega) | (simp only [List.length_append, List.length_singleton, List.length_nil]; omega)) ?_; intro v9 w9 hown9 hb9 hg9; rw [List.nil_append] at hown9; clear hg9))
          go_ret
          exact ⟨_, rfl, by rw [HP.out]; exact RdT.own encU_len hown11 (by decide), hb11⟩
    · have hkl : k = l.length := by omega
      have hp := putL_at (k := k) HLO.out hk (fun y hy => by rw [List.getElem?_eq_none (by omega)] at hy; cases hy)
      rw [List.getElem?_eq_none (by omega), if_neg (by simp), List.take_of_length_le (by omega), List.drop_eq_nil_of_le (by omega), List.append_nil] at hp
      have HP := Lib.hid hp
      have hr := hv.1
      clear hp
      subst hkl
      rcases Nat.eq_zero_or_pos l.length with h0 | hpos
      · obtain rfl : l = [] := List.length_eq_zero_iff.1 h0
        cases A with
        | none =>
          go_wp2_with (first
            | (at_builtin; refine append_all (w0 := wr) encU 1 22 30 4 _ wr.heap.size v10 (([] : List Int) ++ [x]) ([] : List Int) none c rfl _ _ rfl u32s_under info_u32i rfl (by decide) (by decide) encU_len encU_one rfl rfl (rd_nilU _ _ _ hc) hown10 hb10 hb10.size (by first | omega | (simp <;> omega) | (simp only [List.length_append, List.length_singleton, List.length_nil]; omega)) ?_; intro v11 w11 hown11 hb11 hg11; clear hown10)
            | (at_builtin; refine append_oneH (W := w9) w9.heap.size rfl encU 1 22 30 4 _ wr.heap.size v9 ([] : List Int) x rfl _ _ rfl u32s_under info_u32i rfl (by decide) (by decide) encU_len encU_one rfl rfl hown9 hb9 hb9.size (by first | omega | (simp <;> omega) | (simp only [List.length_append, List.length_singleton, List.length_nil]; omega)) ?_; intro v10 w10 hown10 hb10 hg10 hat; clear hown9 hg10 hat)
            | (at_builtin; refine append_all (w0 := wr) encU 1 22 30 4 _ wr.heap.size (.slice none 0 0) [] ([] : List Int) none c rfl _ _ rfl u32s_under info_u32i rfl (by decide) (by decide) encU_len encU_one rfl rfl (rd_nilU _ _ _ hc) (Own.nil _ _ _ _ _) (Below.refl _ _) (Nat.le_refl _) (by first | omega | (simp <;> omega) | (simp only [List.length_append, List.length_singleton, List.length_nil]; omega)) ?_; intro v9 w9 hown9 hb9 hg9; rw [List.nil_append] at hown9; clear hg9))
          go_ret
          exact ⟨_, rfl, by rw [HP.out]; have e := RdT.own (base := base) encU_len hown11 (by decide); rw [List.append_nil] at e; exact e, hb11⟩
        | some a0 =>
          go_wp2_with (first
            | (at_builtin; refine append_all (w0 := wr) encU 1 22 30 4 _ wr.heap.size v10 (([] : List Int) ++ [x]) ([] : List Int) (some a0) c rfl _ _ rfl u32s_under info_u32i rfl (by decide) (by decide) encU_len encU_one rfl rfl (rd_nilU _ _ _ hc) hown10 hb10 hb10.size (by first | omega | (simp <;> omega) | (simp only [List.length_append, List.length_singleton, List.length_nil]; omega)) ?_; intro v11 w11 hown11 hb11 hg11; clear hown10)
            | (at_builtin; refine append_oneH (W := w9) w9.heap.size rfl encU 1 22 30 4 _ wr.heap.size v9 ([] : List Int) x rfl _ _ rfl u32s_under info_u32i rfl (by decide) (by decide) encU_len encU_one rfl rfl hown9 hb9 hb9.size (by first | omega | (simp <;> omega) | (simp only [List.length_append, List.length_singleton, List.length_nil]; omega)) ?_; intro v10 w10 hown10 hb10 hg10 hat; clear hown9 hg10 hat)
            | (at_builtin; refine append_all (w0 := wr) encU 1 22 30 4 _ wr.heap.size (.slice none 0 0) [] ([] : List Int) (some a0) c rfl _ _ rfl u32s_under info_u32i rfl (by decide) (by decide) encU_len encU_one rfl rfl (rd_nilU _ _ _ hc) (Own.nil _ _ _ _ _) (Below.refl _ _) (Nat.le_refl _) (by first | omega | (simp <;> omega) | (simp only [List.length_append, List.length_singleton, List.length_nil]; omega)) ?_; intro v9 w9 hown9 hb9 hg9; rw [List.nil_append] at hown9; clear hg9))
          go_ret
          exact ⟨_, rfl, by rw [HP.out]; have e := RdT.own (base := base) encU_len hown11 (by decide); rw [List.append_nil] at e; exact e, hb11⟩
      · obtain ⟨b, o, rfl, _⟩ := hr.int (List.getElem?_eq_getElem hpos)
        have hkc : l.length ≤ c := hlc
        by_cases hck : c = l.length
        · subst hck
          go_wp2_with (first
            | (at_builtin; refine append_all (w0 := wr) encU 1 22 30 4 _ wr.heap.size v10 (l ++ [x]) ([] : List Int) (some ⟨b, o, none⟩) 0 rfl _ _ rfl u32s_under info_u32i rfl (by decide) (by decide) encU_len encU_one rfl rfl (rd_nilU _ _ _ (by omega)) hown10 hb10 hb10.size (by first | omega | (simp <;> omega) | (simp only [List.length_append, List.length_singleton, List.length_nil]; omega)) ?_; intro v11 w11 hown11 hb11 hg11; clear hown10)
            | (at_builtin; refine append_oneH (W := w9) w9.heap.size rfl encU 1 22 30 4 _ wr.heap.size v9 l x rfl _ _ rfl u32s_under info_u32i rfl (by decide) (by decide) encU_len encU_one rfl rfl hown9 hb9 hb9.size (by first | omega | (simp <;> omega) | (simp only [List.length_append, List.length_singleton, List.length_nil]; omega)) ?_; intro v10 w10 hown10 hb10 hg10 hat; clear hown9 hg10 hat)
            | (at_builtin; refine append_all (w0 := wr) encU 1 22 30 4 _ wr.heap.size (.slice none 0 0) [] l (some ⟨b, o, none⟩) l.length rfl _ _ rfl u32s_under info_u32i rfl (by decide) (by decide) encU_len encU_one rfl rfl hr (Own.nil _ _ _ _ _) (Below.refl _ _) (Nat.le_refl _) (by first | omega | (simp <;> omega) | (simp only [List.length_append, List.length_singleton, List.length_nil]; omega)) ?_; intro v9 w9 hown9 hb9 hg9; rw [List.nil_append] at hown9; clear hg9))
          go_ret
          exact ⟨_, rfl, by rw [HP.out]; have e := RdT.own (base := base) encU_len hown11 (by decide); rw [List.append_nil] at e; exact e, hb11⟩
        · 
          go_wp2_with (first
            | (at_builtin; refine append_all (w0 := wr) encU 1 22 30 4 _ wr.heap.size v10 (l ++ [x]) ([] : List Int) (some ⟨b, o + l.length, none⟩) (c - l.length) rfl _ _ rfl u32s_under info_u32i rfl (by decide) (by decide) encU_len encU_one rfl rfl (rd_nilU _ _ _ (by omega)) hown10 hb10 hb10.size (by first | omega | (simp <;> omega) | (simp only [List.length_append, List.length_singleton, List.length_nil]; omega)) ?_; intro v11 w11 hown11 hb11 hg11; clear hown10)
            | (at_builtin; refine append_oneH (W := w9) w9.heap.size rfl encU 1 22 30 4 _ wr.heap.size v9 l x rfl _ _ rfl u32s_under info_u32i rfl (by decide) (by decide) encU_len encU_one rfl rfl hown9 hb9 hb9.size (by first | omega | (simp <;> omega) | (simp only [List.length_append, List.length_singleton, List.length_nil]; omega)) ?_; intro v10 w10 hown10 hb10 hg10 hat; clear hown9 hg10 hat)
            | (at_builtin; refine append_all (w0 := wr) encU 1 22 30 4 _ wr.heap.size (.slice none 0 0) [] l (some ⟨b, o, none⟩) c rfl _ _ rfl u32s_under info_u32i rfl (by decide) (by decide) encU_len encU_one rfl rfl hr (Own.nil _ _ _ _ _) (Below.refl _ _) (Nat.le_refl _) (by first | omega | (simp <;> omega) | (simp only [List.length_append, List.length_singleton, List.length_nil]; omega)) ?_; intro v9 w9 hown9 hb9 hg9; rw [List.nil_append] at hown9; clear hg9))
          go_ret
          exact ⟨_, rfl, by rw [HP.out]; have e := RdT.own (base := base) encU_len hown11 (by decide); rw [List.append_nil] at e; exact e, hb11⟩
end Go.Proofs.Ytomhkflcimbbiaa
