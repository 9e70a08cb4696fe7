import Derived.Test.YtanjgeacmpmjhaaGreatDoorMgPlansCheckUpto2
import Derived.Test.YtanjgeacmpmjhaaGreatDoorMgPlansCheckUpto27
import Derived.Test.YtanjgeacmpmjhaaGreatDoorMgPlansCheckUpto19
import Derived.Test.YtanjgeacmpmjhaaGreatDoorRJoinC
set_option linter.unusedVariables false
set_option linter.unusedSimpArgs false
set_option linter.unusedSectionVars false
namespace Go.Proofs.YtanjgeacmpmjhaaGreatDoor
open Go.RowKit

attribute [local go_sem ↓] Go.wp_at_zero Go.wp_at_succ

set_option maxHeartbeats 800000 in
theorem rmarker_calls (n : Nat) (hn : n < 4294967296) (w : World) :
    Calls Tryz.prog 160 #[.int .u32 n] w fun e w' => e = .returned (.string (markT n)) ∧ Below w.heap.size w w' := by
  have h := rdigits_calls n hn w
  have hsz := digT_size n hn
  unfold markT
  generalize digT n = t at *
  go_enter Tryz.func160, Tryz.ntmps160
  go_wp2_with (go_at_call 224; refine h.mono ?_; rintro e w' ⟨rfl, hb⟩)
  go_ret
  exact ⟨rfl, hb⟩

set_option maxHeartbeats 400000 in
theorem rreserved_calls (w : World) : Calls Tryz.prog 219 #[] w fun e w' => e = .returned (.agg #[.string tLo, .string tHi]) ∧ Below w.heap.size w w' := by
  go_enter Tryz.func219, Tryz.ntmps219
  go_wp2
  exact bodyPost_ret (results_cell_row rfl _ _ w.heap.size _ #[.string tLo, .string tHi] _ _ rfl (alloc_at _ _) Tryz.underlying47 rfl (by kernel_rfl)) rfl ⟨rfl, (Below.refl _ w).alloc (Nat.le_refl _) _⟩

/-- May ops be those of a part? -/
def chkOs (l : List Opn) : Bool := !(l.any oddO) && (decide (1 ≤ l.length) && decide (l.length ≤ 16))
theorem spanOf_size {q : Int} {k t : ByteArray} (hk : k.size ≤ 9223372036854775807) (ht : t.size ≤ 9223372036854775807) : (spanOf q k t).size ≤ 9223372036854775807 := by
  unfold spanOf; split <;> assumption

set_option maxRecDepth 100000 in
set_option maxHeartbeats 1600000 in
theorem rops19_calls (v : Value) (xs : List Opn) (w : World) (hv : Rd Opn.enc 4 w v xs) (hs : ∀ x ∈ xs, x.k.size ≤ 9223372036854775807 ∧ x.t.size ≤ 9223372036854775807) :
    Calls Tryz.prog 157 #[v] w fun e w' => e = .returned (.bool (chkOs xs)) ∧ Below w.heap.size w w' := by
  obtain ⟨A, c, rfl, hlc, hc⟩ := hv.shape
  have hres := rreserved_calls
  go_enter Tryz.func157, Tryz.ntmps157
  go_wp2
  go_loopw [3] (fun i wr => ∃ k : Nat, k ≤ xs.length ∧ i = .int .i64 k ∧ (xs.take k).any oddO = false ∧ Below w.heap.size w wr) (fun i _ => xs.length - (intOf i).toNat)
  case atStart => exact ⟨0, Nat.zero_le _, rfl, rfl, Below.refl _ _⟩
  case round =>
    obtain ⟨k, hk, rfl, hno, hb⟩ := hrel
    by_cases hlt : k < xs.length
    · obtain ⟨b, o, rfl, hx1, hx2, hx3, hx4⟩ := (hv.below hb).opn (List.getElem?_eq_getElem hlt)
      obtain ⟨hxk, hxt⟩ := hs xs[k] (List.getElem_mem hlt)
      have HMEM := Lib.hid (List.getElem_mem hlt)
      have HT : RowKit.Hid (xs.take (k + 1) = xs.take k ++ [xs[k]]) := Lib.hid (by rw [List.take_add_one, List.getElem?_eq_getElem hlt]; rfl)
      generalize xs[k] = x at *
      obtain ⟨q, xk, xt, xd⟩ := x
      dsimp only at hx1 hx2 hx3 hx4 hxk hxt
      have HNO := Lib.hid hno
      have hck := rcheck02_calls q xk xt xd hxk hxt wr
      have hof := fun W => rof_calls q xk xt xd W
      have hmt := fun W => rmeet_calls xk (spanOf q xk xt) tLo tHi W hxk (spanOf_size hxk hxt) (by decide) (by decide)
      simp only [rmeet4_eq] at hmt
      have hodd : oddO ⟨q, xk, xt, xd⟩ = (!okOp q xk xt xd || meet4 xk (spanOf q xk xt) tLo tHi) := rfl
      have hall : oddO ⟨q, xk, xt, xd⟩ = true → chkOs xs = false := fun h => by
        have : xs.any oddO = true := List.any_eq_true.2 ⟨_, HMEM.out, h⟩
        unfold chkOs; rw [this]; rfl
      have HALL := Lib.hid hall
      clear hno hall hs hv
      generalize spanOf q xk xt = t2 at *
      cases hok : okOp q xk xt xd with
      | false =>
        rw [hok] at hck
        have HX := Lib.hid (HALL.out (by rw [hodd, hok]; rfl))
        clear hodd hok
        go_wp2_with (go_at_call 161; refine hck.mono ?_; rintro e w1 ⟨rfl, hb1⟩; clear hx1 hx2 hx3 hx4)
        go_ret
        exact ⟨by rw [HX.out]; rfl, Below.step hb hb1⟩
      | true =>
        rw [hok] at hck
        cases hmm : meet4 xk t2 tLo tHi with
        | true =>
          rw [hmm] at hmt
          have HX := Lib.hid (HALL.out (by rw [hodd, hok, hmm]; rfl))
          clear hodd hok hmm
          go_wp2_with (first
            | (go_at_call 161; refine hck.mono ?_; rintro e w1 ⟨rfl, hb1⟩; have y1 := Below.cell_some hb1 hx1; have y2 := Below.cell_some hb1 hx2; have y3 := Below.cell_some hb1 hx3; have y4 := Below.cell_some hb1 hx4; have b1 := Below.step hb hb1)
            | (go_at_call 162; refine (hof _).mono ?_; rintro e w2 ⟨rfl, hb2⟩; have b2 := Below.step b1 hb2)
            | (go_at_call 219; refine (hres _).mono ?_; rintro e w3 ⟨rfl, hb3⟩; have b3 := Below.step b2 hb3)
            | (go_at_call 140; refine (hmt _).mono ?_; rintro e w4 ⟨rfl, hb4⟩; have b4 := Below.step b3 hb4))
          go_ret
          exact ⟨by rw [HX.out]; rfl, b4⟩
        | false =>
          rw [hmm] at hmt
          have HX := Lib.hid (show oddO ⟨q, xk, xt, xd⟩ = false by rw [hodd, hok, hmm]; rfl)
          clear hodd hok hmm
          go_wp2_with (first
            | (go_at_call 161; refine hck.mono ?_; rintro e w1 ⟨rfl, hb1⟩; have y1 := Below.cell_some hb1 hx1; have y2 := Below.cell_some hb1 hx2; have y3 := Below.cell_some hb1 hx3; have y4 := Below.cell_some hb1 hx4; have b1 := Below.step hb hb1)
            | (go_at_call 162; refine (hof _).mono ?_; rintro e w2 ⟨rfl, hb2⟩; have b2 := Below.step b1 hb2)
            | (go_at_call 219; refine (hres _).mono ?_; rintro e w3 ⟨rfl, hb3⟩; have b3 := Below.step b2 hb3)
            | (go_at_call 140; refine (hmt _).mono ?_; rintro e w4 ⟨rfl, hb4⟩; have b4 := Below.step b3 hb4))
          go_roundw
          case rel =>
            refine ⟨k + 1, by omega, by go_num, ?_, b4⟩
            rw [HT.out, List.any_append, HNO.out]
            simp [HX.out]
          case measure => simp [intOf]; omega
    · have hkl : k = xs.length := by omega
      subst hkl
      rw [List.take_length] at hno
      have HX : RowKit.Hid (chkOs xs = (decide (1 ≤ xs.length) && decide (xs.length ≤ 16))) := Lib.hid (by unfold chkOs; rw [hno]; rfl)
      clear hno
      by_cases h1 : 1 ≤ xs.length
      · have h1' : (1 : Int) ≤ (xs.length : Int) := by omega
        by_cases h2 : xs.length ≤ 16
        · have h2' : (xs.length : Int) ≤ 16 := by omega
          go_wp2
          go_ret
          exact ⟨ret_bool (by rw [HX.out, decide_eq_true h1, decide_eq_true h2]; rfl), hb⟩
        · have h2' : ¬ (xs.length : Int) ≤ 16 := by omega
          go_wp2
          go_ret
          exact ⟨ret_bool (by rw [HX.out, decide_eq_false h2, Bool.and_false]), hb⟩
      · have h1' : ¬ (1 : Int) ≤ (xs.length : Int) := by omega
        go_wp2
        go_ret
        exact ⟨ret_bool (by rw [HX.out, decide_eq_false h1, Bool.false_and]), hb⟩

theorem spsO_snocR (xs : List Opn) (k : Nat) (x : Opn) (h : xs[k]? = some x) : spsO (xs.take (k + 1)) = spsO (xs.take k) ++ (if okO x then [spanO x] else []) := spsO_snoc xs k x h
set_option maxRecDepth 100000 in
set_option maxHeartbeats 1600000 in
theorem rspans19_calls (n : Nat) (hn : n < 4294967296) (v : Value) (xs : List Opn) (w : World) (hv : Rd Opn.enc 4 w v xs) (hl : xs.length ≤ 900)
    (hs : ∀ x ∈ xs, x.k.size ≤ 9223372036854775807 ∧ x.t.size ≤ 9223372036854775807) :
    Calls Tryz.prog 66 #[.int .u32 n, v] w fun e w' => ∃ v', e = .returned v' ∧ Own Span.enc 2 47 w.heap.size w' v' (joinF (allS n xs)) ∧ Below w.heap.size w w' := by
  obtain ⟨A, c, rfl, hlc, hc⟩ := hv.shape
  have hmk := rmarker_calls n hn w
  have hmz : (markT n).size ≤ 9223372036854775807 := by
    unfold markT
    rw [ByteArray.size_append]
    have := digT_size n hn
    have h2 : (⟨#[95, 109]⟩ : ByteArray).size = 2 := rfl
    omega
  unfold allS
  generalize markT n = mk at *
  go_enter Tryz.func66, Tryz.ntmps66
  go_wp2_with (go_at_call 160; refine hmk.mono ?_; rintro e wm ⟨rfl, hbm⟩)
  clear hmk
  have hownI : Own Span.enc 2 47 w.heap.size (wm.alloc (.cells #[.string tT, .string tT, .string mk, .string mk] 47)) (.slice (some ⟨wm.heap.size, 0, none⟩) 2 2) [⟨tT, tT⟩, ⟨mk, mk⟩] :=
    own_lit Span.enc 2 span_len _ [⟨tT, tT⟩, ⟨mk, mk⟩] (by simp [maxLen]) _ wm hbm.size
  have hbI : Below w.heap.size w (wm.alloc (.cells #[.string tT, .string tT, .string mk, .string mk] 47)) := hbm.alloc hbm.size _
  have hszI := hbI.size
  go_loopw [6, 7] (fun ov i wr => ∃ k : Nat, k ≤ xs.length ∧ i = .int .i64 k ∧ Own Span.enc 2 47 w.heap.size wr ov ([⟨tT, tT⟩, ⟨mk, mk⟩] ++ spsO (xs.take k)) ∧ Below w.heap.size w wr) (fun _ i _ => xs.length - (intOf i).toNat)
  case atStart => exact ⟨0, Nat.zero_le _, rfl, hownI, hbI⟩
  case round =>
    obtain ⟨k, hk, rfl, hown, hb⟩ := hrel
    clear hownI hbI hszI
    have hsl := spsO_len (xs.take k)
    have hkt : (xs.take k).length = k := by rw [List.length_take]; omega
    have hsl2 : (spsO (xs.take k)).length ≤ k := by omega
    clear hsl hkt
    by_cases hlt : k < xs.length
    · obtain ⟨b, o, rfl, hx1, hx2, hx3, hx4⟩ := (hv.below hb).opn (List.getElem?_eq_getElem hlt)
      have HF := Lib.hid (spsO_snoc xs k _ (List.getElem?_eq_getElem hlt))
      obtain ⟨hxk, hxt⟩ := hs xs[k] (List.getElem_mem hlt)
      generalize xs[k] = x at *
      obtain ⟨A1, c1, hsl, _⟩ := hown.slice
      subst hsl
      have hsz := hb.size
      generalize spsO (xs.take k) = fu at *
      have hck := rcheck02_calls x.q x.k x.t x.d hxk hxt wr
      have hof := fun W => rof_calls x.q x.k x.t x.d W
      have HOWN := Lib.hid hown
      clear hown
      cases hok : okO x
      · have hok2 : okOp x.q x.k x.t x.d = false := hok
        rw [hok] at HF
        rw [hok2] at hck
        go_wp2_with (go_at_call 161; refine hck.mono ?_; rintro e w1 ⟨rfl, hb1⟩; clear hx1 hx2 hx3 hx4)
        go_roundw
        case rel =>
          refine ⟨k + 1, by omega, by go_num, ?_, Below.step hb hb1⟩
          rw [HF.out, if_neg Bool.false_ne_true, List.append_nil]
          exact HOWN.out.below hb1
        case measure => simp [intOf]; omega
      · have hok2 : okOp x.q x.k x.t x.d = true := hok
        rw [hok] at HF
        rw [hok2] at hck
        go_wp2_with (first
          | (go_at_call 161; refine hck.mono ?_; rintro e w1 ⟨rfl, hb1⟩; have y1 := Below.cell_some hb1 hx1; have y2 := Below.cell_some hb1 hx2; have y3 := Below.cell_some hb1 hx3; have y4 := Below.cell_some hb1 hx4; have hown1 := HOWN.out.below hb1; have hw1 := Below.step hb hb1)
          | (go_at_call 162; refine (hof _).mono ?_; rintro e w2 ⟨rfl, hb2⟩; have hown2 := hown1.below hb2; have hw2 := Below.step hw1 hb2; have hsz2 := hw2.size; clear hx1 hx2 hx3 hx4 y1 y2 y3 y4)
          | (at_builtin; refine append_oneH w2.heap.size rfl Span.enc 2 47 98 32 _ w.heap.size _ _ ⟨x.k, spanOf x.q x.k x.t⟩ rfl _ _ rfl Tryz.underlying98 info_span rfl (by decide) (by decide) span_len span_one rfl rfl hown2 hw2 hsz2 (by simp; omega) ?_; intro v' w' hown' hb' hgr hat; clear hgr hat))
        go_roundw
        case rel =>
          refine ⟨k + 1, by omega, by go_num, ?_, hb'⟩
          rw [HF.out, if_pos trivial, ← List.append_assoc]
          exact hown'
        case measure => simp [intOf]; omega
    · have hkl : k = xs.length := by omega
      subst hkl
      rw [List.take_length] at *
      obtain ⟨A1, c1, hsl, _⟩ := hown.slice
      subst hsl
      have hrd := hown.rd span_len
      have hlen : ([⟨tT, tT⟩, ⟨mk, mk⟩] ++ spsO xs : List Span).length ≤ 1000 := by simp; omega
      have hoks : ∀ x ∈ ([⟨tT, tT⟩, ⟨mk, mk⟩] ++ spsO xs : List Span), okS2 x := fun x hx => by
        rcases List.mem_append.1 hx with hx | hx
        · simp only [List.mem_cons, List.not_mem_nil, or_false] at hx
          rcases hx with rfl | rfl
          · exact ⟨by decide, by decide⟩
          · exact ⟨hmz, hmz⟩
        · unfold spsO at hx
          obtain ⟨y, hy, rfl⟩ := List.mem_map.1 hx
          have := hs y (List.mem_filter.1 hy).1
          exact ⟨this.1, spanOf_size this.1 this.2⟩
      have hjn := rJoin_calls _ _ wr hrd hlen hoks
      have hsz := hb.size
      go_wp2_with (go_at_call 163; refine hjn.mono ?_; rintro e w1 ⟨v', rfl, hown', hb1⟩)
      go_ret
      exact ⟨_, rfl, hown'.lower hsz, Below.step hb hb1⟩

end Go.Proofs.YtanjgeacmpmjhaaGreatDoor
