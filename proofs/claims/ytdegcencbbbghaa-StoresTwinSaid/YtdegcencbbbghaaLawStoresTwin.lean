/-
  The law concordatlaw13.StoresTwin: a twin has the same rows, and is one of its own: what is done with the one is not seen in the other one. No condition.
-/
import Derived.Test.YtdegcencbbbghaaChP
set_option linter.unusedVariables false
set_option linter.unusedSimpArgs false
namespace Go.Proofs.Ytdegcencbbbghaa
open Go.RowKit Go.Shelf

abbrev sMine : ByteArray := ⟨#[109, 105, 110, 101]⟩

/-- What is in a twin was there, from place k on, or was put. -/
def Fro (m more : List Row) (k : Nat) (tl : List Row) : Prop := ∀ key, getL key tl ≠ none → (∃ j x, k ≤ j ∧ m[j]? = some x ∧ x.k = key) ∨ ∃ x ∈ more, x.k = key

theorem Fro.start (m more : List Row) : Fro m more 0 m := fun key h => by
  cases hg : getL key m with
  | none => exact absurd hg h
  | some u =>
    obtain ⟨j, hj⟩ := List.getElem?_of_mem (getL_mem hg)
    exact .inl ⟨j, _, Nat.zero_le _, hj, rfl⟩

theorem Fro.put {m more tl : List Row} {k : Nat} {x : Row} (h : Fro m more k tl) (hx : x ∈ more) : Fro m more k (if okKey x.k then putL x.k x.v tl else tl) := by
  split
  · intro key hk
    rw [getL_put] at hk
    by_cases e : x.k = key
    · exact .inr ⟨x, hx, e⟩
    · rw [if_neg e] at hk
      exact h key hk
  · exact h

theorem Fro.del {m more tl : List Row} {k : Nat} (key' : Str) (hr : Rising tl) (h : Fro m more k tl) : Fro m more k (if okKey key' then delL key' tl else tl) := by
  split
  · intro key hk
    rw [getL_del key' key hr] at hk
    by_cases e : key' = key
    · rw [if_pos e] at hk; exact absurd rfl hk
    · rw [if_neg e] at hk
      exact h key hk
  · exact h

theorem Fro.next {m more tl : List Row} {k : Nat} {y : Row} (hy : m[k]? = some y) (hr : Rising tl) (h : Fro m more k tl) : Fro m more (k + 1) (delL y.k tl) := by
  intro key hk
  rw [getL_del y.k key hr] at hk
  by_cases e : y.k = key
  · rw [if_pos e] at hk; exact absurd rfl hk
  · rw [if_neg e] at hk
    rcases h key hk with ⟨j, x, hj, hx, hxk⟩ | h
    · refine .inl ⟨j, x, ?_, hx, hxk⟩
      by_cases hjk : j = k
      · subst hjk
        rw [hy] at hx
        injection hx with hx
        subst hx
        exact absurd hxk e
      · omega
    · exact .inr h

theorem Fro.done {m more tl : List Row} {k : Nat} (h : Fro m more k tl) (hk : m.length ≤ k) (key : Str) : (!(getL key tl).isSome || more.any fun x => decide (x.k = key)) = true := by
  cases hg : getL key tl with
  | none => rfl
  | some u =>
    rcases h key (by rw [hg]; simp) with ⟨j, x, hj, hx, _⟩ | ⟨x, hx, e⟩
    · have := (List.getElem?_eq_some_iff.1 hx).1; omega
    · rw [Option.isSome_some, Bool.not_true, Bool.false_or, List.any_eq_true]
      exact ⟨x, hx, by simpa using e⟩

set_option maxHeartbeats 2000000 in
set_option maxRecDepth 100000 in
theorem storesTwin_walk (v vm : Value) (xs more : List Row) (w : World) (hv : Rd Row.enc 2 w v xs) (hlen : xs.length * 24 ≤ 140737488351232) (hs : ∀ x ∈ xs, x.ok)
    (hvm : Rd Row.enc 2 w vm more) (hmlen : more.length * 24 ≤ 140737488351232) (hms : ∀ x ∈ more, x.ok) :
    Calls Try.prog 12 #[v, vm] w fun e w' => e = .returned (.bool true) ∧ Below w.heap.size w w' := by
  have hs' : ∀ x ∈ xs, x.k.size ≤ 140737488351232 := fun x hx => (hs x hx).1
  have hms' : ∀ x ∈ more, x.k.size ≤ 140737488351232 := fun x hx => (hms x hx).1
  have hmany := fun (W : World) (hb : Below w.heap.size w W) => many_calls v xs W (hv.below hb) (by omega) hs'
  have hmany2 := fun (W : World) (hb : Below w.heap.size w W) => many_calls vm more W (hvm.below hb) (by omega) hms'
  have hputs := fun (W : World) (hb : Below w.heap.size w W) (hl : xs.length ≤ 200) => puts_calls v xs W (hv.below hb) (by omega) hs'
  obtain ⟨A, c, rfl, hlc, hc⟩ := hv.shape
  obtain ⟨A', c', rfl, hlc', hc'⟩ := hvm.shape
  have hm : ∀ l : List Row, manyL l = false → l.length ≤ 200 := fun l h => by
    unfold manyL at h
    simp only [Bool.or_eq_false_iff, decide_eq_false_iff_not] at h
    omega
  have HM := Lib.hid (hm xs)
  have HM2 := Lib.hid (hm more)
  clear hm
  generalize manyL xs = b at *
  generalize manyL more = b2 at *
  have hbig : b = true ∨ (b = false ∧ b2 = true) ∨ (b = false ∧ b2 = false) := by cases b <;> cases b2 <;> simp
  rcases hbig with rfl | ⟨rfl, rfl⟩ | ⟨rfl, rfl⟩
  iterate 2
    · clear hputs
      go_enter Try.func12, Try.ntmps12
      go_wp2_with (first
        | (go_at_call 13; refine (alive_calls _).mono ?_; rintro e w1 ⟨rfl, hb1⟩; (first | (replace hB0 := Below.step hB0 hb1; clear hb1) | (have hB0 := hb1; clear hb1)))
        | (go_at_call 14; refine (hmany _ hB0).mono ?_; rintro e w2 ⟨rfl, hb1⟩; replace hB0 := Below.step hB0 hb1; clear hb1 hmany)
        | (go_at_call 14; refine (hmany2 _ hB0).mono ?_; rintro e w3 ⟨rfl, hb1⟩; replace hB0 := Below.step hB0 hb1; clear hb1))
      go_ret
      exact ⟨rfl, hB0⟩
  have hl2 := HM.out rfl
  have hl3 := HM2.out rfl
  clear HM HM2
  go_enter Try.func12, Try.ntmps12
  go_wp2_with (first
    | (go_at_call 13; refine (alive_calls _).mono ?_; rintro e w1 ⟨rfl, hb1⟩; have hB0 := hb1; clear hb1)
    | (go_at_call 14; refine (hmany _ hB0).mono ?_; rintro e w2 ⟨rfl, hb1⟩; replace hB0 := Below.step hB0 hb1; clear hb1 hmany)
    | (go_at_call 14; refine (hmany2 _ hB0).mono ?_; rintro e w3 ⟨rfl, hb1⟩; replace hB0 := Below.step hB0 hb1; clear hb1 hmany2)
    | (go_at_call 15; refine (hputs _ hB0 hl2).mono ?_; rintro e w4 ⟨u1, rfl, hb1, hM1⟩; have hMA := hM1.lower hB0.size; clear hM1; replace hB0 := Below.step hB0 hb1; have hlm := putAll_length xs; have hal := putAll_ok xs; generalize putAll xs = m at *; have hra := rows_calls hMA (by omega); clear hb1 hputs)
    | (go_at_call 18; refine hra.mono ?_; rintro e w6 ⟨v6, rfl, hb6, own6⟩; have hw6 := Own.rdOff row_len hMA hb6 own6; have hltw := own6.lt; obtain ⟨A6, c6, rfl, _, _⟩ := own6.slice; have hM6 := hMA.below hb6; have hB6 := Below.step hB0 hb6; have htw := twin_calls hM6 (by omega); clear hra hb6 own6 hMA hB0)
    | (go_at_call 27; refine htw.mono ?_; rintro e w7 ⟨C, u7, rfl, hb7, hMC⟩; have hAp := Apart.new (b' := 0) hM6 hMC; have hw7 := hw6.below hb7; have hwC : RdOff Row.enc 2 w7 C u7 (.slice A6 m.length c6) m := ⟨hw7.1, .inr fun b e => hMC.off (hltw b e)⟩; have hMT := hMC.lower hB6.size; have hM7 := hM6.below hb7; have hB7 := Below.step hB6 hb7; have hrt := rows_calls hMT (by omega); clear htw hb7 hM6 hB6 hMC hw6 hltw)
    | (go_at_call 18; refine hrt.mono ?_; rintro e w8 ⟨v8, rfl, hb8, own8⟩; have hsame := sameRows_calls v8 _ m m w8 (own8.rd row_len) (hw7.1.below hb8); rw [decide_eq_true rfl] at hsame; obtain ⟨A8, c8, rfl, _, _⟩ := own8.slice; have hM8 := hM7.below hb8; have hMT8 := hMT.below hb8; have hw8 := hw7.below hb8; have hwC8 := hwC.below hb8; have hB8 := Below.step hB7 hb8; clear hrt hb8 own8 hM7 hMT hw7 hwC hB7)
    | (go_at_call 21; refine hsame.mono ?_; rintro e w9 ⟨rfl, hb9⟩; have hM9 := hM8.below hb9; have hMT9 := hMT8.below hb9; have hw9 := hw8.below hb9; have hwC9 := hwC8.below hb9; have hB9 := Below.step hB8 hb9; clear hsame hb9 hM8 hMT8 hw8 hwC8 hB8))
  clear hs hs' hv
  go_loopw [8] (fun iv wr => ∃ (k : Nat) (ut : Value) (tl : List Row), k ≤ more.length ∧ iv = .int .i64 k ∧ MapAt w.heap.size wr C ut tl ∧ Fro m more 0 tl ∧ tl.length ≤ m.length + k ∧ MapAt w.heap.size wr w3.heap.size u1 m ∧ Apart w3.heap.size u1 C ut ∧ RdOff Row.enc 2 wr C ut (.slice A6 m.length c6) m ∧ Below w.heap.size w wr) (fun iv _ => more.length - (intOf iv).toNat)
  case atStart => exact ⟨0, _, m, Nat.zero_le _, rfl, hMT9, Fro.start m more, by omega, hM9, hAp, hwC9, hB9⟩
  case round =>
    clear hMT9 hM9 hAp hwC9 hB9 hw9
    obtain ⟨k, ut, tl, hkx, rfl, hMT, hfro, htl, hMA, hAp, hwC, hB⟩ := hrel
    by_cases hlt : k < more.length
    · have hmem := List.getElem_mem hlt
      have hsx := hms' more[k] hmem
      obtain ⟨b, o, rfl, hx1, hx2⟩ := (hvm.below hB).row (List.getElem?_eq_getElem hlt)
      have hx1w : ∀ wr', Below w.heap.size w wr' → wr'.cell? ⟨b, o + k * 2, none⟩ = some (.string more[k].k) := fun wr' h => by
        obtain ⟨b', o', e, h1, h2⟩ := (hvm.below h).row (List.getElem?_eq_getElem hlt)
        injection e with e
        injection e with e1 e2
        subst e1 e2
        exact h1
      generalize more[k] = x at *
      have hfp := hfro.put hmem
      have hput := fun W (h : Below wr.heap.size wr W) => put_calls (hMT.below h) (by omega) x.k x.v (by omega)
      have hpl : (if okKey x.k then putL x.k x.v tl else tl).length ≤ m.length + (k + 1) := by
        have := putL_length x.k x.v tl
        split <;> omega
      generalize (if okKey x.k then putL x.k x.v tl else tl) = tl2 at *
      have hdelf := fun hr => Fro.del (tl := tl2) x.k hr hfp
      have hdell : (if okKey x.k then delL x.k tl2 else tl2).length ≤ m.length + (k + 1) := by
        have := delL_length x.k tl2
        split <;> omega
      generalize (if okKey x.k then (0 : Int) else 1) = r1 at *
      go_wp2
      go_still_tail 11, (by kernel_rfl)
      change wpList _ _ _ _ _ wr.drew
      generalize hw2 : wr.drew = w2d
      have hbd : Below wr.heap.size wr w2d := by rw [← hw2]; exact (Below.refl _ wr).drew
      clear hw2 hx1 hx2
      go_wp2_with (first
        | (go_at_call 26; refine (hput _ hbd).mono ?_; rintro e w10 ⟨u10, rfl, hM10, s10⟩; have hs10 := (Step.of_below hbd C ut).trans s10; obtain ⟨hAp10, hMA10⟩ := hAp.symm.step hMA hs10; have hwC10 := hwC.step hs10; have hB10 := hB.trans (hs10.below hMT); have hx3 := hx1w _ hB10; have hdel := del_calls hM10 (by omega) x.k (by omega); clear hput s10 hs10 hbd)
        | (go_at_call 25; refine hdel.mono ?_; rintro e w11 ⟨u11, rfl, hM11, s11⟩; obtain ⟨hAp11, hMA11⟩ := hAp10.step hMA10 s11; have hwC11 := hwC10.step s11; have hB11 := hB10.trans (s11.below hM10); have hff := hdelf hM10.rise; clear hdel s11 hx3))
      all_goals
        go_roundw
        case rel =>
          first
            | exact ⟨k + 1, u11, _, by omega, by go_num, hM11, hff, hdell, hMA11, hAp11.symm, hwC11, hB11⟩
            | exact ⟨k + 1, u10, tl2, by omega, by go_num, hM10, hfp, hpl, hMA10, hAp10.symm, hwC10, hB10⟩
        case measure => simp [intOf]; omega
    · go_wp2
      go_loopw [9] (fun iv wr => ∃ (k : Nat) (ut : Value) (tl : List Row), k ≤ m.length ∧ iv = .int .i64 k ∧ MapAt w.heap.size wr C ut tl ∧ Fro m more k tl ∧ tl.length ≤ 1000 ∧ MapAt w.heap.size wr w3.heap.size u1 m ∧ Apart w3.heap.size u1 C ut ∧ RdOff Row.enc 2 wr C ut (.slice A6 m.length c6) m ∧ Below w.heap.size w wr) (fun iv _ => m.length - (intOf iv).toNat)
      case atStart => exact ⟨0, ut, tl, Nat.zero_le _, rfl, hMT, hfro, by omega, hMA, hAp, hwC, hB⟩
      case round =>
        clear hMT hfro htl hMA hAp hwC hB
        obtain ⟨k, ut, tl, hkx, rfl, hMT, hfro, htl, hMA, hAp, hwC, hB⟩ := hrel
        by_cases hlt : k < m.length
        · have hmx := List.getElem?_eq_getElem hlt
          have hok := hal _ (List.getElem_mem hlt)
          have hnx := Fro.next hmx hMT.rise hfro
          obtain ⟨b, o, rfl, hx1, hx2⟩ := hwC.1.row hmx
          have hksz : m[k].k.size ≤ 16 := by
            have h := hok
            unfold okKey at h
            simp only [Bool.and_eq_true, decide_eq_true_eq] at h
            exact h.1.2
          have hdl := delL_length m[k].k tl
          have hdel := del_calls hMT (by omega) m[k].k (by omega)
          rw [hok] at hdel
          simp only [↓reduceIte] at hdel
          clear hmx hok
          generalize m[k] = y at *
          generalize (if (getL y.k tl).isSome = true then (0 : Int) else 6) = r1 at *
          go_wp2_with (go_at_call 25; refine hdel.mono ?_; rintro e w12 ⟨u12, rfl, hM12, s12⟩; clear hdel hx1 hx2)
          go_roundw
          case rel =>
            obtain ⟨hAp12, hMA12⟩ := hAp.symm.step hMA s12
            exact ⟨k + 1, u12, _, by omega, by go_num, hM12, hnx, by omega, hMA12, hAp12.symm, hwC.step s12, hB.trans (s12.below hMT)⟩
          case measure => simp [intOf]; omega
        · have hdone := hfro.done (by omega) sMine
          have hrb := rows_calls hMA (by omega)
          have hwr := hwC.1
          clear hfro hwC
          go_wp2_with (first
            | (go_at_call 18; refine hrb.mono ?_; rintro e w13 ⟨v13, rfl, hb13, own13⟩; have hsame := sameRows_calls v13 _ m m w13 (own13.rd row_len) (hwr.below hb13); rw [decide_eq_true rfl] at hsame; obtain ⟨A13, c13, rfl, _, _⟩ := own13.slice; have hM13 := hMA.below hb13; have hT13 := hMT.below hb13; have hB13 := Below.step hB hb13; clear hrb hb13 own13 hwr hMA hMT hB)
            | (go_at_call 21; refine hsame.mono ?_; rintro e w14 ⟨rfl, hb14⟩; have hM14 := hM13.below hb14; have hT14 := hT13.below hb14; have hB14 := Below.step hB13 hb14; have hput := put_calls hM14 (by omega) sMine 1 (by decide); rw [show okKey sMine = true by decide +kernel] at hput; simp only [↓reduceIte] at hput; clear hsame hb14 hM13 hT13 hB13)
            | (go_at_call 26; refine hput.mono ?_; rintro e w15 ⟨u15, rfl, hM15, s15⟩; obtain ⟨hAp15, hT15⟩ := hAp.step hT14 s15; have hB15 := hB14.trans (s15.below hM14); have hget := get_calls hT15 (by omega) sMine; clear hput s15 hM14 hT14 hB14 hAp)
            | (go_at_call 17; refine hget.mono ?_; rintro e w16 ⟨rfl, hb16⟩; have hB16 := Below.step hB15 hb16; clear hget hb16 hM15 hT15 hAp15 hB15))
          generalize (getL sMine tl).getD 0 = gv at *
          generalize (getL sMine tl).isSome = gb at *
          go_loopw [12, 13] (fun mv iv wr => ∃ k : Nat, k ≤ more.length ∧ iv = .int .i64 k ∧ mv = .bool ((more.take k).any fun x => decide (x.k = sMine)) ∧ Below w16.heap.size w16 wr) (fun _ iv _ => more.length - (intOf iv).toNat)
          case atStart => exact ⟨0, Nat.zero_le _, rfl, by simp, Below.refl _ _⟩
          case round =>
            obtain ⟨k, hkx, rfl, rfl, hb⟩ := hrel
            by_cases hlt : k < more.length
            · have hsn : ((more.take (k + 1)).any fun x => decide (x.k = sMine)) = (((more.take k).any fun x => decide (x.k = sMine)) || decide (more[k].k = sMine)) := by
                rw [List.take_add_one, List.getElem?_eq_getElem hlt, List.any_append]
                simp
              obtain ⟨b, o, rfl, hx1, hx2⟩ := (hvm.below (hB16.trans (hb.mono hB16.size))).row (List.getElem?_eq_getElem hlt)
              generalize more[k] = x at *
              have HS := Lib.hid hsn
              generalize (more.take k).any (fun x => decide (x.k = sMine)) = fd at *
              have hxt : (x.k.toList == [109, 105, 110, 101]) = decide (x.k = sMine) := by rw [← toList_beq, toList_l sMine]; rfl
              by_cases hxk : x.k = sMine
              · have hxd : decide (x.k = sMine) = true := decide_eq_true hxk
                have HX := Lib.hid hxd
                rw [hxd] at hxt
                clear hsn hdone hxk
                go_wp2
                go_roundw
                case rel => exact ⟨k + 1, by omega, by go_num, by rw [HS.out, HX.out]; simp, hb⟩
                case measure => simp [intOf]; omega
              · have hxd : decide (x.k = sMine) = false := decide_eq_false hxk
                have HX := Lib.hid hxd
                rw [hxd] at hxt
                clear hsn hdone hxk
                go_wp2
                go_roundw
                case rel => exact ⟨k + 1, by omega, by go_num, by rw [HS.out, HX.out]; simp, hb⟩
                case measure => simp [intOf]; omega
            · have hck : more.take k = more := List.take_of_length_le (by omega)
              rw [hck]
              generalize (more.any fun x => decide (x.k = sMine)) = fd at *
              cases gb
              · clear hdone
                go_wp2
                go_ret
                exact ⟨rfl, hB16.trans (hb.mono hB16.size)⟩
              · have hfd : fd = true := by simpa using hdone
                subst hfd
                clear hdone
                go_wp2
                go_ret
                exact ⟨rfl, hB16.trans (hb.mono hB16.size)⟩

end Go.Proofs.Ytdegcencbbbghaa
