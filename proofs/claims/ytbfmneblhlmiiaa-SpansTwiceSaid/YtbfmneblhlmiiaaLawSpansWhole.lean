import Derived.Test.YtbfmneblhlmiiaaSpA
set_option linter.unusedVariables false
set_option linter.unusedSimpArgs false
namespace Go.Proofs.Ytbfmneblhlmiiaa
open Go.RowKit Go.Shelf

theorem any_snoc {α : Type} (p : α → Bool) (l : List α) (n : Nat) (x : α) (h : l[n]? = some x) : (l.take (n + 1)).any p = ((l.take n).any p || p x) := by
  obtain ⟨hl, he⟩ := List.getElem?_eq_some_iff.1 h
  rw [List.take_succ_eq_append_getElem hl, he, List.any_append]
  simp

set_option maxHeartbeats 2000000 in
set_option maxRecDepth 100000 in
theorem spansWhole_walk (v : Value) (xs : List Span) (k : ByteArray) (w : World) (hv : Rd Span.enc 2 w v xs) (hlen : xs.length * 32 ≤ 140737488351232) (hs : ∀ x ∈ xs, x.ok) (hk : small k) :
    Calls Try.prog 6 #[v, .string k] w fun e w' => e = .returned (.bool true) ∧ Below w.heap.size w w' := by
  unfold small at hk
  have g1 := fun (W : World) (hb : Below w.heap.size w W) => great_calls v xs W (hv.below hb) (by omega) (fun x hx => hs x hx)
  have j1 := fun (W : World) (hb : Below w.heap.size w W) (hl : xs.length ≤ 1000000) => join_own v xs W (hv.below hb) hl
  obtain ⟨A, c, rfl, hlc, hc⟩ := hv.shape
  clear hs
  have hB := Below.refl w.heap.size w
  have hbig : greatL xs = true ∨ (greatL xs = false ∧ k.size > 5000) ∨ (greatL xs = false ∧ ¬ k.size > 5000) := by
    cases greatL xs <;> by_cases h : k.size > 5000 <;> simp [h]
  rcases hbig with h1 | ⟨h1, h3⟩ | ⟨h1, h3⟩
  iterate 2
    · rw [h1] at g1
      clear j1 hv h1
      go_enter Try.func6, Try.ntmps6
      go_wp2_with (first
        | (go_at_call 26; (with_reducible refine (g1 _ hB).mono ?_); rintro e w1 ⟨rfl, hb1⟩; replace hB := Below.step hB hb1; clear hb1)
        | (go_at_call 24; refine (aliveS_calls _).mono ?_; rintro e w1 ⟨rfl, hb1⟩; replace hB := Below.step hB hb1; clear hb1))
      go_ret
      exact ⟨rfl, hB⟩
  rw [h1] at g1
  have hl2 := greatL_false h1
  have hlx : xs.length ≤ 1000000 := by omega
  obtain ⟨hnf, _, _, hjl⟩ := joinF_spec xs
  have hin := in_joinF k xs
  clear h1
  generalize joinF xs = J at *
  have HIN := Lib.hid hin
  have HNF := Lib.hid hnf
  clear hin hnf
  go_enter Try.func6, Try.ntmps6
  go_wp2_with (first
    | (go_at_call 26; (with_reducible refine (g1 _ hB).mono ?_); rintro e w1 ⟨rfl, hb1⟩; replace hB := Below.step hB hb1; clear hb1)
    | (go_at_call 24; refine (aliveS_calls _).mono ?_; rintro e w1 ⟨rfl, hb1⟩; replace hB := Below.step hB hb1; clear hb1)
    | (go_at_call 27; (with_reducible refine (j1 _ hB hlx).mono ?_); rintro e w2 ⟨A2, c2, rfl, o2, hb1⟩; obtain ⟨_, _, _, hc2, hc2'⟩ := Own.slice o2; have r2 := Own.rd span_len o2; clear o2; replace hB := Below.step hB hb1; clear hb1))
  replace hv := hv.below hB
  clear j1 g1
  go_loopw [6, 7] (fun bv i wr => ∃ n : Nat, n ≤ xs.length ∧ i = .int .i64 n ∧ bv = .bool ((xs.take n).any fun x => sin k x.f x.t) ∧ Below w2.heap.size w2 wr) (fun _ i _ => xs.length - (intOf i).toNat)
  case atStart => exact ⟨0, Nat.zero_le _, rfl, rfl, Below.refl _ _⟩
  case round =>
    obtain ⟨n, hn, rfl, rfl, hb⟩ := hrel
    by_cases hlt : n < xs.length
    · obtain ⟨b, o, rfl, hx1, hx2⟩ := (hv.below hb).span (List.getElem?_eq_getElem hlt)
      have HT := Lib.hid (any_snoc (fun x : Span => sin k x.f x.t) xs n _ (List.getElem?_eq_getElem hlt))
      generalize xs[n] = x at *
      generalize ((xs.take n).any fun x => sin k x.f x.t) = bo at *
      have i1 := fun W => in_calls k x.f x.t W
      generalize sin k x.f x.t = q at *
      replace hx1 := fun p : Later wr => Later.cell p hx1
      replace hx2 := fun p : Later wr => Later.cell p hx2
      cases bo
      all_goals
        go_wp2
        refine wp_region_later (by kernel_rfl) (by kernel_rfl) ?_
        repeat (go_big_quiet_step ((go_at_call 25; with_reducible exact Calls.later_same (i1 _))))
        refine wpQuiet_nil ?_
        rintro _ ⟨p, rfl⟩
        clear hx1 hx2 i1
        go_wp2
        go_roundw
        case rel => exact ⟨n + 1, by omega, by go_num, by rw [HT.out]; rfl, Below.step hb p.ok⟩
        case measure => simp [intOf]; omega
    · have e : (xs.take n).any (fun x => sin k x.f x.t) = J.any fun x => sin k x.f x.t := by
        rw [List.take_of_length_le (by omega)]; exact HIN.out.symm
      rw [e]
      clear e
      replace r2 := r2.below hb
      replace hB := Below.step hB hb
      clear HIN hb hv
      obtain ⟨wo, rfl⟩ : ∃ wo : World, wo = wr := ⟨_, rfl⟩
      go_wp2
      go_loopw [8, 9] (fun bv i wr => ∃ n : Nat, n ≤ J.length ∧ i = .int .i64 n ∧ bv = .bool ((J.take n).any fun x => sin k x.f x.t) ∧ Below wo.heap.size wo wr) (fun _ i _ => J.length - (intOf i).toNat)
      case atStart => exact ⟨0, Nat.zero_le _, rfl, rfl, Below.refl _ _⟩
      case round =>
        obtain ⟨n, hn, rfl, rfl, hb⟩ := hrel
        by_cases hlt : n < J.length
        · obtain ⟨b, o, hA2, hx1, hx2⟩ := (r2.below hb).span (List.getElem?_eq_getElem hlt)
          have HT := Lib.hid (any_snoc (fun x : Span => sin k x.f x.t) J n _ (List.getElem?_eq_getElem hlt))
          have hfull := HNF.out.1 J[n] (List.getElem_mem hlt)
          have hXn := Lib.hid (List.getElem?_eq_getElem hlt)
          generalize J[n] = x at *
          generalize ((J.take n).any fun x => sin k x.f x.t) = bo at *
          have i1 := fun W => in_calls k x.f x.t W
          generalize sin k x.f x.t = q at *
          have hxt : slt x.t x.f = false := not_slt.2 hfull
          replace hx1 := fun p : Later wr => Later.cell p hx1
          replace hx2 := fun p : Later wr => Later.cell p hx2
          have hstep : n = 0 ∨ ∃ (m : Nat) (y : Span), n = m + 1 ∧ sle x.f y.t = false ∧ ∀ p : Later wr, p.val.cell? ⟨b, o + m * 2 + 1, none⟩ = some (.string y.t) := by
            cases n with
            | zero => exact .inl rfl
            | succ m =>
              have hm : m < J.length := by omega
              have hy := List.getElem?_eq_getElem hm
              obtain ⟨b', o', hA', _, hy2⟩ := (r2.below hb).span hy
              rw [hA2] at hA'
              injection hA' with hA'
              injection hA' with e1 e2
              subst e1 e2
              exact .inr ⟨m, _, rfl, not_sle.2 (HNF.out.next hy hXn.out), fun p => Later.cell p hy2⟩
          subst hA2
          cases bo
          all_goals
            go_wp2
            refine wp_region_later (by kernel_rfl) (by kernel_rfl) ?_
            repeat (go_big_quiet_step ((go_at_call 25; with_reducible exact Calls.later_same (i1 _))))
            refine wpQuiet_nil ?_
            rintro _ ⟨p, rfl⟩
            replace hx1 := fun q : Later p.val => Later.cell q (hx1 p)
            replace hx2 := fun q : Later p.val => Later.cell q (hx2 p)
            clear i1
            rcases hstep with hn0 | ⟨m, y, hnm, hxy, hy2⟩
            · subst hn0
              have hc0 : ((0 : Nat) : Int) = 0 := rfl
              rw [hc0]
              simp only [Nat.zero_mul, Nat.add_zero] at hx1 hx2
              have hj0 : (0 : Int) < (J.length : Int) := by omega
              clear hc0
              go_wp2
              refine wp_region_later (by kernel_rfl) (by kernel_rfl) ?_
              repeat (go_big_quiet_step ((fail)))
              refine wpQuiet_nil ?_
              rintro _ ⟨q, rfl⟩
              clear hx1 hx2
              go_wp2
              go_roundw
              case rel => exact ⟨1, by omega, by go_num, by rw [HT.out]; rfl, Below.step hb (Below.step p.ok q.ok)⟩
              case measure => simp [intOf]; omega
            · replace hy2 := fun q : Later p.val => Later.cell q (hy2 p)
              have hmb : (m : Int) ≤ 1000000 := by omega
              have hlo0 : (0 : Int) ≤ (m : Int) := by omega
              have hlo1 : (m : Int) < (J.length : Int) := by omega
              have hw1 : IntKind.i64.wrap ((n : Int) - 1) = (m : Int) := by rw [IntKind.wrap_i64]; omega
              have hw2 : (n : Int) - 1 = (m : Int) := by omega
              have hpos : 0 < n := by omega
              clear hnm
              go_wp2
              refine wp_region_later (by kernel_rfl) (by kernel_rfl) ?_
              repeat (go_big_quiet_step ((fail)))
              refine wpQuiet_nil ?_
              rintro _ ⟨q, rfl⟩
              clear hx1 hx2 hy2 hw1 hw2
              go_wp2
              go_roundw
              case rel => exact ⟨n + 1, by omega, by go_num, by rw [HT.out]; rfl, Below.step hb (Below.step p.ok q.ok)⟩
              case measure => simp [intOf]; omega
        · have e : (J.take n).any (fun x => sin k x.f x.t) = J.any fun x => sin k x.f x.t := by rw [List.take_of_length_le (by omega)]
          rw [e]
          have hle : decide (J.length ≤ xs.length) = true := decide_eq_true (by omega)
          go_wp2
          go_ret
          exact ⟨ret_bool (by simp), Below.step hB hb⟩

end Go.Proofs.Ytbfmneblhlmiiaa
