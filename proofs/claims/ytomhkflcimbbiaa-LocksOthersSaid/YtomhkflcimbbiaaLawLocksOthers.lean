import Derived.Test.YtomhkflcimbbiaaLawLocksSelf
set_option linter.unusedVariables false
set_option linter.unusedSimpArgs false
set_option linter.unusedSectionVars false
namespace Go.Proofs.Ytomhkflcimbbiaa
open Go.RowKit Go.Shelf

theorem way_freed {T : Tab} {who m : Int} {f t : Str} {al : Bool} {l l' : List Int} (h : if mayL m f t then WayIs T m f t al l else l = []) (h' : if mayL m f t then WayIs (putT T who []) m f t al l' else l' = []) : l' = l.filter fun o => decide (o ≠ who) := by
  split at h
  · rename_i hm
    rw [if_pos hm] at h'
    refine h'.uniq ⟨h.rise.filter _, fun o => ?_⟩
    rw [List.mem_filter, h.mem, decide_eq_true_eq]
    unfold InWay putT
    constructor
    · rintro ⟨⟨h1, x, hx, hh⟩, h2⟩
      exact ⟨h1, x, by rw [if_neg (fun e => h2 e.symm)]; exact hx, hh⟩
    · rintro ⟨h1, x, hx, hh⟩
      split at hx
      · cases hx
      · rename_i hne
        exact ⟨⟨h1, x, hx, hh⟩, fun e => hne e.symm⟩
  · rename_i hm
    rw [if_neg hm] at h'
    rw [h, h']; rfl
theorem filter_snocI (p : Int → Bool) (xs : List Int) (k : Nat) (x : Int) (h : xs[k]? = some x) : (xs.take (k + 1)).filter p = (xs.take k).filter p ++ (if p x then [x] else []) := by
  rw [List.take_add_one, h, List.filter_append]
  simp only [Option.toList, List.filter_cons, List.filter_nil]
def BoxS (w : World) (b : Nat) (f t : ByteArray) : Prop := w.heap[b]? = some (.cells #[.string f, .string t] 24 (0, 0))
section
variable {w w' : World} {b base : Nat} {f t : ByteArray}
theorem BoxS.below (h : BoxS w b f t) (hb : Below w.heap.size w w') : BoxS w' b f t := (hb.block _ (Array.getElem?_eq_some_iff.1 h).1).trans h
theorem BoxS.tstep (h : BoxS w b f t) (s : TStep base w w') : BoxS w' b f t := s.cells h (by decide)
theorem BoxS.set (h : BoxS w b f t) {B k : Nat} (hB : B ≠ b) (u : Value) : BoxS (w.setCell ⟨B, k, none⟩ u) b f t := (Below.heap_setCell _ _ _ _ (fun e => hB e.symm)).trans h
theorem BoxS.cells (h : BoxS w b f t) : w.cell? ⟨b, 0, none⟩ = some (.string f) ∧ w.cell? ⟨b, 1, none⟩ = some (.string t) := by
  unfold BoxS at h
  exact ⟨by simp [World.cell?, h], by simp [World.cell?, h]⟩
end

set_option maxHeartbeats 2000000 in
set_option maxRecDepth 100000 in
theorem locksOthers_walk (v0 : Value) (xs : List LAct) (who : Int) (x : Span) (w : World) (rd0 : Rd LAct.enc 5 w v0 xs) (ok0 : ∀ a ∈ xs, a.ok) (hwx : (Lit.int .u32 who).wf = true) (ok2 : x.ok) :
    Calls Try.prog 8 #[v0, .int .u32 who, .agg #[.string x.f, .string x.t]] w fun e w' => e = .returned (.bool true) ∧ Below w.heap.size w w' := by
  obtain ⟨A0, p0, rfl, hl0, hc0⟩ := rd0.shape
  obtain ⟨f, t⟩ := x
  replace hwx : okU who := hwx
  obtain ⟨okf, okt⟩ := ok2
  unfold small at okf okt
  simp only at okf okt ⊢
  go_enter Try.func8, Try.ntmps8
  have hB : Below w.heap.size w (w.alloc (.cells #[.string f, .string t] 24)) := (Below.refl _ w).alloc (Nat.le_refl _) _
  have s0 : BoxS (w.alloc (.cells #[.string f, .string t] 24)) w.heap.size f t := lalloc_at _ rfl
  have hwr : IntKind.i64.wrap ((f.size : Int) + t.size) = (f.size : Int) + t.size := wrap_id (by omega) (by omega)
  go_upto_region 1 with fail
  generalize w.alloc (.cells #[.string f, .string t] 24) = w0 at *
  go_wp2_with fail
  go_at_call 15
  refine (aliveL_calls _).mono ?_
  rintro e w1 ⟨rfl, hb1⟩
  replace hB := Below.step hB hb1
  replace s0 := s0.below hb1
  clear hb1
  go_wp2_with fail
  go_at_call 16
  refine (lgreat_calls _ xs _ (rd0.below hB)).mono ?_
  rintro e w2 ⟨⟨g, rfl⟩, hb2⟩
  replace hB := Below.step hB hb2
  replace s0 := s0.below hb2
  clear hb2
  obtain ⟨c1, c2⟩ := s0.cells
  by_cases hbad : g = true ∨ 100 < xs.length ∨ 1000 < (f.size : Int) + t.size
  · have hq : g = true ∨ (g = false ∧ 100 < xs.length) ∨ (g = false ∧ ¬ 100 < xs.length ∧ 1000 < (f.size : Int) + t.size) := by
      cases g <;> simp at hbad ⊢ <;> omega
    clear hbad
    rcases hq with h1 | ⟨h1, h2⟩ | ⟨h1, h2, h3⟩
    all_goals subst h1
    all_goals
      first
        | (have hd : decide (100 < (xs.length : Int)) = true := decide_eq_true (by omega))
        | (have hd : decide (100 < (xs.length : Int)) = false := decide_eq_false (by omega)
           have hs : decide (1000 < (f.size : Int) + t.size) = true := decide_eq_true (by omega))
        | skip
      go_wp2_with (go_at_call 15; refine (aliveL_calls _).mono ?_; rintro e w3 ⟨rfl, hb3⟩)
      go_ret
      exact ⟨rfl, Below.step hB hb3⟩
  · obtain ⟨h1, h2, h5⟩ : g = false ∧ ¬ 100 < xs.length ∧ ¬ 1000 < (f.size : Int) + t.size := by
      cases g <;> simp at hbad ⊢ <;> omega
    clear hbad
    subst h1
    have hd : decide (100 < (xs.length : Int)) = false := decide_eq_false (by omega)
    have hs : decide (1000 < (f.size : Int) + t.size) = false := decide_eq_false h5
    go_wp2_with (go_at_call 17
                 refine (tnew_calls w2).mono ?_
                 rintro e w4 ⟨rfl, hb4, hT0⟩
                 have hwb := hB.size
                 replace hB := Below.step hB hb4
                 replace s0 := s0.below hb4
                 have hz4 := hb4.size
                 clear hb4)
    generalize w2.heap.size = bb at *
    have hac : Acted w bb 0 w4 (fun _ => []) := ⟨⟨0, Nat.le_refl _, hT0⟩, .new, fun _ => Nat.le_refl _, hz4, hB⟩
    clear hd hT0 hz4 hB c1 c2 hwr h5 hs
    go_loopw [8] (fun iv wr => ∃ (k : Nat) (T : Tab), k ≤ xs.length ∧ iv = .int .i64 k ∧ Acted w bb k wr T ∧ BoxS wr w.heap.size f t) (fun iv _ => xs.length - (intOf iv).toNat)
    case atStart => exact ⟨0, _, Nat.zero_le _, rfl, hac, s0⟩
    case round =>
      clear hac s0
      obtain ⟨k, T, hk, rfl, hac, s0⟩ := hrel
      by_cases hlt : k < xs.length
      · have hxk := List.getElem?_eq_getElem hlt
        obtain ⟨bx, ox, rfl, y0, y1, y2, y3, y4⟩ := (rd0.below hac.below).lact hxk
        have hox := ok0 _ (List.getElem_mem hlt)
        have hqy := LAct.byte hox
        have hwy : okU xs[k].who := hox.2.1
        have HR := Lib.hid rd0
        clear rd0 ok0 hxk hox
        generalize xs[k] = y at *
        obtain ⟨q', who', f', t', al'⟩ := y
        simp only at y0 y1 y2 y3 y4 hqy hwy
        have hdo := hac.does (by omega) hwb q' who' f' t' al' hqy hwy
        go_wp2_with (go_at_call 18
                     refine hdo.mono ?_
                     rintro e w5 ⟨v', T', rfl, hac', hs⟩
                     replace s0 := s0.tstep hs
                     clear y0 y1 y2 y3 y4 hdo)
        go_roundw
        case rel => exact ⟨k + 1, T', by omega, by go_num, hac', s0⟩
        case measure => simp [intOf]; omega
      · have hk100 : k ≤ 100 := by omega
        obtain ⟨n, hn, hT⟩ := hac.tab
        have hlen := hac.len
        have hz := hac.room
        have hB := hac.below
        have hltB : w.heap.size < wr.heap.size := (Array.getElem?_eq_some_iff.1 s0).1
        clear hac hk rd0 ok0
        go_wp2
        have had := fun c hc => HadAt.new wr c hc T
        have hTn := fun c => hT.below ((Below.refl _ wr).alloc (Nat.le_refl _) (.cells c 60))
        have hBn := fun c => hB.alloc (by omega) (.cells c 60)
        have sn := fun c => s0.below ((Below.refl _ wr).alloc (Nat.le_refl _) (.cells c 60))
        have hzn := fun c => Nat.le_trans hz ((Below.refl wr.heap.size wr).alloc (Nat.le_refl _) (.cells c 60)).size
        generalize wr.heap.size = Bh at *
        go_loopw [12] (fun kv wr2 => ∃ k : Nat, k ≤ 12 ∧ kv = .int .u32 k ∧ HadAt wr2 Bh k T ∧ TabP bb wr2 (bb + 1) n T ∧ Below w.heap.size w wr2 ∧ BoxS wr2 w.heap.size f t ∧ bb ≤ wr2.heap.size) (fun kv _ => 12 - (intOf kv).toNat)
        case atStart => exact ⟨0, by omega, rfl, had _ (by first | rfl | simp), hTn _, hBn _, sn _, hzn _⟩
        case round =>
          clear had hTn hBn sn hzn hB s0 hz hT
          obtain ⟨j, hj, rfl, hh, hT1, hB1, s1, hz1⟩ := hrel
          by_cases hj12 : j < 12
          · have hhas := hasP_calls hT1 (j : Int) (okU_smallS (by omega) (by omega)) (Nat.le_trans (hlen _) (by omega))
            obtain ⟨N8, hN8⟩ : ∃ N, N = (T (j : Int)).map spOf := ⟨_, rfl⟩
            rw [← hN8] at hhas
            have HN8 := Lib.hid hN8
            clear hN8
            go_wp2_with (go_at_call 14
                         refine hhas.mono ?_
                         rintro e w8 ⟨v8, rfl, ho8, hb8⟩
                         obtain ⟨A8, c8, rfl, _, _⟩ := ho8.slice
                         clear hhas
                         have hh8 := hh.below hb8
                         obtain ⟨⟨u8, hu8⟩, hf8⟩ := hh8.room hj12)
            go_roundw
            case rel =>
              rw [HN8.out] at ho8
              refine ⟨j + 1, by omega, by go_num, by first | exact hh8.set hj12 ho8 | (rw [HN8.out]; exact hh8.set hj12 ho8), (hT1.below hb8).had hh8, (Below.step hB1 hb8).setCell (p := ⟨Bh, j, none⟩) (by simp; omega) _, (s1.below hb8).set (by omega) _, ?_⟩
              exact Nat.le_trans (Nat.le_trans hz1 hb8.size) (grown_set w8 Bh j _).size
            case measure => simp [intOf]; omega
          · have hj : j = 12 := by omega
            subst hj
            obtain ⟨c1, c2⟩ := s1.cells
            have hNk : n * k ≤ sortN := Nat.le_trans (Nat.mul_le_mul_right k hn) (Nat.le_trans (Nat.mul_le_mul hk100 hk100) (by decide))
            go_wp2_with fail
            go_at_call 12
            refine (wayP_calls hT1 hlen (by omega) (by omega) hNk 2147483648 f t true).mono ?_
            rintro e w9 ⟨v9, l9, rfl, ho9, hb9, hl9, hn9⟩
            obtain ⟨A9, c9, rfl, hlc9, hcc9⟩ := ho9.slice
            have hway : RdT bb encU 1 w9 (.slice A9 l9.length c9) l9 := RdT.own encU_len ho9 (by decide)
            replace hT1 := hT1.below hb9
            replace hB1 := Below.step hB1 hb9
            replace s1 := s1.below hb9
            replace hz1 := Nat.le_trans hz1 hb9.size
            replace hh := hh.below hb9
            clear hb9 c1 c2 ho9
            have hhas := hasP_calls hT1 who hwx (Nat.le_trans (hlen _) (by omega))
            obtain ⟨N9, hN9⟩ : ∃ N, N = (T who).map spOf := ⟨_, rfl⟩
            rw [← hN9] at hhas
            have hN9l : ((T who).length : Int) = (N9.length : Int) := by rw [hN9, List.length_map]
            clear hN9
            go_wp2_with fail
            go_at_call 14
            refine hhas.mono ?_
            rintro e w10 ⟨v10, rfl, ho10, hb10⟩
            obtain ⟨A10, c10, rfl, _, _⟩ := ho10.slice
            replace hT1 := hT1.below hb10
            replace hB1 := Below.step hB1 hb10
            replace s1 := s1.below hb10
            replace hz1 := Nat.le_trans hz1 hb10.size
            replace hh := hh.below hb10
            replace hway := hway.below hb10
            clear hb10 ho10 hhas
            have hfree := freeP_calls hT1 who hwx
            rw [hN9l] at hfree
            go_wp2_with fail
            go_at_call 13
            refine hfree.mono ?_
            rintro e w11 ⟨rfl, hT2, hs2⟩
            replace hB1 := hB1.trans ((hs2.below hz1).mono hwb)
            replace s1 := s1.tstep hs2
            replace hz1 := Nat.le_trans hz1 hs2.size
            replace hh := hh.tstep hs2
            replace hway := hway.step hs2
            have hp0 : putT T who [] who = [] := by simp [putT]
            have hlen2 : ∀ o, (putT T who [] o).length ≤ k := fun o => by
              unfold putT
              split
              · simp
              · exact hlen o
            have hot : ∀ o, o ≠ who → putT T who [] o = T o := fun o h => by unfold putT; rw [if_neg (fun e => h e.symm)]
            have hhas := hasP_calls hT2 who hwx (Nat.le_trans (hlen2 _) (by omega))
            rw [hp0, List.map_nil] at hhas
            have hwf := fun l' h => way_freed (T := T) (who := who) (m := 2147483648) (f := f) (t := t) (al := true) (l := l9) (l' := l') hl9 h
            have HWF := Lib.hid hwf
            have HOT := Lib.hid hot
            clear hT1 hs2 hp0 hfree hot hwf hl9
            generalize putT T who [] = T2 at *
            go_wp2_with fail
            go_at_call 14
            refine hhas.mono ?_
            rintro e w12 ⟨v12, rfl, ho12, hb12⟩
            obtain ⟨A12, c12, rfl, _, _⟩ := ho12.slice
            replace hT2 := hT2.below hb12
            replace hB1 := Below.step hB1 hb12
            replace s1 := s1.below hb12
            replace hz1 := Nat.le_trans hz1 hb12.size
            replace hh := hh.below hb12
            replace hway := hway.below hb12
            clear hb12 ho12 hhas
            go_wp2
            go_loopw [15] (fun kv wr3 => ∃ k : Nat, k ≤ 12 ∧ kv = .int .u32 k ∧ HadAt wr3 Bh 12 T ∧ TabP bb wr3 (bb + 1) n T2 ∧ Below w.heap.size w wr3 ∧ BoxS wr3 w.heap.size f t ∧ bb ≤ wr3.heap.size ∧ RdT bb encU 1 wr3 (.slice A9 l9.length c9) l9) (fun kv _ => 12 - (intOf kv).toNat)
            case atStart => exact ⟨0, by omega, rfl, hh, hT2, hB1, s1, hz1, hway⟩
            case round =>
              clear hh hT2 hB1 s1 hz1 hway
              obtain ⟨i, hi, rfl, hh, hT2, hB1, s1, hz1, hway⟩ := hrel
              by_cases hi12 : i < 12
              · by_cases hiw : (i : Int) = who
                · have hq : ((i : Int) != who) = false := by simp [hiw]
                  have HIW := Lib.hid hiw
                  clear hiw
                  go_wp2
                  go_big_quiet (fail)
                  go_wp2
                  have hbd : Below wr.heap.size wr (wr.drewN nq) := ⟨rfl, rfl, rfl, Nat.le_refl _, fun _ _ => rfl⟩
                  go_roundw
                  case rel => exact ⟨i + 1, by omega, by go_num, hh.below hbd, hT2.below hbd, Below.step hB1 hbd, s1.below hbd, hz1, hway.below hbd⟩
                  case measure => simp [intOf]; omega
                · obtain ⟨v13, hc13, ho13⟩ := hh.at_ hi12
                  obtain ⟨N13, hN13⟩ : ∃ N, N = (T (i : Int)).map spOf := ⟨_, rfl⟩
                  rw [← hN13] at ho13
                  obtain ⟨A13, c13, rfl, _, _⟩ := ho13.slice
                  have hbd : Below wr.heap.size wr wr.drew := (Below.refl _ _).drew
                  have hTd := hT2.below hbd
                  have hhas := hasP_calls hTd (i : Int) (okU_smallS (by omega) (by omega)) (Nat.le_trans (hlen2 _) (by omega))
                  rw [HOT.out _ hiw, ← hN13] at hhas
                  have hhd := hh.below hbd
                  have hBd := Below.step hB1 hbd
                  have sd := s1.below hbd
                  have hzd := Nat.le_trans hz1 hbd.size
                  have hmd := hway.below hbd
                  have hod := ho13.below hbd
                  have hcd : wr.drew.cell? ⟨Bh, i, none⟩ = some (.slice A13 N13.length c13) := hc13
                  have hq : ((i : Int) != who) = true := by simp [hiw]
                  clear hN13 hT2 hh hB1 s1 hz1 hway ho13 hc13 hbd hiw
                  go_wp2
                  go_region_held3 (fun w' => w'.cell? ⟨Bh, i, none⟩ = some (.slice A13 N13.length c13)) (go_keep) (first
                    | (go_at_call 19
                       refine (sameSpans_calls _ _ N13 N13 _ (ho14.rd span_len) (hod.rd span_len)).mono ?_
                       rw [decide_eq_true rfl]
                       rintro e w15 ⟨rfl, hb15⟩
                       replace hTd := hTd.below hb15
                       replace hhd := hhd.below hb15
                       replace hBd := Below.step hBd hb15
                       replace sd := sd.below hb15
                       replace hzd := Nat.le_trans hzd hb15.size
                       replace hmd := hmd.below hb15
                       replace hcd := Below.cell_some hb15 hcd
                       clear hb15 ho14 hod)
                    | (go_at_call 14
                       refine hhas.mono ?_
                       rintro e w14 ⟨v14, rfl, ho14, hb14⟩
                       obtain ⟨A14, c14, rfl, _, _⟩ := ho14.slice
                       replace hTd := hTd.below hb14
                       replace hhd := hhd.below hb14
                       replace hBd := Below.step hBd hb14
                       replace sd := sd.below hb14
                       replace hzd := Nat.le_trans hzd hb14.size
                       replace hmd := hmd.below hb14
                       replace hod := hod.below hb14
                       replace hcd := Below.cell_some hb14 hcd
                       clear hb14 hhas))
                  go_wp2
                  go_roundw
                  case rel => exact ⟨i + 1, by omega, by go_num, hhd, hTd, hBd, sd, hzd, hmd⟩
                  case measure => simp [intOf]; omega
              · clear hh
                go_wp2
                go_loopw [16, 17] (fun wv iv wr4 => ∃ m : Nat, m ≤ l9.length ∧ iv = .int .i64 m ∧ Own encU 1 22 wr.heap.size wr4 wv ((l9.take m).filter fun o => decide (o ≠ who)) ∧ Below wr.heap.size wr wr4) (fun _ iv _ => l9.length - (intOf iv).toNat)
                case atStart => exact ⟨0, Nat.zero_le _, rfl, Own.nil _ _ _ _ _, Below.refl _ _⟩
                case round =>
                  obtain ⟨m, hm, rfl, hown, hb⟩ := hrel
                  have hb3 := Below.step hB1 hb
                  have hfl := fun m => Nat.le_trans (List.length_filter_le (fun o => decide (o ≠ who)) (l9.take m)) (by rw [List.length_take]; exact Nat.le_trans (Nat.min_le_right _ _) hn9)
                  by_cases hml : m < l9.length
                  · have ham := List.getElem?_eq_getElem hml
                    obtain ⟨b9, o9, rfl, ha1⟩ := (hway.1.below hb).int ham
                    have hsn := filter_snocI (fun o => decide (o ≠ who)) l9 m _ ham
                    generalize l9[m] = a at *
                    obtain ⟨F1, hF1⟩ : ∃ F, (l9.take (m + 1)).filter (fun o => decide (o ≠ who)) = F := ⟨_, rfl⟩
                    rw [hF1] at hsn
                    have HF1 := Lib.hid hF1
                    have hfm := hfl m
                    clear hF1 ham hfl
                    generalize (l9.take m).filter (fun o => decide (o ≠ who)) = F0 at *
                    have HWAY := Lib.hid hway
                    clear hway
                    by_cases haw : a = who
                    · have hq : (a != who) = false := by simp [haw]
                      have hFe : F1 = F0 := by rw [hsn, if_neg (by simp [haw]), List.append_nil]
                      have HS := Lib.hid hFe
                      clear hsn hFe haw
                      go_wp2
                      go_roundw
                      case rel => exact ⟨m + 1, by omega, by go_num, by rw [HF1.out, HS.out]; exact hown, hb⟩
                      case measure => simp [intOf]; omega
                    · have hq : (a != who) = true := by simp [haw]
                      have hFe : F1 = F0 ++ [a] := by rw [hsn, if_pos (by simp [haw])]
                      have HS := Lib.hid hFe
                      clear hsn hFe haw
                      obtain ⟨A16, c16, rfl, _, _⟩ := hown.slice
                      go_wp2_with (at_builtin; refine append_oneH (W := wr) wr.heap.size rfl encU 1 22 30 4 _ _ (.slice A16 F0.length c16) F0 a rfl _ _ rfl u32s_under info_u32i rfl (by decide) (by decide) encU_len encU_one rfl rfl hown hb hb.size (by omega) ?_; intro v' w' hown' hb' hgr hat; clear hgr hat hown)
                      go_roundw
                      case rel => exact ⟨m + 1, by omega, by go_num, by rw [HF1.out, HS.out]; exact hown', hb'⟩
                      case measure => simp [intOf]; omega
                  · have hmk : m = l9.length := by omega
                    subst hmk
                    rw [List.take_length] at hown
                    obtain ⟨F1, hF1⟩ : ∃ F, l9.filter (fun o => decide (o ≠ who)) = F := ⟨_, rfl⟩
                    rw [hF1] at hown
                    have HF1 := Lib.hid hF1
                    clear hF1 hfl
                    obtain ⟨A16, c16, rfl, _, _⟩ := hown.slice
                    obtain ⟨c1, c2⟩ := (s1.below hb).cells
                    by_cases h31 : who = 2147483648
                    · have hq : (who == 2147483648) = true := by simp [h31]
                      go_wp2
                      go_ret
                      exact ⟨by simp [h31], hb3⟩
                    · have hq : (who == 2147483648) = false := by simp [h31]
                      have hway2 := wayP_calls (hT2.below hb) hlen2 (by omega) (by omega) hNk 2147483648 f t true
                      clear h31
                      go_wp2_with (first
                        | (go_at_call 22
                           refine (sameIds_calls _ _ F1 F1 _ (ho20.rd encU_len) hr20).mono ?_
                           rw [decide_eq_true rfl]
                           rintro e w21 ⟨rfl, hb21⟩)
                        | (go_at_call 12
                           refine hway2.mono ?_
                           rintro e w20 ⟨v20, l20, rfl, ho20, hb20, hl20, _⟩
                           have e20 := HWF.out l20 hl20
                           rw [HF1.out] at e20
                           rw [e20] at ho20
                           obtain ⟨A20, c20, rfl, _, _⟩ := ho20.slice
                           clear e20 hl20 hway2
                           have hr20 := (hown.rd encU_len).below hb20))
                      go_ret
                      exact ⟨rfl, Below.step (Below.step hb3 hb20) hb21⟩
end Go.Proofs.Ytomhkflcimbbiaa
