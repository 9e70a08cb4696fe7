/-
  The law concordatlaw14.VersionsChanges: a commit's changes, one behind the other, make of the rows behind the last commit those behind this one; one that may not be changes nothing, and has no number. No condition.
-/
import Derived.Test.YtimadkbdkdeepaaVLaw
import Derived.Test.YtimadkbdkdeepaaVerG
import Derived.Test.YtimadkbdkdeepaaTwRow
import Derived.Deep.RegionHeld3
set_option linter.unusedVariables false
set_option linter.unusedSimpArgs false
namespace Go.Proofs.Ytimadkbdkdeepaa
open Go.RowKit Go.Shelf

theorem rows_one (cs : List Change) : rowsN [cs] 1 = doCs cs [] := by
  unfold rowsN
  simp
theorem rows_two (cs ds : List Change) : rowsN [cs, ds] 2 = doCs ds (doCs cs []) := by
  unfold rowsN
  simp [doCs, List.foldl_append]

set_option maxHeartbeats 2000000 in
set_option maxRecDepth 100000 in
theorem versionsChanges_walk (v u : Value) (xs ys : List Change) (w : World) (hv : Rd Change.enc 3 w v xs) (hlen : xs.length * 24 ≤ 140737488351232) (hxs : ∀ x ∈ xs, x.ok) (hu : Rd Change.enc 3 w u ys) (hlen2 : ys.length * 24 ≤ 140737488351232) (hys : ∀ x ∈ ys, x.ok) :
    Calls Try.prog 6 #[v, u] w fun e w' => e = .returned (.bool true) ∧ Below w.heap.size w w' := by
  have hxk : ∀ c ∈ xs, c.k.size ≤ 9223372036854775807 := fun c hc => by have := (hxs c hc).1; unfold small at this; omega
  have hyk : ∀ c ∈ ys, c.k.size ≤ 9223372036854775807 := fun c hc => by have := (hys c hc).1; unfold small at this; omega
  have hv0 := hv
  have hu0 := hu
  obtain ⟨A, cp, rfl, hlc, hcp⟩ := hv.shape
  obtain ⟨A', cp', rfl, hlc', hcp'⟩ := hu.shape
  by_cases hbig : xs.length + ys.length > 300
  · go_enter Try.func6, Try.ntmps6
    go_wp2_with (go_at_call 8; refine (lives_calls _).mono ?_; rintro e w2 ⟨rfl, hb2⟩)
    go_ret
    exact ⟨rfl, hb2⟩
  go_enter Try.func6, Try.ntmps6
  go_wp2_with (first
    | (go_at_call 9; refine (pnew_calls _).mono ?_; rintro e w1 ⟨rfl, hb1, hP⟩; have hsz1 := hb1.size)
    | (go_at_call 17; refine (new_calls _).mono ?_; rintro e w2 ⟨rfl, hb2, hM⟩))
  generalize hW3 : w2.alloc (.cells #[.string s0, .string z16] 42) = W3
  have hb3 : Below w2.heap.size w2 W3 := by rw [← hW3]; exact (Below.refl _ _).alloc (Nat.le_refl _) _
  have hsp : W3.heap[w2.heap.size]? = some (.cells #[.string s0, .string z16] 42 (0, 0)) := by rw [← hW3]; exact alloc_at' _ rfl
  clear hW3
  have hsz2 := hb2.size
  have hBw : Below w.heap.size w W3 := Below.step (Below.step hb1 hb2) hb3
  replace hP := (hP.below hb2).below hb3
  replace hM : MapAt w.heap.size W3 w1.heap.size (.slice none 0 0) [] := mapAt_lower (hM.below hb3) hsz1
  clear hb1 hb2 hb3
  generalize w1.heap.size = B2 at *
  generalize w2.heap.size = S2 at *
  have cm1 := pcommit_P hP (RdS.of_low change_len (by decide) hv0 hBw (Nat.le_refl _)) hxk (by simp; omega) (by simp)
  have hl1 := doCs_length xs []
  have hl2 := doCs_length ys (doCs xs [])
  have rk1 := fun (W : World) (h : PastP w.heap.size W (w.heap.size + 1) [xs] 0) => rowsIn_keys (h.rows_ok 1)
  rw [rows_one] at rk1
  simp only [List.length_nil, Nat.zero_add] at hl1
  by_cases hax : xs.all okChange = true
  · -- l may be
    have hfx : ¬ xs.all okChange = false := by rw [hax]; simp
    go_wp2_with (first
      | (go_at_call 11; refine cm1.mono ?_; rintro e w4 ⟨⟨_, rfl, hP4⟩ | ⟨hno, _, _⟩, hps⟩
         rotate_left
         exact (hfx hno).elim
         replace hP4 : PastP w.heap.size w4 (w.heap.size + 1) [xs] 0 := hP4
         have hM4 := hM.pstep hps
         replace hBw := hBw.trans (hps.below (Nat.le_of_lt (Nat.lt_of_le_of_lt hP.lt.1 hP.lt.2)))
         replace hsp := keep_pstep hps hsp (by decide) (by decide)
         clear hP hM hps cm1
         have ch1 := change_calls hM4 (hM4.rdOff hBw hv0 change_len (by decide)) (by simp; omega) hxk
         rw [hax] at ch1
         simp only [↓reduceIte] at ch1)
      | (go_at_call 18; refine ch1.mono ?_; rintro e w5 ⟨v5, rfl, hM5, st5⟩
         have hP5 := hP4.step hM4 st5
         replace hBw := hBw.trans (st5.below hM4)
         replace hsp := keep_step hM4 st5 hsp (by decide) (by decide)
         have c0 : w5.cell? ⟨S2, 0, none⟩ = some (.string s0) := by simp [World.cell?, hsp]
         have c1 : w5.cell? ⟨S2, 1, none⟩ = some (.string z16) := by simp [World.cell?, hsp]
         have sc1 := pscan_all hP5 (by simp; omega) 1 s0 z16 (doCs xs []) (by rw [show max 1 0 = 1 from rfl, rows_one]; exact rk1 _ hP5)
         clear hM4 st5 hP4 ch1 rk1)
      | (go_at_call 13; refine sc1.mono ?_; rintro e w6 ⟨A6, c6, rfl, hb6, r6⟩
         replace hP5 := hP5.below hb6
         replace hM5 := hM5.below hb6
         replace hBw := Below.step hBw hb6
         replace hsp := keep_below hb6 hsp
         have rw1 := rows_calls hM5 (by omega)
         clear hb6 sc1 c0 c1)
      | (go_at_call 19; refine rw1.mono ?_; rintro e w7 ⟨v7, rfl, hb7, o7⟩
         obtain ⟨A7, c7, rfl, _, _⟩ := o7.slice
         have r7 := o7.rd row_len
         replace hP5 := hP5.below hb7
         replace hM5 := hM5.below hb7
         replace hBw := Below.step hBw hb7
         replace hsp := keep_below hb7 hsp
         replace r6 := r6.below hb7
         clear hb7 o7 rw1)
      | (go_at_call 14; refine (sameRows_calls _ _ (doCs xs []) (doCs xs []) _ r6 r7).mono ?_; rw [decide_eq_true rfl]; rintro e w8 ⟨rfl, hb8⟩
         replace hP5 := hP5.below hb8
         replace hM5 := hM5.below hb8
         replace hBw := Below.step hBw hb8
         replace hsp := keep_below hb8 hsp
         have cm2 := pcommit_P hP5 (RdS.of_low change_len (by decide) hu0 hBw (Nat.le_refl _)) hyk (by simp; omega) (by simp)
         clear hb8 r6 r7)
      | (go_at_call 11; refine cm2.mono ?_; rintro e w9 ⟨⟨hay, rfl, hP9⟩ | ⟨hay, rfl, hP9⟩, hps⟩
         all_goals
           have hM9 := hM5.pstep hps
           replace hBw := hBw.trans (hps.below (Nat.le_of_lt (Nat.lt_of_le_of_lt hP5.lt.1 hP5.lt.2)))
           replace hsp := keep_pstep hps hsp (by decide) (by decide)
           clear hP5 hM5 hps cm2
           have ch2 := change_calls hM9 (hM9.rdOff hBw hu0 change_len (by decide)) (by omega) hyk
           rw [hay] at ch2
           simp only [↓reduceIte, Bool.false_eq_true] at ch2)
      | (go_at_call 18; refine ch2.mono ?_; rintro e w10 ⟨v10, rfl, hM10, st10⟩
         have hP10 := hP9.step hM9 st10
         replace hBw := hBw.trans (st10.below hM9)
         replace hsp := keep_step hM9 st10 hsp (by decide) (by decide)
         clear hM9 st10 hP9 ch2))
    · replace hP10 : PastP w.heap.size w10 (w.heap.size + 1) [xs, ys] 0 := hP10
      have hbd : Below w10.heap.size w10 w10.drew := ⟨rfl, rfl, rfl, Nat.le_refl _, fun _ _ => rfl⟩
      replace hP10 := hP10.below hbd
      replace hM10 := hM10.below hbd
      replace hBw := Below.step hBw hbd
      have c0 : w10.drew.cell? ⟨S2, 0, none⟩ = some (.string s0) := by simp [World.cell?, keep_below hbd hsp]
      have c1 : w10.drew.cell? ⟨S2, 1, none⟩ = some (.string z16) := by simp [World.cell?, keep_below hbd hsp]
      have nw := pnow_P hP10
      have hrk := rowsIn_keys (hP10.rows_ok 2)
      have sc := fun W (h : PastP w.heap.size W (w.heap.size + 1) [xs, ys] 0) => pscan_all h (by simp; omega) 2 s0 z16 (doCs ys (doCs xs [])) (by rw [show max 2 0 = 2 from rfl, hrk]; exact rows_two xs ys)
      have hrl : (doCs ys (doCs xs [])).length ≤ 1000000 := by omega
      clear hrk hsp hbd
      generalize doCs ys (doCs xs []) = rs at *
      go_region_held3 (fun w' => w'.cell? ⟨S2, 0, none⟩ = some (.string s0) ∧ w'.cell? ⟨S2, 1, none⟩ = some (.string z16)) (go_keep) (first
        | (go_at_call 16; refine nw.mono ?_; rintro e w11 ⟨rfl, rfl⟩)
        | (go_at_call 13; refine (sc _ hP10).mono ?_; rintro e w12 ⟨A12, c12, rfl, hb4, r12⟩; replace hM10 := hM10.below hb4; replace hBw := Below.step hBw hb4; replace c0 := Below.cell_some hb4 c0; replace c1 := Below.cell_some hb4 c1; clear hb4)
        | (go_at_call 19; refine (rows_calls hM10 hrl).mono ?_; rintro e w13 ⟨v13, rfl, hb4, o13⟩; obtain ⟨A13, c13, rfl, _, _⟩ := o13.slice; have r13 := o13.rd row_len; replace hBw := Below.step hBw hb4; replace c0 := Below.cell_some hb4 c0; replace c1 := Below.cell_some hb4 c1; replace r12 := r12.below hb4; clear hb4 o13)
        | (go_at_call 14; refine (sameRows_calls _ _ rs rs _ r12 r13).mono ?_; rw [decide_eq_true rfl]; rintro e w14 ⟨rfl, hb4⟩; replace hBw := Below.step hBw hb4; replace c0 := Below.cell_some hb4 c0; replace c1 := Below.cell_some hb4 c1; clear hb4 r12 r13)
        | (go_at_call 8; refine (lives_calls _).mono ?_; rintro e w15 ⟨rfl, hb4⟩; replace hBw := Below.step hBw hb4; replace c0 := Below.cell_some hb4 c0; replace c1 := Below.cell_some hb4 c1; clear hb4))
      go_wp2
      go_ret
      exact ⟨rfl, hBw⟩
    · replace hP10 : PastP w.heap.size w10 (w.heap.size + 1) [xs] 0 := hP10
      have hbd : Below w10.heap.size w10 w10.drew := ⟨rfl, rfl, rfl, Nat.le_refl _, fun _ _ => rfl⟩
      replace hP10 := hP10.below hbd
      replace hM10 := hM10.below hbd
      replace hBw := Below.step hBw hbd
      have c0 : w10.drew.cell? ⟨S2, 0, none⟩ = some (.string s0) := by simp [World.cell?, keep_below hbd hsp]
      have c1 : w10.drew.cell? ⟨S2, 1, none⟩ = some (.string z16) := by simp [World.cell?, keep_below hbd hsp]
      have nw := pnow_P hP10
      have hrk := rowsIn_keys (hP10.rows_ok 1)
      have sc := fun W (h : PastP w.heap.size W (w.heap.size + 1) [xs] 0) => pscan_all h (by simp; omega) 1 s0 z16 (doCs xs []) (by rw [show max 1 0 = 1 from rfl, hrk]; exact rows_one xs)
      have hrl : (doCs xs []).length ≤ 1000000 := by omega
      clear hrk hsp hbd
      generalize doCs xs [] = rs at *
      go_region_held3 (fun w' => w'.cell? ⟨S2, 0, none⟩ = some (.string s0) ∧ w'.cell? ⟨S2, 1, none⟩ = some (.string z16)) (go_keep) (first
        | (go_at_call 16; refine nw.mono ?_; rintro e w11 ⟨rfl, rfl⟩)
        | (go_at_call 13; refine (sc _ hP10).mono ?_; rintro e w12 ⟨A12, c12, rfl, hb4, r12⟩; replace hM10 := hM10.below hb4; replace hBw := Below.step hBw hb4; replace c0 := Below.cell_some hb4 c0; replace c1 := Below.cell_some hb4 c1; clear hb4)
        | (go_at_call 19; refine (rows_calls hM10 hrl).mono ?_; rintro e w13 ⟨v13, rfl, hb4, o13⟩; obtain ⟨A13, c13, rfl, _, _⟩ := o13.slice; have r13 := o13.rd row_len; replace hBw := Below.step hBw hb4; replace c0 := Below.cell_some hb4 c0; replace c1 := Below.cell_some hb4 c1; replace r12 := r12.below hb4; clear hb4 o13)
        | (go_at_call 14; refine (sameRows_calls _ _ rs rs _ r12 r13).mono ?_; rw [decide_eq_true rfl]; rintro e w14 ⟨rfl, hb4⟩; replace hBw := Below.step hBw hb4; replace c0 := Below.cell_some hb4 c0; replace c1 := Below.cell_some hb4 c1; clear hb4 r12 r13)
        | (go_at_call 8; refine (lives_calls _).mono ?_; rintro e w15 ⟨rfl, hb4⟩; replace hBw := Below.step hBw hb4; replace c0 := Below.cell_some hb4 c0; replace c1 := Below.cell_some hb4 c1; clear hb4))
      go_wp2
      go_ret
      exact ⟨rfl, hBw⟩
  · -- l may not be
    have hax' : xs.all okChange = false := by simpa using hax
    clear rk1 hl1 hl2
    go_wp2_with (first
      | (go_at_call 11; refine cm1.mono ?_; rintro e w4 ⟨⟨hno, _, _⟩ | ⟨_, rfl, hP4⟩, hps⟩
         exact (hax hno).elim
         have hM4 := hM.pstep hps
         replace hBw := hBw.trans (hps.below (Nat.le_of_lt (Nat.lt_of_le_of_lt hP.lt.1 hP.lt.2)))
         clear hP hM hps cm1
         have ch1 := change_calls hM4 (hM4.rdOff hBw hv0 change_len (by decide)) (by simp; omega) hxk
         rw [hax'] at ch1
         simp only [↓reduceIte, Bool.false_eq_true] at ch1)
      | (go_at_call 16; refine (pnow_P hP4).mono ?_; rintro e w11 ⟨rfl, rfl⟩)
      | (go_at_call 18; refine ch1.mono ?_; rintro e w5 ⟨v5, rfl, hM5, st5⟩
         replace hBw := hBw.trans (st5.below hM4))
      | (go_at_call 8; refine (lives_calls _).mono ?_; rintro e w15 ⟨rfl, hb4⟩; replace hBw := Below.step hBw hb4; clear hb4))
    go_ret
    exact ⟨rfl, hBw⟩

end Go.Proofs.Ytimadkbdkdeepaa
