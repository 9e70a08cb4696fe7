import Derived.Test.YtanjgeacmpmjhaaGreatDoorLAsk0
import Derived.StillTailTactics
import Derived.Deep.RegionHeld3
set_option linter.unusedVariables false
set_option linter.unusedSimpArgs false
set_option linter.unusedSectionVars false
namespace Go.Proofs.YtanjgeacmpmjhaaGreatDoor
open Go.RowKit Go.Shelf

set_option maxHeartbeats 400000 in
theorem ask1_calls (f t : Str) (x : Lock) {S : Nat} {w : World} (hs : w.heap[S]? = some (.cells #[.string f, .string t] 47 (0, 0))) :
    Calls Tryz.prog 144 #[.agg #[.string x.f, .string x.t, .bool x.a], .pointer (some ⟨S, 0, none⟩)] w fun e w' => e = .returned (.bool (sameSp f t x)) ∧ Below w.heap.size w w' := by
  have c0 : w.cell? ⟨S, 0, none⟩ = some (.string f) := by simp [World.cell?, hs]
  have c1 : w.cell? ⟨S, 1, none⟩ = some (.string t) := by simp [World.cell?, hs]
  go_enter Tryz.func144, Tryz.ntmps144
  have hba : Below w.heap.size w (w.alloc (.cells #[.string x.f, .string x.t, .bool x.a] 162)) := (Below.refl _ w).alloc (Nat.le_refl _) _
  have d0 := Below.cell_some hba c0
  have d1 := Below.cell_some hba c1
  have hg := eqg_span .eql
  have he := eql_span x.f f x.t t
  go_wp2
  go_ret
  exact ⟨rfl, hba⟩

theorem sameSp_idx (f t : Str) (al : Bool) (l : List Lock) : (idx (sameSp f t) l = -1 ∧ addL f t al l = l ++ [⟨f, t, al⟩]) ∨ ∃ (i : Nat) (x : Lock), idx (sameSp f t) l = i ∧ l[i]? = some x ∧ addL f t al l = l.set i ⟨x.f, x.t, x.a || al⟩ := by
  by_cases h : ∃ i : Nat, ∃ x, l[i]? = some x ∧ sameSp f t x = true
  · have hne : ∃ i : Nat, ∃ x, l[i]? = some x ∧ sameSp f t x = true ∧ ∀ j y, j < i → l[j]? = some y → sameSp f t y = false := by
      obtain ⟨i, hi⟩ := h
      induction i using Nat.strongRecOn with
      | _ i ih =>
        by_cases hj : ∃ j, j < i ∧ ∃ x, l[j]? = some x ∧ sameSp f t x = true
        · obtain ⟨j, hj, hx⟩ := hj
          exact ih j hj hx
        · obtain ⟨x, hx, hs⟩ := hi
          refine ⟨i, x, hx, hs, fun j y hji hy => ?_⟩
          cases hq : sameSp f t y with
          | false => rfl
          | true => exact (hj ⟨j, hji, y, hy, hq⟩).elim
    obtain ⟨i, x, hx, hs, hno⟩ := hne
    exact .inr ⟨i, x, idx_hit _ l i x hx hs (fun j hj y hy => hno j y hj hy), hx, addL_old hx hs hno⟩
  · have hno : ∀ (j : Nat) x, l[j]? = some x → sameSp f t x = false := fun j x hx => by
      cases hq : sameSp f t x with
      | false => rfl
      | true => exact (h ⟨j, x, hx, hq⟩).elim
    exact .inl ⟨idx_miss _ l hno, addL_new fun x hx => by
      obtain ⟨j, hj, e⟩ := List.getElem_of_mem hx
      exact hno j x (by rw [List.getElem?_eq_getElem hj, e])⟩

def AskPost (base : Nat) (w : World) (B nn : Nat) (T : Tab) (who : Int) (f t : Str) (al : Bool) (e : Ending) (w' : World) : Prop :=
  (mayL who f t = false ∧ e = .returned (.tuple #[.slice none 0 0, .int .i64 1]) ∧ TabP base w' B nn T ∧ TStep base w w') ∨
    (mayL who f t = true ∧ ∃ (v' : Value) (l : List Int), e = .returned (.tuple #[v', .int .i64 8]) ∧ l ≠ [] ∧ OwnU w.heap.size w' v' l ∧ WayIs T who f t al l ∧ TabP base w' B nn T ∧ TStep base w w') ∨
    (mayL who f t = true ∧ (∀ o, ¬ InWay T who f t al o) ∧ e = .returned (.tuple #[.slice none 0 0, .int .i64 0]) ∧ (∃ n', n' ≤ nn + 1 ∧ TabP base w' B n' (putT T who (addL f t al (T who)))) ∧ TStep base w w')

set_option maxHeartbeats 4000000 in
set_option maxRecDepth 100000 in
theorem ask_calls {base : Nat} {w : World} {B M nn : Nat} {D : DataW Value} {T : Tab} (h : TabAt base w B M nn D T) (hbase : base ≤ w.heap.size) {L c : Nat} (hL : ∀ o, (T o).length ≤ L) (hLb : L ≤ 1000) (hnn : nn ≤ 1000) (who : Int) (hw : okU who) (f t : ByteArray) (al : Bool)
    (hc : ∀ o, ((T o).filter (hitL al f t)).length ≤ c) (hN : nn * c ≤ sortN) :
    Calls Tryz.prog 49 #[.pointer (some ⟨B, 0, none⟩), .int .u32 who, .agg #[.string f, .string t], .bool al] w
      fun e w' => AskPost base w B nn T who f t al e w' := by
  have hmay := fun W => may_calls who f t W
  go_enter Tryz.func49, Tryz.ntmps49
  have hba : Below w.heap.size w (w.alloc (.cells #[.string f, .string t] 47)) := (Below.refl _ w).alloc (Nat.le_refl _) _
  have s0 : (w.alloc (.cells #[.string f, .string t] 47)).heap[w.heap.size]? = some (.cells #[.string f, .string t] 47 (0, 0)) := lalloc_at _ rfl
  have hT := h.below hba
  have hsz : (w.alloc (.cells #[.string f, .string t] 47)).heap.size = w.heap.size + 1 := by simp
  have HM : ∃ b, mayL who f t = b := ⟨_, rfl⟩
  obtain ⟨b, HM⟩ := HM
  rw [HM] at hmay
  have hm := Lib.hid HM
  clear HM
  cases b with
  | false =>
    go_wp2_with (first
      | (go_at_call 141; refine (tthere_calls hT).mono ?_; rintro e w1 ⟨rfl, rfl⟩)
      | (go_at_call 142; refine (hmay _).mono ?_; rintro e w1 ⟨rfl, hb1⟩))
    have hbb := Below.step hba hb1
    go_ret2
    exact .inl ⟨hm.out, rfl, ⟨M, D, hT.below hb1⟩, .of_below hbb⟩
  | true =>
    go_wp2_with (first
      | (go_at_call 141; refine (tthere_calls hT).mono ?_; rintro e w1 ⟨rfl, rfl⟩)
      | (go_at_call 142; refine (hmay _).mono ?_; rintro e w1 ⟨rfl, hb1⟩; replace hT := hT.below hb1; replace s0 := (hb1.block _ (Array.getElem?_eq_some_iff.1 s0).1).trans s0; replace hba := Below.step hba hb1; have hsz1 := hb1.size; clear hb1 hmay; have c0 : w1.cell? ⟨w.heap.size, 0, none⟩ = some (.string f) := (by simp [World.cell?, s0]); have c1 : w1.cell? ⟨w.heap.size, 1, none⟩ = some (.string t) := (by simp [World.cell?, s0]))
      | (go_at_call 55; refine (way_calls hT hL hLb hnn who f t al hc hN).mono ?_; rintro e w2 ⟨v', l, rfl, hown, hb2, hway⟩; rw [hm.out] at hway; simp only [if_true] at hway; replace hT := hT.below hb2; replace s0 := (hb2.block _ (Array.getElem?_eq_some_iff.1 s0).1).trans s0; replace hba := Below.step hba hb2; have hsz2 := hb2.size; clear hb2 c0 c1; have hown' : OwnU w.heap.size w2 v' l := (ownsRow_low hown (by omega)); clear hown; obtain ⟨A, cp, rfl, hlc, hcm⟩ := hown'.slice; have HW := Lib.hid hway; clear hway
         obtain ⟨vl, hrun, hat, hol⟩ := hT.map.look keyU lmap_under (TabAt.zero w2) hw
         have hif := indexFuncLock_calls (sameSp f t) 144 #[.pointer (some ⟨w.heap.size, 0, none⟩)] (enters_of Tryz.func144 (by kernel_rfl) rfl) vl (T who) w2 (hol.rd lock_len) (fun W x _ hb => ask1_calls f t x ((hb.block _ (Array.getElem?_eq_some_iff.1 s0).1).trans s0))
         obtain ⟨Al, cl, rfl, hlc2, hcm2⟩ := hol.shape
         have cB := hT.c0
         have hrun2 := hrun
         have hidx := sameSp_idx f t al (T who)
         generalize idx (sameSp f t) (T who) = at_ at *
         rcases l with _ | ⟨o0, l⟩)
      | (go_at_call 143; refine hif.mono ?_; rintro e w3 ⟨rfl, hb3⟩
         replace hT := hT.below hb3; replace s0 := (hb3.block _ (Array.getElem?_eq_some_iff.1 s0).1).trans s0; replace hba := Below.step hba hb3; have hsz3 := hb3.size; have hol3 := hol.below hb3; clear hb3 hif cB hrun hol
         rcases hidx with ⟨rfl, hadd⟩ | ⟨i, x, rfl, hix, hadd⟩
         rotate_left
         have hil := (List.getElem?_eq_some_iff.1 hix).1
         obtain ⟨b, o, rfl, hx1, hx2, hx3⟩ := (hol3.rd lock_len).lock hix
         obtain ⟨hbb, hbl, cur, hcur⟩ := hol3.lt b rfl
         have hfz : ∀ k, w3.frozen? ⟨b, k, none⟩ = false := (fun k => by simp [World.frozen?, hcur])
         obtain ⟨xf, xt, xa⟩ := x
         have hset := ask_set hT hw hat hix
         have hAD := Lib.hid hadd
         have hni : ¬ ((i : Int) < 0) := (by omega)
         have hgen : (T who).length = (T who).length := rfl
         have HB := Lib.hid hba
         clear hadd hT hat hol3 hix h hba s0 hL hc
         generalize (T who).length = n3 at *
         cases xa))
    rotate_left; rotate_left
    · -- it is had from now on
      have hlen : (T who).length ≤ 1000000 := Nat.le_trans (hL who) (by omega)
      have hBd : Below w3.heap.size w3 w3.drew := ⟨rfl, rfl, rfl, Nat.le_refl _, fun _ _ => rfl⟩
      obtain ⟨A5, n5, c5, w5, w6, hap, hmu, hP6, hst6, hblk, hblk5⟩ := ask_tail (hT.below hBd) hw (by omega) hat hlen (by show base ≤ w3.heap.size; omega) ⟨f, t, al⟩
      rw [← hadd] at hP6
      have hvB := hT.offB hw hat
      have hol2 := hT.map.elem who hw
      obtain ⟨v0, hv0, ho0⟩ := hol2
      rw [hat] at hv0
      injection hv0 with hv0
      subst hv0
      have hvC : (Value.slice Al (T who).length cl).ownBlock ≠ some w.heap.size := fun e => by
        obtain ⟨_, _, cur, hcc⟩ := ho0.lt _ e
        rw [s0] at hcc
        injection hcc with hcc
        injection hcc with _ hcc
        exact absurd hcc (by decide)
      have hBl := hT.lt
      have hsl := (Array.getElem?_eq_some_iff.1 s0).1
      have hBM : B ≠ M := fun e => hT.neM e.symm
      have hCM : w.heap.size ≠ M := by have := h.map.own.lt; omega
      have d0 := hT.c0
      have e0 : w3.cell? ⟨w.heap.size, 0, none⟩ = some (.string f) := by simp [World.cell?, s0]
      have e1 : w3.cell? ⟨w.heap.size, 1, none⟩ = some (.string t) := by simp [World.cell?, s0]
      have d05 : w5.cell? ⟨B, 0, none⟩ = some (.map (some M)) := (World.cell?_of_block (w := w3) (hblk5 B hBl hvB)).trans d0
      have e05 : w5.cell? ⟨w.heap.size, 0, none⟩ = some (.string f) := (World.cell?_of_block (w := w3) (hblk5 _ hsl hvC)).trans e0
      have e15 : w5.cell? ⟨w.heap.size, 1, none⟩ = some (.string t) := (World.cell?_of_block (w := w3) (hblk5 _ hsl hvC)).trans e1
      have d06 : w6.cell? ⟨B, 0, none⟩ = some (.map (some M)) := (World.cell?_of_block (w := w3) (hblk _ hBl hvB hBM)).trans d0
      have e06 : w6.cell? ⟨w.heap.size, 0, none⟩ = some (.string f) := (World.cell?_of_block (w := w3) (hblk _ hsl hvC hCM)).trans e0
      have e16 : w6.cell? ⟨w.heap.size, 1, none⟩ = some (.string t) := (World.cell?_of_block (w := w3) (hblk _ hsl hvC hCM)).trans e1
      have hba3 : Below w3.heap.size w3 (w3.alloc (.cells #[.string f, .string t, .bool al] 162)) := (Below.refl _ w3).alloc (Nat.le_refl _) _
      have d0a := (hba3.cell (p := ⟨B, 0, none⟩) hBl).trans d0
      have e0a := (hba3.cell (p := ⟨w.heap.size, 0, none⟩) hsl).trans e0
      have e1a := (hba3.cell (p := ⟨w.heap.size, 1, none⟩) hsl).trans e1
      have hpost : AskPost base w B nn T who f t al (.returned (.tuple #[.slice none 0 0, .int .i64 0])) w6 :=
        .inr (.inr ⟨hm.out, HW.out.nil_iff.1 rfl, rfl, ⟨nn + 1, Nat.le_refl _, hP6⟩, (TStep.of_below hba).trans ((TStep.of_below hBd).trans hst6)⟩)
      have hap2 : (Builtin.append_ #[159, 159] 159 #[.slice Al (T who).length cl, .slice (some ⟨w3.drew.heap.size, 0, none⟩) 1 1]).run Tryz.prog (w3.drew.alloc (.cells #[.string f, .string t, .bool al] 162)) = .ok (.slice A5 n5 c5) w5 := hap
      clear hap hP6 hst6 hblk hblk5 hba3 hvB hvC hBl hsl hBM hCM ho0 hat hadd hT hba s0 hrun2 HW hown' h hL hc
      go_region_held3 (fun w' => w'.cell? ⟨B, 0, none⟩ = some (.map (some M)) ∧ w'.cell? ⟨w.heap.size, 0, none⟩ = some (.string f) ∧ w'.cell? ⟨w.heap.size, 1, none⟩ = some (.string t)) (go_keep) ((refine step_append_run rfl (.tmp 47) (.tmp 51) 159 rfl rfl rfl hap2 ?_))
      go_wp2
      go_ret2
      exact hpost
    · -- somebody is in the way
      go_ret2
      exact .inr (.inl ⟨hm.out, _, _, rfl, by simp, hown', HW.out, ⟨M, D, hT⟩, .of_below hba⟩)
    all_goals
      go_ret2
      first
        | have hs := hset al
          exact .inr (.inr ⟨hm.out, HW.out.nil_iff.1 rfl, rfl, ⟨nn, by omega, by rw [hAD.out]; simpa using hs.1⟩, (TStep.of_below HB.out).trans hs.2⟩)
        | have hs := hset true
          exact .inr (.inr ⟨hm.out, HW.out.nil_iff.1 rfl, rfl, ⟨nn, by omega, by rw [hAD.out]; simpa using hs.1⟩, (TStep.of_below HB.out).trans hs.2⟩)
end Go.Proofs.YtanjgeacmpmjhaaGreatDoor
