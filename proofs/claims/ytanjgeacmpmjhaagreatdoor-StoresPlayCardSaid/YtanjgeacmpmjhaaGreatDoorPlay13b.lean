import Derived.Test.YtanjgeacmpmjhaaGreatDoorPlay13
import Derived.Test.YtanjgeacmpmjhaaGreatDoorSAct
set_option linter.unusedVariables false
set_option linter.unusedSimpArgs false
set_option linter.unusedSectionVars false
namespace Go.Proofs.YtanjgeacmpmjhaaGreatDoor
open Go.RowKit

/-! ### the acts' answers, and what they leave, under names that no walk opens -/
def eK (k : Str) : Int := if okKey k then 0 else 1
def putK (k : Str) (n : Int) (xs : List Row) : List Row := if okKey k then putL k n xs else xs
def eD (k : Str) (xs : List Row) : Int := if okKey k then (if (getL k xs).isSome then 0 else 6) else 1
def delK (k : Str) (xs : List Row) : List Row := if okKey k then delL k xs else xs
def eC (cs : List Change) : Int := if cs.all okChange then 0 else 1
def doK (cs : List Change) (xs : List Row) : List Row := if cs.all okChange then doCs cs xs else xs
theorem putK_length (k : Str) (n : Int) (xs : List Row) : (putK k n xs).length ≤ xs.length + 1 := by
  unfold putK; split
  · exact putL_length k n xs
  · omega
theorem delK_length (k : Str) (xs : List Row) : (delK k xs).length ≤ xs.length := by
  unfold delK; split
  · exact delL_length k xs
  · omega
theorem doK_length (cs : List Change) (xs : List Row) : (doK cs xs).length ≤ xs.length + cs.length := by
  unfold doK; split
  · exact doCs_length cs xs
  · omega

section
variable {base : Nat} {w w' : World} {B : Nat} {v : Value} {xs : List Row} {C : Nat} {u : Value} {ys : List Row} {K n : Nat} {vR : Value} {hsR : List Hd} {vC : Value} {hsC : List Hd}
theorem RAct.play {zs : List Row} (h : PlayAt base w B v xs C u ys K n vR hsR vC hsC) (ra : RAct base w w' C u zs) : (∃ u', PlayAt base w' B v xs C u' zs K n vR hsR vC hsC) ∧ TurnT base w w' [126] := by
  obtain ⟨u', r, t, nw⟩ := ra
  exact ⟨⟨u', h.rstep t r nw⟩, ⟨_, t, fun g e => ⟨e ▸ h.r.low, _, _, e ▸ h.r.obj, by simp⟩⟩⟩
theorem PlayAt.put (h : PlayAt base w B v xs C u ys K n vR hsR vC hsC) (hl : xs.length ≤ 1000000) (k : ByteArray) (m : Int) (hk : k.size ≤ 9223372036854775807) :
    Calls Tryz.prog 12 #[.pointer (some ⟨B, 0, none⟩), .string k, .int .u32 m] w fun e w' => e = .returned (.int .i64 (eK k)) ∧ (∃ v', PlayAt base w' B v' (putK k m xs) C u ys K n vR hsR vC hsC) ∧ TurnT base w w' [124, 44] :=
  (put_calls h.m hl k m hk).mono fun e w' ⟨v', he, m', s⟩ => ⟨he, ⟨v', h.step s m'⟩, PlayAt.stepT h.m s⟩
theorem PlayAt.del (h : PlayAt base w B v xs C u ys K n vR hsR vC hsC) (hl : xs.length ≤ 1000000) (k : ByteArray) (hk : k.size ≤ 9223372036854775807) :
    Calls Tryz.prog 14 #[.pointer (some ⟨B, 0, none⟩), .string k] w fun e w' => e = .returned (.int .i64 (eD k xs)) ∧ (∃ v', PlayAt base w' B v' (delK k xs) C u ys K n vR hsR vC hsC) ∧ TurnT base w w' [124, 44] :=
  (del_calls h.m hl k hk).mono fun e w' ⟨v', he, m', s⟩ => ⟨he, ⟨v', h.step s m'⟩, PlayAt.stepT h.m s⟩
theorem PlayAt.change (h : PlayAt base w B v xs C u ys K n vR hsR vC hsC) {A : Option Addr} {c b : Nat} {cs : List Change} {y : Change} (o : Own Change.enc 3 128 b w (.slice A (cs.length + 1) c) (cs ++ [y])) (hl : xs.length + cs.length ≤ 1000000) (hk : ∀ x ∈ cs, x.k.size ≤ 9223372036854775807) :
    Calls Tryz.prog 16 #[.pointer (some ⟨B, 0, none⟩), .slice A cs.length c] w fun e w' => e = .returned (.int .i64 (eC cs)) ∧ (∃ v', PlayAt base w' B v' (doK cs xs) C u ys K n vR hsR vC hsC) ∧ TurnT base w w' [124, 44] := by
  have os := o.shorter change_len
  refine (change_calls h.m (vc := .slice A cs.length c) ⟨os.rd change_len, .inr fun b e => ⟨fun e2 => ?_, fun e2 => ?_, os.lt b e⟩⟩ hl hk).mono fun e w' ⟨v', he, m', s⟩ => ⟨he, ⟨v', h.step s m'⟩, PlayAt.stepT h.m s⟩
  · subst e2; exact ne_typed h.m.obj (os.typed _ e).2.choose_spec (by decide) rfl
  · exact ne_typed (h.m.own.typed b e2).2.choose_spec (os.typed _ e).2.choose_spec (by decide) rfl
theorem PlayAt.rput (h : PlayAt base w B v xs C u ys K n vR hsR vC hsC) (hl : ys.length ≤ 1000000) (k : ByteArray) (m : Int) (hk : k.size ≤ 9223372036854775807) :
    Calls Tryz.prog 13 #[.pointer (some ⟨C, 0, none⟩), .string k, .int .u32 m] w fun e w' => e = .returned (.int .i64 (eK k)) ∧ (∃ u', PlayAt base w' B v xs C u' (putK k m ys) K n vR hsR vC hsC) ∧ TurnT base w w' [126] :=
  (rput13_calls h.r hl k hk m).mono fun e w' ⟨he, ra⟩ => ⟨he, ra.play h⟩
theorem PlayAt.rdel (h : PlayAt base w B v xs C u ys K n vR hsR vC hsC) (hl : ys.length ≤ 1000000) (k : ByteArray) (hk : k.size ≤ 9223372036854775807) :
    Calls Tryz.prog 15 #[.pointer (some ⟨C, 0, none⟩), .string k] w fun e w' => e = .returned (.int .i64 (eD k ys)) ∧ (∃ u', PlayAt base w' B v xs C u' (delK k ys) K n vR hsR vC hsC) ∧ TurnT base w w' [126] :=
  (rdel13_calls h.r hl k hk).mono fun e w' ⟨he, ra⟩ => ⟨he, ra.play h⟩
theorem PlayAt.rchange {w0 : World} (h : PlayAt w0.heap.size w B v xs C u ys K n vR hsR vC hsC) (hb : Below w0.heap.size w0 w) {vc : Value} {cs : List Change} (hv : Rd Change.enc 3 w0 vc cs) (hl : ys.length + cs.length ≤ 1000000) (hk : ∀ x ∈ cs, x.k.size ≤ 9223372036854775807) :
    Calls Tryz.prog 17 #[.pointer (some ⟨C, 0, none⟩), vc] w fun e w' => e = .returned (.int .i64 (eC cs)) ∧ (∃ u', PlayAt w0.heap.size w' B v xs C u' (doK cs ys) K n vR hsR vC hsC) ∧ TurnT w0.heap.size w w' [126] := by
  refine (rchange13_calls h.r (hv.below hb) (fun b o n c hp hvc => ?_) hl hk).mono fun e w' ⟨he, ra⟩ => ⟨he, ra.play h⟩
  subst hvc
  obtain ⟨b', o', e, hc⟩ := hv.at_ (List.getElem?_eq_getElem hp)
  injection e with e
  injection e with e1 e2
  subst e1 e2
  have h0 := hc 0 _ rfl
  have hbl := World.block_lt_of_cell? w0 _ h0
  have := h.r.low
  simp only at hbl
  omega
theorem PlayAt.get (h : PlayAt base w B v xs C u ys K n vR hsR vC hsC) (hl : xs.length ≤ 1000000) (k : ByteArray) :
    Calls Tryz.prog 25 #[.pointer (some ⟨B, 0, none⟩), .string k] w fun e w' => e = .returned (.tuple #[.int .u32 ((getL k xs).getD 0), .bool (getL k xs).isSome]) ∧ PlayAt base w' B v xs C u ys K n vR hsR vC hsC ∧ Below w.heap.size w w' :=
  (get_calls h.m hl k).mono fun e w' ⟨he, hb⟩ => ⟨he, h.below hb, hb⟩
theorem PlayAt.rget (h : PlayAt base w B v xs C u ys K n vR hsR vC hsC) (hl : ys.length ≤ 1000000) (k : ByteArray) :
    Calls Tryz.prog 26 #[.pointer (some ⟨C, 0, none⟩), .string k] w fun e w' => e = .returned (.tuple #[.int .u32 ((getL k ys).getD 0), .bool (getL k ys).isSome]) ∧ w = w' := rget_calls h.r hl k
/-- A list of rows that is new: its value, and whose it is not. -/
theorem PlayAt.scan (h : PlayAt base w B v xs C u ys K n vR hsR vC hsC) (hl : xs.length ≤ 1000000) (f t : ByteArray) (most : Int) :
    Calls Tryz.prog 19 #[.pointer (some ⟨B, 0, none⟩), .agg #[.string f, .string t], .int .i64 most] w fun e w' => ∃ A c, e = .returned (.slice A ((rowsIn f t xs).take most.toNat).length c) ∧ PlayAt base w' B v xs C u ys K n vR hsR vC hsC ∧ Below w.heap.size w w' ∧
      Own Row.enc 2 44 w.heap.size w' (.slice A ((rowsIn f t xs).take most.toNat).length c) ((rowsIn f t xs).take most.toNat) ∧ (∀ g, (Value.slice A ((rowsIn f t xs).take most.toNat).length c).ownBlock = some g → ¬ Blk hsR g ∧ v.ownBlock ≠ some g) := by
  refine (scan_calls h.m hl f t most).mono ?_
  rintro e w' ⟨v', rfl, hb, o⟩
  obtain ⟨A, c, rfl, _, _⟩ := o.slice
  exact ⟨A, c, rfl, h.below hb, hb, o, h.fresh o⟩
theorem PlayAt.rows (h : PlayAt base w B v xs C u ys K n vR hsR vC hsC) (hl : xs.length ≤ 1000000) :
    Calls Tryz.prog 28 #[.pointer (some ⟨B, 0, none⟩)] w fun e w' => ∃ A c, e = .returned (.slice A xs.length c) ∧ PlayAt base w' B v xs C u ys K n vR hsR vC hsC ∧ Below w.heap.size w w' ∧
      Own Row.enc 2 44 w.heap.size w' (.slice A xs.length c) xs ∧ (∀ g, (Value.slice A xs.length c).ownBlock = some g → ¬ Blk hsR g ∧ v.ownBlock ≠ some g) := by
  refine (rows_calls h.m hl).mono ?_
  rintro e w' ⟨v', rfl, hb, o⟩
  obtain ⟨A, c, rfl, _, _⟩ := o.slice
  exact ⟨A, c, rfl, h.below hb, hb, o, h.fresh o⟩
end

/-! ### great -/
set_option maxHeartbeats 800000 in
set_option maxRecDepth 100000 in
theorem sgreat_calls (v : Value) (xs : List SAct) (w : World) (hv : Rd SAct.enc 7 w v xs) (hok : ∀ x ∈ xs, x.ok w) (hl : xs.length ≤ 140737488351232) :
    Calls Tryz.prog 8 #[v] w fun e w' => e = .returned (.bool (greatS xs)) ∧ Below w.heap.size w w' := by
  obtain ⟨A, c, rfl, hlc, hc⟩ := hv.shape
  obtain ⟨E, hE⟩ : ∃ E, greatS xs = E := ⟨_, rfl⟩
  rw [hE]
  have HE := Lib.hid hE
  clear hE
  go_enter Tryz.func8, Tryz.ntmps8
  go_wp2
  go_loopw [3, 4] (fun nv iv wr => ∃ m : Nat, m ≤ xs.length ∧ iv = .int .i64 m ∧ nv = .int .i64 (szS (xs.take m)) ∧ szS (xs.take m) ≤ 10000 ∧ Below w.heap.size w wr) (fun _ iv _ => xs.length - (intOf iv).toNat)
  case atStart => exact ⟨0, Nat.zero_le _, rfl, rfl, by simp [szS], Below.refl _ _⟩
  case round =>
    obtain ⟨m, hm, rfl, rfl, hsz, hb⟩ := hrel
    by_cases hlt : m < xs.length
    · have hx := List.getElem?_eq_getElem hlt
      obtain ⟨b, o, rfl, x0, x1, x2, x3, x4, x5, x6⟩ := (hv.below hb).sact hx
      have ho := hok _ (List.getElem_mem hlt)
      have HST := Lib.hid (szS_take xs m _ hx)
      have HGR := Lib.hid (@greatS_of xs (m + 1))
      have hnn := szS_nonneg (xs.take m)
      generalize xs[m] = x at *
      obtain ⟨q, k, n, vl, cs, f, t, most⟩ := x
      have hcl := ho.len
      have hks := ho.k
      have hfs := ho.f
      have hts := ho.t
      have hle := sizeChanges_le cs (by omega) (fun c hc => (ho.each c hc).1)
      have hge := sizeChanges_ge cs
      simp only [SAct.sz] at HST
      unfold small at hks hfs hts
      simp only at *
      have hrd := ho.rd
      simp only at hrd
      obtain ⟨Al, cl, rfl, _, _⟩ := hrd.shape
      have hsc : ∀ p : Later wr, _ := fun p => sizeChanges_calls _ cs p.val ((hrd.below hb).below p.ok) (by omega) (fun c hc => (ho.each c hc).1)
      have e1 := fun p : Later wr => Later.cell p x1
      have e3 := fun p : Later wr => Later.cell p x3
      have e4 := fun p : Later wr => Later.cell p x4
      have e5 := fun p : Later wr => Later.cell p x5
      have HB := Lib.hid hb
      clear x0 x1 x2 x3 x4 x5 x6 hb hok ho hx hrd
      generalize hS : szS (xs.take m) = Z at *
      generalize sizeChanges cs = D at *
      go_wp2
      refine wp_region_later (by kernel_rfl) (by kernel_rfl) ?_
      repeat (go_big_quiet_step ((go_at_call 80; with_reducible exact Calls.later (hsc _))))
      refine wpQuiet_nil ?_
      rintro _ ⟨p, rfl⟩
      clear hsc e1 e3 e4 e5
      by_cases hbig : 10000 < Z + 1 + k.size + D + f.size + t.size
      · have HT : RowKit.Hid (E = true) := by
          rw [← HE.out]
          exact Lib.hid (HGR.out (by rw [HST.out]; omega))
        go_wp2
        go_ret
        exact ⟨ret_bool (by rw [HT.out]), Below.step HB.out p.ok⟩
      · go_wp2
        go_roundw
        case rel => exact ⟨m + 1, by omega, by go_num, by rw [HST.out]; congr 1; omega, by rw [HST.out]; omega, Below.step HB.out p.ok⟩
        case measure => simp [intOf]; omega
    · have hme : m = xs.length := by omega
      subst hme
      rw [List.take_length] at hsz
      have hE := HE.out
      unfold greatS at hE
      rw [decide_eq_false (by omega : ¬ 10000 < szS xs), Bool.false_or] at hE
      have HE2 := Lib.hid hE
      clear hE
      go_wp2
      go_ret
      exact ⟨ret_bool (by rw [← HE2.out, Bool.eq_iff_iff]; simp only [decide_eq_true_eq]; omega), hb⟩

end Go.Proofs.YtanjgeacmpmjhaaGreatDoor
