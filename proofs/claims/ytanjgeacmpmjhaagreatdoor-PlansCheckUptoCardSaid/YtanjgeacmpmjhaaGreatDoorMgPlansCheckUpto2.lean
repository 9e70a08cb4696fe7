import Derived.Test.YtanjgeacmpmjhaaGreatDoorProg
import Derived.Test.YtanjgeacmpmjhaaGreatDoorBase
import Derived.Test.YtanjgeacmpmjhaaGreatDoorMgPlansCheckUpto0
import Derived.Laws.RangeAny
import Derived.Shelf.Abstract
import Derived.ProofKit
import Derived.OpenShut
import Derived.ShutString
import Derived.ChangeOld
import Derived.SizedLaws
import Derived.Sort.Grow
import Derived.Deep.Draws
import Derived.Lib.LaidTab
import Derived.Lib.ItoaNum
import Derived.Lib.ItoaWalk
import Derived.Lib.SmallJoins
import Derived.Test.YtanjgeacmpmjhaaGreatDoorLaySmallL
import Derived.Test.YtanjgeacmpmjhaaGreatDoorLayNumDigL
import Derived.Test.YtanjgeacmpmjhaaGreatDoorLayFmtTenL
import Derived.Shelf.Strconv.Itoa3
import Derived.Lib.ItoaLen
import Derived.Test.YtanjgeacmpmjhaaGreatDoorRows
import Derived.LaidMore
import Derived.Stop.Joined
import Derived.Stop.LaidErr
import Derived.MakeChecks
import Derived.Deep.DeepHandedRow
import Derived.Test.YtanjgeacmpmjhaaGreatDoorLayItoaM
import Derived.Deep.RegionHeld3
import Derived.StillTailTactics
import Derived.Deep.Cut
set_option linter.unusedVariables false
set_option linter.unusedSimpArgs false
namespace Go.Proofs.YtanjgeacmpmjhaaGreatDoor
open Go.RowKit

set_option maxHeartbeats 400000 in
theorem isnan_calls (a : ByteArray) (w : World) :
    Calls Tryz.prog 252 #[.string a] w fun e w' => e = .returned (.bool false) ∧ w = w' := by
  go_enter Tryz.func252, Tryz.ntmps252
  go_wp2
  go_ret
  exact ⟨by simp, rfl⟩

/-- how two texts stand. -/
def scmp (a b : Str) : Int := if slt a b then -1 else if slt b a then 1 else 0

theorem scmp_neg (a b : Str) : decide (scmp a b < 0) = slt a b := by
  unfold scmp
  cases slt a b <;> cases slt b a <;> simp

theorem scmp_zero (a b : Str) : (scmp a b == 0) = decide (a = b) := by
  unfold scmp
  cases h : slt a b
  · cases h' : slt b a
    · rw [slt_total h h']; simp
    · simp [(slt_ne h').symm]
  · simp [slt_ne h]

set_option maxHeartbeats 400000 in
theorem compare_calls (a b : ByteArray) (w : World) :
    Calls Tryz.prog 233 #[.string a, .string b] w fun e w' => e = .returned (.int .i64 (scmp a b)) ∧ w = w' := by
  unfold scmp
  cases h : slt a b
  · cases h' : slt b a
    · obtain rfl := slt_total h h'
      clear h'
      go_enter Tryz.func233, Tryz.ntmps233
      go_wp2_with (go_at_call 252; refine (isnan_calls _ _).mono ?_; rintro e w' ⟨rfl, rfl⟩)
      go_ret
      exact ⟨by simp, rfl⟩
    · have hne : decide (a = b) = false := decide_eq_false fun e => slt_ne h' e.symm
      go_enter Tryz.func233, Tryz.ntmps233
      go_wp2_with (go_at_call 252; refine (isnan_calls _ _).mono ?_; rintro e w' ⟨rfl, rfl⟩)
      go_ret
      exact ⟨by simp, rfl⟩
  · have hne : decide (a = b) = false := decide_eq_false fun e => slt_ne h e
    go_enter Tryz.func233, Tryz.ntmps233
    go_wp2_with (go_at_call 252; refine (isnan_calls _ _).mono ?_; rintro e w' ⟨rfl, rfl⟩)
    go_ret
    exact ⟨by simp, rfl⟩

end Go.Proofs.YtanjgeacmpmjhaaGreatDoor

set_option linter.unusedVariables false
set_option linter.unusedSimpArgs false
namespace Go.Proofs.YtanjgeacmpmjhaaGreatDoor
open Go.RowKit Go.Shelf

set_option maxHeartbeats 400000 in
theorem rune_calls (r : Nat) (w : World) :
    Calls Tryz.prog 185 #[.int .i32 (r : Int)] w fun e w' => e = .returned (.bool (okRune r)) ∧ w = w' := by
  unfold okRune
  by_cases h1 : 97 ≤ r <;> by_cases h2 : r ≤ 122 <;> by_cases h3 : 48 ≤ r <;> by_cases h4 : r ≤ 57 <;> by_cases h5 : r = 95
  all_goals first
    | (exfalso; omega)
    | skip
  all_goals
    have g5 : ((r : Int) == 95) = decide (r = 95) := by rw [Bool.eq_iff_iff]; simp; omega
    simp only [h5, decide_true, decide_false] at g5
    go_enter Tryz.func185, Tryz.ntmps185
    go_wp2
    go_ret
    exact ⟨ret_bool (by simp [*]), rfl⟩

theorem okRune_high {r : Nat} (h : 128 ≤ r) : okRune r = false := by
  unfold okRune
  simp only [Bool.or_eq_false_iff, Bool.and_eq_false_iff, decide_eq_false_iff_not]
  omega

theorem decode_byte (s : ByteArray) (pos : Nat) (h : pos < s.size) : (okRune (Utf8.decode s pos).1 = okRune (s[pos]'h).toNat) ∧ (okRune (s[pos]'h).toNat = true → (Utf8.decode s pos).2 = 1) := by
  by_cases ha : (s[pos]'h).toNat < 128
  · rw [decode_ascii s pos h ha]
    exact ⟨rfl, fun _ => rfl⟩
  · have hd := decode_high s pos h (by omega)
    rw [okRune_high hd.1, okRune_high (by omega)]
    exact ⟨rfl, fun h => by cases h⟩

theorem all_take (s : Str) (pos : Nat) (h : pos < s.size) : (s.l.take (pos + 1)).all (fun c => okRune c.toNat) = ((s.l.take pos).all (fun c => okRune c.toNat) && okRune (s[pos]'h).toNat) := by
  have hl : pos < s.l.length := by unfold Str.l; rw [Array.length_toList]; exact h
  rw [List.take_succ_eq_append_getElem hl, List.all_append]
  simp only [List.all_cons, List.all_nil, Bool.and_true]
  rfl

theorem all_false (s : Str) (pos : Nat) (h : pos < s.size) (hb : okRune (s[pos]'h).toNat = false) : s.l.all (fun c => okRune c.toNat) = false := by
  have hl : pos < s.l.length := by unfold Str.l; rw [Array.length_toList]; exact h
  rw [Bool.eq_false_iff, Ne, List.all_eq_true]
  intro h'
  have := h' s.l[pos] (List.getElem_mem hl)
  have e : s.l[pos] = s[pos]'h := rfl
  rw [e, hb] at this
  cases this

theorem all_false' {p : Prop} {b : Bool} (h : p → b = false) (hp : p := by trivial) : b = false := h hp

theorem l_size (s : Str) : s.l.length = s.size := by unfold Str.l; rw [Array.length_toList]; rfl

set_option maxHeartbeats 400000 in
theorem all_calls (s : ByteArray) (w : World) (hs : s.size ≤ 9223372036854775807) :
    Calls Tryz.prog 184 #[.string s, .func (.func 185) #[] #[]] w fun e w' => e = .returned (.bool ((Str.l s).all fun c => okRune c.toNat)) ∧ Below w.heap.size w w' := by
  have eg := enters_of Tryz.func185 (by kernel_rfl) rfl
  go_enter Tryz.func184, Tryz.ntmps184
  go_wp2
  go_loopw [] (fun wr => ∃ pos : Nat, pos ≤ s.size ∧ wr = w.iter s pos ∧ ((Str.l s).take pos).all (fun c => okRune c.toNat) = true) (fun wr => s.size - wr.iterPos w.heap.size)
  case atStart => exact ⟨0, Nat.zero_le _, rfl, rfl⟩
  case round =>
    obtain ⟨pos, hpos, rfl, hall⟩ := hrel
    have HA := Lib.hid hall
    clear hall
    by_cases hlt : pos < s.size
    · have hnx := fun ty => run_next_any (P := Tryz.prog) w s pos ty hlt
      have hd := decode_byte s pos hlt
      have HT := Lib.hid (all_take s pos hlt)
      have HF := Lib.hid (fun hb => all_false s pos hlt hb)
      generalize okRune (s[pos]'hlt).toNat = ok at *
      generalize (Utf8.decode s pos).1 = R at *
      generalize (Utf8.decode s pos).2 = K at *
      obtain ⟨hR, hK⟩ := hd
      have hcall := fun W => rune_calls R W
      rw [hR] at hcall
      cases ok with
      | true =>
        obtain rfl := hK rfl
        have HR := Lib.hid hR
        clear hR hK
        go_wp2_with (go_at_call 185; refine (hcall _).mono ?_; rintro e w1 ⟨rfl, rfl⟩)
        go_roundw
        case rel => exact ⟨pos + 1, by omega, rfl, by rw [HT.out, HA.out]; rfl⟩
        case measure => simp only [World.iterPos_iter]; omega
      | false =>
        have HR := Lib.hid hR
        clear hR hK
        go_wp2_with (go_at_call 185; refine (hcall _).mono ?_; rintro e w1 ⟨rfl, rfl⟩)
        go_ret
        exact ⟨ret_bool (all_false' HF.out).symm, (Below.refl _ w).alloc (Nat.le_refl _) _⟩
    · have hnx := fun ty => run_next_end (P := Tryz.prog) w s pos ty hlt
      go_wp2
      go_ret
      refine ⟨ret_bool ?_, (Below.refl _ w).alloc (Nat.le_refl _) _⟩
      have := HA.out
      rw [List.take_of_length_le (by rw [l_size]; omega)] at this
      exact this.symm

theorem size_l {s : Str} : s.toList = [] ↔ s.size = 0 := by
  rw [toList_l, ← List.length_eq_zero_iff, l_size]

set_option maxHeartbeats 400000 in
theorem check_calls (s : ByteArray) (w : World) (hs : s.size ≤ 9223372036854775807) :
    Calls Tryz.prog 89 #[.string s] w fun e w' => e = .returned (.bool (okKey s)) ∧ Below w.heap.size w w' := by
  unfold okKey
  have hcall := all_calls s w hs
  generalize ((Str.l s).all fun c => okRune c.toNat) = b at *
  by_cases h0 : s.size = 0
  · have g0 : s.toList = [] := size_l.2 h0
    have ge : (decide (s.size ≠ 0) && decide (s.size ≤ 16) && b) = false := by simp [h0]
    rw [ge]
    go_enter Tryz.func89, Tryz.ntmps89
    go_wp2_with (go_at_call 184; refine hcall.mono ?_; rintro e w1 ⟨rfl, hb1⟩)
    go_ret
    exact ⟨rfl, Below.refl _ _⟩
  · have g0 : s.toList.isEmpty = false := by rw [List.isEmpty_eq_false_iff]; exact fun h => h0 (size_l.1 h)
    by_cases h1 : s.size ≤ 16
    · go_enter Tryz.func89, Tryz.ntmps89
      go_wp2_with (go_at_call 184; refine hcall.mono ?_; rintro e w1 ⟨rfl, hb1⟩)
      go_ret
      exact ⟨ret_bool (by simp [h0, h1]), hb1⟩
    · go_enter Tryz.func89, Tryz.ntmps89
      go_wp2_with (go_at_call 184; refine hcall.mono ?_; rintro e w1 ⟨rfl, hb1⟩)
      go_ret
      exact ⟨ret_bool (by simp [h1]), Below.refl _ _⟩

end Go.Proofs.YtanjgeacmpmjhaaGreatDoor

set_option linter.unusedVariables false
set_option linter.unusedSimpArgs false
set_option linter.unusedSectionVars false
namespace Go.Proofs.YtanjgeacmpmjhaaGreatDoor
open Go.RowKit

theorem lt8_prefix : ∀ (p x y : List UInt8), lt8 (p ++ x) (p ++ y) = lt8 x y
  | [], _, _ => rfl
  | a :: p, x, y => by simp [lt8, lt8_prefix p x y]

theorem slt_at {a b : Str} {k : Nat} (h : a.l.take k = b.l.take k) : slt a b = lt8 (a.l.drop k) (b.l.drop k) := by
  unfold slt
  have e := lt8_prefix (a.l.take k) (a.l.drop k) (b.l.drop k)
  rw [List.take_append_drop, h, List.take_append_drop] at e
  exact e

theorem l_length (a : Str) : a.l.length = a.size := by
  unfold Str.l
  rw [Array.length_toList]; rfl

theorem l_drop (a : Str) (k : Nat) (h : k < a.size) : a.l.drop k = a[k] :: a.l.drop (k + 1) := by
  rw [List.drop_eq_getElem_cons (by rw [l_length]; exact h)]
  rfl

theorem l_take (a : Str) (k : Nat) (h : k < a.size) : a.l.take (k + 1) = a.l.take k ++ [a[k]] := by
  rw [List.take_succ_eq_append_getElem (by rw [l_length]; exact h)]
  rfl

theorem slt_byte {a b : Str} {k : Nat} (ha : k < a.size) (hb : k < b.size) (h : a.l.take k = b.l.take k) (hx : a[k] ≠ b[k]) : slt a b = decide (a[k].toNat < b[k].toNat) := by
  rw [slt_at h, l_drop a k ha, l_drop b k hb, lt8, Bool.eq_iff_iff]
  simp only [beq_eq_false_iff_ne.2 hx, Bool.false_and, Bool.or_false, decide_eq_true_eq, UInt8.lt_iff_toNat_lt]

theorem slt_end {a b : Str} {k : Nat} (h : a.l.take k = b.l.take k) (ha : a.size = k ∨ b.size = k) (hka : k ≤ a.size) (hkb : k ≤ b.size) : slt a b = decide (a.size < b.size) := by
  rw [slt_at h]
  by_cases hb : b.size = k
  · have e : b.l.drop k = [] := List.drop_eq_nil_of_le (by rw [l_length]; omega)
    rw [e, lt8_nil]
    exact (decide_eq_false (by omega)).symm
  · have : a.size = k := ha.resolve_right hb
    have e : a.l.drop k = [] := List.drop_eq_nil_of_le (by rw [l_length]; omega)
    rw [e, l_drop b k (by omega)]
    exact (decide_eq_true (by omega)).symm

set_option maxHeartbeats 400000 in
theorem less_calls (a b : ByteArray) (w : World) (ha : a.size ≤ 9223372036854775807) (hb : b.size ≤ 9223372036854775807) :
    Calls Tryz.prog 181 #[.string a, .string b] w fun e w' => e = .returned (.bool (slt a b)) ∧ Below w.heap.size w w' := by
  go_enter Tryz.func181, Tryz.ntmps181
  go_wp2
  go_loopw [5] (fun i wr => ∃ k : Nat, k ≤ a.size ∧ k ≤ b.size ∧ i = .int .i64 k ∧ (Str.l a).take k = (Str.l b).take k ∧ Below w.heap.size w wr) (fun i _ => a.size - (intOf i).toNat)
  case atStart => exact ⟨0, Nat.zero_le _, Nat.zero_le _, rfl, rfl, Below.refl _ _⟩
  case round =>
    obtain ⟨k, hka, hkb, rfl, heq, hbl⟩ := hrel
    have HE := Lib.hid heq
    clear heq
    by_cases hla : k < a.size
    · by_cases hlb : k < b.size
      · by_cases hx : a[k] = b[k]
        · go_wp2
          refine wp_region_later (by kernel_rfl) (by kernel_rfl) ?_
          repeat (quiet_step (fail))
          refine wpQuiet_nil ?_
          rintro _ ⟨p, rfl⟩
          go_wp2
          go_roundw
          case rel => exact ⟨k + 1, by omega, by omega, by go_num, by rw [l_take a k hla, l_take b k hlb, HE.out, hx], Below.step hbl p.ok⟩
          case measure => simp [intOf]; omega
        · have hne : ((a[k].toNat : Int) != (b[k].toNat : Int)) = true := by
            rw [bne_iff_ne]
            intro h
            exact hx (UInt8.toNat_inj.1 (by omega))
          go_wp2
          refine wp_region_later (by kernel_rfl) (by kernel_rfl) ?_
          repeat (quiet_step (fail))
          refine wpQuiet_nil ?_
          rintro _ ⟨p, rfl⟩
          go_wp2
          refine wp_region_later (by kernel_rfl) (by kernel_rfl) ?_
          repeat (quiet_step (fail))
          refine wpQuiet_nil ?_
          rintro _ ⟨q, rfl⟩
          go_wp2
          go_ret
          exact ⟨ret_bool (slt_byte hla hlb HE.out hx).symm, Below.step hbl (Below.step p.ok q.ok)⟩
      · go_wp2
        go_ret
        exact ⟨ret_bool (slt_end HE.out (.inr (by omega)) hka hkb).symm, hbl⟩
    · go_wp2
      go_ret
      exact ⟨ret_bool (slt_end HE.out (.inl (by omega)) hka hkb).symm, hbl⟩

set_option maxHeartbeats 400000 in
theorem rin_calls (k a b : ByteArray) (w : World) (hk : k.size ≤ 9223372036854775807) (ha : a.size ≤ 9223372036854775807) (hb : b.size ≤ 9223372036854775807) :
    Calls Tryz.prog 91 #[.string k, .string a, .string b] w fun e w' => e = .returned (.bool (sin k a b)) ∧ Below w.heap.size w w' := by
  unfold sin sle
  cases h : slt k a
  all_goals
    have hB := Below.refl w.heap.size w
    go_enter Tryz.func91, Tryz.ntmps91
    go_wp2_with (go_at_call 181; refine (less_calls _ _ _ (by assumption) (by assumption)).mono ?_; rintro e w1 ⟨rfl, hb1⟩; replace hB := Below.step hB hb1; clear hb1)
    go_ret
    exact ⟨by simp, hB⟩

end Go.Proofs.YtanjgeacmpmjhaaGreatDoor

set_option linter.unusedVariables false
set_option linter.unusedSimpArgs false
set_option linter.unusedSectionVars false
namespace Go.Proofs.YtanjgeacmpmjhaaGreatDoor
open Go.ChangeShapes Go.WideShapes Go.ChangeAt Go.RowKit

section lift
variable {H : Type} {enc : TypeId × Value → H}

theorem trodAll_back {P : Program} (hl : laidOutB P = true) {W W' : World} (hb : Below W.heap.size W W') : ∀ (ts : List TypeId) (vs : List Value) (ds : List (DataW H)) (ps : List MemPlace),
    (∀ t ∈ ts, P.readableRec t = true ∧ t < P.types.size) → DataW.TrodAll enc P W 0 (fun _ => true) true ts vs ds ps → DataW.TrodAll enc P W' 0 (fun b => decide (b < W.heap.size)) true ts vs ds ps
  | [], [], [], _, _, h => h
  | t :: ts, v :: vs, d :: ds, _, hr, ⟨p, q, h1, h2, e⟩ =>
    ⟨p, q, Below.trod hl (hr t (List.mem_cons_self ..)).1 (hr t (List.mem_cons_self ..)).2 h1 hb (fun x hx => by obtain ⟨m, hm⟩ := h1; exact DataW.trod_lt m _ _ _ hm x hx),
      trodAll_back hl hb ts vs ds q (fun t ht => hr t (List.mem_cons_of_mem _ ht)) h2, e⟩
  | [], [], _ :: _, _, _, h => h.elim
  | [], _ :: _, _, _, _, h => h.elim
  | _ :: _, [], _, _, _, h => h.elim
  | _ :: _, _ :: _, [], _, _, h => h.elim

theorem trodAll_length {P : Program} {W : World} {b : Nat} {sp : Nat → Bool} {hd : Bool} : ∀ (ts : List TypeId) (vs : List Value) (ds : List (DataW H)) (ps : List MemPlace),
    DataW.TrodAll enc P W b sp hd ts vs ds ps → ds.length = ts.length ∧ vs.length = ts.length
  | [], [], [], _, _ => ⟨rfl, rfl⟩
  | _ :: ts, _ :: vs, _ :: ds, _, ⟨_, q, _, h2, _⟩ => by
    have := trodAll_length ts vs ds q h2
    simp [this]
  | [], [], _ :: _, _, h => h.elim
  | [], _ :: _, _, _, h => h.elim
  | _ :: _, [], _, _, h => h.elim
  | _ :: _, _ :: _, [], _, h => h.elim

theorem law_lift {C : Checked} {os : Os} (started : os.Started) (own : ownKnob C.prog.godebug = none) (f : FuncId) (fn : Func) (s : ChangeSpec) (noInit : C.prog.inits.idxOf? f = none)
    (hfn : C.prog.funcs[f]? = some fn) (laid : laidOutB C.prog = true) (hts : ∀ t ∈ fn.params.toList, C.prog.readableRec t = true ∧ t < C.prog.types.size)
    (hvars : s.vars = []) (tb : TypeId) (hrt : fn.resultTypes.toList = [tb]) (hb : C.prog.underlying tb = some .bool)
    (hs : ∀ ds : List (DataW H), ds.length = fn.params.toList.length → s.fn H ds = { results := [.lit (.bool true)], args := ds })
    (witness : ∃ (w : World) (tape : Tape) (i : Input), w.os = os ∧ (w.forCall tape i).Shaped C.prog ∧ i.vars = [] ∧ Input.okWide C.prog (w.forCall tape i) .any w.heap.size f i ∧
      s.pre6 enc C.prog fn [] false (w.forCall tape i).memory i.args ∧ ({} : Assume).holds C.prog (lone (Frame.enter C.prog f i.args .normal) [] (w.forCall tape i)))
    (walk : ∀ (W : World) (base : Nat) (args : Array Value) (ds : List (DataW H)) (ps : List MemPlace),
      (∀ (j : Nat) t v, fn.params[j]? = some t → args[j]? = some v → Value.okWide C.prog W .any base t v) →
      DataW.TrodAll enc C.prog W 0 (fun _ => true) true fn.params.toList args.toList ds ps →
      (DataW.weightsEach C.prog fn.params.toList ds).all (· ≤ reachBytes) = true →
      Calls C.prog f args W fun e w' => e = .returned (.bool true) ∧ Below W.heap.size W w') :
    ReturnsInHanded {} C os f .any (s.pre6 enc C.prog fn [] false) (s.post enc C.prog fn false true false false) := by
  refine returnsInHanded_of_change_sized (C := C) own started noInit hfn witness ?_
  intro W base args ds gs before hval hW _ hsz _
  have hW' := hW
  obtain ⟨p, q, hA, hV, rfl, hfz, hnd⟩ := hW
  rw [hvars] at hV
  obtain ⟨rfl, rfl⟩ := trodVars_none hV
  have hsz' : (DataW.weightsEach C.prog fn.params.toList ds).all (· ≤ reachBytes) = true := by
    have e : s.plain.varTypes C.prog = [] := by simp [ChangeSpec.plain, DataSpec.varTypes, hvars]
    rw [e] at hsz
    simpa using hsz
  have hlen := trodAll_length _ _ _ _ hA
  have hfn' := hs ds hlen.1
  refine (walk W base args ds p hval hA hsz').mono fun e W' ⟨he, bel⟩ => ?_
  subst he
  refine ⟨_, rfl, ds, [], p ++ [], [], p, [], hW', ?_, ?_, ?_, bel.frame _, fun h => by cases h⟩
  · rw [List.append_nil, hfn', hrt]
    have : fn.resultTypes.size = 1 := by have := congrArg List.length hrt; simpa using this
    rw [this]
    exact trodAll_mk1 (shut_bool hb _)
  · rw [List.append_nil, hfn']
    exact trodAll_back laid bel _ _ _ _ hts hA
  · rw [List.append_nil, hfn', hvars]
    rfl
end lift
end Go.Proofs.YtanjgeacmpmjhaaGreatDoor

set_option linter.unusedVariables false
set_option linter.unusedSimpArgs false
namespace Go.Proofs.YtanjgeacmpmjhaaGreatDoor
open Go.RowKit

set_option maxHeartbeats 400000 in
theorem in_calls (k a b : ByteArray) (w : World) :
    Calls Tryz.prog 214 #[.string k, .string a, .string b] w fun e w' => e = .returned (.bool (sin k a b)) ∧ w = w' := by
  unfold sin
  cases h : sle a k
  all_goals
    go_enter Tryz.func214, Tryz.ntmps214
    go_wp2
    go_ret
    exact ⟨by simp, rfl⟩

set_option maxHeartbeats 400000 in
theorem meet_calls (a b c d : ByteArray) (w : World) :
    Calls Tryz.prog 139 #[.agg #[.string a, .string b], .agg #[.string c, .string d]] w fun e w' => e = .returned (.bool (meet4 a b c d)) ∧ Below w.heap.size w w' := by
  unfold meet4
  cases h : sin (smax a c) a b
  all_goals
    go_enter Tryz.func139, Tryz.ntmps139
    go_wp2_with (go_at_call 214; refine (in_calls _ _ _ _).mono ?_; rintro e w' ⟨rfl, rfl⟩)
    go_ret
    exact ⟨by simp, ((Below.refl _ _).alloc (Nat.le_refl _) _).alloc (by simp) _⟩

def spanOf (q : Int) (k t : ByteArray) : ByteArray := if q = 4 then t else k

set_option maxHeartbeats 400000 in
theorem of_calls (q : Int) (k t : ByteArray) (d : Int) (w : World) :
    Calls Tryz.prog 154 #[.agg #[.int .u8 q, .string k, .string t, .int .u32 d]] w fun e w' => e = .returned (.agg #[.string k, .string (spanOf q k t)]) ∧ Below w.heap.size w w' := by
  unfold spanOf
  by_cases hq : q = 4
  · subst hq
    go_enter Tryz.func154, Tryz.ntmps154
    go_wp2
    refine bodyPost_ret (v := .agg #[.string k, .string t]) (by simp [results, Tryz.results154, go_sem]) rfl ⟨rfl, ?_⟩
    exact ((Below.refl _ _).alloc (Nat.le_refl _) _).alloc (by simp) _
  · have hb2 : (q != 4) = true := by simpa using hq
    rw [if_neg hq]
    go_enter Tryz.func154, Tryz.ntmps154
    go_wp2
    refine bodyPost_ret (v := .agg #[.string k, .string k]) (by simp [results, Tryz.results154, go_sem]) rfl ⟨rfl, ?_⟩
    exact ((Below.refl _ _).alloc (Nat.le_refl _) _).alloc (by simp) _

end Go.Proofs.YtanjgeacmpmjhaaGreatDoor

set_option linter.unusedVariables false
set_option linter.unusedSimpArgs false
set_option linter.unusedSectionVars false
namespace Go.Proofs.YtanjgeacmpmjhaaGreatDoor
open Go.RowKit

/-- A part: a site, and a slice of ops. -/
structure PaV where
  s : Int
  A : Option Addr
  n : Nat
  c : Nat
instance : Inhabited PaV := ⟨⟨0, none, 0, 0⟩⟩
abbrev PaV.val (s : PaV) : Value := .slice s.A s.n s.c
abbrev PaV.enc (s : PaV) : List Value := [.int .u8 s.s, .slice s.A s.n s.c]
theorem pav_len (x : PaV) : x.enc.length = 2 := rfl
theorem pav_one (x : PaV) : ∀ u ∈ x.enc, u.oneCell' = true := fun u hu => by
  simp only [List.mem_cons, List.not_mem_nil, or_false] at hu
  rcases hu with rfl | rfl <;> rfl
theorem Rd.pav {w : World} {A : Option Addr} {n c : Nat} {xs : List PaV} (h : Rd PaV.enc 2 w (.slice A n c) xs) {i : Nat} {x : PaV} (hi : xs[i]? = some x) :
    ∃ b o, A = some ⟨b, o, none⟩ ∧ w.cell? ⟨b, o + i * 2, none⟩ = some (.int .u8 x.s) ∧ w.cell? ⟨b, o + i * 2 + 1, none⟩ = some (.slice x.A x.n x.c) := by
  obtain ⟨b, o, hA, hc⟩ := h.at_ hi
  exact ⟨b, o, hA, hc 0 _ rfl, hc 1 _ rfl⟩

end Go.Proofs.YtanjgeacmpmjhaaGreatDoor

set_option linter.unusedVariables false
set_option linter.unusedSimpArgs false
set_option linter.unusedSectionVars false
namespace Go.Proofs.YtanjgeacmpmjhaaGreatDoor
open Go.RowKit

/-- A slice, as what lies in a cell. -/
structure SlV where
  A : Option Addr
  n : Nat
  c : Nat
instance : Inhabited SlV := ⟨⟨none, 0, 0⟩⟩
abbrev SlV.val (s : SlV) : Value := .slice s.A s.n s.c
abbrev SlV.enc (s : SlV) : List Value := [.slice s.A s.n s.c]
theorem slv_len (x : SlV) : x.enc.length = 1 := rfl
theorem slv_one (x : SlV) : ∀ u ∈ x.enc, u.oneCell' = true := fun u hu => by
  simp only [List.mem_cons, List.not_mem_nil, or_false] at hu
  subst hu
  rfl
theorem Rd.slv {w : World} {A : Option Addr} {n c : Nat} {xs : List SlV} (h : Rd SlV.enc 1 w (.slice A n c) xs) {i : Nat} {x : SlV} (hi : xs[i]? = some x) :
    ∃ b o, A = some ⟨b, o, none⟩ ∧ w.cell? ⟨b, o + i, none⟩ = some (.slice x.A x.n x.c) := by
  obtain ⟨b, o, hA, hc⟩ := h.at_ hi
  refine ⟨b, o, hA, ?_⟩
  have := hc 0 _ rfl
  rwa [Nat.mul_one, Nat.add_zero] at this

end Go.Proofs.YtanjgeacmpmjhaaGreatDoor

set_option linter.unusedVariables false
set_option linter.unusedSimpArgs false
set_option linter.unusedSectionVars false
namespace Go.Proofs.YtanjgeacmpmjhaaGreatDoor
open Go.RowKit

/-- The library's table of powers lies as it was laid. -/
abbrev Tab10 (w : World) : Prop := Lib.TabIs Tryz.prog w "internal/strconv.uint64pow10" .u64 Lib.pow10Tab
theorem Tab10.stays {W w : World} (h : Tab10 W) (hb : Below W.heap.size W w) : Tab10 w :=
  Joins.tab_stays (g := 0) (by kernel_rfl) h hb (Nat.le_refl _)

theorem Tab10.keep {W w : World} {B : Nat} (h : Tab10 W) (hb : Below B W w) (hB : 0 < B) : Tab10 w := by
  unfold Tab10 Lib.TabIs World.var? at *
  rw [show Tryz.prog.globalNamed "internal/strconv.uint64pow10" = some 0 by kernel_rfl] at *
  simp only [Option.bind_some] at h ⊢
  rw [hb.block _ hB]
  exact h

theorem below_grow (w : World) (os : Array Obj) : Below w.heap.size w (Sort.grow w os) := by
  refine ⟨rfl, rfl, rfl, by simp [Sort.grow], fun i hi => ?_⟩
  simp [Sort.grow, Array.getElem?_append, hi]
theorem below_drewN (w : World) (k : Nat) : Below w.heap.size w (w.drewN k) := ⟨rfl, rfl, rfl, Nat.le_refl _, fun _ _ => rfl⟩

end Go.Proofs.YtanjgeacmpmjhaaGreatDoor

set_option linter.unusedVariables false
set_option linter.unusedSimpArgs false
set_option linter.unusedSectionVars false
namespace Go.Proofs.YtanjgeacmpmjhaaGreatDoor
open Go.RowKit Go.Shelf Go.Sort Go.Lib

abbrev enc8 : UInt8 → Value := fun (b : UInt8) => Value.int .u8 (b.toNat : Int)
theorem holds_zero0 (w : World) (T : TypeId) (nd : Nat) (hs : nd ≤ 24) : Holds enc8 (w.alloc (.cells zeros24 T)) w.heap.size 0 (Array.replicate nd (0 : UInt8)) := fun j hj => by
  have hj' : j < nd := by simpa using hj
  refine ⟨?_, World.frozen?_alloc_new _ _ _ _⟩
  rw [World.cell?_alloc_new, zeros24_at _ (by omega), getElem!_pos _ j hj]
  simp
theorem fin_zero (w : World) (o : Obj) (dk : Array UInt8) (k : Nat) : Below w.heap.size w ((putRow enc8 (w.alloc o) w.heap.size 0 dk).drewN k) := by
  have : ∃ os, (putRow enc8 (w.alloc o) w.heap.size 0 dk).drewN k = grow (w.drewN k) os := by
    rw [alloc_eq_grow]
    obtain ⟨os', _, e⟩ := putRow_grow_new enc8 w #[o] w.heap.size 0 dk (Nat.le_refl _)
    exact ⟨os', by rw [e]; rfl⟩
  obtain ⟨os, e⟩ := this
  rw [e]
  exact Below.step (below_drewN w k) (below_grow _ _)

/-- A number's digits. -/
def digT (u : Nat) : ByteArray := ⟨(Lib.decDigits u).toArray⟩

set_option maxHeartbeats 800000 in
set_option maxRecDepth 100000 in
theorem fmtU_calls (u : Nat) (hu : u < 4294967296) (w : World) (hT : Tab10 w) :
    Calls Tryz.prog 247 #[.int .u64 u, .int .i64 10] w fun e w' => e = .returned (.string (digT u)) ∧ Below w.heap.size w w' := by
  by_cases hs : u < 100
  · have hc := Any.internal_strconv_small smallL u hs w
    have hc2 : Calls Tryz.prog 260 #[.int .i64 u] w fun e w' => e = .returned (.string (digT u)) ∧ w' = w := hc
    clear hc
    generalize digT u = t at *
    go_enter Tryz.func247, Tryz.ntmps247
    go_wp2_with (go_at_call 260; refine hc2.mono ?_; rintro e w' ⟨rfl, rfl⟩)
    go_ret
    exact ⟨rfl, Below.refl _ _⟩
  · have hu1 : 1 ≤ u := by omega
    have hu64 : u < 18446744073709551616 := by omega
    have hnd20 : Lib.nDigits u ≤ 20 := by have := Lib.numDigits_eq u hu1 hu64; split at this <;> omega
    have hb3 : Lib.nDigits u ≤ 24 := by omega
    have hal : Tryz.prog.arrayLen 305 = 24 := by kernel_rfl
    have hsl1 : ∀ W, (Instr.sliceAt 305 (.pointer (some ⟨w.heap.size, 0, none⟩)) none (some (.int .i64 (Lib.nDigits u : Int))) none).run Tryz.prog W = .ok (.slice (some ⟨w.heap.size, 0, none⟩) (Lib.nDigits u) 24) W := fun W => by
      rw [run_sliceAt_array_h W 305 ⟨w.heap.size, 0, none⟩ (by kernel_rfl) .i64 (Lib.nDigits u : Int) (by omega) (by rw [hal]; omega), hal]
      have h1 := Tryz.sizeOf5
      simp only [Program.elem, Tryz.underlying305] at *
      go_simp
    have hH0 := holds_zero0 w 305 (Lib.nDigits u) hb3
    have hfmt := Any.internal_strconv_formatBase10 fmtTenL w.heap.size 0 24 u (Array.replicate (Lib.nDigits u) 0) (w.alloc (.cells Lib.zeros24 305)) hH0 (by rw [Array.size_replicate]; exact Lib.lt_pow_nDigits u) hu64 (by rw [Array.size_replicate]; omega)
    rw [Array.size_replicate] at hfmt
    have hnum := Any.internal_strconv_numDigits numDigL u hu1 hu64 (w.alloc (.cells Lib.zeros24 305)) (Lib.tabIs_alloc hT _)
    have hfmt2 : Calls Tryz.prog 262 #[.slice (some ⟨w.heap.size, 0, none⟩) (Lib.nDigits u) 24, .int .u64 u] (w.alloc (.cells Lib.zeros24 305)) fun e w' =>
      e = .returned (.tuple #[]) ∧ ∃ (n v' : Nat) (dk : Array UInt8), w' = (putRow enc8 (w.alloc (.cells Lib.zeros24 305)) w.heap.size 0 dk).drewN n ∧ FmtInv (Lib.nDigits u) u 0 v' dk := hfmt
    have hnum2 : Calls Tryz.prog 261 #[.int .u64 u] (w.alloc (.cells Lib.zeros24 305)) fun e w' => e = .returned (.int .i64 (Lib.nDigits u)) ∧ w' = (w.alloc (.cells Lib.zeros24 305)) := hnum
    clear hfmt hnum
    have HH0 := Lib.hid hH0
    clear hH0
    go_enter Tryz.func247, Tryz.ntmps247
    go_wp2_with (go_at_call 261; refine hnum2.mono ?_; rintro e w' ⟨rfl, rfl⟩)
    go_wp2_with (go_at_call 262; refine hfmt2.mono ?_; rintro e w' ⟨rfl, k, v', dk, rfl, hF⟩)
    have hcv : (convert 211 9 (.slice (some ⟨w.heap.size, 0, none⟩) (Lib.nDigits u) 24)).run Tryz.prog ((putRow enc8 (w.alloc (.cells Lib.zeros24 305)) w.heap.size 0 dk).drewN k) = .ok (.string (digT u)) ((putRow enc8 (w.alloc (.cells Lib.zeros24 305)) w.heap.size 0 dk).drewN k) := by
      have h := run_convert_bytes_back (P := Tryz.prog) ((putRow enc8 (w.alloc (.cells Lib.zeros24 305)) w.heap.size 0 dk).drewN k) 211 9 5 ⟨w.heap.size, 0, none⟩ 24 (Lib.decDigits u) Tryz.underlying211 Tryz.underlying5 Tryz.underlying9 (fun j hj => by
        rw [Lib.row_is_numeral hF j hj, Lib.add_plain, World.cell?_drewN]
        exact cell?_putRow enc8 _ w.heap.size 0 _ dk HH0.out (by rw [hF.size, Array.size_replicate]) j (by rw [hF.size]; rw [Lib.decDigits_length] at hj; exact hj))
      rw [Lib.decDigits_length] at h
      exact h
    go_wp2
    erw [hcv]
    go_wp2
    go_ret
    exact ⟨rfl, fin_zero w _ dk k⟩

set_option maxHeartbeats 800000 in
theorem fmtS_calls (u : Nat) (hu : u < 4294967296) (w : World) (hT : Tab10 w) :
    Calls Tryz.prog 220 #[.int .u64 u, .int .i64 10] w fun e w' => e = .returned (.string (digT u)) ∧ Below w.heap.size w w' := by
  have h := fmtU_calls u hu w hT
  generalize digT u = t at *
  go_enter Tryz.func220, Tryz.ntmps220
  go_wp2_with (go_at_call 247; refine h.mono ?_; rintro e w' ⟨rfl, hb⟩)
  go_ret
  exact ⟨rfl, hb⟩

theorem digT_size (n : Nat) (hn : n < 4294967296) : (digT n).size ≤ 20 := by
  show ((Lib.decDigits n).toArray).size ≤ 20
  rw [List.size_toArray, Lib.decDigits_length]
  exact Lib.nDigits_le20 n (by omega)

/-- The key of marker n. -/
def markT (n : Nat) : ByteArray := (⟨#[95, 109]⟩ : ByteArray) ++ digT n

set_option maxHeartbeats 800000 in
theorem marker_calls (n : Nat) (hn : n < 4294967296) (w : World) (hT : Tab10 w) :
    Calls Tryz.prog 158 #[.int .u32 n] w fun e w' => e = .returned (.string (markT n)) ∧ Below w.heap.size w w' := by
  have h := fmtS_calls n hn w hT
  have hsz := digT_size n hn
  unfold markT
  generalize digT n = t at *
  go_enter Tryz.func158, Tryz.ntmps158
  go_wp2_with (go_at_call 220; refine h.mono ?_; rintro e w' ⟨rfl, hb⟩)
  go_ret
  exact ⟨rfl, hb⟩

end Go.Proofs.YtanjgeacmpmjhaaGreatDoor

set_option linter.unusedVariables false
set_option linter.unusedSimpArgs false
set_option linter.unusedSectionVars false
namespace Go.Proofs.YtanjgeacmpmjhaaGreatDoor
open Go.ChangeShapes Go.WideShapes Go.ChangeAt Go.RowKit

section lift
variable {H : Type} {enc : TypeId × Value → H}

/-- From a law's walk to the second form's row that lists variables: the walk is handed the bound. -/
theorem law_liftU {C : Checked} {os : Os} (started : os.Started) (own : ownKnob C.prog.godebug = none) (f : FuncId) (fn : Func) (s : ChangeSpec) (L : List (String × DataW Unit)) (F : Stop.Interp) (noInit : C.prog.inits.idxOf? f = none)
    (hfn : C.prog.funcs[f]? = some fn) (laid : laidOutB C.prog = true) (hts : ∀ t ∈ fn.params.toList, C.prog.readableRec t = true ∧ t < C.prog.types.size)
    (hvars : s.vars = []) (tb : TypeId) (hrt : fn.resultTypes.toList = [tb]) (hb : C.prog.underlying tb = some .bool)
    (hs : ∀ ds : List (DataW H), ds.length = fn.params.toList.length → s.fn H ds = { results := [.lit (.bool true)], args := ds })
    (witness : ∃ (w : World) (tape : Tape) (i : Input), w.os = os ∧ (w.forCall tape i).Shaped C.prog ∧ i.vars = [] ∧ Input.okWide C.prog (w.forCall tape i) .any w.heap.size f i ∧
      (Rows.OpenSpec.upto s).preRow enc C.prog fn [] false L (w.forCall tape i).memory i.args ∧ ({} : Assume).holds C.prog (lone (Frame.enter C.prog f i.args .normal) [] (w.forCall tape i)))
    (walk : ∀ (W : World) (base : Nat) (args : Array Value) (ds : List (DataW H)) (ps : List MemPlace),
      (∀ (j : Nat) t v, fn.params[j]? = some t → args[j]? = some v → Value.okWide C.prog W .any base t v) →
      DataW.TrodAll enc C.prog W 0 (fun _ => true) true fn.params.toList args.toList ds ps →
      (DataW.weightsEach C.prog fn.params.toList ds).all (· ≤ reachBytes) = true → laidMetH C.prog L W → Rows.uptoBulkAll ds ≤ 1048576 →
      Calls C.prog f args W fun e w' => e = .returned (.bool true) ∧ Below W.heap.size W w') :
    ReturnsInHanded {} C os f .any ((Rows.OpenSpec.upto s).preRow enc C.prog fn [] false L) (((Rows.OpenSpec.upto s).at F).post enc C.prog fn false true false false) := by
  refine returnsInHanded_of_row (C := C) (s := Rows.OpenSpec.upto s) own started noInit hfn witness ?_
  intro W base args ds gs before hval hW _ hcond hsz hL _ _
  show Calls C.prog f args W fun e W' => ∃ v, e = .returned v ∧ s.post enc C.prog fn false true false false W args v W'
  replace hW : DataW.Whole enc C.prog fn.params.toList s.vars false W args.toList ds gs before := hW
  have hW' := hW
  obtain ⟨p, q, hA, hV, rfl, hfz, hnd⟩ := hW
  rw [hvars] at hV
  obtain ⟨rfl, rfl⟩ := trodVars_none hV
  have hsz' : (DataW.weightsEach C.prog fn.params.toList ds).all (· ≤ reachBytes) = true := by
    have e : (Rows.OpenSpec.upto s).bare.plain.varTypes C.prog = [] := by simp [Rows.OpenSpec.upto, OpenSpec.ofChange, OpenSpec.bare, ChangeSpec.plain, DataSpec.varTypes, hvars]
    rw [e] at hsz
    simpa using hsz
  have hbulk : Rows.uptoBulkAll ds ≤ 1048576 := by
    have h := of_decide_eq_true (hcond _ rfl)
    rw [List.append_nil] at h
    exact h
  have hlen := trodAll_length _ _ _ _ hA
  have hfn' := hs ds hlen.1
  refine (walk W base args ds p hval hA hsz' hL hbulk).mono fun e W' ⟨he, bel⟩ => ?_
  subst he
  refine ⟨_, rfl, ds, [], p ++ [], [], p, [], hW', ?_, ?_, ?_, bel.frame _, fun h => by cases h⟩
  · rw [List.append_nil, hfn', hrt]
    have : fn.resultTypes.size = 1 := by have := congrArg List.length hrt; simpa using this
    rw [this]
    exact trodAll_mk1 (shut_bool hb _)
  · rw [List.append_nil, hfn']
    exact trodAll_back laid bel _ _ _ _ hts hA
  · rw [List.append_nil, hfn', hvars]
    rfl
/-- There is an input that fits: at a world that is written out. -/
theorem witness_upto {C : Checked} {os : Os} {f : FuncId} {fn : Func} {s : OpenSpec} {conds : List PathCond} {apart : Bool} {laid : List (String × DataW Unit)} (w0 : World) (args : Array Value) (hos : w0.os = os)
    (hsh : (w0.forCall (fun _ _ => 0) ⟨#[], args, []⟩).Shaped C.prog)
    (hok : Input.okWideB C.prog (w0.forCall (fun _ _ => 0) ⟨#[], args, []⟩) f ⟨#[], args, []⟩ = true)
    (hrow : s.preRow enc C.prog fn conds apart laid (w0.forCall (fun _ _ => 0) ⟨#[], args, []⟩).memory args) :
    ∃ (w : World) (tape : Tape) (i : Input), w.os = os ∧ (w.forCall tape i).Shaped C.prog ∧ i.vars = [] ∧ Input.okWide C.prog (w.forCall tape i) .any w.heap.size f i ∧
      s.preRow enc C.prog fn conds apart laid (w.forCall tape i).memory i.args ∧ ({} : Assume).holds C.prog (lone (Frame.enter C.prog f i.args .normal) [] (w.forCall tape i)) :=
  ⟨w0, fun _ _ => 0, ⟨#[], args, []⟩, hos, hsh, (Input.okWide_of_okWideB (base := 0) hok).1, (Input.okWide_of_okWideB hok).2, hrow, by
    simp only [Assume.holds]
    exact ⟨by simp, by simp, fun _ => Modest.zero, by simp, by simp⟩⟩
end lift
end Go.Proofs.YtanjgeacmpmjhaaGreatDoor

set_option linter.unusedVariables false
set_option linter.unusedSimpArgs false
namespace Go.Proofs.YtanjgeacmpmjhaaGreatDoor
open Go.RowKit

def big (s : ByteArray) : Prop := s.size ≤ 9223372036854775807

set_option maxHeartbeats 400000 in
theorem rhas_calls (a b : ByteArray) (w : World) (ha : a.size ≤ 9223372036854775807) (hb : b.size ≤ 9223372036854775807) :
    Calls Tryz.prog 145 #[.agg #[.string a, .string b]] w fun e w' => e = .returned (.bool (sle a b)) ∧ Below w.heap.size w w' := by
  unfold sle
  go_enter Tryz.func145, Tryz.ntmps145
  go_wp2_with (go_at_call 181; refine (less_calls _ _ _ (by assumption) (by assumption)).mono ?_; rintro e w1 ⟨rfl, hb1⟩)
  go_ret
  exact ⟨rfl, Below.step ((Below.refl _ _).alloc (Nat.le_refl _) _) hb1⟩

set_option maxHeartbeats 400000 in
theorem rmeet_calls (a b c d : ByteArray) (w : World) (ha : a.size ≤ 9223372036854775807) (hb : b.size ≤ 9223372036854775807) (hc : c.size ≤ 9223372036854775807) (hd : d.size ≤ 9223372036854775807) :
    Calls Tryz.prog 140 #[.agg #[.string a, .string b], .agg #[.string c, .string d]] w fun e w' => e = .returned (.bool (rmeet4 a b c d)) ∧ Below w.heap.size w w' := by
  unfold rmeet4
  obtain ⟨W, hW⟩ : ∃ W, W = (w.alloc (.cells #[.string a, .string b] 47)).alloc (.cells #[.string c, .string d] 47) := ⟨_, rfl⟩
  have hB : Below w.heap.size w W := by rw [hW]; exact ((Below.refl _ _).alloc (Nat.le_refl _) _).alloc (by simp) _
  have c0 : W.cell? ⟨w.heap.size, 0, none⟩ = some (.string a) := by rw [hW]; simp
  have c1 : W.cell? ⟨w.heap.size, 1, none⟩ = some (.string b) := by rw [hW]; simp
  have c2 : W.cell? ⟨w.heap.size + 1, 0, none⟩ = some (.string c) := by rw [hW]; simp
  have c3 : W.cell? ⟨w.heap.size + 1, 1, none⟩ = some (.string d) := by rw [hW]; simp
  have HW := Lib.hid hW
  clear hW
  cases h1 : sle a b <;> cases h2 : sle c d <;> cases h3 : sin a c d <;> cases h4 : sin c a b
  all_goals
    go_enter Tryz.func140, Tryz.ntmps140
    go_wp2_with fail
    rw [← HW.out]
    clear HW
    go_wp2_with (first | (go_at_call 145; refine (rhas_calls _ _ _ (by assumption) (by assumption)).mono ?_; rintro e w1 ⟨rfl, hb1⟩; replace c0 := Below.cell_some hb1 c0; replace c1 := Below.cell_some hb1 c1; replace c2 := Below.cell_some hb1 c2; replace c3 := Below.cell_some hb1 c3; replace hB := Below.step hB hb1; clear hb1) | (go_at_call 91; refine (rin_calls _ _ _ _ (by assumption) (by assumption) (by assumption)).mono ?_; rintro e w1 ⟨rfl, hb1⟩; replace c0 := Below.cell_some hb1 c0; replace c1 := Below.cell_some hb1 c1; replace c2 := Below.cell_some hb1 c2; replace c3 := Below.cell_some hb1 c3; replace hB := Below.step hB hb1; clear hb1))
    go_ret
    exact ⟨ret_bool (by simp), hB⟩

end Go.Proofs.YtanjgeacmpmjhaaGreatDoor

set_option linter.unusedVariables false
set_option linter.unusedSimpArgs false
set_option linter.unusedSectionVars false
namespace Go.Proofs.YtanjgeacmpmjhaaGreatDoor
open Go.RowKit Go.Shelf

/-- A number's text. -/
def numT (n : Int) : ByteArray := ⟨(Lib.itoa n).toArray⟩
theorem numT_small (n : Int) (h : -9223372036854775808 ≤ n ∧ n ≤ 9223372036854775807) : (numT n).size ≤ 100 := by
  unfold numT
  have := Lib.itoa_length_le n h.1 h.2
  show (Lib.itoa n).toArray.size ≤ 100
  rw [List.size_toArray]; omega

theorem itoa_calls (n : Int) (h0 : -9223372036854775808 ≤ n) (h1 : n ≤ 9223372036854775807) (w : World) (hT : Tab10 w) :
    Calls Tryz.prog 253 #[.int .i64 n] w fun e w' => e = .returned (.string (numT n)) ∧ Below w.heap.size w w' := by
  have := Any.strconv_Itoa itoaM n h0 h1 w hT
  refine Calls.mono this ?_
  rintro e w' ⟨rfl, k, os, rfl⟩
  exact ⟨rfl, Below.step (below_drewN w k) (below_grow _ _)⟩

def wd (n : Int) : ByteArray := ⟨#[35]⟩ ++ numT n
set_option maxHeartbeats 400000 in
theorem word_calls (n : Int) (hn : 0 ≤ n ∧ n ≤ 100000) (w : World) (hT : Tab10 w) :
    Calls Tryz.prog 234 #[.int .i64 n] w fun e w' => e = .returned (.string (wd n)) ∧ Below w.heap.size w w' := by
  have hc := itoa_calls n (by omega) (by omega) w hT
  have hs := numT_small n (by omega)
  have hw : wd n = ⟨#[35]⟩ ++ numT n := rfl
  have HW := Lib.hid hw
  clear hw
  generalize numT n = t at *
  have hsz : (⟨#[35]⟩ ++ t : ByteArray).size ≤ 9223372036854775807 := by rw [ByteArray.size_append]; have : (⟨#[35]⟩ : ByteArray).size = 1 := rfl; omega
  go_enter Tryz.func234, Tryz.ntmps234
  go_wp2_with (go_at_call 253; refine hc.mono ?_; rintro e w1 ⟨rfl, hb⟩)
  go_ret
  exact ⟨by rw [HW.out]; rfl, hb⟩

end Go.Proofs.YtanjgeacmpmjhaaGreatDoor

set_option linter.unusedVariables false
set_option linter.unusedSimpArgs false
set_option linter.unusedSectionVars false
namespace Go.Proofs.YtanjgeacmpmjhaaGreatDoor
open Go.RowKit

abbrev tenT : ByteArray := ⟨#[48, 49, 50, 51, 52, 53, 54, 55, 56, 57]⟩
theorem ten_piece {i : Nat} (h : i < 10) : tenT.extract i (i + 1) = ⟨#[UInt8.ofNat (48 + i)]⟩ := by
  have : ∀ j : Fin 10, tenT.extract j.1 (j.1 + 1) = ⟨#[UInt8.ofNat (48 + j.1)]⟩ := by decide
  exact this ⟨i, h⟩
theorem digT_one {n : Nat} (h : n < 10) : tenT.extract n (n + 1) = digT n := by
  rw [ten_piece h]
  unfold digT
  rw [Lib.decDigits_one h]
theorem digT_more {n : Nat} (h : ¬ n < 10) : digT (n / 10) ++ tenT.extract (n % 10) (n % 10 + 1) = digT n := by
  rw [ten_piece (Nat.mod_lt _ (by decide))]
  have e : Lib.decDigits n = Lib.decDigits (n / 10) ++ [UInt8.ofNat (48 + n % 10)] := by rw [Lib.decDigits, dif_neg h]
  unfold digT
  rw [e]
  apply ByteArray.ext
  simp

set_option maxHeartbeats 800000 in
set_option maxRecDepth 100000 in
theorem rdigits_calls : ∀ (n : Nat), n < 4294967296 → ∀ (w : World),
    Calls Tryz.prog 224 #[.int .u32 n] w fun e w' => e = .returned (.string (digT n)) ∧ Below w.heap.size w w' := by
  intro n
  induction n using Nat.strongRecOn with
  | _ n ih =>
    intro hn w
    have hw1 : IntKind.u32.wrap ((n : Int) + 1) = if n < 4294967295 then (n : Int) + 1 else 0 := by rw [IntKind.wrap_u32]; split <;> omega
    by_cases h : n < 10
    · have hlt : (n : Int) < 10 := by omega
      rw [if_pos (by omega)] at hw1
      go_enter Tryz.func224, Tryz.ntmps224
      go_wp2
      go_ret
      exact ⟨by rw [digT_one h]; rfl, Below.refl _ _⟩
    · have hlt : ¬ (n : Int) < 10 := by omega
      have hih := ih (n / 10) (by omega) (by omega)
      have hq : IntKind.u32.wrap ((n : Int).tdiv 10) = ((n / 10 : Nat) : Int) := by
        rw [Int.tdiv_eq_ediv_of_nonneg (by omega), IntKind.wrap_u32]; omega
      have hq1 : (n : Int).tdiv 10 = ((n / 10 : Nat) : Int) := by
        rw [Int.tdiv_eq_ediv_of_nonneg (by omega)]; omega
      have hq2 : (n : Int) / 10 = ((n / 10 : Nat) : Int) := by omega
      have hr1 : (n : Int).tmod 10 = ((n % 10 : Nat) : Int) := by
        rw [Int.tmod_eq_emod_of_nonneg (by omega)]; omega
      have hr2 : (n : Int) % 10 = ((n % 10 : Nat) : Int) := by omega
      have hm : n % 10 < 10 := Nat.mod_lt _ (by decide)
      have hdm := digT_more h
      have hsz := digT_size n hn
      rw [← hdm] at hsz
      have HDM := Lib.hid hdm
      clear hw1 hdm ih
      generalize n % 10 = m at *
      generalize n / 10 = q at *
      have hw2 : IntKind.u32.wrap ((m : Int) + 1) = (m : Int) + 1 := by rw [IntKind.wrap_u32]; omega
      have i0 : (0 : Int) ≤ (m : Int) := by omega
      have i1 : (m : Int) ≤ (m : Int) + 1 := by omega
      have i2 : (m : Int) + 1 ≤ 10 := by omega
      obtain ⟨pc, hpc⟩ : ∃ pc, (⟨#[48, 49, 50, 51, 52, 53, 54, 55, 56, 57]⟩ : ByteArray).extract m (m + 1) = pc := ⟨_, rfl⟩
      have hpc2 : tenT.extract m (m + 1) = pc := hpc
      rw [hpc2] at hsz
      have HPC := Lib.hid hpc2
      generalize digT q = t at *
      rw [ByteArray.size_append] at hsz
      have i3 : (t.size : Int) + (pc.size : Int) ≤ 9223372036854775807 := by omega
      have i4 : t.size + pc.size ≤ 9223372036854775807 := by omega
      clear hpc2
      go_enter Tryz.func224, Tryz.ntmps224
      go_upto_region 3 with fail
      refine wp_region_later (by kernel_rfl) (by kernel_rfl) ?_
      repeat (go_big_quiet_step ((go_at_call 224; with_reducible exact Calls.later (hih _))))
      refine wpQuiet_nil ?_
      rintro _ ⟨p, rfl⟩
      go_wp2
      go_ret
      exact ⟨by rw [← HDM.out, HPC.out]; rfl, p.ok⟩

end Go.Proofs.YtanjgeacmpmjhaaGreatDoor
