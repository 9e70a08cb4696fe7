import Derived.Test.YtanjgeacmpmjhaaGreatDoorProg
import Derived.Test.YtanjgeacmpmjhaaGreatDoorKinds
import Derived.Shelf.Abstract
import Derived.Test.YtanjgeacmpmjhaaGreatDoorApp
import Derived.Test.YtanjgeacmpmjhaaGreatDoorBk0
import Derived.Test.YtanjgeacmpmjhaaGreatDoorMgVersionsPlay2
set_option linter.unusedVariables false
set_option linter.unusedSimpArgs false
namespace Go.Proofs.YtanjgeacmpmjhaaGreatDoor
open Go.RowKit

theorem eqg_change (o : BinOp) (x y : Operand) (a0 b0 : ByteArray) (a1 b1 : Int) (a2 b2 : Bool) (w : World) : (eqGuard o 128 x y (.agg #[.string a0, .int .u32 a1, .bool a2]) (.agg #[.string b0, .int .u32 b1, .bool b2])).run Tryz.prog w = .ok () w :=
  run_eqGuard_agg w o _ x y _ _ (by kernel_rfl)
theorem eql_change (a0 b0 : ByteArray) (a1 b1 : Int) (a2 b2 : Bool) (w : World) : (binOp .eql 128 (.agg #[.string a0, .int .u32 a1, .bool a2]) (.agg #[.string b0, .int .u32 b1, .bool b2])).run Tryz.prog w = .ok (.bool (decide (a0 = b0) && (decide (a1 = b1) && decide (a2 = b2)))) w := by
  have u0 := Tryz.underlying9
  have a0_ := Tryz.isAgg9
  have z0 := Tryz.sizeOf9
  have u1 := Tryz.underlying42
  have a1_ := Tryz.isAgg42
  have z1 := Tryz.sizeOf42
  have u2 := Tryz.underlying4
  have a2_ := Tryz.isAgg4
  have z2 := Tryz.sizeOf4
  have hS : Tryz.prog.underlying 128 = some (.struct (Tryz.prog.fieldsOf 128)) := by kernel_rfl
  have hp : Tryz.prog.stoodInHeld 128 = false := by kernel_rfl
  rw [run_eql_struct, show (10000 : Nat) = 9999 + 1 from rfl, run_equalIn_agg w 9999 128 _ _ hS hp]
  simp only [Program.fieldsOf, Tryz.underlying128]
  go_simp
  by_cases h0 : a0 = b0 <;> by_cases h1 : a1 = b1 <;> by_cases h2 : a2 = b2 <;> simp [h0, h1, h2]
theorem neq_change (a0 b0 : ByteArray) (a1 b1 : Int) (a2 b2 : Bool) (w : World) : (binOp .neq 128 (.agg #[.string a0, .int .u32 a1, .bool a2]) (.agg #[.string b0, .int .u32 b1, .bool b2])).run Tryz.prog w = .ok (.bool (!(decide (a0 = b0) && (decide (a1 = b1) && decide (a2 = b2))))) w := by
  have u0 := Tryz.underlying9
  have a0_ := Tryz.isAgg9
  have z0 := Tryz.sizeOf9
  have u1 := Tryz.underlying42
  have a1_ := Tryz.isAgg42
  have z1 := Tryz.sizeOf42
  have u2 := Tryz.underlying4
  have a2_ := Tryz.isAgg4
  have z2 := Tryz.sizeOf4
  have hS : Tryz.prog.underlying 128 = some (.struct (Tryz.prog.fieldsOf 128)) := by kernel_rfl
  have hp : Tryz.prog.stoodInHeld 128 = false := by kernel_rfl
  rw [run_neq_struct, show (10000 : Nat) = 9999 + 1 from rfl, run_equalIn_agg w 9999 128 _ _ hS hp]
  simp only [Program.fieldsOf, Tryz.underlying128]
  go_simp
  by_cases h0 : a0 = b0 <;> by_cases h1 : a1 = b1 <;> by_cases h2 : a2 = b2 <;> simp [h0, h1, h2]

end Go.Proofs.YtanjgeacmpmjhaaGreatDoor

set_option linter.unusedVariables false
set_option linter.unusedSimpArgs false
namespace Go.Proofs.YtanjgeacmpmjhaaGreatDoor
open Go.RowKit

theorem eqg_row (o : BinOp) (x y : Operand) (a0 b0 : ByteArray) (a1 b1 : Int) (w : World) : (eqGuard o 44 x y (.agg #[.string a0, .int .u32 a1]) (.agg #[.string b0, .int .u32 b1])).run Tryz.prog w = .ok () w :=
  run_eqGuard_agg w o _ x y _ _ (by kernel_rfl)
theorem eql_row (a0 b0 : ByteArray) (a1 b1 : Int) (w : World) : (binOp .eql 44 (.agg #[.string a0, .int .u32 a1]) (.agg #[.string b0, .int .u32 b1])).run Tryz.prog w = .ok (.bool (decide (a0 = b0) && decide (a1 = b1))) w := by
  have u0 := Tryz.underlying9
  have a0_ := Tryz.isAgg9
  have z0 := Tryz.sizeOf9
  have u1 := Tryz.underlying42
  have a1_ := Tryz.isAgg42
  have z1 := Tryz.sizeOf42
  have hS : Tryz.prog.underlying 44 = some (.struct (Tryz.prog.fieldsOf 44)) := by kernel_rfl
  have hp : Tryz.prog.stoodInHeld 44 = false := by kernel_rfl
  rw [run_eql_struct, show (10000 : Nat) = 9999 + 1 from rfl, run_equalIn_agg w 9999 44 _ _ hS hp]
  simp only [Program.fieldsOf, Tryz.underlying44]
  go_simp
  by_cases h0 : a0 = b0 <;> by_cases h1 : a1 = b1 <;> simp [h0, h1]
theorem neq_row (a0 b0 : ByteArray) (a1 b1 : Int) (w : World) : (binOp .neq 44 (.agg #[.string a0, .int .u32 a1]) (.agg #[.string b0, .int .u32 b1])).run Tryz.prog w = .ok (.bool (!(decide (a0 = b0) && decide (a1 = b1)))) w := by
  have u0 := Tryz.underlying9
  have a0_ := Tryz.isAgg9
  have z0 := Tryz.sizeOf9
  have u1 := Tryz.underlying42
  have a1_ := Tryz.isAgg42
  have z1 := Tryz.sizeOf42
  have hS : Tryz.prog.underlying 44 = some (.struct (Tryz.prog.fieldsOf 44)) := by kernel_rfl
  have hp : Tryz.prog.stoodInHeld 44 = false := by kernel_rfl
  rw [run_neq_struct, show (10000 : Nat) = 9999 + 1 from rfl, run_equalIn_agg w 9999 44 _ _ hS hp]
  simp only [Program.fieldsOf, Tryz.underlying44]
  go_simp
  by_cases h0 : a0 = b0 <;> by_cases h1 : a1 = b1 <;> simp [h0, h1]

end Go.Proofs.YtanjgeacmpmjhaaGreatDoor

set_option linter.unusedVariables false
set_option linter.unusedSimpArgs false
namespace Go.Proofs.YtanjgeacmpmjhaaGreatDoor
open Go.RowKit

theorem eqg_span (o : BinOp) (x y : Operand) (a0 b0 : ByteArray) (a1 b1 : ByteArray) (w : World) : (eqGuard o 47 x y (.agg #[.string a0, .string a1]) (.agg #[.string b0, .string b1])).run Tryz.prog w = .ok () w :=
  run_eqGuard_agg w o _ x y _ _ (by kernel_rfl)
theorem eql_span (a0 b0 : ByteArray) (a1 b1 : ByteArray) (w : World) : (binOp .eql 47 (.agg #[.string a0, .string a1]) (.agg #[.string b0, .string b1])).run Tryz.prog w = .ok (.bool (decide (a0 = b0) && decide (a1 = b1))) w := by
  have u0 := Tryz.underlying9
  have a0_ := Tryz.isAgg9
  have z0 := Tryz.sizeOf9
  have hS : Tryz.prog.underlying 47 = some (.struct (Tryz.prog.fieldsOf 47)) := by kernel_rfl
  have hp : Tryz.prog.stoodInHeld 47 = false := by kernel_rfl
  rw [run_eql_struct, show (10000 : Nat) = 9999 + 1 from rfl, run_equalIn_agg w 9999 47 _ _ hS hp]
  simp only [Program.fieldsOf, Tryz.underlying47]
  go_simp
  by_cases h0 : a0 = b0 <;> by_cases h1 : a1 = b1 <;> simp [h0, h1]
theorem neq_span (a0 b0 : ByteArray) (a1 b1 : ByteArray) (w : World) : (binOp .neq 47 (.agg #[.string a0, .string a1]) (.agg #[.string b0, .string b1])).run Tryz.prog w = .ok (.bool (!(decide (a0 = b0) && decide (a1 = b1)))) w := by
  have u0 := Tryz.underlying9
  have a0_ := Tryz.isAgg9
  have z0 := Tryz.sizeOf9
  have hS : Tryz.prog.underlying 47 = some (.struct (Tryz.prog.fieldsOf 47)) := by kernel_rfl
  have hp : Tryz.prog.stoodInHeld 47 = false := by kernel_rfl
  rw [run_neq_struct, show (10000 : Nat) = 9999 + 1 from rfl, run_equalIn_agg w 9999 47 _ _ hS hp]
  simp only [Program.fieldsOf, Tryz.underlying47]
  go_simp
  by_cases h0 : a0 = b0 <;> by_cases h1 : a1 = b1 <;> simp [h0, h1]

end Go.Proofs.YtanjgeacmpmjhaaGreatDoor

set_option linter.unusedVariables false
set_option linter.unusedSimpArgs false
namespace Go.Proofs.YtanjgeacmpmjhaaGreatDoor
open Go.RowKit Go.Shelf

set_option maxHeartbeats 400000 in
/-- slices.IndexFunc: the first one of which the closure says yes. -/
theorem indexFuncChange_calls (p : Change → Bool) (g : Nat) (lb : Array Value) (eg : ∀ args w, (callFunc g args).run Tryz.prog w = .ok (.enter g args) w) (v : Value) (xs : List Change) (w : World) (hv : Rd Change.enc 3 w v xs)
    (hp : ∀ W x, x ∈ xs → Below w.heap.size w W → Calls Tryz.prog g (#[.agg #[.string x.k, .int .u32 x.v, .bool x.g]] ++ lb) W fun e w' => e = .returned (.bool (p x)) ∧ Below W.heap.size W w') :
    Calls Tryz.prog 183 #[v, .func (.func g) #[] lb] w fun e w' => e = .returned (.int .i64 (idx p xs)) ∧ Below w.heap.size w w' := by
  obtain ⟨A, c, rfl, hlc, hc⟩ := hv.shape
  go_enter Tryz.func183, Tryz.ntmps183
  go_wp2
  go_loopw [5, 8] (fun _ i wr => ∃ k : Nat, k ≤ xs.length ∧ i = .int .i64 k ∧ (∀ j, j < k → ∀ x, xs[j]? = some x → p x = false) ∧ Below w.heap.size w wr) (fun _ i _ => xs.length - (intOf i).toNat)
  case atStart => exact ⟨0, Nat.zero_le _, rfl, fun j hj => absurd hj (Nat.not_lt_zero _), Below.refl _ _⟩
  case round =>
    obtain ⟨k, hk, rfl, hno, hb⟩ := hrel
    have HNO := Lib.hid hno
    clear hno
    by_cases hlt : k < xs.length
    · obtain ⟨b, o, rfl, hx1, hx2, hx3⟩ := (hv.below hb).change (List.getElem?_eq_getElem hlt)
      have HK := Lib.hid (List.getElem?_eq_getElem hlt)
      have HM := List.getElem_mem hlt
      generalize xs[k] = x at *
      have hcall := hp wr x HM hb
      cases hq : p x with
      | true =>
        rw [hq] at hcall
        go_wp2_with (go_at_fn g; refine hcall.mono ?_; rintro e w1 ⟨rfl, hb1⟩; clear hx1 hx2 hx3)
        go_ret
        exact ⟨ret_int (idx_hit p xs k x HK.out hq HNO.out).symm, Below.step hb hb1⟩
      | false =>
        rw [hq] at hcall
        go_wp2_with (go_at_fn g; refine hcall.mono ?_; rintro e w1 ⟨rfl, hb1⟩; clear hx1 hx2 hx3)
        go_roundw
        case rel =>
          refine ⟨k + 1, by omega, by go_num, fun j hj y hy => ?_, Below.step hb hb1⟩
          by_cases e : j = k
          · subst e
            rw [HK.out] at hy
            injection hy with hy
            rw [← hy]; exact hq
          · exact HNO.out j (by omega) y hy
        case measure => simp [intOf]; omega
    · go_wp2
      go_ret
      exact ⟨ret_int (idx_miss p xs (fun j x hx => HNO.out j (by have := (List.getElem?_eq_some_iff.1 hx).1; omega) x hx)).symm, hb⟩

set_option maxHeartbeats 400000 in
/-- slices.ContainsFunc: does the closure say yes of one? -/
theorem containsFuncChange_calls (p : Change → Bool) (g : Nat) (lb : Array Value) (eg : ∀ args w, (callFunc g args).run Tryz.prog w = .ok (.enter g args) w) (v : Value) (xs : List Change) (w : World) (hv : Rd Change.enc 3 w v xs)
    (hp : ∀ W x, x ∈ xs → Below w.heap.size w W → Calls Tryz.prog g (#[.agg #[.string x.k, .int .u32 x.v, .bool x.g]] ++ lb) W fun e w' => e = .returned (.bool (p x)) ∧ Below W.heap.size W w') :
    Calls Tryz.prog 87 #[v, .func (.func g) #[] lb] w fun e w' => e = .returned (.bool (xs.any p)) ∧ Below w.heap.size w w' := by
  have h := indexFuncChange_calls p g lb eg v xs w hv hp
  have hi := Lib.hid (idx_any p xs)
  generalize idx p xs = m at *
  go_enter Tryz.func87, Tryz.ntmps87
  go_wp2_with (go_at_call 183; refine h.mono ?_; rintro e w1 ⟨rfl, hb1⟩)
  go_ret
  exact ⟨ret_bool hi.out, hb1⟩

end Go.Proofs.YtanjgeacmpmjhaaGreatDoor

set_option linter.unusedVariables false
set_option linter.unusedSimpArgs false
set_option linter.unusedSectionVars false
namespace Go.Proofs.YtanjgeacmpmjhaaGreatDoor
open Go.RowKit

/-- 's[j:]' of a slice that is read, however it lies. -/
theorem Rd.cut {α : Type} {enc : α → List Value} {k : Nat} {w : World} {A : Option Addr} {c : Nat} {xs : List α} (h : Rd enc k w (.slice A xs.length c) xs) (j : Nat) (hj : j ≤ xs.length) :
    Rd enc k w (.slice (if c = j then A else A.map fun x => x.add (j * k)) (xs.length - j) (c - j)) (xs.drop j) := by
  obtain ⟨A', c', hv, hl, hc, hr⟩ := h
  injection hv with e1 e2 e3
  subst e1 e3
  refine ⟨_, c - j, by rw [List.length_drop], by rw [List.length_drop]; omega, by omega, fun hp => ?_⟩
  rw [List.length_drop] at hp
  obtain ⟨b, o, rfl, hcell⟩ := hr (by omega)
  refine ⟨b, o + j * k, ?_, fun i x hi u v hu => ?_⟩
  · rw [if_neg (by omega), Option.map_some, Addr.add_lit]
  · rw [List.getElem?_drop] at hi
    have := hcell (j + i) x hi u v hu
    rw [Nat.add_mul] at this
    rwa [show o + j * k + i * k + u = o + (j * k + i * k) + u by omega]

section
variable {P : Program} {ops : Array Oper} {rest : List Oper} {o : Oper} {a : Act} {Q : Exit → Act → World → Prop}
/-- 'append(s, l..)': the list's length under another name. -/
theorem append_allN {α : Type} {w0 W : World} (enc : α → List Value) (k : Nat) (E : TypeId) (t : TypeId) (bytes : Nat) (z : Value) (base : Nat) (v : Value) (xs ys : List α) (A : Option Addr) (n c : Nat) (hgd : o.guard = none) (s x : Operand)
    (ho : o.op = .call { callee := .builtin .append, args := #[s, x], argTypes := #[t, t] })
    (ht : P.underlying t = some (.slice E)) (hinfo : (P.info? E).map (fun i => (i.zero, i.size, i.bytes)) = some (some z, k, bytes)) (hz : z.cells.size = k) (hk0 : 0 < k) (hb0 : 0 < bytes)
    (henc : ∀ x, (enc x).length = k) (h1 : ∀ x, ∀ u ∈ enc x, u.oneCell' = true)
    (hs : a.eval s = v) (hx : a.eval x = .slice A n c) (hrd : Rd enc k W (.slice A n c) ys)
    (hown : Own enc k E base W v xs) (HB : Below base w0 W) (hbase : base ≤ W.heap.size) (hl : (xs.length + ys.length) * bytes ≤ 140737488355328)
    (h : ∀ v' w', Own enc k E base w' v' (xs ++ ys) → Below base w0 w' → W.grownBy w' v.ownBlock → wpList P ops Q rest (a.put o.dst v') w') :
    wpList P ops Q (o :: rest) a W := by
  obtain ⟨A', c', hv, _, _, _⟩ := id hrd
  injection hv with e1 e2 e3
  subst e2
  exact append_all enc k E t bytes z base v xs ys A c hgd s x ho ht hinfo hz hk0 hb0 henc h1 hs hx hrd hown HB hbase hl h
end

set_option maxHeartbeats 400000 in
/-- The reference's Check of a key. -/
theorem rcheck_calls (s : ByteArray) (w : World) (hs : s.size ≤ 9223372036854775807) :
    Calls Tryz.prog 83 #[.string s] w fun e w' => e = .returned (.bool (okKey s)) ∧ Below w.heap.size w w' := by
  unfold okKey
  have hat := all_take s
  have hfl := all_false s
  have hfull : ((Str.l s).take s.size) = Str.l s := by rw [List.take_of_length_le (by rw [l_size]; exact Nat.le_refl _)]
  go_enter Tryz.func83, Tryz.ntmps83
  go_wp2
  go_loopw [3] (fun i wr => ∃ k : Nat, k ≤ s.size ∧ i = .int .i64 k ∧ ((Str.l s).take k).all (fun c => okRune c.toNat) = true ∧ Below w.heap.size w wr) (fun i _ => s.size - (intOf i).toNat)
  case atStart => exact ⟨0, Nat.zero_le _, rfl, by simp, Below.refl _ _⟩
  case round =>
    obtain ⟨k, hk, rfl, hal, hb⟩ := hrel
    have HAL := Lib.hid hal
    clear hal
    by_cases hlt : k < s.size
    · have h1 := hat k hlt
      have h2 := hfl k hlt
      clear hat hfl hfull
      rw [HAL.out, Bool.true_and] at h1
      generalize hr : s[k].toNat = r at *
      have H1 := Lib.hid h1
      have H2 := Lib.hid h2
      clear h1 h2
      have HR : okRune r = ((decide (97 ≤ r) && decide (r ≤ 122) || decide (48 ≤ r) && decide (r ≤ 57)) || decide (r = 95)) := rfl
      by_cases c1 : 97 ≤ r <;> by_cases c2 : r ≤ 122 <;> by_cases c3 : 48 ≤ r <;> by_cases c4 : r ≤ 57 <;> by_cases c5 : r = 95
      all_goals first
        | (exfalso; omega)
        | skip
      all_goals
        have g5 : ((r : Int) != 95) = decide (r ≠ 95) := by rw [Bool.eq_iff_iff]; simp; omega
        simp only [c5, ne_eq, not_true, not_false_eq_true, decide_true, decide_false] at g5
        have HR2 := HR
        simp only [c1, c2, c3, c4, c5, decide_true, decide_false, Bool.and_true, Bool.and_false, Bool.or_true, Bool.or_false, Bool.true_or, Bool.false_or] at HR2
        have HRR := Lib.hid HR2
        clear HR HR2
        go_wp2
        first
          | (have hh : okRune r = false := HRR.out
             go_ret
             exact ⟨ret_bool (by rw [H2.out hh]; simp), hb⟩)
          | (go_roundw
             case rel => exact ⟨k + 1, by omega, by go_num, by rw [H1.out]; first | exact HRR.out | (rw [c5]; exact HRR.out), hb⟩
             case measure => simp [intOf]; omega)
    · have hke : k = s.size := by omega
      subst hke
      rw [hfull] at HAL
      have HA := Lib.hid HAL.out
      clear hat hfl hfull HAL
      rcases Nat.eq_zero_or_pos s.size with h0 | h0
      · have h0' : ¬ 1 ≤ s.size := by omega
        go_wp2
        go_ret
        exact ⟨ret_bool (by simp [h0]), hb⟩
      · by_cases h1 : s.size ≤ 16
        all_goals
          have h0' : s.size ≠ 0 := by omega
          go_wp2
          go_ret
          exact ⟨ret_bool (by rw [HA.out]; simp [h0', h1]; try omega), hb⟩

end Go.Proofs.YtanjgeacmpmjhaaGreatDoor

set_option linter.unusedVariables false
set_option linter.unusedSimpArgs false
namespace Go.Proofs.YtanjgeacmpmjhaaGreatDoor
open Go.RowKit

/-! ### what is done with a past: acts that hold lists of changes -/
structure VAct where
  q : Int
  v : Value
  cs : List Change
  at_ : Int
abbrev VAct.enc (x : VAct) : List Value := [.int .u8 x.q, x.v, .int .u32 x.at_]
structure VAct.ok (w : World) (x : VAct) : Prop where
  q : (Lit.int .u8 x.q).wf = true
  at_ : (Lit.int .u32 x.at_).wf = true
  rd : Rd Change.enc 3 w x.v x.cs
  len : x.cs.length * 24 ≤ 140737488351232
  each : ∀ c ∈ x.cs, c.ok

theorem vact_len (x : VAct) : x.enc.length = 3 := rfl

theorem vact_of {w : World} {cs : List Value} (h : Sh.holds w (.struct [.int .u8, .slice (.struct [.str, .int .u32, .bool]) 24, .int .u32]) cs) : ∃ x : VAct, cs = x.enc ∧ x.ok w := by
  rw [Sh.holds] at h
  simp only [Sh.holdsAll] at h
  obtain ⟨_, _, rfl, h0, _, _, rfl, h1, _, _, rfl, h2, rfl⟩ := h
  obtain ⟨n0, rfl, k0⟩ := h0
  obtain ⟨n2, rfl, k2⟩ := h2
  have h1' := h1
  rw [Sh.holds] at h1
  obtain ⟨A, n, c, rfl, _⟩ := h1
  obtain ⟨xs, rd, len, ok⟩ := changes_of h1'
  exact ⟨⟨n0, .slice A n c, xs, n2⟩, rfl, k0, k2, rd, len, ok⟩

theorem vacts_of {w : World} {v : Value} {bytes : Nat} (h : Sh.holds w (.slice (.struct [.int .u8, .slice (.struct [.str, .int .u32, .bool]) 24, .int .u32]) bytes) [v]) :
    ∃ xs : List VAct, Rd VAct.enc 3 w v xs ∧ xs.length * bytes ≤ 140737488351232 ∧ ∀ x ∈ xs, x.ok w := rd_of (fun _ h => vact_of h) h

theorem Rd.vact {w : World} {A : Option Addr} {n c : Nat} {xs : List VAct} (h : Rd VAct.enc 3 w (.slice A n c) xs) {i : Nat} {x : VAct} (hi : xs[i]? = some x) :
    ∃ b o, A = some ⟨b, o, none⟩ ∧ w.cell? ⟨b, o + i * 3, none⟩ = some (.int .u8 x.q) ∧ w.cell? ⟨b, o + i * 3 + 1, none⟩ = some x.v ∧ w.cell? ⟨b, o + i * 3 + 2, none⟩ = some (.int .u32 x.at_) := by
  obtain ⟨b, o, hA, hc⟩ := h.at_ hi
  exact ⟨b, o, hA, hc 0 _ rfl, hc 1 _ rfl, hc 2 _ rfl⟩

/-- What is done, a commit, three keys. -/
theorem vone_of {w : World} {cs : List Value} {bytes : Nat} (h : Sh.holds w (.struct [.slice (.struct [.int .u8, .slice (.struct [.str, .int .u32, .bool]) 24, .int .u32]) bytes, .int .u32, .str, .str, .str]) cs) :
    ∃ (v : Value) (xs : List VAct) (m : Int) (a b c : ByteArray), cs = [v, .int .u32 m, .string a, .string b, .string c] ∧ Rd VAct.enc 3 w v xs ∧ xs.length * bytes ≤ 140737488351232 ∧ (∀ x ∈ xs, x.ok w) ∧ (Lit.int .u32 m).wf = true ∧ small a ∧ small b ∧ small c := by
  rw [Sh.holds] at h
  simp only [Sh.holdsAll] at h
  obtain ⟨_, _, rfl, h0, _, _, rfl, h1, _, _, rfl, h2, _, _, rfl, h3, _, _, rfl, h4, rfl⟩ := h
  obtain ⟨m, rfl, k1⟩ := h1
  obtain ⟨a, rfl, k2⟩ := h2
  obtain ⟨b, rfl, k3⟩ := h3
  obtain ⟨c, rfl, k4⟩ := h4
  have h0' := h0
  rw [Sh.holds] at h0
  obtain ⟨A, n, c', rfl, _⟩ := h0
  obtain ⟨xs, rd, len, ok⟩ := vacts_of h0'
  exact ⟨_, xs, m, a, b, c, rfl, rd, len, ok, k1, k2, k3, k4⟩

/-- What is done, a span, a commit, a change. -/
theorem vsince_of {w : World} {cs : List Value} {bytes : Nat} (h : Sh.holds w (.struct [.slice (.struct [.int .u8, .slice (.struct [.str, .int .u32, .bool]) 24, .int .u32]) bytes, .struct [.str, .str], .int .u32, .struct [.str, .int .u32, .bool]]) cs) :
    ∃ (v : Value) (xs : List VAct) (s : Span) (m : Int) (c : Change), cs = [v, .string s.f, .string s.t, .int .u32 m, .string c.k, .int .u32 c.v, .bool c.g] ∧ Rd VAct.enc 3 w v xs ∧ xs.length * bytes ≤ 140737488351232 ∧ (∀ x ∈ xs, x.ok w) ∧ (Lit.int .u32 m).wf = true ∧ s.ok ∧ c.ok := by
  rw [Sh.holds] at h
  simp only [Sh.holdsAll] at h
  obtain ⟨_, _, rfl, h0, _, _, rfl, h1, _, _, rfl, h2, _, _, rfl, h3, rfl⟩ := h
  obtain ⟨m, rfl, k2⟩ := h2
  obtain ⟨s, rfl, k1⟩ := span_of h1
  obtain ⟨c, rfl, k3⟩ := change_of h3
  have h0' := h0
  rw [Sh.holds] at h0
  obtain ⟨A, n, c', rfl, _⟩ := h0
  obtain ⟨xs, rd, len, ok⟩ := vacts_of h0'
  exact ⟨_, xs, s, m, c, rfl, rd, len, ok, k2, k1, k3⟩

/-- how much is done. -/
def sumA (xs : List VAct) : Nat := (xs.map fun x => 1 + x.cs.length).sum
theorem sumA_take (xs : List VAct) (k : Nat) (x : VAct) (h : xs[k]? = some x) : sumA (xs.take (k + 1)) = sumA (xs.take k) + (1 + x.cs.length) := by
  unfold sumA
  rw [List.take_add_one, h]
  simp
theorem sumA_le (xs : List VAct) (k : Nat) : sumA (xs.take k) ≤ sumA xs := by
  unfold sumA
  conv => rhs; rw [← List.take_append_drop k xs, List.map_append, List.sum_append]
  omega
theorem sumA_bound {w : World} (xs : List VAct) (h : ∀ x ∈ xs, x.ok w) : sumA xs ≤ xs.length * 6000000000000 := by
  induction xs with
  | nil => simp [sumA]
  | cons x xs ih =>
    have h1 := (h x (by simp)).len
    have h2 := ih (fun y hy => h y (by simp [hy]))
    unfold sumA at *
    simp only [List.map_cons, List.sum_cons, List.length_cons]
    omega

end Go.Proofs.YtanjgeacmpmjhaaGreatDoor
