import Derived.Test.YtanjgeacmpmjhaaGreatDoorProg
import Derived.Test.YtanjgeacmpmjhaaGreatDoorKinds
import Derived.Shelf.Abstract
import Derived.Test.YtanjgeacmpmjhaaGreatDoorApp
import Derived.Test.YtanjgeacmpmjhaaGreatDoorBk0
import Derived.Test.YtanjgeacmpmjhaaGreatDoorMgPlansCheckUpto2
import Derived.Test.YtanjgeacmpmjhaaGreatDoorOwn
import Derived.Test.YtanjgeacmpmjhaaGreatDoorLaySortSpan
import Derived.Shelf.SlSortCmp.NoneTotal
set_option linter.unusedVariables false
set_option linter.unusedSimpArgs false
namespace Go.Proofs.YtanjgeacmpmjhaaGreatDoor
open Go.RowKit

theorem eqg_opn (o : BinOp) (x y : Operand) (a0 b0 : Int) (a1 b1 : ByteArray) (a2 b2 : ByteArray) (a3 b3 : Int) (w : World) : (eqGuard o 172 x y (.agg #[.int .u8 a0, .string a1, .string a2, .int .u32 a3]) (.agg #[.int .u8 b0, .string b1, .string b2, .int .u32 b3])).run Tryz.prog w = .ok () w :=
  run_eqGuard_agg w o _ x y _ _ (by kernel_rfl)
theorem eql_opn (a0 b0 : Int) (a1 b1 : ByteArray) (a2 b2 : ByteArray) (a3 b3 : Int) (w : World) : (binOp .eql 172 (.agg #[.int .u8 a0, .string a1, .string a2, .int .u32 a3]) (.agg #[.int .u8 b0, .string b1, .string b2, .int .u32 b3])).run Tryz.prog w = .ok (.bool (decide (a0 = b0) && (decide (a1 = b1) && (decide (a2 = b2) && decide (a3 = b3))))) w := by
  have u0 := Tryz.underlying170
  have a0_ := Tryz.isAgg170
  have z0 := Tryz.sizeOf170
  have u1 := Tryz.underlying9
  have a1_ := Tryz.isAgg9
  have z1 := Tryz.sizeOf9
  have u2 := Tryz.underlying42
  have a2_ := Tryz.isAgg42
  have z2 := Tryz.sizeOf42
  have hS : Tryz.prog.underlying 172 = some (.struct (Tryz.prog.fieldsOf 172)) := by kernel_rfl
  have hp : Tryz.prog.stoodInHeld 172 = false := by kernel_rfl
  rw [run_eql_struct, show (10000 : Nat) = 9999 + 1 from rfl, run_equalIn_agg w 9999 172 _ _ hS hp]
  simp only [Program.fieldsOf, Tryz.underlying172]
  go_simp
  by_cases h0 : a0 = b0 <;> by_cases h1 : a1 = b1 <;> by_cases h2 : a2 = b2 <;> by_cases h3 : a3 = b3 <;> simp [h0, h1, h2, h3]
theorem neq_opn (a0 b0 : Int) (a1 b1 : ByteArray) (a2 b2 : ByteArray) (a3 b3 : Int) (w : World) : (binOp .neq 172 (.agg #[.int .u8 a0, .string a1, .string a2, .int .u32 a3]) (.agg #[.int .u8 b0, .string b1, .string b2, .int .u32 b3])).run Tryz.prog w = .ok (.bool (!(decide (a0 = b0) && (decide (a1 = b1) && (decide (a2 = b2) && decide (a3 = b3)))))) w := by
  have u0 := Tryz.underlying170
  have a0_ := Tryz.isAgg170
  have z0 := Tryz.sizeOf170
  have u1 := Tryz.underlying9
  have a1_ := Tryz.isAgg9
  have z1 := Tryz.sizeOf9
  have u2 := Tryz.underlying42
  have a2_ := Tryz.isAgg42
  have z2 := Tryz.sizeOf42
  have hS : Tryz.prog.underlying 172 = some (.struct (Tryz.prog.fieldsOf 172)) := by kernel_rfl
  have hp : Tryz.prog.stoodInHeld 172 = false := by kernel_rfl
  rw [run_neq_struct, show (10000 : Nat) = 9999 + 1 from rfl, run_equalIn_agg w 9999 172 _ _ hS hp]
  simp only [Program.fieldsOf, Tryz.underlying172]
  go_simp
  by_cases h0 : a0 = b0 <;> by_cases h1 : a1 = b1 <;> by_cases h2 : a2 = b2 <;> by_cases h3 : a3 = b3 <;> simp [h0, h1, h2, h3]

end Go.Proofs.YtanjgeacmpmjhaaGreatDoor

set_option linter.unusedVariables false
set_option linter.unusedSimpArgs false
namespace Go.Proofs.YtanjgeacmpmjhaaGreatDoor
open Go.RowKit

theorem eqg_row (o : BinOp) (x y : Operand) (a0 b0 : ByteArray) (a1 b1 : Int) (w : World) : (eqGuard o 44 x y (.agg #[.string a0, .int .u32 a1]) (.agg #[.string b0, .int .u32 b1])).run Tryz.prog w = .ok () w :=
  run_eqGuard_agg w o _ x y _ _ (by kernel_rfl)
theorem eql_row (a0 b0 : ByteArray) (a1 b1 : Int) (w : World) : (binOp .eql 44 (.agg #[.string a0, .int .u32 a1]) (.agg #[.string b0, .int .u32 b1])).run Tryz.prog w = .ok (.bool (decide (a0 = b0) && decide (a1 = b1))) w := by
  have u0 := Tryz.underlying9
  have a0_ := Tryz.isAgg9
  have z0 := Tryz.sizeOf9
  have u1 := Tryz.underlying42
  have a1_ := Tryz.isAgg42
  have z1 := Tryz.sizeOf42
  have hS : Tryz.prog.underlying 44 = some (.struct (Tryz.prog.fieldsOf 44)) := by kernel_rfl
  have hp : Tryz.prog.stoodInHeld 44 = false := by kernel_rfl
  rw [run_eql_struct, show (10000 : Nat) = 9999 + 1 from rfl, run_equalIn_agg w 9999 44 _ _ hS hp]
  simp only [Program.fieldsOf, Tryz.underlying44]
  go_simp
  by_cases h0 : a0 = b0 <;> by_cases h1 : a1 = b1 <;> simp [h0, h1]
theorem neq_row (a0 b0 : ByteArray) (a1 b1 : Int) (w : World) : (binOp .neq 44 (.agg #[.string a0, .int .u32 a1]) (.agg #[.string b0, .int .u32 b1])).run Tryz.prog w = .ok (.bool (!(decide (a0 = b0) && decide (a1 = b1)))) w := by
  have u0 := Tryz.underlying9
  have a0_ := Tryz.isAgg9
  have z0 := Tryz.sizeOf9
  have u1 := Tryz.underlying42
  have a1_ := Tryz.isAgg42
  have z1 := Tryz.sizeOf42
  have hS : Tryz.prog.underlying 44 = some (.struct (Tryz.prog.fieldsOf 44)) := by kernel_rfl
  have hp : Tryz.prog.stoodInHeld 44 = false := by kernel_rfl
  rw [run_neq_struct, show (10000 : Nat) = 9999 + 1 from rfl, run_equalIn_agg w 9999 44 _ _ hS hp]
  simp only [Program.fieldsOf, Tryz.underlying44]
  go_simp
  by_cases h0 : a0 = b0 <;> by_cases h1 : a1 = b1 <;> simp [h0, h1]

end Go.Proofs.YtanjgeacmpmjhaaGreatDoor

set_option linter.unusedVariables false
set_option linter.unusedSimpArgs false
namespace Go.Proofs.YtanjgeacmpmjhaaGreatDoor
open Go.RowKit

theorem eqg_span (o : BinOp) (x y : Operand) (a0 b0 : ByteArray) (a1 b1 : ByteArray) (w : World) : (eqGuard o 47 x y (.agg #[.string a0, .string a1]) (.agg #[.string b0, .string b1])).run Tryz.prog w = .ok () w :=
  run_eqGuard_agg w o _ x y _ _ (by kernel_rfl)
theorem eql_span (a0 b0 : ByteArray) (a1 b1 : ByteArray) (w : World) : (binOp .eql 47 (.agg #[.string a0, .string a1]) (.agg #[.string b0, .string b1])).run Tryz.prog w = .ok (.bool (decide (a0 = b0) && decide (a1 = b1))) w := by
  have u0 := Tryz.underlying9
  have a0_ := Tryz.isAgg9
  have z0 := Tryz.sizeOf9
  have hS : Tryz.prog.underlying 47 = some (.struct (Tryz.prog.fieldsOf 47)) := by kernel_rfl
  have hp : Tryz.prog.stoodInHeld 47 = false := by kernel_rfl
  rw [run_eql_struct, show (10000 : Nat) = 9999 + 1 from rfl, run_equalIn_agg w 9999 47 _ _ hS hp]
  simp only [Program.fieldsOf, Tryz.underlying47]
  go_simp
  by_cases h0 : a0 = b0 <;> by_cases h1 : a1 = b1 <;> simp [h0, h1]
theorem neq_span (a0 b0 : ByteArray) (a1 b1 : ByteArray) (w : World) : (binOp .neq 47 (.agg #[.string a0, .string a1]) (.agg #[.string b0, .string b1])).run Tryz.prog w = .ok (.bool (!(decide (a0 = b0) && decide (a1 = b1)))) w := by
  have u0 := Tryz.underlying9
  have a0_ := Tryz.isAgg9
  have z0 := Tryz.sizeOf9
  have hS : Tryz.prog.underlying 47 = some (.struct (Tryz.prog.fieldsOf 47)) := by kernel_rfl
  have hp : Tryz.prog.stoodInHeld 47 = false := by kernel_rfl
  rw [run_neq_struct, show (10000 : Nat) = 9999 + 1 from rfl, run_equalIn_agg w 9999 47 _ _ hS hp]
  simp only [Program.fieldsOf, Tryz.underlying47]
  go_simp
  by_cases h0 : a0 = b0 <;> by_cases h1 : a1 = b1 <;> simp [h0, h1]

end Go.Proofs.YtanjgeacmpmjhaaGreatDoor

set_option linter.unusedVariables false
set_option linter.unusedSimpArgs false
namespace Go.Proofs.YtanjgeacmpmjhaaGreatDoor
open Go.RowKit Go.Shelf

set_option maxHeartbeats 400000 in
/-- slices.IndexFunc: the first one of which the closure says yes. -/
theorem indexFuncOpn_calls (p : Opn → Bool) (g : Nat) (lb : Array Value) (eg : ∀ args w, (callFunc g args).run Tryz.prog w = .ok (.enter g args) w) (v : Value) (xs : List Opn) (w : World) (hv : Rd Opn.enc 4 w v xs)
    (hp : ∀ W x, x ∈ xs → Below w.heap.size w W → Calls Tryz.prog g (#[.agg #[.int .u8 x.q, .string x.k, .string x.t, .int .u32 x.d]] ++ lb) W fun e w' => e = .returned (.bool (p x)) ∧ Below W.heap.size W w') :
    Calls Tryz.prog 218 #[v, .func (.func g) #[] lb] w fun e w' => e = .returned (.int .i64 (idx p xs)) ∧ Below w.heap.size w w' := by
  obtain ⟨A, c, rfl, hlc, hc⟩ := hv.shape
  go_enter Tryz.func218, Tryz.ntmps218
  go_wp2
  go_loopw [5, 8] (fun _ i wr => ∃ k : Nat, k ≤ xs.length ∧ i = .int .i64 k ∧ (∀ j, j < k → ∀ x, xs[j]? = some x → p x = false) ∧ Below w.heap.size w wr) (fun _ i _ => xs.length - (intOf i).toNat)
  case atStart => exact ⟨0, Nat.zero_le _, rfl, fun j hj => absurd hj (Nat.not_lt_zero _), Below.refl _ _⟩
  case round =>
    obtain ⟨k, hk, rfl, hno, hb⟩ := hrel
    have HNO := Lib.hid hno
    clear hno
    by_cases hlt : k < xs.length
    · obtain ⟨b, o, rfl, hx1, hx2, hx3, hx4⟩ := (hv.below hb).opn (List.getElem?_eq_getElem hlt)
      have HK := Lib.hid (List.getElem?_eq_getElem hlt)
      have HM := List.getElem_mem hlt
      generalize xs[k] = x at *
      have hcall := hp wr x HM hb
      cases hq : p x with
      | true =>
        rw [hq] at hcall
        go_wp2_with (go_at_fn g; refine hcall.mono ?_; rintro e w1 ⟨rfl, hb1⟩; clear hx1 hx2 hx3 hx4)
        go_ret
        exact ⟨ret_int (idx_hit p xs k x HK.out hq HNO.out).symm, Below.step hb hb1⟩
      | false =>
        rw [hq] at hcall
        go_wp2_with (go_at_fn g; refine hcall.mono ?_; rintro e w1 ⟨rfl, hb1⟩; clear hx1 hx2 hx3 hx4)
        go_roundw
        case rel =>
          refine ⟨k + 1, by omega, by go_num, fun j hj y hy => ?_, Below.step hb hb1⟩
          by_cases e : j = k
          · subst e
            rw [HK.out] at hy
            injection hy with hy
            rw [← hy]; exact hq
          · exact HNO.out j (by omega) y hy
        case measure => simp [intOf]; omega
    · go_wp2
      go_ret
      exact ⟨ret_int (idx_miss p xs (fun j x hx => HNO.out j (by have := (List.getElem?_eq_some_iff.1 hx).1; omega) x hx)).symm, hb⟩

set_option maxHeartbeats 400000 in
/-- slices.ContainsFunc: does the closure say yes of one? -/
theorem containsFuncOpn_calls (p : Opn → Bool) (g : Nat) (lb : Array Value) (eg : ∀ args w, (callFunc g args).run Tryz.prog w = .ok (.enter g args) w) (v : Value) (xs : List Opn) (w : World) (hv : Rd Opn.enc 4 w v xs)
    (hp : ∀ W x, x ∈ xs → Below w.heap.size w W → Calls Tryz.prog g (#[.agg #[.int .u8 x.q, .string x.k, .string x.t, .int .u32 x.d]] ++ lb) W fun e w' => e = .returned (.bool (p x)) ∧ Below W.heap.size W w') :
    Calls Tryz.prog 156 #[v, .func (.func g) #[] lb] w fun e w' => e = .returned (.bool (xs.any p)) ∧ Below w.heap.size w w' := by
  have h := indexFuncOpn_calls p g lb eg v xs w hv hp
  have hi := Lib.hid (idx_any p xs)
  generalize idx p xs = m at *
  go_enter Tryz.func156, Tryz.ntmps156
  go_wp2_with (go_at_call 218; refine h.mono ?_; rintro e w1 ⟨rfl, hb1⟩)
  go_ret
  exact ⟨ret_bool hi.out, hb1⟩

end Go.Proofs.YtanjgeacmpmjhaaGreatDoor

set_option linter.unusedVariables false
set_option linter.unusedSimpArgs false
namespace Go.Proofs.YtanjgeacmpmjhaaGreatDoor
open Go.RowKit Go.Shelf

set_option maxHeartbeats 400000 in
/-- slices.IndexFunc: the first one of which the closure says yes. -/
theorem indexFuncSpan_calls (p : Span → Bool) (g : Nat) (lb : Array Value) (eg : ∀ args w, (callFunc g args).run Tryz.prog w = .ok (.enter g args) w) (v : Value) (xs : List Span) (w : World) (hv : Rd Span.enc 2 w v xs)
    (hp : ∀ W x, x ∈ xs → Below w.heap.size w W → Calls Tryz.prog g (#[.agg #[.string x.f, .string x.t]] ++ lb) W fun e w' => e = .returned (.bool (p x)) ∧ Below W.heap.size W w') :
    Calls Tryz.prog 272 #[v, .func (.func g) #[] lb] w fun e w' => e = .returned (.int .i64 (idx p xs)) ∧ Below w.heap.size w w' := by
  obtain ⟨A, c, rfl, hlc, hc⟩ := hv.shape
  go_enter Tryz.func272, Tryz.ntmps272
  go_wp2
  go_loopw [5, 8] (fun _ i wr => ∃ k : Nat, k ≤ xs.length ∧ i = .int .i64 k ∧ (∀ j, j < k → ∀ x, xs[j]? = some x → p x = false) ∧ Below w.heap.size w wr) (fun _ i _ => xs.length - (intOf i).toNat)
  case atStart => exact ⟨0, Nat.zero_le _, rfl, fun j hj => absurd hj (Nat.not_lt_zero _), Below.refl _ _⟩
  case round =>
    obtain ⟨k, hk, rfl, hno, hb⟩ := hrel
    have HNO := Lib.hid hno
    clear hno
    by_cases hlt : k < xs.length
    · obtain ⟨b, o, rfl, hx1, hx2⟩ := (hv.below hb).span (List.getElem?_eq_getElem hlt)
      have HK := Lib.hid (List.getElem?_eq_getElem hlt)
      have HM := List.getElem_mem hlt
      generalize xs[k] = x at *
      have hcall := hp wr x HM hb
      cases hq : p x with
      | true =>
        rw [hq] at hcall
        go_wp2_with (go_at_fn g; refine hcall.mono ?_; rintro e w1 ⟨rfl, hb1⟩; clear hx1 hx2)
        go_ret
        exact ⟨ret_int (idx_hit p xs k x HK.out hq HNO.out).symm, Below.step hb hb1⟩
      | false =>
        rw [hq] at hcall
        go_wp2_with (go_at_fn g; refine hcall.mono ?_; rintro e w1 ⟨rfl, hb1⟩; clear hx1 hx2)
        go_roundw
        case rel =>
          refine ⟨k + 1, by omega, by go_num, fun j hj y hy => ?_, Below.step hb hb1⟩
          by_cases e : j = k
          · subst e
            rw [HK.out] at hy
            injection hy with hy
            rw [← hy]; exact hq
          · exact HNO.out j (by omega) y hy
        case measure => simp [intOf]; omega
    · go_wp2
      go_ret
      exact ⟨ret_int (idx_miss p xs (fun j x hx => HNO.out j (by have := (List.getElem?_eq_some_iff.1 hx).1; omega) x hx)).symm, hb⟩

set_option maxHeartbeats 400000 in
/-- slices.ContainsFunc: does the closure say yes of one? -/
theorem containsFuncSpan_calls (p : Span → Bool) (g : Nat) (lb : Array Value) (eg : ∀ args w, (callFunc g args).run Tryz.prog w = .ok (.enter g args) w) (v : Value) (xs : List Span) (w : World) (hv : Rd Span.enc 2 w v xs)
    (hp : ∀ W x, x ∈ xs → Below w.heap.size w W → Calls Tryz.prog g (#[.agg #[.string x.f, .string x.t]] ++ lb) W fun e w' => e = .returned (.bool (p x)) ∧ Below W.heap.size W w') :
    Calls Tryz.prog 249 #[v, .func (.func g) #[] lb] w fun e w' => e = .returned (.bool (xs.any p)) ∧ Below w.heap.size w w' := by
  have h := indexFuncSpan_calls p g lb eg v xs w hv hp
  have hi := Lib.hid (idx_any p xs)
  generalize idx p xs = m at *
  go_enter Tryz.func249, Tryz.ntmps249
  go_wp2_with (go_at_call 272; refine h.mono ?_; rintro e w1 ⟨rfl, hb1⟩)
  go_ret
  exact ⟨ret_bool hi.out, hb1⟩

end Go.Proofs.YtanjgeacmpmjhaaGreatDoor

set_option linter.unusedVariables false
set_option linter.unusedSimpArgs false
set_option linter.unusedSectionVars false
namespace Go.Proofs.YtanjgeacmpmjhaaGreatDoor
open Go.RowKit

/-- 's[j:]' of a slice that is read, however it lies. -/
theorem Rd.cut {α : Type} {enc : α → List Value} {k : Nat} {w : World} {A : Option Addr} {c : Nat} {xs : List α} (h : Rd enc k w (.slice A xs.length c) xs) (j : Nat) (hj : j ≤ xs.length) :
    Rd enc k w (.slice (if c = j then A else A.map fun x => x.add (j * k)) (xs.length - j) (c - j)) (xs.drop j) := by
  obtain ⟨A', c', hv, hl, hc, hr⟩ := h
  injection hv with e1 e2 e3
  subst e1 e3
  refine ⟨_, c - j, by rw [List.length_drop], by rw [List.length_drop]; omega, by omega, fun hp => ?_⟩
  rw [List.length_drop] at hp
  obtain ⟨b, o, rfl, hcell⟩ := hr (by omega)
  refine ⟨b, o + j * k, ?_, fun i x hi u v hu => ?_⟩
  · rw [if_neg (by omega), Option.map_some, Addr.add_lit]
  · rw [List.getElem?_drop] at hi
    have := hcell (j + i) x hi u v hu
    rw [Nat.add_mul] at this
    rwa [show o + j * k + i * k + u = o + (j * k + i * k) + u by omega]

section
variable {P : Program} {ops : Array Oper} {rest : List Oper} {o : Oper} {a : Act} {Q : Exit → Act → World → Prop}
/-- 'append(s, l..)': the list's length under another name. -/
theorem append_allN {α : Type} {w0 W : World} (enc : α → List Value) (k : Nat) (E : TypeId) (t : TypeId) (bytes : Nat) (z : Value) (base : Nat) (v : Value) (xs ys : List α) (A : Option Addr) (n c : Nat) (hgd : o.guard = none) (s x : Operand)
    (ho : o.op = .call { callee := .builtin .append, args := #[s, x], argTypes := #[t, t] })
    (ht : P.underlying t = some (.slice E)) (hinfo : (P.info? E).map (fun i => (i.zero, i.size, i.bytes)) = some (some z, k, bytes)) (hz : z.cells.size = k) (hk0 : 0 < k) (hb0 : 0 < bytes)
    (henc : ∀ x, (enc x).length = k) (h1 : ∀ x, ∀ u ∈ enc x, u.oneCell' = true)
    (hs : a.eval s = v) (hx : a.eval x = .slice A n c) (hrd : Rd enc k W (.slice A n c) ys)
    (hown : Own enc k E base W v xs) (HB : Below base w0 W) (hbase : base ≤ W.heap.size) (hl : (xs.length + ys.length) * bytes ≤ 140737488355328)
    (h : ∀ v' w', Own enc k E base w' v' (xs ++ ys) → Below base w0 w' → W.grownBy w' v.ownBlock → wpList P ops Q rest (a.put o.dst v') w') :
    wpList P ops Q (o :: rest) a W := by
  obtain ⟨A', c', hv, _, _, _⟩ := id hrd
  injection hv with e1 e2 e3
  subst e2
  exact append_all enc k E t bytes z base v xs ys A c hgd s x ho ht hinfo hz hk0 hb0 henc h1 hs hx hrd hown HB hbase hl h
end

set_option maxHeartbeats 400000 in
/-- The reference's Check of a key. -/
theorem rcheck_calls (s : ByteArray) (w : World) (hs : s.size ≤ 9223372036854775807) :
    Calls Tryz.prog 83 #[.string s] w fun e w' => e = .returned (.bool (okKey s)) ∧ Below w.heap.size w w' := by
  unfold okKey
  have hat := all_take s
  have hfl := all_false s
  have hfull : ((Str.l s).take s.size) = Str.l s := by rw [List.take_of_length_le (by rw [l_size]; exact Nat.le_refl _)]
  go_enter Tryz.func83, Tryz.ntmps83
  go_wp2
  go_loopw [3] (fun i wr => ∃ k : Nat, k ≤ s.size ∧ i = .int .i64 k ∧ ((Str.l s).take k).all (fun c => okRune c.toNat) = true ∧ Below w.heap.size w wr) (fun i _ => s.size - (intOf i).toNat)
  case atStart => exact ⟨0, Nat.zero_le _, rfl, by simp, Below.refl _ _⟩
  case round =>
    obtain ⟨k, hk, rfl, hal, hb⟩ := hrel
    have HAL := Lib.hid hal
    clear hal
    by_cases hlt : k < s.size
    · have h1 := hat k hlt
      have h2 := hfl k hlt
      clear hat hfl hfull
      rw [HAL.out, Bool.true_and] at h1
      generalize hr : s[k].toNat = r at *
      have H1 := Lib.hid h1
      have H2 := Lib.hid h2
      clear h1 h2
      have HR : okRune r = ((decide (97 ≤ r) && decide (r ≤ 122) || decide (48 ≤ r) && decide (r ≤ 57)) || decide (r = 95)) := rfl
      by_cases c1 : 97 ≤ r <;> by_cases c2 : r ≤ 122 <;> by_cases c3 : 48 ≤ r <;> by_cases c4 : r ≤ 57 <;> by_cases c5 : r = 95
      all_goals first
        | (exfalso; omega)
        | skip
      all_goals
        have g5 : ((r : Int) != 95) = decide (r ≠ 95) := by rw [Bool.eq_iff_iff]; simp; omega
        simp only [c5, ne_eq, not_true, not_false_eq_true, decide_true, decide_false] at g5
        have HR2 := HR
        simp only [c1, c2, c3, c4, c5, decide_true, decide_false, Bool.and_true, Bool.and_false, Bool.or_true, Bool.or_false, Bool.true_or, Bool.false_or] at HR2
        have HRR := Lib.hid HR2
        clear HR HR2
        go_wp2
        first
          | (have hh : okRune r = false := HRR.out
             go_ret
             exact ⟨ret_bool (by rw [H2.out hh]; simp), hb⟩)
          | (go_roundw
             case rel => exact ⟨k + 1, by omega, by go_num, by rw [H1.out]; first | exact HRR.out | (rw [c5]; exact HRR.out), hb⟩
             case measure => simp [intOf]; omega)
    · have hke : k = s.size := by omega
      subst hke
      rw [hfull] at HAL
      have HA := Lib.hid HAL.out
      clear hat hfl hfull HAL
      rcases Nat.eq_zero_or_pos s.size with h0 | h0
      · have h0' : ¬ 1 ≤ s.size := by omega
        go_wp2
        go_ret
        exact ⟨ret_bool (by simp [h0]), hb⟩
      · by_cases h1 : s.size ≤ 16
        all_goals
          have h0' : s.size ≠ 0 := by omega
          go_wp2
          go_ret
          exact ⟨ret_bool (by rw [HA.out]; simp [h0', h1]; try omega), hb⟩

end Go.Proofs.YtanjgeacmpmjhaaGreatDoor

set_option linter.unusedVariables false
set_option linter.unusedSimpArgs false
namespace Go.Proofs.YtanjgeacmpmjhaaGreatDoor
open Go.RowKit Go.Shelf

/-- A row of one's own, as the kit's sort wants it. -/
theorem Own.holdsK {α : Type} [Inhabited α] {enc : α → List Value} {k : Nat} {E : TypeId} {base : Nat} {w : World} {g cap : Nat} {xs : List α} (h : Own enc k E base w (.slice (some ⟨g, 0, none⟩) xs.length cap) xs) (hk : ∀ x, (enc x).length = k) (hp : 0 < xs.length) :
    Sort.HoldsK enc k w g 0 xs.toArray ∧ g < w.heap.size := by
  obtain ⟨g', cap', cur, hv, hb, hg, hlc, hcm, hsz, ht⟩ := h.some_block hp
  injection hv with h1 h2 h3
  injection h1 with h1
  injection h1 with h1
  subst h1 h3
  refine ⟨fun j hj => ?_, (Array.getElem?_eq_some_iff.1 hg).1⟩
  rw [Sort.size_flatK, List.size_toArray] at hj
  have hk0 : 0 < k := by rcases Nat.eq_zero_or_pos k with h | h; · subst h; simp at hj
                         · exact h
  have hq : j / k < xs.length := Nat.div_lt_of_lt_mul (by rwa [Nat.mul_comm] at hj)
  have hm : j % k < (enc xs[j / k]).length := by rw [hk]; exact Nat.mod_lt _ hk0
  have h1 := flat_get hk xs (j / k) _ (j % k) _ (List.getElem?_eq_getElem hq) (List.getElem?_eq_getElem hm)
  rw [Nat.mul_comm, Nat.div_add_mod] at h1
  have hc : cur[j]? = some (enc xs[j / k])[j % k] := by
    rw [← ht, List.getElem?_take, if_pos (by rw [Nat.mul_comm] at hj; rw [Nat.mul_comm]; exact hj)] at h1
    simpa using h1
  rw [Nat.zero_add]
  constructor
  · simp only [World.cell?, hg, Option.isSome_none, Bool.false_eq_true, if_false, hc]
    rw [Sort.get_flatK _ _ _ _ (by simpa using hj)]
    have e : xs.toArray[j / k]! = xs[j / k] := by simp [hq]
    rw [e, getElem!_pos (enc _) (j % k) hm]
    rfl
  · simp [World.frozen?, hg]

theorem sortWorld_own {α : Type} [Inhabited α] {enc : α → List Value} {k : Nat} {E : TypeId} {base : Nat} {w : World} {g cap : Nat} {xs : List α} (h : Own enc k E base w (.slice (some ⟨g, 0, none⟩) xs.length cap) xs) (hk : ∀ x, (enc x).length = k) (hp : 0 < xs.length)
    (n : Nat) (os : Array Obj) (d : Array α) (hd : d.size = xs.length) :
    Own enc k E base (sortWorldK enc k w g 0 n d os) (.slice (some ⟨g, 0, none⟩) xs.length cap) d.toList ∧ w.grownBy (sortWorldK enc k w g 0 n d os) (some g) := by
  obtain ⟨g', cap', cur, hv, hb, hg, hlc, hcm, hsz, ht⟩ := h.some_block hp
  injection hv with h1 h2 h3
  injection h1 with h1
  injection h1 with h1
  subst h1 h3
  have hlt := (Array.getElem?_eq_some_iff.1 hg).1
  have hheap : ∀ i, i < w.heap.size → (sortWorldK enc k w g 0 n d os).heap[i]? = (w.heap.modify g (Sort.onCells (Sort.putCells id 0 (Sort.flatK enc k d))))[i]? := fun i hi => by
    show ((w.heap.modify g (Sort.onCells (Sort.putCells id 0 (Sort.flatK enc k d)))) ++ os)[i]? = _
    rw [Array.getElem?_append_left (by simpa using hi)]
  have hdl : d.toList.length = xs.length := by simpa using hd
  constructor
  · have hself : (sortWorldK enc k w g 0 n d os).heap[g]? = some (.cells (Sort.putCells id 0 (Sort.flatK enc k d) cur) E (0, 0)) := by
      rw [hheap g hlt, Array.getElem?_modify, if_pos rfl, hg]
      rfl
    rw [← hdl]
    refine ⟨flat_length hk _, .inr ⟨g, cap, _, rfl, hb, hself, by rw [hdl]; exact hlc, hcm, by simpa [Sort.putCells] using hsz, ?_⟩⟩
    rw [hdl]
    apply List.ext_getElem?
    intro j
    by_cases hj : j < xs.length * k
    · have hk0 : 0 < k := by rcases Nat.eq_zero_or_pos k with h | h; · subst h; simp at hj
                             · exact h
      have hjc : j < cur.size := by rw [hsz]; exact Nat.lt_of_lt_of_le hj (Nat.mul_le_mul_right _ hlc)
      have hq : j / k < d.toList.length := by rw [hdl]; exact Nat.div_lt_of_lt_mul (by rwa [Nat.mul_comm] at hj)
      have hm : j % k < (enc d.toList[j / k]).length := by rw [hk]; exact Nat.mod_lt _ hk0
      have h1 := flat_get hk d.toList (j / k) _ (j % k) _ (List.getElem?_eq_getElem hq) (List.getElem?_eq_getElem hm)
      rw [Nat.mul_comm, Nat.div_add_mod] at h1
      have hF : j < (Sort.flatK enc k d).size := by rw [Sort.size_flatK, hd]; exact hj
      rw [h1, List.getElem?_take, if_pos hj, Array.getElem?_toList]
      unfold Sort.putCells
      rw [Array.getElem?_mapIdx, Array.getElem?_eq_getElem hjc, Option.map_some, if_pos ⟨Nat.zero_le _, by omega⟩, Nat.sub_zero, id, Sort.get_flatK _ _ _ _ (by rw [hd]; exact hj)]
      have e : d[j / k]! = d.toList[j / k] := by
        rw [getElem!_pos d (j / k) (by simpa using hq)]; simp
      rw [e, getElem!_pos (enc _) (j % k) hm]
    · rw [List.getElem?_eq_none (by simp; omega), List.getElem?_eq_none (by rw [flat_length hk, hdl]; omega)]
  · refine ⟨rfl, rfl, rfl, ?_, fun i hi hne => ?_⟩
    · show w.heap.size ≤ ((w.heap.modify g (Sort.onCells (Sort.putCells id 0 (Sort.flatK enc k d)))) ++ os).size
      simp
    · rw [hheap i hi, Array.getElem?_modify, if_neg (fun e => hne (by rw [e]))]

theorem permIn_mem {α : Type} [Inhabited α] {d d' : Array α} (h : Sort.PermIn 0 d.size d d') : d'.size = d.size ∧ ∀ y, y ∈ d'.toList ↔ y ∈ d.toList := by
  obtain ⟨h1, _, h3⟩ := h
  refine ⟨h1, fun y => ?_⟩
  have e1 : d'.extract 0 d.size = d' := by rw [← h1]; simp
  have e2 : d.extract 0 d.size = d := by simp
  rw [e1, e2] at h3
  exact h3.mem_iff

theorem sortedIn_pairwise {α : Type} [Inhabited α] {lt : α → α → Bool} {d : Array α} (h : Sort.SortedIn lt 0 d.size d) : d.toList.Pairwise fun a b => lt b a = false := by
  rw [List.pairwise_iff_getElem]
  intro i j hi hj hij
  have hi' : i < d.size := by simpa using hi
  have hj' : j < d.size := by simpa using hj
  have := h i j (Nat.zero_le _) hij hj'
  rw [getElem!_pos d i hi', getElem!_pos d j hj'] at this
  simpa using this

set_option maxHeartbeats 400000 in
theorem by_calls (a b c d : ByteArray) (w : World) :
    Calls Tryz.prog 222 #[.agg #[.string a, .string b], .agg #[.string c, .string d]] w fun e w' => e = .returned (.int .i64 (scmp a c)) ∧ ∃ os, w' = Sort.grow w os := by
  go_enter Tryz.func222, Tryz.ntmps222
  go_wp2_with (go_at_call 233; refine (compare_calls _ _ _).mono ?_; rintro e w' ⟨rfl, rfl⟩)
  go_ret
  exact ⟨rfl, _, by rw [Sort.alloc_eq_grow, Sort.alloc_eq_grow, Sort.grow_grow]⟩

def cfSpan (x y : Span) : Int := scmp x.f y.f
theorem ltSpan (x y : Span) : ltOf cfSpan x y = slt x.f y.f := scmp_neg _ _
theorem swoSpan : Sort.SWO (ltOf cfSpan) where
  irrefl x := by rw [ltSpan]; exact slt_irrefl _
  trans x y z h1 h2 := by rw [ltSpan] at *; exact slt_trans h1 h2
  ntrans x y z h1 h2 := by
    rw [ltSpan] at *
    rw [not_slt] at *
    exact sle_trans h2 h1

end Go.Proofs.YtanjgeacmpmjhaaGreatDoor

set_option linter.unusedVariables false
set_option linter.unusedSimpArgs false
namespace Go.Proofs.YtanjgeacmpmjhaaGreatDoor
open Go.RowKit Go.Shelf
/-! the closure of meets -/
set_option maxHeartbeats 400000 in
theorem meets1_calls (a b c d : ByteArray) (B : Nat) (w : World) (c0 : w.cell? ⟨B, 0, none⟩ = some (.string a)) (c1 : w.cell? ⟨B, 1, none⟩ = some (.string b)) :
    Calls Tryz.prog 250 #[.agg #[.string c, .string d], .pointer (some ⟨B, 0, none⟩)] w fun e w' => e = .returned (.bool (meet4 a b c d)) ∧ Below w.heap.size w w' := by
  have hlt : B < w.heap.size := World.block_lt_of_cell? w _ c0
  have hne : ¬ w.heap.size = B := by omega
  go_enter Tryz.func250, Tryz.ntmps250
  go_wp2_with (go_at_call 139; refine (meet_calls _ _ _ _ _).mono ?_; rintro e w1 ⟨rfl, hb1⟩)
  go_ret
  exact ⟨rfl, Below.step ((Below.refl _ _).alloc (Nat.le_refl _) _) hb1⟩

set_option maxHeartbeats 400000 in
theorem meets_calls (a b : ByteArray) (v : Value) (xs : List Span) (w : World) (hv : Rd Span.enc 2 w v xs) :
    Calls Tryz.prog 223 #[.agg #[.string a, .string b], v] w fun e w' => e = .returned (.bool (xs.any fun x => meet4 a b x.f x.t)) ∧ Below w.heap.size w w' := by
  obtain ⟨W, hW⟩ : ∃ W, W = w.alloc (.cells #[.string a, .string b] 47) := ⟨_, rfl⟩
  have hB : Below w.heap.size w W := by rw [hW]; exact (Below.refl _ _).alloc (Nat.le_refl _) _
  have c0 : W.cell? ⟨w.heap.size, 0, none⟩ = some (.string a) := by rw [hW]; simp
  have c1 : W.cell? ⟨w.heap.size, 1, none⟩ = some (.string b) := by rw [hW]; simp
  have h := containsFuncSpan_calls (fun x => meet4 a b x.f x.t) 250 #[.pointer (some ⟨w.heap.size, 0, none⟩)] (enters_of Tryz.func250 (by kernel_rfl) rfl) v xs W (hv.below hB)
    (fun W' x _ hb => meets1_calls a b x.f x.t w.heap.size W' (Below.cell_some hb c0) (Below.cell_some hb c1))
  clear c0 c1
  rw [hW] at h
  obtain ⟨A, c, rfl, hlc, hc⟩ := hv.shape
  rw [hW] at hB
  go_enter Tryz.func223, Tryz.ntmps223
  go_wp2_with (go_at_call 249; refine h.mono ?_; rintro e w1 ⟨rfl, hb1⟩)
  go_ret
  exact ⟨rfl, Below.step hB hb1⟩


end Go.Proofs.YtanjgeacmpmjhaaGreatDoor
