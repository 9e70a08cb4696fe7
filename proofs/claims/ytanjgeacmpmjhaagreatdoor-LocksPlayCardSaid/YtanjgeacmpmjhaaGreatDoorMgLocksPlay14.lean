import Derived.Test.YtanjgeacmpmjhaaGreatDoorProg
import Derived.Test.YtanjgeacmpmjhaaGreatDoorKinds
import Derived.Shelf.Abstract
import Derived.Test.YtanjgeacmpmjhaaGreatDoorApp
import Derived.Test.YtanjgeacmpmjhaaGreatDoorBk0
import Derived.Test.YtanjgeacmpmjhaaGreatDoorMgLocksPlay2
set_option linter.unusedVariables false
set_option linter.unusedSimpArgs false
namespace Go.Proofs.YtanjgeacmpmjhaaGreatDoor
open Go.RowKit

theorem eqg_span (o : BinOp) (x y : Operand) (a0 b0 : ByteArray) (a1 b1 : ByteArray) (w : World) : (eqGuard o 47 x y (.agg #[.string a0, .string a1]) (.agg #[.string b0, .string b1])).run Tryz.prog w = .ok () w :=
  run_eqGuard_agg w o _ x y _ _ (by kernel_rfl)
theorem eql_span (a0 b0 : ByteArray) (a1 b1 : ByteArray) (w : World) : (binOp .eql 47 (.agg #[.string a0, .string a1]) (.agg #[.string b0, .string b1])).run Tryz.prog w = .ok (.bool (decide (a0 = b0) && decide (a1 = b1))) w := by
  have u0 := Tryz.underlying9
  have a0_ := Tryz.isAgg9
  have z0 := Tryz.sizeOf9
  have hS : Tryz.prog.underlying 47 = some (.struct (Tryz.prog.fieldsOf 47)) := by kernel_rfl
  have hp : Tryz.prog.stoodInHeld 47 = false := by kernel_rfl
  rw [run_eql_struct, show (10000 : Nat) = 9999 + 1 from rfl, run_equalIn_agg w 9999 47 _ _ hS hp]
  simp only [Program.fieldsOf, Tryz.underlying47]
  go_simp
  by_cases h0 : a0 = b0 <;> by_cases h1 : a1 = b1 <;> simp [h0, h1]
theorem neq_span (a0 b0 : ByteArray) (a1 b1 : ByteArray) (w : World) : (binOp .neq 47 (.agg #[.string a0, .string a1]) (.agg #[.string b0, .string b1])).run Tryz.prog w = .ok (.bool (!(decide (a0 = b0) && decide (a1 = b1)))) w := by
  have u0 := Tryz.underlying9
  have a0_ := Tryz.isAgg9
  have z0 := Tryz.sizeOf9
  have hS : Tryz.prog.underlying 47 = some (.struct (Tryz.prog.fieldsOf 47)) := by kernel_rfl
  have hp : Tryz.prog.stoodInHeld 47 = false := by kernel_rfl
  rw [run_neq_struct, show (10000 : Nat) = 9999 + 1 from rfl, run_equalIn_agg w 9999 47 _ _ hS hp]
  simp only [Program.fieldsOf, Tryz.underlying47]
  go_simp
  by_cases h0 : a0 = b0 <;> by_cases h1 : a1 = b1 <;> simp [h0, h1]

end Go.Proofs.YtanjgeacmpmjhaaGreatDoor

set_option linter.unusedVariables false
set_option linter.unusedSimpArgs false
namespace Go.Proofs.YtanjgeacmpmjhaaGreatDoor
open Go.RowKit Go.Shelf

set_option maxHeartbeats 400000 in
/-- slices.IndexFunc: the first one of which the closure says yes. -/
theorem indexFuncLock_calls (p : Lock → Bool) (g : Nat) (lb : Array Value) (eg : ∀ args w, (callFunc g args).run Tryz.prog w = .ok (.enter g args) w) (v : Value) (xs : List Lock) (w : World) (hv : Rd Lock.enc 3 w v xs)
    (hp : ∀ W x, x ∈ xs → Below w.heap.size w W → Calls Tryz.prog g (#[.agg #[.string x.f, .string x.t, .bool x.a]] ++ lb) W fun e w' => e = .returned (.bool (p x)) ∧ Below W.heap.size W w') :
    Calls Tryz.prog 143 #[v, .func (.func g) #[] lb] w fun e w' => e = .returned (.int .i64 (idx p xs)) ∧ Below w.heap.size w w' := by
  obtain ⟨A, c, rfl, hlc, hc⟩ := hv.shape
  go_enter Tryz.func143, Tryz.ntmps143
  go_wp2
  go_loopw [5, 8] (fun _ i wr => ∃ k : Nat, k ≤ xs.length ∧ i = .int .i64 k ∧ (∀ j, j < k → ∀ x, xs[j]? = some x → p x = false) ∧ Below w.heap.size w wr) (fun _ i _ => xs.length - (intOf i).toNat)
  case atStart => exact ⟨0, Nat.zero_le _, rfl, fun j hj => absurd hj (Nat.not_lt_zero _), Below.refl _ _⟩
  case round =>
    obtain ⟨k, hk, rfl, hno, hb⟩ := hrel
    have HNO := Lib.hid hno
    clear hno
    by_cases hlt : k < xs.length
    · obtain ⟨b, o, rfl, hx1, hx2, hx3⟩ := (hv.below hb).lock (List.getElem?_eq_getElem hlt)
      have HK := Lib.hid (List.getElem?_eq_getElem hlt)
      have HM := List.getElem_mem hlt
      generalize xs[k] = x at *
      have hcall := hp wr x HM hb
      cases hq : p x with
      | true =>
        rw [hq] at hcall
        go_wp2_with (go_at_fn g; refine hcall.mono ?_; rintro e w1 ⟨rfl, hb1⟩; clear hx1 hx2 hx3)
        go_ret
        exact ⟨ret_int (idx_hit p xs k x HK.out hq HNO.out).symm, Below.step hb hb1⟩
      | false =>
        rw [hq] at hcall
        go_wp2_with (go_at_fn g; refine hcall.mono ?_; rintro e w1 ⟨rfl, hb1⟩; clear hx1 hx2 hx3)
        go_roundw
        case rel =>
          refine ⟨k + 1, by omega, by go_num, fun j hj y hy => ?_, Below.step hb hb1⟩
          by_cases e : j = k
          · subst e
            rw [HK.out] at hy
            injection hy with hy
            rw [← hy]; exact hq
          · exact HNO.out j (by omega) y hy
        case measure => simp [intOf]; omega
    · go_wp2
      go_ret
      exact ⟨ret_int (idx_miss p xs (fun j x hx => HNO.out j (by have := (List.getElem?_eq_some_iff.1 hx).1; omega) x hx)).symm, hb⟩


end Go.Proofs.YtanjgeacmpmjhaaGreatDoor

set_option linter.unusedVariables false
set_option linter.unusedSimpArgs false
set_option linter.unusedSectionVars false
namespace Go.Proofs.YtanjgeacmpmjhaaGreatDoor
open Go.RowKit

/-- 's[j:]' of a slice that is read, however it lies. -/
theorem Rd.cut {α : Type} {enc : α → List Value} {k : Nat} {w : World} {A : Option Addr} {c : Nat} {xs : List α} (h : Rd enc k w (.slice A xs.length c) xs) (j : Nat) (hj : j ≤ xs.length) :
    Rd enc k w (.slice (if c = j then A else A.map fun x => x.add (j * k)) (xs.length - j) (c - j)) (xs.drop j) := by
  obtain ⟨A', c', hv, hl, hc, hr⟩ := h
  injection hv with e1 e2 e3
  subst e1 e3
  refine ⟨_, c - j, by rw [List.length_drop], by rw [List.length_drop]; omega, by omega, fun hp => ?_⟩
  rw [List.length_drop] at hp
  obtain ⟨b, o, rfl, hcell⟩ := hr (by omega)
  refine ⟨b, o + j * k, ?_, fun i x hi u v hu => ?_⟩
  · rw [if_neg (by omega), Option.map_some, Addr.add_lit]
  · rw [List.getElem?_drop] at hi
    have := hcell (j + i) x hi u v hu
    rw [Nat.add_mul] at this
    rwa [show o + j * k + i * k + u = o + (j * k + i * k) + u by omega]

section
variable {P : Program} {ops : Array Oper} {rest : List Oper} {o : Oper} {a : Act} {Q : Exit → Act → World → Prop}
/-- 'append(s, l..)': the list's length under another name. -/
theorem append_allN {α : Type} {w0 W : World} (enc : α → List Value) (k : Nat) (E : TypeId) (t : TypeId) (bytes : Nat) (z : Value) (base : Nat) (v : Value) (xs ys : List α) (A : Option Addr) (n c : Nat) (hgd : o.guard = none) (s x : Operand)
    (ho : o.op = .call { callee := .builtin .append, args := #[s, x], argTypes := #[t, t] })
    (ht : P.underlying t = some (.slice E)) (hinfo : (P.info? E).map (fun i => (i.zero, i.size, i.bytes)) = some (some z, k, bytes)) (hz : z.cells.size = k) (hk0 : 0 < k) (hb0 : 0 < bytes)
    (henc : ∀ x, (enc x).length = k) (h1 : ∀ x, ∀ u ∈ enc x, u.oneCell' = true)
    (hs : a.eval s = v) (hx : a.eval x = .slice A n c) (hrd : Rd enc k W (.slice A n c) ys)
    (hown : Own enc k E base W v xs) (HB : Below base w0 W) (hbase : base ≤ W.heap.size) (hl : (xs.length + ys.length) * bytes ≤ 140737488355328)
    (h : ∀ v' w', Own enc k E base w' v' (xs ++ ys) → Below base w0 w' → W.grownBy w' v.ownBlock → wpList P ops Q rest (a.put o.dst v') w') :
    wpList P ops Q (o :: rest) a W := by
  obtain ⟨A', c', hv, _, _, _⟩ := id hrd
  injection hv with e1 e2 e3
  subst e2
  exact append_all enc k E t bytes z base v xs ys A c hgd s x ho ht hinfo hz hk0 hb0 henc h1 hs hx hrd hown HB hbase hl h
end

set_option maxHeartbeats 400000 in
/-- The reference's Check of a key. -/
theorem rcheck_calls (s : ByteArray) (w : World) (hs : s.size ≤ 9223372036854775807) :
    Calls Tryz.prog 83 #[.string s] w fun e w' => e = .returned (.bool (okKey s)) ∧ Below w.heap.size w w' := by
  unfold okKey
  have hat := all_take s
  have hfl := all_false s
  have hfull : ((Str.l s).take s.size) = Str.l s := by rw [List.take_of_length_le (by rw [l_size]; exact Nat.le_refl _)]
  go_enter Tryz.func83, Tryz.ntmps83
  go_wp2
  go_loopw [3] (fun i wr => ∃ k : Nat, k ≤ s.size ∧ i = .int .i64 k ∧ ((Str.l s).take k).all (fun c => okRune c.toNat) = true ∧ Below w.heap.size w wr) (fun i _ => s.size - (intOf i).toNat)
  case atStart => exact ⟨0, Nat.zero_le _, rfl, by simp, Below.refl _ _⟩
  case round =>
    obtain ⟨k, hk, rfl, hal, hb⟩ := hrel
    have HAL := Lib.hid hal
    clear hal
    by_cases hlt : k < s.size
    · have h1 := hat k hlt
      have h2 := hfl k hlt
      clear hat hfl hfull
      rw [HAL.out, Bool.true_and] at h1
      generalize hr : s[k].toNat = r at *
      have H1 := Lib.hid h1
      have H2 := Lib.hid h2
      clear h1 h2
      have HR : okRune r = ((decide (97 ≤ r) && decide (r ≤ 122) || decide (48 ≤ r) && decide (r ≤ 57)) || decide (r = 95)) := rfl
      by_cases c1 : 97 ≤ r <;> by_cases c2 : r ≤ 122 <;> by_cases c3 : 48 ≤ r <;> by_cases c4 : r ≤ 57 <;> by_cases c5 : r = 95
      all_goals first
        | (exfalso; omega)
        | skip
      all_goals
        have g5 : ((r : Int) != 95) = decide (r ≠ 95) := by rw [Bool.eq_iff_iff]; simp; omega
        simp only [c5, ne_eq, not_true, not_false_eq_true, decide_true, decide_false] at g5
        have HR2 := HR
        simp only [c1, c2, c3, c4, c5, decide_true, decide_false, Bool.and_true, Bool.and_false, Bool.or_true, Bool.or_false, Bool.true_or, Bool.false_or] at HR2
        have HRR := Lib.hid HR2
        clear HR HR2
        go_wp2
        first
          | (have hh : okRune r = false := HRR.out
             go_ret
             exact ⟨ret_bool (by rw [H2.out hh]; simp), hb⟩)
          | (go_roundw
             case rel => exact ⟨k + 1, by omega, by go_num, by rw [H1.out]; first | exact HRR.out | (rw [c5]; exact HRR.out), hb⟩
             case measure => simp [intOf]; omega)
    · have hke : k = s.size := by omega
      subst hke
      rw [hfull] at HAL
      have HA := Lib.hid HAL.out
      clear hat hfl hfull HAL
      rcases Nat.eq_zero_or_pos s.size with h0 | h0
      · have h0' : ¬ 1 ≤ s.size := by omega
        go_wp2
        go_ret
        exact ⟨ret_bool (by simp [h0]), hb⟩
      · by_cases h1 : s.size ≤ 16
        all_goals
          have h0' : s.size ≠ 0 := by omega
          go_wp2
          go_ret
          exact ⟨ret_bool (by rw [HA.out]; simp [h0', h1]; try omega), hb⟩

end Go.Proofs.YtanjgeacmpmjhaaGreatDoor
