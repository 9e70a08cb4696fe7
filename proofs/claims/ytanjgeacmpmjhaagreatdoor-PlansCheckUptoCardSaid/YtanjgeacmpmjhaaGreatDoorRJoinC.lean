import Derived.Test.YtanjgeacmpmjhaaGreatDoorMgPlansCheckUpto19
set_option linter.unusedVariables false
set_option linter.unusedSimpArgs false
set_option linter.unusedSectionVars false
namespace Go.Proofs.YtanjgeacmpmjhaaGreatDoor
open Go.RowKit

def lenV : Value → Nat
  | .slice _ n _ => n
  | _ => 0
def agM (ov agv : Value) : Nat := match agv with | .bool true => lenV ov + 1 | _ => 0

theorem Turn.belowT {F : Nat → Prop} {a b c : World} (h : Turn F a b) (k : Below a.heap.size b c) : Turn F a c :=
  ⟨k.os.trans h.os, k.tape.trans h.tape, k.output.trans h.output, Nat.le_trans h.size k.size, fun i hi hF => (k.block i hi).trans (h.block i hi hF)⟩

theorem Turn.below' {F : Nat → Prop} {w w' : World} {B : Nat} (h : Turn F w w') (hF : ∀ i, F i → B ≤ i) (hB : B ≤ w.heap.size) : Below B w w' := h.below hF hB

section
variable {P : Program} {ops : Array Oper} {o : Oper} {a : Act} {w : World} {K : Act → World → Prop} {Q : Exit → Act → World → Prop}
theorem step_append_post {E : Prop} {Post : Value → World → Prop} (hgd : o.guard = none) (s x : Operand) (sT : TypeId) (ho : o.op = .call { callee := .builtin .append, args := #[s, x], argTypes := #[sT, sT] }) {sv xv : Value}
    (hs : a.eval s = sv) (hx : a.eval x = xv) (hrun : ∃ v' w2, (Builtin.append_ #[sT, sT] o.type #[sv, xv]).run P w = .ok v' w2 ∧ Post v' w2) (h : ∀ v' w2, Post v' w2 → K (a.put o.dst v') w2) :
    if Region.wanted o (yielded ops a.tmps) = true then Oper.wp P o a w K Q else E := by
  obtain ⟨v', w2, hr, hp⟩ := hrun
  exact step_append_runB hgd s x sT ho hs hx hr (h v' w2 hp)
end

/-- 'append(nil, l..)': all of a slice that is read, in memory of its own. -/
theorem run_copy_all {P : Program} {α : Type} {W : World} (enc : α → List Value) (k : Nat) (E : TypeId) (t ty : TypeId) (bytes : Nat) (z : Value) (ys : List α) (A : Option Addr) (n c : Nat)
    (ht : P.underlying t = some (.slice E)) (hinfo : (P.info? E).map (fun i => (i.zero, i.size, i.bytes)) = some (some z, k, bytes)) (hz : z.cells.size = k) (hk0 : 0 < k) (hb0 : 0 < bytes)
    (henc : ∀ x, (enc x).length = k) (h1 : ∀ x, ∀ u ∈ enc x, u.oneCell' = true) (hn : n = ys.length) (hrd : Rd enc k W (.slice A n c) ys) (hl : ys.length * bytes ≤ 140737488355328) :
    ∃ v' w', (Builtin.append_ #[t, t] ty #[.slice none 0 0, .slice A n c]).run P W = .ok v' w' ∧ (∃ A' c', v' = .slice A' n c' ∧ Own enc k E W.heap.size w' (.slice A' n c') ys ∧ Below W.heap.size W w') := by
  subst hn
  obtain ⟨v', w', hr, ho, hb, _⟩ := run_append_all (P := P) (w0 := W) (W := W) enc k E t ty bytes z W.heap.size (.slice none 0 0) [] ys A c ht hinfo hz hk0 hb0 henc h1 hrd (Own.nil _ _ _ _ _) (Below.refl _ _) (Nat.le_refl _) (by simpa using hl)
  rw [List.nil_append] at ho
  obtain ⟨A', c', rfl, _, _⟩ := ho.slice
  exact ⟨_, w', hr, A', c', rfl, ho, hb⟩

/-- 'append(s, x)' onto a row of one's own, x boxed at H. -/
theorem run_append_box {P : Program} {α : Type} {W W0 : World} (enc : α → List Value) (k : Nat) (E : TypeId) (t ty : TypeId) (bytes : Nat) (z : Value) (base : Nat) (A : Option Addr) (n c : Nat) (xs : List α) (y : α) (H : Nat)
    (ht : P.underlying t = some (.slice E)) (hinfo : (P.info? E).map (fun i => (i.zero, i.size, i.bytes)) = some (some z, k, bytes)) (hz : z.cells.size = k) (hk0 : 0 < k) (hb0 : 0 < bytes)
    (henc : ∀ x, (enc x).length = k) (h1 : ∀ u ∈ enc y, u.oneCell' = true) (hn : n = xs.length) (hbox : W.heap[H]? = some (.cells (enc y).toArray E (0, 0)))
    (hown : Own enc k E base W (.slice A n c) xs) (HB : Below base W0 W) (hbase : base ≤ W.heap.size) (hl : (xs.length + 1) * bytes ≤ 140737488355328) :
    ∃ v' w', (Builtin.append_ #[t, t] ty #[.slice A n c, .slice (some ⟨H, 0, none⟩) 1 1]).run P W = .ok v' w' ∧ (∃ A' c', v' = .slice A' (n + 1) c' ∧ Own enc k E base w' (.slice A' (n + 1) c') (xs ++ [y]) ∧ Below base W0 w') := by
  subst hn
  obtain ⟨v', w', hr, ho, hway⟩ := run_append_way (P := P) enc k E t ty bytes z base _ xs y ht hinfo hz hk0 hb0 henc h1 ⟨H, 0, none⟩ (fun j u hu => by rw [Addr.add_lit, heap_cell hbox, Nat.zero_add, List.getElem?_toArray]; exact hu) hown hbase hl
  have ho2 := ho
  obtain ⟨A', c', e, _, _⟩ := ho2.slice
  rw [List.length_append, List.length_singleton] at e
  subst e
  refine ⟨_, w', hr, A', c', rfl, ho, ?_⟩
  rcases hway with ⟨g, c2, e1, e2, tn⟩ | ⟨tb, _⟩
  · exact HB.trans (tn.below (fun i e => by rw [e]; exact hown.base_le g (by rw [e1]; rfl)) hbase)
  · exact HB.trans (tb.mono hbase)

theorem rd_nilS (w : World) (A : Option Addr) (c : Nat) (hc : c ≤ 9223372036854775807) : Rd Span.enc 2 w (.slice A ([] : List Span).length c) [] := ⟨A, c, rfl, Nat.zero_le _, hc, fun h => absurd h (Nat.lt_irrefl _)⟩

theorem pass_length {x0 x : Span} {out rest : List Span} {k : Nat} {again : Bool} (h : Pass x0 out k x rest again) : rest.length ≤ out.length := by
  have := h.1.length_le
  rw [List.length_take] at this
  omega

set_option maxHeartbeats 2000000 in
set_option maxRecDepth 100000 in
theorem rJoin_calls (v : Value) (xs : List Span) (w : World) (hv : Rd Span.enc 2 w v xs) (hl : xs.length ≤ 1000) (hs : ∀ x ∈ xs, okS2 x) :
    Calls Tryz.prog 163 #[v] w fun e w' => ∃ v', e = .returned v' ∧ Own Span.enc 2 47 w.heap.size w' v' (joinF xs) ∧ Below w.heap.size w w' := by
  obtain ⟨A, c, rfl, hlc, hc⟩ := hv.shape
  go_enter Tryz.func163, Tryz.ntmps163
  go_wp2
  go_loopw [3, 4] (fun ov iv wr => ∃ n : Nat, n ≤ xs.length ∧ iv = .int .i64 n ∧ (∃ out, Own Span.enc 2 47 w.heap.size wr ov out ∧ Joined xs n out ∧ (∀ o ∈ out, okS2 o) ∧ out.length ≤ n) ∧ Below w.heap.size w wr) (fun _ iv _ => xs.length - (intOf iv).toNat)
  case atStart => exact ⟨0, Nat.zero_le _, rfl, ⟨[], Own.nil _ _ _ _ _, Joined.start _, fun o h => (by cases h), Nat.le_refl _⟩, Below.refl _ _⟩
  case round =>
    obtain ⟨n, hn, rfl, ⟨out0, hown, hj, hok, hol⟩, hb⟩ := hrel
    obtain ⟨A1, c1, rfl, hlc1, hc1⟩ := hown.slice
    obtain ⟨wo, rfl⟩ : ∃ wo : World, wo = wr := ⟨_, rfl⟩
    by_cases hlt : n < xs.length
    · have hxn := List.getElem?_eq_getElem hlt
      have hx0 := hs _ (List.getElem_mem hlt)
      obtain ⟨b, o, rfl, y1, y2⟩ := (hv.below hb).span hxn
      generalize xs[n] = x0 at *
      have hb1 : Below wo.heap.size wo (wo.alloc (.cells #[.string x0.f, .string x0.t] 47)) := (Below.refl _ wo).alloc (Nat.le_refl _) _
      have hX0 := alloc_new wo (.cells #[.string x0.f, .string x0.t] 47)
      have hXs : wo.heap.size < (wo.alloc (.cells #[.string x0.f, .string x0.t] 47)).heap.size := by simp
      have hown1 := hown.below hb1
      have hhas := rhas_calls x0.f x0.t (wo.alloc (.cells #[.string x0.f, .string x0.t] 47)) hx0.1 hx0.2
      have HJ := Lib.hid (And.intro hj (And.intro hok (And.intro hol hxn)))
      clear hj hok hol hxn
      cases hsl : sle x0.f x0.t
      · rw [hsl] at hhas
        go_wp2_with (go_at_call 145; refine hhas.mono ?_; rintro e w2 ⟨rfl, hb2⟩)
        go_roundw
        case rel =>
          obtain ⟨hj, hok, hol, hxn⟩ := HJ.out
          exact ⟨n + 1, by omega, by go_num, ⟨out0, hown1.below hb2, hj.skip hxn hsl, hok, by omega⟩, Below.step hb (Below.step hb1 hb2)⟩
        case measure => simp [intOf]; omega
      · rw [hsl] at hhas
        go_wp2_with (go_at_call 145; refine hhas.mono ?_; rintro e w2 ⟨rfl, hb2⟩)
        have hX2 := (hb2.block _ hXs).trans hX0
        have hown2 := hown1.below hb2
        have hX2s : wo.heap.size < w2.heap.size := Nat.lt_of_lt_of_le hXs hb2.size
        have hb12 := Below.step hb1 hb2
        have hA1 : ∀ g, (Value.slice A1 out0.length c1).ownBlock = some g → g ≠ wo.heap.size := fun g hg e => by have := hown.lt g hg; omega
        have hbw : w.heap.size ≤ wo.heap.size := hb.size
        clear hX0 hXs hown1 hhas hb1 hb2 hown
        have HSL := Lib.hid hsl
        clear hsl
        go_loopw [3, 6] (fun ov agv wr => ∃ (x : Span) (out : List Span) (ag : Bool), agv = .bool ag ∧ Own Span.enc 2 47 w.heap.size wr ov out ∧ (∀ g, ov.ownBlock = some g → g ≠ wo.heap.size) ∧ wr.heap[wo.heap.size]? = some (.cells #[.string x.f, .string x.t] 47 (0, 0)) ∧
            Mid x0 out0 x out ∧ okS2 x ∧ (∀ o ∈ out, okS2 o) ∧ out.length ≤ out0.length ∧ (ag = false → ∀ o ∈ out, meet4 x.f x.t o.f o.t = false) ∧ Below wo.heap.size wo wr) (fun ov agv _ => agM ov agv)
        case atStart =>
          obtain ⟨hj, hok, hol, hxn⟩ := HJ.out
          exact ⟨x0, out0, true, rfl, hown2, hA1, hX2, Mid.start hj.1 HSL.out, hx0, hok, Nat.le_refl _, fun h => (by cases h), hb12⟩
        case round =>
          obtain ⟨x, out, ag, rfl, hownr, hAr, hXr, hmid, hxok, hook, holn, hno, hbr⟩ := hrel
          obtain ⟨wi, rfl⟩ : ∃ wi : World, wi = wr := ⟨_, rfl⟩
          obtain ⟨A2, c2, rfl, hlc2, hc2⟩ := hownr.slice
          have hXl := (Array.getElem?_eq_some_iff.1 hXr).1
          cases ag
          · have HM := Lib.hid (And.intro hmid (And.intro hook (And.intro holn (hno rfl))))
            clear hmid holn hno
            have hbwi : Below w.heap.size w wi := hb.trans (hbr.mono hb.size)
            go_wp2
            go_loopw [9] (fun kv wr => ∃ k : Nat, k ≤ out.length ∧ kv = .int .i64 k ∧ (∀ o ∈ out.take k, slt o.f x.f = true) ∧ Below wi.heap.size wi wr) (fun kv _ => out.length - (intOf kv).toNat)
            case atStart => exact ⟨0, Nat.zero_le _, rfl, fun o h => by simp at h, Below.refl _ _⟩
            case round =>
              obtain ⟨k, hk, rfl, hlo, hbk⟩ := hrel
              have HLO := Lib.hid hlo
              clear hlo
              have hXq := (hbk.block _ hXl).trans hXr
              have x1 := heap_cell hXq 0
              have x2 := heap_cell hXq 1
              simp only [List.getElem?_toArray, List.getElem?_cons_zero, List.getElem?_cons_succ] at x1 x2
              have p3 := fun p : Later wr => Later.cell p x1
              have p4 := fun p : Later wr => Later.cell p x2
              have hz := hownr.below hbk
              by_cases hlk : k < out.length
              · have hxk := List.getElem?_eq_getElem hlk
                have hoo := hook _ (List.getElem_mem hlk)
                obtain ⟨b2, o2, rfl, z1, z2⟩ := (hz.rd span_len).span hxk
                generalize out[k] = q at *
                have hls := fun W => less_calls q.f x.f W hoo.1 hxok.1
                have p1 := fun p : Later wr => Later.cell p z1
                have p2 := fun p : Later wr => Later.cell p z2
                have HK := Lib.hid hxk
                clear x1 x2 z1 z2 hxk
                cases hsl : slt q.f x.f
                all_goals
                  rw [hsl] at hls
                  go_wp2
                  refine wp_region_later (by kernel_rfl) (by kernel_rfl) ?_
                  repeat (go_big_quiet_step ((go_at_call 181; with_reducible exact Calls.later (hls _))))
                  refine wpQuiet_nil ?_
                  rintro _ ⟨p, rfl⟩
                  clear p1 p2 p3 p4 hls
                rotate_left
                · go_wp2
                  go_roundw
                  case rel =>
                    refine ⟨k + 1, by omega, by go_num, fun o ho => ?_, Below.step hbk p.ok⟩
                    rw [List.take_succ_eq_append_getElem hlk] at ho
                    rcases List.mem_append.1 ho with ho | ho
                    · exact HLO.out o ho
                    · have := (List.getElem?_eq_some_iff.1 HK.out).2
                      rw [List.mem_singleton.1 ho, this]; exact hsl
                  case measure => simp [intOf]; omega
                · have hbp := Below.step hbk p.ok
                  have hXp := (p.ok.block _ (Array.getElem?_eq_some_iff.1 hXq).1).trans hXq
                  have ho2 : o2 = 0 := by
                    obtain ⟨_, _, _, e, _⟩ := hz.some_block (by omega)
                    injection e with e
                    injection e with e
                    injection e
                  subst ho2
                  have hzp := hz.below p.ok
                  have hhi : ∀ o, out[k]? = some o → slt o.f x.f = false := fun o ho => by rw [HK.out] at ho; injection ho with ho; rw [← ho]; exact hsl
                  generalize p.val = Wp at *
                  have hkk : k ≤ out.length := hk
                  clear HK hoo
                  have x1 := heap_cell hXp 0
                  have x2 := heap_cell hXp 1
                  simp only [List.getElem?_toArray, List.getElem?_cons_zero, List.getElem?_cons_succ] at x1 x2
                  obtain ⟨xf, xt⟩ := x
                  simp only at x1 x2 hXp
                  have hrdp := hzp.rd span_len
                  have hrd4 := hrdp.drop k hkk (k * 2) (by omega)
                  have hrd3 := hrdp.take k hkk
                  have hol3 : out.length ≤ 1000 := by have := HM.out.2.2.1; have := HJ.out.2.2.1; omega
                  have htl : (out.take k).length = k := by rw [List.length_take]; omega
                  have hdl : (out.drop k).length = out.length - k := List.length_drop
                  have hXW := (Array.getElem?_eq_some_iff.1 hXp).1
                  have hkc : k ≤ c2 := by omega
                  have R1 := fun (W' : World) (h : Below Wp.heap.size Wp W') => run_copy_all (P := Tryz.prog) (W := W') Span.enc 2 47 98 98 32 _ (out.take k) (some ⟨b2, 0, none⟩) k c2 Tryz.underlying98 info_span rfl (by decide) (by decide) span_len span_one htl.symm (hrd3.below h) (by omega)
                  have R2 := fun (W' : World) (A9 : Option Addr) (c9 H : Nat) (hbase : Wp.heap.size ≤ W'.heap.size) (ho : Own Span.enc 2 47 Wp.heap.size W' (.slice A9 k c9) (out.take k)) (h : Below Wp.heap.size Wp W') (hbox : W'.heap[H]? = some (.cells (Span.enc ⟨xf, xt⟩).toArray 47 (0, 0))) =>
                    run_append_box (P := Tryz.prog) (W := W') (W0 := Wp) Span.enc 2 47 98 98 32 _ Wp.heap.size A9 k c9 (out.take k) ⟨xf, xt⟩ H Tryz.underlying98 info_span rfl (by decide) (by decide) span_len (span_one _) htl.symm hbox ho h hbase (by omega)
                  have HRD := Lib.hid (And.intro hrd4 (And.intro hzp (And.intro hxok hXp)))
                  have HTD := Lib.hid (And.intro htl hdl)
                  have HLOH := Lib.hid (And.intro hhi hkk)
                  clear hrd4 hzp hXp hxok hrdp hrd3 htl hdl hhi
                  go_wp2
                  go_region_law (first
                    | (refine step_append_post rfl (.tmp 67) (.tmp 70) 98 rfl rfl rfl (R1 _ (by first | exact (Below.refl _ Wp).drew | exact ((Below.refl _ Wp).drew.alloc (Nat.le_refl _) _) | exact ((Below.refl _ Wp).alloc (Nat.le_refl _) _).drew)) ?_
                       rintro v9 w9 ⟨A9, c9, rfl, ho9, hb9⟩
                       have hbw9 : Below Wp.heap.size Wp w9 := by first | exact Below.step (Below.refl _ Wp).drew hb9 | exact Below.step ((Below.refl _ Wp).drew.alloc (Nat.le_refl _) _) hb9 | exact Below.step ((Below.refl _ Wp).alloc (Nat.le_refl _) _).drew hb9
                       have ho9l : Own Span.enc 2 47 Wp.heap.size w9 (.slice A9 k c9) (out.take k) := ownsRow_lower ho9 (by first | exact Nat.le_refl _ | simp)
                       have e1 := Below.cell_some hbw9 x1
                       have e2 := Below.cell_some hbw9 x2)
                    | (refine step_append_post rfl (.tmp 71) (.tmp 73) 98 rfl rfl rfl (R2 _ _ _ _ (by first | exact hbw9.size | (have := hbw9.size; simp; omega)) (by first | exact ho9l | exact ho9l.below ((Below.refl _ w9).alloc (Nat.le_refl _) _)) (by first | exact hbw9 | exact hbw9.alloc hbw9.size _) (by first | exact alloc_newH rfl _ | exact (hb9.block Wp.heap.size (by simp)).trans (alloc_newH rfl _))) ?_
                       rintro v10 w10 ⟨A10, c10, rfl, ho10, hb10⟩))
                  all_goals
                    have hap11 := HRD.out.1.below hb10
                    go_wp2_with (at_builtin; refine append_all (w0 := Wp) Span.enc 2 47 98 32 _ Wp.heap.size (.slice A10 (k + 1) c10) (out.take k ++ [⟨xf, xt⟩]) (out.drop k) (some ⟨b2, k * 2, none⟩) (c2 - k) rfl _ _ rfl Tryz.underlying98 info_span rfl (by decide) (by decide) span_len span_one rfl (by rw [HTD.out.2]; rfl) (by rw [HTD.out.2]; exact hap11) ho10 hb10 hb10.size (by have := HTD.out.1; have := HTD.out.2; simp only [List.length_append, List.length_singleton]; omega) ?_; intro v11 w11 hown11 hb11 hg11)
                    go_roundw
                    case rel =>
                      obtain ⟨hj, hok0, hol0, hxn⟩ := HJ.out
                      have hfin := hj.ins hxn HM.out.1 HM.out.2.2.2 HLO.out HLOH.out.1
                      refine ⟨n + 1, by omega, by go_num, ⟨_, ownsRow_lower hown11 (by have := hbwi.size; have := hbp.size; omega), hfin, fun o ho => ?_, ?_⟩, (hbwi.trans (hbp.mono hbwi.size)).trans (hb11.mono (by have := hbwi.size; have := hbp.size; omega))⟩
                      · rcases List.mem_append.1 ho with ho | ho
                        · rcases List.mem_append.1 ho with ho | ho
                          · exact hook o (List.mem_of_mem_take ho)
                          · rw [List.mem_singleton.1 ho]; exact HRD.out.2.2.1
                        · exact hook o (List.mem_of_mem_drop ho)
                      · have := HTD.out.1; have := HTD.out.2; have := HM.out.2.2.1
                        simp only [List.length_append, List.length_singleton]; omega
                    case measure => simp [intOf]; omega
              · have hkl : k = out.length := by omega
                have HLO2 : ∀ o ∈ out.take out.length, slt o.f x.f = true := by rw [← hkl]; exact HLO.out
                replace HLO := Lib.hid HLO2
                clear HLO2
                rcases hownr.2 with ⟨hvn, h0⟩ | ⟨b2, cap2, cur2, hvs, _⟩
                · obtain rfl : out = [] := List.length_eq_zero_iff.1 h0
                  injection hvn with e1 e2 e3
                  subst e1 e3
                  obtain rfl : k = 0 := hkl
                  clear e2 h0
                  have x1 := heap_cell hXq 0
                  have x2 := heap_cell hXq 1
                  simp only [List.getElem?_toArray, List.getElem?_cons_zero, List.getElem?_cons_succ] at x1 x2
                  go_wp2
                  refine wp_region_later (by kernel_rfl) (by kernel_rfl) ?_
                  repeat (go_big_quiet_step ((fail)))
                  refine wpQuiet_nil ?_
                  rintro _ ⟨p, rfl⟩
                  clear p3 p4 x1 x2
                  have hXp := (p.ok.block _ (Array.getElem?_eq_some_iff.1 hXq).1).trans hXq
                  have hzp := hz.below p.ok
                  have hbp := Below.step hbk p.ok
                  generalize p.val = Wp at *
                  clear hz hXq
                  have x1 := heap_cell hXp 0
                  have x2 := heap_cell hXp 1
                  simp only [List.getElem?_toArray, List.getElem?_cons_zero, List.getElem?_cons_succ] at x1 x2
                  obtain ⟨xf, xt⟩ := x
                  simp only at x1 x2 hXp
                  have hrdp := hzp.rd span_len
                  have hol3 : ([] : List Span).length ≤ 1000 := by have := HM.out.2.2.1; have := HJ.out.2.2.1; omega
                  have hXW := (Array.getElem?_eq_some_iff.1 hXp).1
                  have R1 := fun (W' : World) (h : Below Wp.heap.size Wp W') => run_copy_all (P := Tryz.prog) (W := W') Span.enc 2 47 98 98 32 _ ([] : List Span) (none) 0 0 Tryz.underlying98 info_span rfl (by decide) (by decide) span_len span_one rfl (hrdp.below h) (by omega)
                  have R2 := fun (W' : World) (A9 : Option Addr) (c9 H : Nat) (hbase : Wp.heap.size ≤ W'.heap.size) (ho : Own Span.enc 2 47 Wp.heap.size W' (.slice A9 0 c9) ([] : List Span)) (h : Below Wp.heap.size Wp W') (hbox : W'.heap[H]? = some (.cells (Span.enc ⟨xf, xt⟩).toArray 47 (0, 0))) =>
                    run_append_box (P := Tryz.prog) (W := W') (W0 := Wp) Span.enc 2 47 98 98 32 _ Wp.heap.size A9 0 c9 ([] : List Span) ⟨xf, xt⟩ H Tryz.underlying98 info_span rfl (by decide) (by decide) span_len (span_one _) rfl hbox ho h hbase (by omega)
                  have HRD := Lib.hid (And.intro hzp (And.intro hxok hXp))
                  clear hzp hXp hxok hrdp
                  go_wp2
                  go_region_law (first
                    | (refine step_append_post rfl (.tmp 67) (.tmp 70) 98 rfl rfl rfl (R1 _ (by first | exact (Below.refl _ Wp).drew | exact ((Below.refl _ Wp).drew.alloc (Nat.le_refl _) _) | exact ((Below.refl _ Wp).alloc (Nat.le_refl _) _).drew)) ?_
                       rintro v9 w9 ⟨A9, c9, rfl, ho9, hb9⟩
                       have hbw9 : Below Wp.heap.size Wp w9 := by first | exact Below.step (Below.refl _ Wp).drew hb9 | exact Below.step ((Below.refl _ Wp).drew.alloc (Nat.le_refl _) _) hb9 | exact Below.step ((Below.refl _ Wp).alloc (Nat.le_refl _) _).drew hb9
                       have ho9l : Own Span.enc 2 47 Wp.heap.size w9 (.slice A9 0 c9) ([] : List Span) := ownsRow_lower ho9 (by first | exact Nat.le_refl _ | simp)
                       have e1 := Below.cell_some hbw9 x1
                       have e2 := Below.cell_some hbw9 x2)
                    | (refine step_append_post rfl (.tmp 71) (.tmp 73) 98 rfl rfl rfl (R2 _ _ _ _ (by first | exact hbw9.size | (have := hbw9.size; simp; omega)) (by first | exact ho9l | exact ho9l.below ((Below.refl _ w9).alloc (Nat.le_refl _) _)) (by first | exact hbw9 | exact hbw9.alloc hbw9.size _) (by first | exact alloc_newH rfl _ | exact (hb9.block Wp.heap.size (by simp)).trans (alloc_newH rfl _))) ?_
                       rintro v10 w10 ⟨A10, c10, rfl, ho10, hb10⟩))
                  all_goals
                    go_wp2_with (at_builtin; refine append_all (w0 := Wp) Span.enc 2 47 98 32 _ Wp.heap.size (.slice A10 (0 + 1) c10) (([] : List Span) ++ [⟨xf, xt⟩]) ([] : List Span) none 0 rfl _ _ rfl Tryz.underlying98 info_span rfl (by decide) (by decide) span_len span_one rfl rfl (rd_nilS _ _ _ (by omega)) ho10 hb10 hb10.size (by simp only [List.length_append, List.length_singleton, List.length_nil]; omega) ?_; intro v11 w11 hown11 hb11 hg11; rw [List.append_nil] at hown11)
                    go_roundw
                    case rel =>
                      obtain ⟨hj, hok0, hol0, hxn⟩ := HJ.out
                      have hfin := hj.ins (k := ([] : List Span).length) hxn HM.out.1 HM.out.2.2.2 (fun o ho => by simp at ho) (fun o ho => by rw [List.getElem?_eq_none (Nat.le_refl _)] at ho; cases ho)
                      simp only [List.length_nil, List.take_nil, List.drop_nil, List.append_nil] at hfin
                      refine ⟨n + 1, by omega, by go_num, ⟨_, ownsRow_lower hown11 (by have := hbwi.size; have := hbp.size; omega), hfin, fun o ho => ?_, ?_⟩, (hbwi.trans (hbp.mono hbwi.size)).trans (hb11.mono (by have := hbwi.size; have := hbp.size; omega))⟩
                      · rcases List.mem_append.1 ho with ho | ho
                        · exact hook o ho
                        · rw [List.mem_singleton.1 ho]; exact HRD.out.2.1
                      · have := HM.out.2.2.1
                        simp only [List.length_append, List.length_singleton]; omega
                    case measure => simp [intOf]; omega

                · injection hvs with e1 e2 e3
                  subst e1 e3
                  subst hkl
                  clear e2
                  have x1 := heap_cell hXq 0
                  have x2 := heap_cell hXq 1
                  simp only [List.getElem?_toArray, List.getElem?_cons_zero, List.getElem?_cons_succ] at x1 x2
                  go_wp2
                  refine wp_region_later (by kernel_rfl) (by kernel_rfl) ?_
                  repeat (go_big_quiet_step ((fail)))
                  refine wpQuiet_nil ?_
                  rintro _ ⟨p, rfl⟩
                  clear p3 p4 x1 x2
                  have hXp := (p.ok.block _ (Array.getElem?_eq_some_iff.1 hXq).1).trans hXq
                  have hzp := hz.below p.ok
                  have hbp := Below.step hbk p.ok
                  generalize p.val = Wp at *
                  clear hz hXq
                  have x1 := heap_cell hXp 0
                  have x2 := heap_cell hXp 1
                  simp only [List.getElem?_toArray, List.getElem?_cons_zero, List.getElem?_cons_succ] at x1 x2
                  obtain ⟨xf, xt⟩ := x
                  simp only at x1 x2 hXp
                  have hrdp := hzp.rd span_len
                  obtain ⟨A4, hA4⟩ : ∃ A4 : Addr, (if c2 = out.length then some (⟨b2, 0, none⟩ : Addr) else some ⟨b2, out.length * 2, none⟩) = some A4 := by split <;> exact ⟨_, rfl⟩
                  have hol3 : out.length ≤ 1000 := by have := HM.out.2.2.1; have := HJ.out.2.2.1; omega
                  have hXW := (Array.getElem?_eq_some_iff.1 hXp).1
                  have R1 := fun (W' : World) (h : Below Wp.heap.size Wp W') => run_copy_all (P := Tryz.prog) (W := W') Span.enc 2 47 98 98 32 _ out (some ⟨b2, 0, none⟩) out.length c2 Tryz.underlying98 info_span rfl (by decide) (by decide) span_len span_one rfl (hrdp.below h) (by omega)
                  have R2 := fun (W' : World) (A9 : Option Addr) (c9 H : Nat) (hbase : Wp.heap.size ≤ W'.heap.size) (ho : Own Span.enc 2 47 Wp.heap.size W' (.slice A9 out.length c9) out) (h : Below Wp.heap.size Wp W') (hbox : W'.heap[H]? = some (.cells (Span.enc ⟨xf, xt⟩).toArray 47 (0, 0))) =>
                    run_append_box (P := Tryz.prog) (W := W') (W0 := Wp) Span.enc 2 47 98 98 32 _ Wp.heap.size A9 out.length c9 out ⟨xf, xt⟩ H Tryz.underlying98 info_span rfl (by decide) (by decide) span_len (span_one _) rfl hbox ho h hbase (by omega)
                  have HRD := Lib.hid (And.intro hzp (And.intro hxok hXp))
                  clear hzp hXp hxok hrdp
                  go_wp2
                  go_region_law (first
                    | (refine step_append_post rfl (.tmp 67) (.tmp 70) 98 rfl rfl rfl (R1 _ (by first | exact (Below.refl _ Wp).drew | exact ((Below.refl _ Wp).drew.alloc (Nat.le_refl _) _) | exact ((Below.refl _ Wp).alloc (Nat.le_refl _) _).drew)) ?_
                       rintro v9 w9 ⟨A9, c9, rfl, ho9, hb9⟩
                       have hbw9 : Below Wp.heap.size Wp w9 := by first | exact Below.step (Below.refl _ Wp).drew hb9 | exact Below.step ((Below.refl _ Wp).drew.alloc (Nat.le_refl _) _) hb9 | exact Below.step ((Below.refl _ Wp).alloc (Nat.le_refl _) _).drew hb9
                       have ho9l : Own Span.enc 2 47 Wp.heap.size w9 (.slice A9 out.length c9) out := ownsRow_lower ho9 (by first | exact Nat.le_refl _ | simp)
                       have e1 := Below.cell_some hbw9 x1
                       have e2 := Below.cell_some hbw9 x2)
                    | (refine step_append_post rfl (.tmp 71) (.tmp 73) 98 rfl rfl rfl (R2 _ _ _ _ (by first | exact hbw9.size | (have := hbw9.size; simp; omega)) (by first | exact ho9l | exact ho9l.below ((Below.refl _ w9).alloc (Nat.le_refl _) _)) (by first | exact hbw9 | exact hbw9.alloc hbw9.size _) (by first | exact alloc_newH rfl _ | exact (hb9.block Wp.heap.size (by simp)).trans (alloc_newH rfl _))) ?_
                       rintro v10 w10 ⟨A10, c10, rfl, ho10, hb10⟩))
                  all_goals
                    go_wp2_with (at_builtin; refine append_all (w0 := Wp) Span.enc 2 47 98 32 _ Wp.heap.size (.slice A10 (out.length + 1) c10) (out ++ [⟨xf, xt⟩]) ([] : List Span) (some A4) (c2 - out.length) rfl _ _ rfl Tryz.underlying98 info_span rfl (by decide) (by decide) span_len span_one rfl rfl (rd_nilS _ _ _ (by omega)) ho10 hb10 hb10.size (by simp only [List.length_append, List.length_singleton, List.length_nil]; omega) ?_; intro v11 w11 hown11 hb11 hg11; rw [List.append_nil] at hown11)
                    go_roundw
                    case rel =>
                      obtain ⟨hj, hok0, hol0, hxn⟩ := HJ.out
                      have hfin := hj.ins (k := out.length) hxn HM.out.1 HM.out.2.2.2 HLO.out (fun o ho => by rw [List.getElem?_eq_none (Nat.le_refl _)] at ho; cases ho)
                      rw [List.take_length, List.drop_length, List.append_nil] at hfin
                      refine ⟨n + 1, by omega, by go_num, ⟨_, ownsRow_lower hown11 (by have := hbwi.size; have := hbp.size; omega), hfin, fun o ho => ?_, ?_⟩, (hbwi.trans (hbp.mono hbwi.size)).trans (hb11.mono (by have := hbwi.size; have := hbp.size; omega))⟩
                      · rcases List.mem_append.1 ho with ho | ho
                        · exact hook o ho
                        · rw [List.mem_singleton.1 ho]; exact HRD.out.2.1
                      · have := HM.out.2.2.1
                        simp only [List.length_append, List.length_singleton]; omega
                    case measure => simp [intOf]; omega
          · have HM := Lib.hid (And.intro hmid (And.intro hook (And.intro holn hno)))
            clear hmid holn hno
            go_wp2
            go_loopw [6, 7, 8] (fun agv rv kv wr => ∃ (k : Nat) (y : Span) (rest : List Span) (ag : Bool), k ≤ out.length ∧ agv = .bool ag ∧ kv = .int .i64 k ∧ Own Span.enc 2 47 wi.heap.size wr rv rest ∧ wr.heap[wo.heap.size]? = some (.cells #[.string y.f, .string y.t] 47 (0, 0)) ∧
                Pass x out k y rest ag ∧ okS2 y ∧ rest.length ≤ k ∧ Turn (fun g => g = wo.heap.size) wi wr) (fun _ _ kv _ => out.length - (intOf kv).toNat)
            case atStart => exact ⟨0, x, [], false, Nat.zero_le _, rfl, rfl, Own.nil _ _ _ _ _, hXr, Pass.start HM.out.1.2.1 _, hxok, Nat.le_refl _, Turn.refl _ _⟩
            case round =>
              obtain ⟨k, y, rest, ag, hk, rfl, rfl, hownq, hXq, hpass, hyok, hrl, htq⟩ := hrel
              obtain ⟨A3, c3, rfl, hlc3, hc3⟩ := hownq.slice
              obtain ⟨wr, rfl⟩ : ∃ w : World, w = wr := ⟨_, rfl⟩
              by_cases hlk : k < out.length
              · have hxk := List.getElem?_eq_getElem hlk
                have hoo := hook _ (List.getElem_mem hlk)
                have hz := hownr.turn htq hAr
                obtain ⟨b2, o2, rfl, z1, z2⟩ := (hz.rd span_len).span hxk
                generalize out[k] = q at *
                have x1 := heap_cell hXq 0
                have x2 := heap_cell hXq 1
                simp only [List.getElem?_toArray, List.getElem?_cons_zero, List.getElem?_cons_succ] at x1 x2
                have hm := fun W => rmeet_calls y.f y.t q.f q.t W hyok.1 hyok.2 hoo.1 hoo.2
                simp only [rmeet4_eq] at hm
                have HP := Lib.hid (And.intro hpass (And.intro hrl hxk))
                clear hpass hrl hxk
                have p1 := fun p : Later wr => Later.cell p z1
                have p2 := fun p : Later wr => Later.cell p z2
                have p3 := fun p : Later wr => Later.cell p x1
                have p4 := fun p : Later wr => Later.cell p x2
                cases hmt : meet4 y.f y.t q.f q.t
                all_goals
                  rw [hmt] at hm
                  clear z1 z2 x1 x2
                  go_wp2
                  refine wp_region_later (by kernel_rfl) (by kernel_rfl) ?_
                  repeat (go_big_quiet_step ((go_at_call 140; with_reducible exact Calls.later (hm _))))
                  refine wpQuiet_nil ?_
                  rintro _ ⟨p, rfl⟩
                  replace p1 := fun q : Later p.val => Later.cell q (p1 p)
                  replace p2 := fun q : Later p.val => Later.cell q (p2 p)
                  replace p3 := fun q : Later p.val => Later.cell q (p3 p)
                  replace p4 := fun q : Later p.val => Later.cell q (p4 p)
                  clear hm
                · have z1 := p1 ⟨p.val, Below.refl _ _⟩
                  have z2 := p2 ⟨p.val, Below.refl _ _⟩
                  have hbp := p.ok
                  have hXp := (hbp.block _ (Array.getElem?_eq_some_iff.1 hXq).1).trans hXq
                  have howp := hownq.below hbp
                  have hszp : wi.heap.size ≤ p.val.heap.size := Nat.le_trans htq.size hbp.size
                  have hbq : Below wi.heap.size wr p.val := hbp.mono htq.size
                  generalize p.val = Wp at *
                  clear p1 p2 p3 p4
                  have hrl2 : rest.length ≤ 1000 := by have := HP.out.2.1; have := HM.out.2.2.1; have := HJ.out.2.2.1; omega
                  go_wp2_with (at_builtin; refine append_oneH (w0 := wr) (W := Wp) Wp.heap.size rfl Span.enc 2 47 98 32 _ wi.heap.size (.slice A3 rest.length c3) rest q rfl _ _ rfl Tryz.underlying98 info_span rfl (by decide) (by decide) span_len span_one rfl rfl howp hbq hszp (by omega) ?_; intro v' w' hown' hb' hgr hat; clear hgr hat)
                  go_roundw
                  case rel => exact ⟨k + 1, y, rest ++ [q], ag, by omega, rfl, by go_num, hown', (hb'.block _ hXl).trans hXq, HP.out.1.keep HP.out.2.2 hmt, hyok, by have := HP.out.2.1; simp; omega, htq.belowT hb'⟩
                  case measure => simp [intOf]; omega
                · have z1 := p1 ⟨p.val, Below.refl _ _⟩
                  have hbp := p.ok
                  have hXp := (hbp.block _ (Array.getElem?_eq_some_iff.1 hXq).1).trans hXq
                  have howp := hownq.below hbp
                  have z2 := p2 ⟨p.val, Below.refl _ _⟩
                  have z3 := p3 ⟨p.val, Below.refl _ _⟩
                  have z4 := p4 ⟨p.val, Below.refl _ _⟩
                  have hbq : Below wi.heap.size wr p.val := hbp.mono htq.size
                  have hwq := htq.size
                  have hrj := fun W => rjoin_calls y.f y.t q.f q.t W hyok.1 hyok.2 hoo.1 hoo.2
                  obtain ⟨yf, yt⟩ := y
                  obtain ⟨qf, qt⟩ := q
                  simp only at hrj z1 z2 z3 z4
                  have hho := hull_ok (x := ⟨yf, yt⟩) (y := ⟨qf, qt⟩) hyok hoo
                  have HT := Lib.hid (HP.out.1.take HP.out.2.2 hmt)
                  generalize hull ⟨yf, yt⟩ ⟨qf, qt⟩ = hh at *
                  obtain ⟨hf, ht⟩ := hh
                  simp only at hrj
                  generalize p.val = Wp at *
                  clear p1 p2 p3 p4
                  go_wp2
                  go_region_with ((go_at_call 225; refine (hrj _).mono ?_; rintro e w5 ⟨rfl, hb5⟩; have hX5 := (hb5.block _ (Array.getElem?_eq_some_iff.1 hXp).1).trans hXp; have s0 := heap_cell hX5 0; have s1 := heap_cell hX5 1; simp only [List.getElem?_toArray, List.getElem?_cons_zero, List.getElem?_cons_succ] at s0 s1; have f0 := heap_free hX5 0; have f1 := heap_free hX5 1))
                  all_goals
                    have hbw5 : Below Wp.heap.size Wp w5 := Below.step (Below.refl _ Wp).drew hb5
                    have hX6 := Joins.block_setCell (i := 1) (Joins.block_setCell (i := 0) hX5 (.string hf)) (.string ht)
                    have hw6 : Own Span.enc 2 47 wi.heap.size ((w5.setCell ⟨wo.heap.size, 0, none⟩ (.string hf)).setCell ⟨wo.heap.size, 1, none⟩ (.string ht)) (.slice A3 rest.length c3) rest :=
                      ((howp.below hbw5).turn (.setCell _ _ _ _) (fun g hg e => by have := howp.base_le g hg; omega)).turn (.setCell _ _ _ _) (fun g hg e => by have := howp.base_le g hg; omega)
                    have hT6 : Turn (fun g => g = wo.heap.size) wi ((w5.setCell ⟨wo.heap.size, 0, none⟩ (.string hf)).setCell ⟨wo.heap.size, 1, none⟩ (.string ht)) :=
                      (((htq.belowT hbq).belowT (hbw5.mono (Nat.le_trans hwq hbp.size))).trans (.setCell _ _ _ _)).trans (.setCell _ _ _ _)
                    go_wp2
                    go_roundw
                    case rel => exact ⟨k + 1, ⟨hf, ht⟩, rest, true, by omega, rfl, by go_num, hw6, hX6, HT.out, hho, by have := HP.out.2.1; omega, hT6⟩
                    case measure => simp [intOf]; omega
              · have hkl : k = out.length := by omega
                subst hkl
                have hmp := Mid.pass HM.out.1 hpass
                have hlr : rest.length ≤ out.length := hrl
                have hor : ∀ o ∈ rest, okS2 o := fun o ho => by
                  have := hpass.1.subset ho
                  rw [List.take_length] at this
                  exact hook o this
                have HQ := Lib.hid (And.intro hmp hpass)
                have hlenV : lenV (.slice A3 rest.length c3) = rest.length := rfl
                clear hmp hpass
                go_wp2
                go_roundw
                case rel =>
                  exact ⟨y, rest, ag, rfl, ownsRow_lower hownq (by have := hbr.size; have := hb.size; omega), fun g hg e => by have := hownq.base_le g hg; omega, hXq, HQ.out.1.1, hyok, hor, by have := HM.out.2.2.1; omega, HQ.out.1.2.2,
                    hbr.trans (htq.below' (fun i e => by omega) (by omega))⟩
                case measure =>
                  cases ag
                  · simp [agM]
                  · have := HQ.out.1.2.1 rfl
                    simp [agM, lenV]; omega
    · have hnl : n = xs.length := by omega
      subst hnl
      have hdone := hj.done
      have HD := Lib.hid (And.intro hdone (And.intro hown hb))
      clear hdone hown hj
      go_wp2
      go_ret
      obtain ⟨e, ho, hb⟩ := HD.out
      exact ⟨_, rfl, by rw [← e]; exact ho, hb⟩

end Go.Proofs.YtanjgeacmpmjhaaGreatDoor
