import Derived.Test.YtanjgeacmpmjhaaGreatDoorPlSame
import Derived.Test.YtanjgeacmpmjhaaGreatDoorShape
import Derived.Test.YtanjgeacmpmjhaaGreatDoorKinds
import Derived.Test.YtanjgeacmpmjhaaGreatDoorMgPlansCheckUpto27
import Derived.Test.YtanjgeacmpmjhaaGreatDoorRows
import Derived.ChangeArms
import Derived.ChangeSame
set_option linter.unusedVariables false
set_option linter.unusedSimpArgs false
set_option linter.unusedSectionVars false
namespace Go.Proofs.YtanjgeacmpmjhaaGreatDoor
open Go.RowKit

theorem res_of {w : World} {cs : List Value} (h : Sh.holds w (.struct [.slice (.struct [.str, .int .u32]) 24]) cs) : ∃ x : SlV, cs = x.enc ∧ ∃ r : List Row, Rd Row.enc 2 w x.val r := by
  rw [Sh.holds] at h
  simp only [Sh.holdsAll] at h
  obtain ⟨_, _, rfl, h1, rfl⟩ := h
  have h1' := h1
  rw [Sh.holds] at h1
  obtain ⟨A, n, c, rfl, _⟩ := h1
  obtain ⟨xs, rd, _, _⟩ := rows_of h1'
  exact ⟨⟨A, n, c⟩, rfl, xs, rd⟩
theorem pick_list {α β : Type} {P : α → β → Prop} : ∀ xs : List α, (∀ x ∈ xs, ∃ y, P x y) → ∃ ys : List β, xs.length = ys.length ∧ ∀ (i : Nat) (x : α) (y : β), xs[i]? = some x → ys[i]? = some y → P x y
  | [], _ => ⟨[], rfl, fun i x y h => by simp at h⟩
  | x :: xs, h => by
    obtain ⟨y, hy⟩ := h x (by simp)
    obtain ⟨ys, hl, hs⟩ := pick_list xs fun z hz => h z (by simp [hz])
    refine ⟨y :: ys, by simp [hl], fun i a b ha hb => ?_⟩
    cases i with
    | zero =>
      simp only [List.getElem?_cons_zero, Option.some.injEq] at ha hb
      rw [← ha, ← hb]; exact hy
    | succ i =>
      simp only [List.getElem?_cons_succ] at ha hb
      exact hs i a b ha hb
theorem resl_of {w : World} {v : Value} {bytes : Nat} (h : Sh.holds w (.slice (.struct [.slice (.struct [.str, .int .u32]) 24]) bytes) [v]) : ∃ rs : List (List Row), RdRes w v rs ∧ rs.length * bytes ≤ 140737488351232 := by
  obtain ⟨xs, rd, hl, hx⟩ := rd_of (enc := SlV.enc) (fun _ h => res_of h) h
  obtain ⟨rs, h1, h2⟩ := pick_list xs hx
  exact ⟨rs, ⟨xs, rd, h1, h2⟩, by rw [← h1]; exact hl⟩

end Go.Proofs.YtanjgeacmpmjhaaGreatDoor

set_option linter.unusedVariables false
set_option linter.unusedSimpArgs false
set_option linter.unusedSectionVars false
namespace Go.Proofs.YtanjgeacmpmjhaaGreatDoor
open Go.RowKit Go.ChangeShapes Go.WideShapes

theorem part_of {w : World} {cs : List Value} (h : Sh.holds w (.struct [.int .u8, .slice (.struct [.int .u8, .str, .str, .int .u32]) 48]) cs) : ∃ x : PaV, cs = x.enc ∧ ∃ r : List Opn, Rd Opn.enc 4 w x.val r ∧ ∀ y ∈ r, y.ok := by
  rw [Sh.holds] at h
  simp only [Sh.holdsAll] at h
  obtain ⟨_, _, rfl, h0, _, _, rfl, h1, rfl⟩ := h
  rw [Sh.holds] at h0
  obtain ⟨q, rfl, _⟩ := h0
  have h1' := h1
  rw [Sh.holds] at h1
  obtain ⟨A, n, c, rfl, _⟩ := h1
  obtain ⟨xs, rd, _, ok⟩ := opns_of h1'
  exact ⟨⟨q, A, n, c⟩, rfl, xs, rd, ok⟩
theorem partl_of {w : World} {v : Value} {bytes : Nat} (h : Sh.holds w (.slice (.struct [.int .u8, .slice (.struct [.int .u8, .str, .str, .int .u32]) 48]) bytes) [v]) :
    ∃ ps : List (Int × List Opn), RdP w v ps ∧ ∀ p ∈ ps, ∀ y ∈ p.2, y.ok := by
  obtain ⟨xs, rd, hl, hx⟩ := rd_of (enc := PaV.enc) (fun _ h => part_of h) h
  obtain ⟨rs, h1, h2⟩ := pick_list (P := fun (x : PaV) (p : Int × List Opn) => x.s = p.1 ∧ Rd Opn.enc 4 w x.val p.2 ∧ ∀ y ∈ p.2, y.ok) xs fun x hx' => by
    obtain ⟨r, h1, h2⟩ := hx x hx'
    exact ⟨(x.s, r), rfl, h1, h2⟩
  refine ⟨rs, ⟨xs, rd, h1, fun i x p hi hp => ⟨(h2 i x p hi hp).1, (h2 i x p hi hp).2.1⟩⟩, fun p hp => ?_⟩
  obtain ⟨i, hi⟩ := List.mem_iff_getElem?.1 hp
  have hil : i < xs.length := by rw [h1]; exact (List.getElem?_eq_some_iff.1 hi).1
  exact (h2 i _ p (List.getElem?_eq_getElem hil) hi).2.2

/-- How many parts, and ops in them. -/
def sumP : List (Int × List Opn) → Nat
  | [] => 0
  | p :: r => 1 + p.2.length + sumP r

section
variable {H : Type} {enc : TypeId × Value → H} {w : World} {spare : Nat → Bool} {held : Bool}
theorem bulk_one {H : Type} (d : DataW H) : 1 ≤ Rows.uptoBulk d := by
  cases d with
  | lit l => cases l <;> simp [Rows.uptoBulk]
  | nil => simp [Rows.uptoBulk]
  | ptr d => simp [Rows.uptoBulk]
  | slice elems spare => simp [Rows.uptoBulk]
  | agg parts => simp [Rows.uptoBulk]
  | iface t d => simp [Rows.uptoBulk]
  | map entries => simp [Rows.uptoBulk]
  | held h => simp [Rows.uptoBulk]
theorem bulk_len {H : Type} : ∀ l : List (DataW H), l.length ≤ Rows.uptoBulkAll l
  | [] => by simp [Rows.uptoBulkAll]
  | x :: r => by
    have := bulk_one x
    have := bulk_len r
    simp only [Rows.uptoBulkAll, List.length_cons]
    omega
theorem bulk_sum {H : Type} : ∀ (l : List (DataW H)) (ps : List (Int × List Opn)), l.length = ps.length → (∀ (i : Nat) d p, l[i]? = some d → ps[i]? = some p → 1 + p.2.length ≤ Rows.uptoBulk d) → sumP ps ≤ Rows.uptoBulkAll l
  | [], [], _, _ => Nat.le_refl _
  | [], _ :: _, h, _ => by simp at h
  | _ :: _, [], h, _ => by simp at h
  | d :: l, p :: ps, h, hh => by
    have h1 := hh 0 d p rfl rfl
    have h2 := bulk_sum l ps (by simpa using h) fun i d p hd hp => hh (i + 1) d p (by simpa using hd) (by simpa using hp)
    simp only [sumP, Rows.uptoBulkAll]
    omega
set_option maxRecDepth 100000 in
/-- A part's reading: its ops' number is in its bulk. -/
theorem part_bulk {fuel : Nat} {cs : List Value} {x : DataW H × List MemPlace} (h : DataW.trod enc Tryz.prog w 0 spare held fuel 105 cs = some x) :
    ∃ (n c : Nat) (A : Option Addr), cs[1]? = some (.slice A n c) ∧ 1 + n ≤ Rows.uptoBulk x.1 := by
  obtain ⟨y0, y1, m, rfl, hcl, _, h1⟩ := trod_struct2 (show Tryz.prog.underlying 105 = some (.struct #[_, _]) from Tryz.underlying105) h
  have h1' : DataW.trod enc Tryz.prog w 0 spare held m 103 ((cs.drop 1).take (Tryz.prog.cellsOf 103)) = some y1 := h1
  rw [show Tryz.prog.cellsOf 103 = 1 by kernel_rfl] at h1'
  rw [show Tryz.prog.cellsOf 105 = 2 by kernel_rfl] at hcl
  match cs, hcl with
  | [c0, c1], _ =>
    have e1 : (List.drop 1 [c0, c1]).take 1 = [c1] := rfl
    rw [e1] at h1'
    rcases DataW.trod_slice Tryz.underlying103 h1' with ⟨e, rfl⟩ | ⟨a, len, cap, elems, rest, n, rfl, e, rfl, _, _, _, hlen, _⟩
    · injection e with e _
      subst e
      exact ⟨0, 0, none, rfl, by simp only [Rows.uptoBulk, Rows.uptoBulkAll]; omega⟩
    · injection e with e _
      subst e
      refine ⟨len, cap, some a, rfl, ?_⟩
      have := bulk_len (elems.map (·.1))
      rw [List.length_map, hlen] at this
      simp only [Rows.uptoBulk, Rows.uptoBulkAll]
      omega
theorem partl_bulk {fuel : Nat} {v : Value} {x : DataW H × List MemPlace} (h : DataW.trod enc Tryz.prog w 0 spare held fuel 102 [v] = some x) {ps : List (Int × List Opn)} (hr : RdP w v ps) : sumP ps ≤ Rows.uptoBulk x.1 := by
  obtain ⟨xs, rd, hl, hrow⟩ := hr
  obtain ⟨A, c, rfl, _, _⟩ := rd.shape
  rcases DataW.trod_slice Tryz.underlying102 h with ⟨e, rfl⟩ | ⟨a, len, cap, elems, rest, n, rfl, e, rfl, _, _, _, hlen, hel, _⟩
  · injection e with e _
    injection e with _ e _
    have : ps.length = 0 := by omega
    rw [List.length_eq_zero_iff.1 this]
    exact Nat.zero_le _
  · injection e with e _
    injection e with e1 e2 e3
    subst e1 e2 e3
    have hb := bulk_sum (elems.map (·.1)) ps (by rw [List.length_map, hlen, hl]) fun i d p hd hp => by
      rw [List.getElem?_map] at hd
      obtain ⟨y, hy, rfl⟩ := Option.map_eq_some_iff.1 hd
      have hil : i < xs.length := by rw [hl]; exact (List.getElem?_eq_some_iff.1 hp).1
      have h1 := hel i hil
      rw [hy] at h1
      obtain ⟨es, g1, g2⟩ := Option.bind_eq_some_iff.1 h1
      obtain ⟨m, c', A', g3, g4⟩ := part_bulk g2
      have g5 := (cell_of_cells g1).2 1 _ g3
      obtain ⟨b, o, e4, _, g6⟩ := rd.pav (List.getElem?_eq_getElem hil)
      injection e4 with e4
      subst e4
      rw [show Tryz.prog.cellsOf 105 = 2 by kernel_rfl] at g5
      have e5 : ((⟨b, o, none⟩ : Addr).add (i * 2)).add 1 = ⟨b, o + i * 2 + 1, none⟩ := by rw [Addr.add_lit, Addr.add_lit]
      rw [e5, g6] at g5
      have hxr := (hrow i _ p (List.getElem?_eq_getElem hil) hp).2
      generalize xs[i] = z at *
      injection g5 with g5
      injection g5 with _ g5 _
      obtain ⟨_, _, e6, _, _⟩ := hxr.shape
      injection e6 with _ e6 _
      omega
    simp only [Rows.uptoBulk]
    omega
end
end Go.Proofs.YtanjgeacmpmjhaaGreatDoor
