import Derived.Test.YtanjgeacmpmjhaaGreatDoorMgPlansRun28
import Derived.Test.YtanjgeacmpmjhaaGreatDoorMgPlansRun9
set_option linter.unusedVariables false
set_option linter.unusedSimpArgs false
set_option linter.unusedSectionVars false
namespace Go.Proofs.YtanjgeacmpmjhaaGreatDoor
open Go.RowKit

attribute [local go_sem ↓] Go.wp_at_zero Go.wp_at_succ

abbrev tLo : ByteArray := ⟨#[95]⟩
abbrev tHi : ByteArray := ⟨#[95, 122, 122, 122, 122, 122, 122, 122, 122, 122, 122, 122, 122, 122, 122, 122]⟩
set_option maxHeartbeats 400000 in
theorem reserved_calls (w : World) : Calls Tryz.prog 155 #[] w fun e w' => e = .returned (.agg #[.string tLo, .string tHi]) ∧ Below w.heap.size w w' := by
  go_enter Tryz.func155, Tryz.ntmps155
  go_wp2
  exact bodyPost_ret (results_cell_row rfl _ _ w.heap.size _ #[.string tLo, .string tHi] _ _ rfl (alloc_at _ _) Tryz.underlying47 rfl (by kernel_rfl)) rfl ⟨rfl, (Below.refl _ w).alloc (Nat.le_refl _) _⟩

/-- May an op not be one of a global transaction? -/
def oddO (x : Opn) : Bool := !okO x || meet4 x.k (spanOf x.q x.k x.t) tLo tHi

set_option maxHeartbeats 800000 in
theorem odd_calls (x : Opn) (hk : x.k.size ≤ 9223372036854775807) (ht : x.t.size ≤ 9223372036854775807) (w : World) :
    Calls Tryz.prog 152 #[.agg #[.int .u8 x.q, .string x.k, .string x.t, .int .u32 x.d]] w fun e w' => e = .returned (.bool (oddO x)) ∧ Below w.heap.size w w' := by
  obtain ⟨q, k, t, d⟩ := x
  have hck := opcheck_calls q k t d hk ht (w.alloc (.cells #[.int .u8 q, .string k, .string t, .int .u32 d] 172))
  have hof := fun W => of_calls q k t d W
  have hB0 := Lib.hid (OpB.alloc w q k t d)
  have hbA : Below w.heap.size w (w.alloc (.cells #[.int .u8 q, .string k, .string t, .int .u32 d] 172)) := (Below.refl _ w).alloc (Nat.le_refl _) _
  have hodd : oddO ⟨q, k, t, d⟩ = (!okOp q k t d || meet4 k (spanOf q k t) tLo tHi) := rfl
  rw [hodd]
  clear hodd
  generalize spanOf q k t = t2 at *
  cases hb : okOp q k t d <;> rw [hb] at hck
  all_goals
    go_enter Tryz.func152, Tryz.ntmps152
    go_wp2_with (first | (go_at_call 153; refine hck.mono ?_; rintro e w1 ⟨rfl, hb1⟩; obtain ⟨u0, u1, u2, u3⟩ := (hB0.out.below hb1).cells; have hw1 := Below.step hbA hb1) | (go_at_call 154; refine (hof _).mono ?_; rintro e w2 ⟨rfl, hb2⟩; have hw2 := Below.step hw1 hb2) | (go_at_call 155; refine (reserved_calls _).mono ?_; rintro e w3 ⟨rfl, hb3⟩; have hw3 := Below.step hw2 hb3) | (go_at_call 139; refine (meet_calls _ _ _ _ _).mono ?_; rintro e w4 ⟨rfl, hb4⟩; have hw4 := Below.step hw3 hb4))
    go_ret
    first
      | exact ⟨ret_bool rfl, hw4⟩
      | exact ⟨ret_bool rfl, hw1⟩

/-- A part: its site, and the slice of its ops. -/
structure PartV where
  s : Int
  A : Option Addr
  n : Nat
  c : Nat
instance : Inhabited PartV := ⟨⟨0, none, 0, 0⟩⟩
abbrev PartV.enc (x : PartV) : List Value := [.int .u8 x.s, .slice x.A x.n x.c]
theorem partv_len (x : PartV) : x.enc.length = 2 := rfl
theorem Rd.partv {w : World} {A : Option Addr} {n c : Nat} {xs : List PartV} (h : Rd PartV.enc 2 w (.slice A n c) xs) {i : Nat} {x : PartV} (hi : xs[i]? = some x) :
    ∃ b o, A = some ⟨b, o, none⟩ ∧ w.cell? ⟨b, o + i * 2, none⟩ = some (.int .u8 x.s) ∧ w.cell? ⟨b, o + i * 2 + 1, none⟩ = some (.slice x.A x.n x.c) := by
  obtain ⟨b, o, hA, hc⟩ := h.at_ hi
  exact ⟨b, o, hA, hc 0 _ rfl, hc 1 _ rfl⟩

/-- May parts be those of a global transaction, the last site being 'last'? -/
def chkGo : Int → List (Int × List Opn) → Bool
  | _, [] => true
  | last, (s, os) :: r => !(decide (s ≤ last) || (decide (3 < s) || (decide (os.length < 1) || (decide (16 < os.length) || os.any oddO)))) && chkGo s r
def chkP (l : List (Int × List Opn)) : Bool := chkGo 0 l && decide (0 < l.length)

/-- Parts that are read. -/
def RdP (w : World) (v : Value) (ps : List (Int × List Opn)) : Prop :=
  ∃ xs : List PartV, Rd PartV.enc 2 w v xs ∧ xs.length = ps.length ∧ ∀ (i : Nat) (x : PartV) (p : Int × List Opn), xs[i]? = some x → ps[i]? = some p → x.s = p.1 ∧ Rd Opn.enc 4 w (.slice x.A x.n x.c) p.2

set_option maxRecDepth 100000 in
set_option maxHeartbeats 1600000 in
theorem plCheck_calls (v : Value) (ps : List (Int × List Opn)) (w : World) (hv : RdP w v ps) (hs : ∀ p ∈ ps, ∀ x ∈ p.2, x.k.size ≤ 9223372036854775807 ∧ x.t.size ≤ 9223372036854775807) :
    Calls Tryz.prog 63 #[v] w fun e w' => e = .returned (.bool (chkP ps)) ∧ Below w.heap.size w w' := by
  obtain ⟨xs, hr, hlen, hrow⟩ := hv
  unfold chkP
  have HL := Lib.hid hlen
  rw [← hlen]
  clear hlen
  obtain ⟨A, c, rfl, hlc, hc⟩ := hr.shape
  go_enter Tryz.func63, Tryz.ntmps63
  go_wp2
  go_loopw [3, 9] (fun lv i wr => ∃ (k : Nat) (last : Int), k ≤ xs.length ∧ i = .int .i64 k ∧ lv = .int .u8 last ∧ Below w.heap.size w wr ∧ chkGo 0 ps = chkGo last (ps.drop k)) (fun _ i _ => xs.length - (intOf i).toNat)
  case atStart => exact ⟨0, 0, Nat.zero_le _, rfl, rfl, Below.refl _ _, rfl⟩
  case round =>
    obtain ⟨k, last, hk, rfl, rfl, hb, hgo⟩ := hrel
    have HGO := Lib.hid hgo
    clear hgo
    by_cases hlt : k < xs.length
    · have hlt2 : k < ps.length := by rw [← HL.out]; exact hlt
      obtain ⟨b, o, rfl, hx1, hx2⟩ := (hr.below hb).partv (List.getElem?_eq_getElem hlt)
      obtain ⟨hs1, hrd⟩ := hrow k _ _ (List.getElem?_eq_getElem hlt) (List.getElem?_eq_getElem hlt2)
      have hok := hs ps[k] (List.getElem_mem hlt2)
      have HD := Lib.hid (List.drop_eq_getElem_cons hlt2)
      generalize ps[k] = p at *
      generalize xs[k] = x at *
      obtain ⟨s, os⟩ := p
      obtain ⟨xsx, xa, xn, xc⟩ := x
      dsimp only at hs1 hrd hok hx1 hx2
      subst hs1
      obtain ⟨A3, c3, e3, hlo, hco⟩ := hrd.shape
      injection e3 with e31 e32 e33
      subst e31 e32 e33
      have hbA : Below w.heap.size w (wr.alloc (.cells #[.int .u8 xsx, .slice xa os.length xc] 105)) := hb.alloc hb.size _
      have hcf := containsFuncOpn_calls oddO 152 #[] (enters_of Tryz.func152 (by kernel_rfl) rfl) _ os (wr.alloc (.cells #[.int .u8 xsx, .slice xa os.length xc] 105)) (hrd.below hbA) (fun W x hx _ => odd_calls x (hok x hx).1 (hok x hx).2 W)
      have HNX := Lib.hid (show chkGo 0 ps = (!(decide (xsx ≤ last) || (decide (3 < xsx) || (decide (os.length < 1) || (decide (16 < os.length) || os.any oddO)))) && chkGo xsx (ps.drop (k + 1))) by rw [HGO.out, HD.out]; rfl)
      clear HGO HD hrow hs hok hrd hlt2
      have c0 : (wr.alloc (.cells #[.int .u8 xsx, .slice xa os.length xc] 105)).cell? ⟨wr.heap.size, 0, none⟩ = some (.int .u8 xsx) := by simp
      have C0 := Lib.hid c0
      clear c0
      by_cases h1 : xsx ≤ last
      · go_wp2_with (go_at_call 156; refine hcf.mono ?_; rintro e w1 ⟨rfl, hb1⟩; have u0 := Below.cell_some hb1 C0.out; have hw1 := Below.step hbA hb1)
        go_ret
        exact ⟨ret_bool (by rw [HNX.out]; simp [h1]), hbA⟩
      · by_cases h2 : 3 < xsx
        · go_wp2_with (go_at_call 156; refine hcf.mono ?_; rintro e w1 ⟨rfl, hb1⟩; have u0 := Below.cell_some hb1 C0.out; have hw1 := Below.step hbA hb1)
          go_ret
          exact ⟨ret_bool (by rw [HNX.out]; simp [h2]), hbA⟩
        · by_cases h3 : os.length < 1
          · go_wp2_with (go_at_call 156; refine hcf.mono ?_; rintro e w1 ⟨rfl, hb1⟩; have u0 := Below.cell_some hb1 C0.out; have hw1 := Below.step hbA hb1)
            go_ret
            exact ⟨ret_bool (by rw [HNX.out]; simp [h3]), hbA⟩
          · by_cases h4 : 16 < os.length
            · go_wp2_with (go_at_call 156; refine hcf.mono ?_; rintro e w1 ⟨rfl, hb1⟩; have u0 := Below.cell_some hb1 C0.out; have hw1 := Below.step hbA hb1)
              go_ret
              exact ⟨ret_bool (by rw [HNX.out]; simp [h4]), hbA⟩
            · cases hodd : os.any oddO with
              | true =>
                rw [hodd] at hcf
                have HF := Lib.hid (show chkGo 0 ps = false by rw [HNX.out, hodd]; simp)
                clear hodd
                go_wp2_with (go_at_call 156; refine hcf.mono ?_; rintro e w1 ⟨rfl, hb1⟩; have u0 := Below.cell_some hb1 C0.out; have hw1 := Below.step hbA hb1)
                go_ret
                exact ⟨ret_bool (by rw [HF.out]; rfl), hw1⟩
              | false =>
                rw [hodd] at hcf
                have HF := Lib.hid (show chkGo 0 ps = chkGo xsx (ps.drop (k + 1)) by rw [HNX.out, hodd, decide_eq_false h1, decide_eq_false h2, decide_eq_false h3, decide_eq_false h4]; rfl)
                clear hodd
                go_wp2_with (go_at_call 156; refine hcf.mono ?_; rintro e w1 ⟨rfl, hb1⟩; have u0 := Below.cell_some hb1 C0.out; have hw1 := Below.step hbA hb1)
                go_roundw
                case rel => exact ⟨k + 1, xsx, by omega, by go_num, rfl, hw1, HF.out⟩
                case measure => simp [intOf]; omega
    · have hkl : ps.length ≤ k := by rw [← HL.out]; omega
      have HE := Lib.hid (show chkGo 0 ps = true by rw [HGO.out, List.drop_eq_nil_of_le hkl]; rfl)
      clear HGO hkl
      go_wp2
      go_ret
      refine ⟨ret_bool ?_, hb⟩
      rw [HE.out]
      simp

end Go.Proofs.YtanjgeacmpmjhaaGreatDoor
