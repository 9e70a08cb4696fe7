import Derived.Test.YtomhkflcimbbiaaLAsks
set_option linter.unusedVariables false
set_option linter.unusedSimpArgs false
set_option linter.unusedSectionVars false
namespace Go.Proofs.Ytomhkflcimbbiaa
open Go.RowKit

theorem inWay_put {T : Tab} {a : Int} {l : List Lock} {who : Int} {f t : Str} {al : Bool} {o : Int} :
    InWay (putT T a l) who f t al o ↔ (a = o ∧ o ≠ who ∧ l.any (hitL al f t) = true) ∨ (a ≠ o ∧ InWay T who f t al o) := by
  unfold InWay putT
  by_cases e : a = o
  · simp [e]
  · simp [e]
theorem inWay_none {who : Int} {f t : Str} {al : Bool} {o : Int} : ¬ InWay (fun _ => []) who f t al o := fun h => by
  obtain ⟨_, x, hx, _⟩ := h
  cases hx
theorem put_length {T : Tab} {a : Int} {l : List Lock} {L : Nat} (h : ∀ o, (T o).length ≤ L) (hl : l.length ≤ L) (o : Int) : (putT T a l o).length ≤ L := by
  unfold putT
  split
  · exact hl
  · exact h o

abbrev sa : Str := ⟨#[97]⟩
abbrev sb : Str := ⟨#[98]⟩
abbrev sc : Str := ⟨#[99]⟩
abbrev sd : Str := ⟨#[100]⟩
abbrev tA0 : Tab := fun _ => []
def tA1 : Tab := putT tA0 1 [⟨sa, sc, false⟩]
def tA2 : Tab := putT tA1 2 [⟨sb, sb, false⟩]
def tA3 : Tab := putT tA2 1 []
def tA4 : Tab := putT tA3 2 [⟨sb, sb, false⟩, ⟨sc, sd, true⟩]
theorem tA1_eq : putT tA0 1 (addL sa sc false (tA0 1)) = tA1 := rfl
theorem tA1_2 : tA1 2 = [] := rfl
theorem tA2_eq : putT tA1 2 (addL sb sb false (tA1 2)) = tA2 := by rw [tA1_2]; rfl
theorem tA3_2 : tA3 2 = [⟨sb, sb, false⟩] := rfl
theorem tA4_2 : tA4 2 = [⟨sb, sb, false⟩, ⟨sc, sd, true⟩] := rfl
theorem tA2_1 : tA2 1 = [⟨sa, sc, false⟩] := rfl
theorem tA4_eq : putT tA3 2 (addL sc sd true (tA3 2)) = tA4 := by rw [tA3_2]; rfl
theorem tA0_len (o : Int) : (tA0 o).length ≤ 2 := Nat.zero_le _
theorem tA1_len (o : Int) : (tA1 o).length ≤ 2 := put_length tA0_len (by decide) o
theorem tA2_len (o : Int) : (tA2 o).length ≤ 2 := put_length tA1_len (by decide) o
theorem tA3_len (o : Int) : (tA3 o).length ≤ 2 := put_length tA2_len (by decide) o
theorem tA4_len (o : Int) : (tA4 o).length ≤ 2 := put_length tA3_len (by decide) o
theorem filt {T : Tab} {L : Nat} (h : ∀ o, (T o).length ≤ L) (p : Lock → Bool) (o : Int) : ((T o).filter p).length ≤ L := Nat.le_trans (List.length_filter_le _ _) (h o)

theorem gA1 (o : Int) : ¬ InWay tA0 1 sa sc false o := inWay_none
theorem gA2 (o : Int) : ¬ InWay tA1 2 sb sb false o := by
  unfold tA1
  rw [inWay_put, show [(⟨sa, sc, false⟩ : Lock)].any (hitL false sb sb) = false by decide]
  simp [inWay_none]
theorem gA4 (o : Int) : ¬ InWay tA3 2 sc sd true o := by
  unfold tA3 tA2 tA1
  rw [inWay_put, inWay_put, inWay_put]
  simp [inWay_none]
  omega
theorem wA3 : WayIs tA2 2 sc sd true [1] := ⟨by simp, fun o => by
  unfold tA2 tA1
  rw [inWay_put, inWay_put, show [(⟨sa, sc, false⟩ : Lock)].any (hitL true sc sd) = true by decide]
  simp [inWay_none]
  omega⟩
theorem wAw : WayIs tA2 1 sb sb true [2] := ⟨by simp, fun o => by
  unfold tA2 tA1
  rw [inWay_put, inWay_put, show [(⟨sb, sb, false⟩ : Lock)].any (hitL true sb sb) = true by decide]
  simp [inWay_none]
  omega⟩
theorem wA5 : WayIs tA4 1 sd sd false [2] := ⟨by simp, fun o => by
  unfold tA4 tA3 tA2 tA1
  rw [inWay_put, inWay_put, inWay_put, inWay_put, show [(⟨sb, sb, false⟩ : Lock), ⟨sc, sd, true⟩].any (hitL false sd sd) = true by decide]
  simp [inWay_none]
  omega⟩

section
variable {base : Nat} {w : World} {B nn : Nat} {T : Tab}
theorem asks_got (h : TabP base w B nn T) (hbase : base ≤ w.heap.size) {L c : Nat} (hL : ∀ o, (T o).length ≤ L) (hLb : L ≤ 1000) (hnn : nn ≤ 1000) (who : Int) (hw : okU who) (f t : ByteArray) (al : Bool)
    (hc : ∀ o, ((T o).filter (hitL al f t)).length ≤ c) (hN : nn * c ≤ sortN) (hm : mayL who f t = true) (hno : ∀ o, ¬ InWay T who f t al o) :
    Calls Try.prog 23 #[.pointer (some ⟨B, 0, none⟩), .int .u32 who, .agg #[.string f, .string t], .bool al, .slice none 0 0] w
      fun e w' => e = .returned (.bool true) ∧ (∃ n', n' ≤ nn + 1 ∧ TabP base w' B n' (putT T who (addL f t al (T who)))) ∧ TStep base w w' := by
  obtain ⟨M, D, h⟩ := h
  refine (asks_calls h hbase hL hLb hnn who hw f t al hc hN (way := []) (RdT.nil _)).mono ?_
  rintro e w' ⟨b, T', n', rfl, hn', hT, hs, ⟨h1, _⟩ | ⟨_, ⟨l, hne, hway, _⟩, _⟩ | ⟨_, _, rfl, rfl⟩⟩
  · rw [hm] at h1; cases h1
  · exact absurd (hway.nil_iff.2 hno) hne
  · exact ⟨rfl, ⟨n', hn', hT⟩, hs⟩
theorem asks_way (h : TabP base w B nn T) (hbase : base ≤ w.heap.size) {L c : Nat} (hL : ∀ o, (T o).length ≤ L) (hLb : L ≤ 1000) (hnn : nn ≤ 1000) (who : Int) (hw : okU who) (f t : ByteArray) (al : Bool)
    (hc : ∀ o, ((T o).filter (hitL al f t)).length ≤ c) (hN : nn * c ≤ sortN) (hm : mayL who f t = true) {vw : Value} {way : List Int} (hvw : RdT base encU 1 w vw way) (hway : WayIs T who f t al way) (hne : way ≠ []) :
    Calls Try.prog 23 #[.pointer (some ⟨B, 0, none⟩), .int .u32 who, .agg #[.string f, .string t], .bool al, vw] w
      fun e w' => e = .returned (.bool true) ∧ (∃ n', n' ≤ nn + 1 ∧ TabP base w' B n' T) ∧ TStep base w w' := by
  obtain ⟨M, D, h⟩ := h
  refine (asks_calls h hbase hL hLb hnn who hw f t al hc hN hvw).mono ?_
  rintro e w' ⟨b, T', n', rfl, hn', hT, hs, ⟨h1, _⟩ | ⟨_, ⟨l, _, hl, rfl⟩, rfl⟩ | ⟨_, hno, _, _⟩⟩
  · rw [hm] at h1; cases h1
  · rw [hl.uniq hway, decide_eq_true rfl]
    exact ⟨rfl, ⟨n', hn', hT⟩, hs⟩
  · exact absurd (hway.nil_iff.2 hno) hne
end
end Go.Proofs.Ytomhkflcimbbiaa
