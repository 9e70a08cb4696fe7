import Derived.Test.YtanjgeacmpmjhaaGreatDoorBase
import Derived.ProofKit
import Derived.SizedLaws
import Derived.ChangeArms
set_option linter.unusedVariables false
set_option linter.unusedSimpArgs false
namespace Go.Proofs.YtanjgeacmpmjhaaGreatDoor
open Go.ChangeShapes Go.WideShapes Go.RowKit

/-- The shape of what an argument holds. -/
inductive Sh where
  | bool
  | int (k : IntKind)
  | str
  | slice (e : Sh) (bytes : Nat)
  | struct (fs : List Sh)

mutual
def Sh.size : Sh → Nat
  | .bool => 1
  | .int _ => 1
  | .str => 1
  | .slice _ _ => 1
  | .struct fs => Sh.sizeAll fs
def Sh.sizeAll : List Sh → Nat
  | [] => 0
  | s :: ss => s.size + Sh.sizeAll ss
end

mutual
/-- What the cells say. -/
def Sh.holds (w : World) : Sh → List Value → Prop
  | .bool, cs => ∃ b, cs = [.bool b]
  | .int k, cs => ∃ n, cs = [.int k n] ∧ (Lit.int k n).wf = true
  | .str, cs => ∃ s : ByteArray, cs = [.string s] ∧ s.size ≤ 140737488351232
  | .slice e bytes, cs => ∃ (A : Option Addr) (n c : Nat), cs = [.slice A n c] ∧ n ≤ c ∧ c ≤ 9223372036854775807 ∧ n * bytes ≤ 140737488351232 ∧
      ∀ i, i < n → ∃ b o es, A = some ⟨b, o, none⟩ ∧ Sh.holds w e es ∧ es.length = e.size ∧ ∀ j u, es[j]? = some u → w.cell? ⟨b, o + i * e.size + j, none⟩ = some u
  | .struct fs, cs => Sh.holdsAll w fs cs
def Sh.holdsAll (w : World) : List Sh → List Value → Prop
  | [], cs => cs = []
  | s :: ss, cs => ∃ c1 c2, cs = c1 ++ c2 ∧ Sh.holds w s c1 ∧ Sh.holdsAll w ss c2
end

/-- The fields of a struct, one behind the other. -/
def shapeFields (P : Program) (sh : TypeId → Option Sh) : Nat → List Field → Option (List Sh)
  | _, [] => some []
  | off, f :: fs =>
    if f.offset = off then
      match sh f.type with
      | some s => if P.cellsOf f.type = s.size then (shapeFields P sh (off + s.size) fs).map (s :: ·) else none
      | none => none
    else none

def shape (P : Program) : Nat → TypeId → Option Sh
  | 0, _ => none
  | n + 1, t =>
    match P.underlying t with
    | some .bool => some .bool
    | some (.int k) => some (.int k)
    | some .string => some .str
    | some (.slice e) =>
      match shape P n e with
      | some s => if P.cellsOf e = s.size ∧ 0 < s.size then some (.slice s (P.bytesOf e)) else none
      | none => none
    | some (.struct fs) =>
      match shapeFields P (shape P n) 0 fs.toList with
      | some l => if P.cellsOf t = Sh.sizeAll l then some (.struct l) else none
      | none => none
    | _ => none

section
variable {H : Type} {enc : TypeId × Value → H} {P : Program} {w : World} {sp : Nat → Bool} {hd : Bool}

theorem cell_of_cells {a : Addr} {k : Nat} {es : List Value} (h : w.cells? 0 a k = some es) : es.length = k ∧ ∀ j u, es[j]? = some u → w.cell? (a.add j) = some u := by
  obtain ⟨_, hl, hc⟩ := World.cells?_some h
  refine ⟨hl, fun j u hu => ?_⟩
  have hj : j < es.length := (List.getElem?_eq_some_iff.1 hu).1
  rw [hc j (by omega)]
  exact hu

theorem addr_plain {a : Addr} {u : Value} (h : w.cell? a = some u) : a = ⟨a.block, a.off, none⟩ := by
  obtain ⟨b, o, s⟩ := a
  cases s with
  | none => rfl
  | some s => simp [World.cell?] at h; split at h <;> simp_all

theorem weightsAll_mem {e : TypeId} : ∀ {l : List (DataW H)} {x : DataW H}, x ∈ l → ∀ m ∈ x.weights P e, m ∈ DataW.weightsAll P e l
  | y :: r, x, hx, m, hm => by
    unfold DataW.weightsAll
    rcases List.mem_cons.1 hx with rfl | hx
    · exact List.mem_append_left _ hm
    · exact List.mem_append_right _ (weightsAll_mem hx m hm)

theorem shape_fields (sh : TypeId → Option Sh) (cs : List Value) (n : Nat)
    (ih : ∀ t s cs d ps, sh t = some s → DataW.trod enc P w 0 sp hd n t cs = some (d, ps) → (∀ m ∈ d.weights P t, m ≤ reachBytes) → Sh.holds w s cs ∧ cs.length = s.size) :
    ∀ (fs : List Field) (off : Nat) (l : List Sh) (xs : List (DataW H × List MemPlace)), shapeFields P sh off fs = some l → xs.length = fs.length →
      (∀ (i : Nat) (f : Field), fs[i]? = some f → DataW.trod enc P w 0 sp hd n f.type ((cs.drop f.offset).take (P.cellsOf f.type)) = xs[i]?) →
      (∀ m ∈ DataW.weightsEach P (fs.map (·.type)) (xs.map (·.1)), m ≤ reachBytes) → cs.length = off + Sh.sizeAll l → Sh.holdsAll w l (cs.drop off)
  | [], off, l, xs, hl, _, _, _, hcs => by
    simp only [shapeFields, Option.some.injEq] at hl
    subst hl
    simp only [Sh.sizeAll, Nat.add_zero] at hcs
    simp [Sh.holdsAll, hcs]
  | f :: fs, off, l, xs, hl, hx, hf, hw, hcs => by
    simp only [shapeFields] at hl
    split at hl
    · rename_i ho
      split at hl
      · rename_i s hs
        split at hl
        · rename_i hc
          obtain ⟨l', hl', rfl⟩ := Option.map_eq_some_iff.1 hl
          cases xs with
          | nil => simp at hx
          | cons x xs =>
            have h0 := hf 0 f rfl
            simp only [List.getElem?_cons_zero] at h0
            simp only [Sh.sizeAll] at hcs
            have hwx : ∀ m ∈ x.1.weights P f.type, m ≤ reachBytes := fun m hm => hw m (by simp only [List.map_cons, DataW.weightsEach]; exact List.mem_append_left _ hm)
            obtain ⟨g1, g2⟩ := ih _ _ _ x.1 x.2 hs h0 hwx
            have g3 := shape_fields sh cs n ih fs (off + s.size) l' xs hl' (by simpa using hx) (fun i g hg => by have := hf (i + 1) g (by simpa using hg); simpa using this)
              (fun m hm => hw m (by simp only [List.map_cons, DataW.weightsEach]; exact List.mem_append_right _ hm)) (by omega)
            refine ⟨(cs.drop off).take s.size, cs.drop (off + s.size), ?_, ?_, g3⟩
            · rw [← List.drop_drop]; exact (List.take_append_drop _ _).symm
            · rw [ho, hc] at g1; exact g1
        · cases hl
      · cases hl
    · cases hl

theorem shape_holds : ∀ (n : Nat) (t : TypeId) (s : Sh) (fuel : Nat) (cs : List Value) (d : DataW H) (ps : List MemPlace), shape P n t = some s →
    DataW.trod enc P w 0 sp hd fuel t cs = some (d, ps) → (∀ m ∈ d.weights P t, m ≤ reachBytes) → Sh.holds w s cs ∧ cs.length = s.size
  | 0, _, _, _, _, _, _, h, _, _ => by simp [shape] at h
  | n + 1, t, s, fuel, cs, d, ps, h, ht, hw => by
    unfold shape at h
    split at h
    · rename_i hu
      simp only [Option.some.injEq] at h; subst h
      obtain ⟨b, rfl, _⟩ := DataW.trod_bool hu ht
      exact ⟨⟨b, rfl⟩, rfl⟩
    · rename_i k hu
      simp only [Option.some.injEq] at h; subst h
      obtain ⟨m, rfl, _, hwf⟩ := DataW.trod_int hu ht
      exact ⟨⟨m, rfl, hwf⟩, rfl⟩
    · rename_i hu
      simp only [Option.some.injEq] at h; subst h
      obtain ⟨s, rfl, hx, _⟩ := DataW.trod_string hu ht
      obtain ⟨rfl, _⟩ := Prod.mk.inj hx
      have := hw s.data.toList.length (by simp [DataW.weights])
      simp only [reachBytes] at this
      rw [Array.length_toList] at this
      exact ⟨⟨s, rfl, this⟩, rfl⟩
    · rename_i e hu
      split at h
      · rename_i s' hs'
        split at h
        · rename_i hc
          simp only [Option.some.injEq] at h; subst h
          rcases DataW.trod_slice hu ht with ⟨rfl, _⟩ | ⟨a, len, cap, elems, rest, m, rfl, rfl, hx, _, hl, hm, hlen, hel, _, _⟩
          · exact ⟨⟨none, 0, 0, rfl, Nat.le_refl _, by omega, by omega, fun i hi => absurd hi (Nat.not_lt_zero _)⟩, rfl⟩
          · obtain ⟨rfl, _⟩ := Prod.mk.inj hx
            simp only [DataW.weights, hu, List.mem_cons, List.mem_append] at hw
            have hz := hw _ (.inl rfl)
            simp only [reachBytes, List.length_map] at hz
            refine ⟨⟨some a, len, cap, rfl, hl, hm, ?_, fun i hi => ?_⟩, rfl⟩
            · rw [hlen] at hz
              exact Nat.le_trans (Nat.mul_le_mul_right _ (by omega)) hz
            · have hi' := hel i hi
              rw [List.getElem?_eq_getElem (by omega)] at hi'
              obtain ⟨es, h1, h2⟩ := Option.bind_eq_some_iff.1 hi'
              obtain ⟨hel1, hcell⟩ := cell_of_cells h1
              obtain ⟨g1, g2⟩ := shape_holds n e s' m es (elems[i]'(by omega)).1 (elems[i]'(by omega)).2 hs' h2 (fun x hx => hw x (.inr (.inl (weightsAll_mem (List.mem_map.2 ⟨_, List.getElem_mem _, rfl⟩) x hx))))
              have h00 : (a.add (i * P.cellsOf e)).add 0 = a.add (i * P.cellsOf e) := by simp [Addr.add]
              have hpl : a.spot = none := by
                have hp : 0 < es.length := by omega
                have := hcell 0 es[0] (List.getElem?_eq_getElem hp)
                rw [h00] at this
                have h1' := addr_plain this
                by_cases hz0 : i * P.cellsOf e = 0
                · simp only [Addr.add, hz0, if_true] at h1'
                  rw [h1']
                · -- the address of a later element: the first one is read, too
                  have hi0 := hel 0 (by omega)
                  rw [List.getElem?_eq_getElem (by omega)] at hi0
                  obtain ⟨es0, k1, _⟩ := Option.bind_eq_some_iff.1 hi0
                  obtain ⟨kel, kcell⟩ := cell_of_cells k1
                  have hp0 : 0 < es0.length := by omega
                  have k2 := kcell 0 es0[0] (List.getElem?_eq_getElem hp0)
                  simp only [Nat.zero_mul, Addr.add, if_true] at k2
                  have := addr_plain k2
                  rw [this]
              obtain ⟨b, o, sp'⟩ := a
              simp only at hpl
              subst hpl
              refine ⟨b, o, es, rfl, g1, g2, fun j u hu' => ?_⟩
              have := hcell j u hu'
              rw [hc.1] at this
              rw [show (⟨b, o + i * s'.size + j, none⟩ : Addr) = ((⟨b, o, none⟩ : Addr).add (i * s'.size)).add j from ?_]
              · exact this
              · unfold Addr.add
                split <;> split <;> simp_all
        · cases h
      · cases h
    · rename_i fs hu
      split at h
      · rename_i l hl
        split at h
        · rename_i hc
          simp only [Option.some.injEq] at h; subst h
          obtain ⟨xs, m, rfl, hx, hcl, hxl, hf⟩ := DataW.trod_struct hu ht
          obtain ⟨rfl, _⟩ := Prod.mk.inj hx
          simp only [DataW.weights, hu] at hw
          have := shape_fields (shape P n) cs m (fun t s cs d ps g1 g2 g3 => shape_holds n t s m cs d ps g1 g2 g3) fs.toList 0 l xs hl (by simpa using hxl) (fun i f hif => hf i f (by simpa using hif)) hw (by rw [hcl, hc]; omega)
          refine ⟨by simpa [Sh.holds] using this, by rw [hcl, hc]; rfl⟩
        · cases h
      · cases h
    · cases h

end

/-- An argument, opened. -/
theorem arg_holds {H : Type} {enc : TypeId × Value → H} {P : Program} {w : World} {sp : Nat → Bool} {hd : Bool} {ts : List TypeId} {ds : List (DataW H)} (hsz : (DataW.weightsEach P ts ds).all (· ≤ reachBytes) = true)
    (j : Nat) {t : TypeId} {d : DataW H} (ht : ts[j]? = some t) (hdj : ds[j]? = some d) (n : Nat) {s : Sh} (hs : shape P n t = some s) {v : Value} {ps : List MemPlace} (h : DataW.Trod enc P w 0 sp hd t v d ps) :
    Sh.holds w s v.cells.toList := by
  obtain ⟨fuel, h⟩ := h
  exact (shape_holds n t s fuel _ d ps hs h (fun m hm => by
    have := List.all_eq_true.1 hsz m (DataW.weights_mem_each ht hdj m hm)
    simpa using this)).1

theorem arg_agg {P : Program} {w : World} {r : Reach} {base : Nat} {t : TypeId} {v : Value} {fs : Array Field} (ht : P.underlying t = some (.struct fs)) (h : Value.okWide P w r base t v) : v = .agg v.cells := by
  obtain ⟨cs, rfl, _⟩ := okWide_struct ht h
  rfl

theorem agg_of_list {v : Value} {l : List Value} (h : v = .agg v.cells) (hl : v.cells.toList = l) : v = .agg l.toArray := by
  rw [h]
  congr 1
  exact Array.toList_inj.1 (by simpa using hl)

/-- A slice of flat things. -/
theorem rd_of {α : Type} {enc : α → List Value} {e : Sh} {bytes : Nat} {w : World} {v : Value} {ok : α → Prop} (hconv : ∀ es, Sh.holds w e es → ∃ x : α, es = enc x ∧ ok x)
    (h : Sh.holds w (.slice e bytes) [v]) : ∃ xs : List α, Rd enc e.size w v xs ∧ xs.length * bytes ≤ 140737488351232 ∧ ∀ x ∈ xs, ok x := by
  obtain ⟨A, n, c, hv, hl, hc, hb, hel⟩ := h
  simp only [List.cons.injEq, and_true] at hv
  subst hv
  rcases Nat.eq_zero_or_pos n with h0 | hpos
  · subst h0
    exact ⟨[], ⟨A, c, rfl, by simp, hc, fun h => absurd h (Nat.lt_irrefl _)⟩, by simp, fun x hx => by cases hx⟩
  · obtain ⟨b, o, _, hA, _⟩ := hel 0 hpos
    have each : ∀ i : Fin n, ∃ x : α, ok x ∧ ∀ j u, (enc x)[j]? = some u → w.cell? ⟨b, o + i.val * e.size + j, none⟩ = some u := fun i => by
      obtain ⟨b', o', es, hA', hes, hlen, hcell⟩ := hel i.val i.isLt
      obtain ⟨x, rfl, hx⟩ := hconv es hes
      rw [hA] at hA'
      injection hA' with hA'
      injection hA' with h1 h2
      subst h1 h2
      exact ⟨x, hx, hcell⟩
    classical
    refine ⟨List.ofFn fun i => Classical.choose (each i), ⟨A, c, by simp, by simpa using hl, hc, fun _ => ⟨b, o, hA, fun i x hi j u hu => ?_⟩⟩, by simpa using hb, fun x hx => ?_⟩
    · have hin : i < n := by
        have := (List.getElem?_eq_some_iff.1 hi).1
        simpa using this
      rw [List.getElem?_ofFn, dif_pos hin] at hi
      injection hi with hi
      subst hi
      exact (Classical.choose_spec (each ⟨i, hin⟩)).2 j u hu
    · obtain ⟨i, rfl⟩ := List.mem_ofFn.1 hx
      exact (Classical.choose_spec (each i)).1

/-- A text's bound. -/
def small (s : ByteArray) : Prop := s.size ≤ 140737488351232

theorem str_of {w : World} {s : ByteArray} (h : Sh.holds w .str [.string s]) : small s := by
  obtain ⟨s', he, hs⟩ := h
  simp only [List.cons.injEq, Value.string.injEq, and_true] at he
  subst he
  exact hs

theorem int_of {w : World} {k k' : IntKind} {n : Int} (h : Sh.holds w (.int k) [.int k' n]) : (Lit.int k n).wf = true := by
  obtain ⟨m, he, hs⟩ := h
  simp only [List.cons.injEq, Value.int.injEq, and_true] at he
  rw [he.2]
  exact hs

end Go.Proofs.YtanjgeacmpmjhaaGreatDoor
