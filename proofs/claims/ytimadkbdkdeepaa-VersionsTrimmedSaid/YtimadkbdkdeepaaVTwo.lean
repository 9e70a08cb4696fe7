import Derived.Test.YtimadkbdkdeepaaVLaw
import Derived.Test.YtimadkbdkdeepaaVerG
set_option linter.unusedVariables false
set_option linter.unusedSimpArgs false
namespace Go.Proofs.Ytimadkbdkdeepaa
open Go.RowKit Go.Shelf

/-! ### two pasts, one beside the other -/
section
variable {base : Nat} {U : Nat → Prop} {w w' : World} {B : Nat} {hist : List (List Change)} {trim : Nat}

theorem PastU.mono {V : Nat → Prop} (h : PastU base U w B hist trim) (hUV : ∀ i, U i → V i) : PastU base V w B hist trim := by
  obtain ⟨M, n, D, H, h, h1, h2, h3⟩ := h
  exact ⟨M, n, D, H, h, hUV _ h1, hUV _ h2, fun x v g hx hat hg => hUV _ (h3 x v g hx hat hg)⟩
/-- its blocks are there, and of its own. -/
theorem PastU.bound (h : PastU base U w B hist trim) : PastU base (fun i => U i ∧ base ≤ i ∧ i < w.heap.size) w B hist trim := by
  obtain ⟨M, n, D, H, h, h1, h2, h3⟩ := h
  refine ⟨M, n, D, H, h, ⟨h1, h.low, h.lt⟩, ⟨h2, h.map.low, h.map.own.lt⟩, fun x v g hx hat hg => ?_⟩
  obtain ⟨u, hu, ho⟩ := h.map.elem x hx
  rw [hat] at hu
  injection hu with hu
  subst hu
  obtain ⟨hb, hlt, _⟩ := ho.lt g hg
  exact ⟨h3 x v g hx hat hg, hb, hlt⟩
theorem PastU.same (h : PastU base U w B hist trim) (hs : ∀ i, U i → w'.heap[i]? = w.heap[i]?) : PastU base U w' B hist trim := by
  obtain ⟨M, n, D, H, h, h1, h2, h3⟩ := h
  obtain ⟨es, clock, hb, hrest⟩ := h.map.own
  refine ⟨M, n, D, H, ⟨(hs B h1).trans h.obj, ⟨⟨es, clock, (hs M h2).trans hb, hrest⟩, h.map.low, h.map.has, fun x hx => ?_, h.map.apart⟩, h.past, h.low, h.cnt, h.len⟩, h1, h2, h3⟩
  obtain ⟨u, hu, ho⟩ := h.map.elem x hx
  exact ⟨u, hu, ho.same fun g hg => hs g (h3 x u g hx hu hg)⟩
theorem PastP.all (h : PastP base w B hist trim) : PastU base (fun _ => True) w B hist trim := by
  obtain ⟨M, n, D, H, h⟩ := h
  exact ⟨M, n, D, H, h, trivial, trivial, OwnD.all _⟩
end

/-- Two pasts with blocks of their own. -/
structure Two (b c : Nat) (w : World) (B C : Nat) (hp : List (List Change)) (tp : Nat) (hq : List (List Change)) (tq : Nat) (U V : Nat → Prop) : Prop where
  p : PastU b U w B hp tp
  q : PastU c V w C hq tq
  apart : ∀ i, U i → V i → False
  ltp : ∀ i, U i → i < w.heap.size
  ltq : ∀ i, V i → i < w.heap.size
def TwoP (b c : Nat) (w : World) (B C : Nat) (hp : List (List Change)) (tp : Nat) (hq : List (List Change)) (tq : Nat) : Prop := ∃ U V, Two b c w B C hp tp hq tq U V

section
variable {b c : Nat} {w : World} {B C : Nat} {hp hq : List (List Change)} {tp tq : Nat}

theorem TwoP.below {w' : World} (h : TwoP b c w B C hp tp hq tq) (hb : Below w.heap.size w w') : TwoP b c w' B C hp tp hq tq := by
  obtain ⟨U, V, h⟩ := h
  have hs := hb.size
  exact ⟨U, V, h.p.same fun i hi => hb.block i (h.ltp i hi), h.q.same fun i hi => hb.block i (h.ltq i hi), h.apart, fun i hi => by have := h.ltp i hi; omega, fun i hi => by have := h.ltq i hi; omega⟩
theorem TwoP.swap (h : TwoP b c w B C hp tp hq tq) : TwoP c b w C B hq tq hp tp := by
  obtain ⟨U, V, h⟩ := h
  exact ⟨V, U, h.q, h.p, fun i h1 h2 => h.apart i h2 h1, h.ltq, h.ltp⟩
theorem TwoP.pp (h : TwoP b c w B C hp tp hq tq) : PastP b w B hp tp := by
  obtain ⟨U, V, h⟩ := h
  exact h.p.past
theorem TwoP.qq (h : TwoP b c w B C hp tp hq tq) : PastP c w C hq tq := by
  obtain ⟨U, V, h⟩ := h
  exact h.q.past
theorem TwoP.new {w1 : World} (h : PastP b w B hp tp) (hb : Below w.heap.size w w1) (k : PastP w.heap.size w1 C hq tq) : TwoP b w.heap.size w1 B C hp tp hq tq := by
  have h1 := h.all.bound
  refine ⟨_, _, h1.same fun i hi => hb.block i hi.2.2, k.all.bound, fun i hi hj => ?_, fun i hi => ?_, fun i hi => hi.2.2⟩
  · have := hi.2.2; have := hj.2.1; omega
  · have := hi.2.2; have := hb.size; omega

theorem tcommit_p (h : TwoP b c w B C hp tp hq tq) {vc : Value} {cs : List Change} (hc : RdS Change.enc 3 b w vc cs) (hk : ∀ c ∈ cs, c.k.size ≤ 9223372036854775807) (hl : hp.flatten.length + cs.length ≤ 1000000) (hl2 : hp.length ≤ 1000000) :
    Calls Try.prog 11 #[.pointer (some ⟨B, 0, none⟩), vc] w
      fun e w' => (∃ a r, e = .returned (.tuple #[.int .u32 a, .int .i64 r])) ∧ TwoP b c w' B C (if cs.all okChange then hp ++ [cs] else hp) tp hq tq ∧ PStep b w w' := by
  obtain ⟨U, V, h⟩ := h
  have hU : PastU b (fun i => U i ∨ w.heap.size ≤ i) w B hp tp := h.p.mono fun i hi => .inl hi
  obtain ⟨M, n, D, H, hP, h1, h2, h3⟩ := hU
  refine (pcommit_U hP h1 h2 h3 (fun i hi => .inr hi) hc hk hl hl2).mono ?_
  rintro e w' ⟨hor, hps⟩
  have hQ : PastU c V w' C hq tq := h.q.same fun i hi => hps.block i (h.ltq i hi) (.inr fun hn => hn.elim (fun hu => h.apart i hu hi) fun hge => by have := h.ltq i hi; omega)
  have key : ∀ hp', PastU b (fun i => U i ∨ w.heap.size ≤ i) w' B hp' tp → TwoP b c w' B C hp' tp hq tq := fun hp' hP' =>
    ⟨_, V, hP'.bound, hQ, fun i hi hj => hi.1.elim (fun hu => h.apart i hu hj) fun hge => by have := h.ltq i hj; omega, fun i hi => hi.2.2, fun i hi => by have := h.ltq i hi; have := hps.size; omega⟩
  rcases hor with ⟨ha, rfl, hP'⟩ | ⟨ha, rfl, hP'⟩
  · rw [ha]
    exact ⟨⟨_, _, rfl⟩, key _ hP', hps.step⟩
  · rw [ha]
    exact ⟨⟨_, _, rfl⟩, key _ hP', hps.step⟩

theorem ttrim_p (h : TwoP b c w B C hp tp hq tq) (at' : Nat) (hl : hp.flatten.length ≤ 1000000) (h1 : tp ≤ at') (h2 : at' ≤ hp.length) :
    Calls Try.prog 10 #[.pointer (some ⟨B, 0, none⟩), .int .u32 at'] w
      fun e w' => e = .returned (.int .i64 0) ∧ TwoP b c w' B C hp at' hq tq ∧ PStep b w w' := by
  obtain ⟨U, V, h⟩ := h
  have hU : PastU b (fun i => U i ∨ w.heap.size ≤ i) w B hp tp := h.p.mono fun i hi => .inl hi
  obtain ⟨M, n, D, H, hP, g1, g2, g3⟩ := hU
  refine (ptrim_U hP g1 g2 g3 (fun i hi => .inr hi) at' hl h1 h2).mono ?_
  rintro e w' ⟨rfl, hP', hps⟩
  have hQ : PastU c V w' C hq tq := h.q.same fun i hi => hps.block i (h.ltq i hi) (.inr fun hn => hn.elim (fun hu => h.apart i hu hi) fun hge => by have := h.ltq i hi; omega)
  exact ⟨rfl, ⟨_, V, hP'.bound, hQ, fun i hi hj => hi.1.elim (fun hu => h.apart i hu hj) fun hge => by have := h.ltq i hj; omega, fun i hi => hi.2.2, fun i hi => by have := h.ltq i hi; have := hps.size; omega⟩, hps.step⟩
end

end Go.Proofs.Ytimadkbdkdeepaa
