import Derived.Test.YtanjgeacmpmjhaaGreatDoorMap
import Derived.Test.YtanjgeacmpmjhaaGreatDoorOwn
set_option linter.unusedVariables false
set_option linter.unusedSimpArgs false
namespace Go.Proofs.YtanjgeacmpmjhaaGreatDoor
open Go.RowKit

theorem insL_get {α : Type} (xs : List α) (i : Nat) (x : α) (h : i ≤ xs.length) : (insL xs i x)[i]? = some x := by
  unfold insL
  rw [List.getElem?_append_right (by simp; omega)]
  simp [show i - min i xs.length = 0 by omega]

/-- The map's row is another one from now on. -/
theorem MapAt.store {base : Nat} {w : World} {B : Nat} {v v' : Value} {ys : List Row} (ho : w.heap[B]? = some (.cells #[v, .bool true] 124 (0, 0))) (hown : Own Row.enc 2 44 base w v' ys) (hr : Rising ys) (hap : v'.ownBlock ≠ some B) (hlow : base ≤ B) (u : Value) :
    MapAt base (w.setCell ⟨B, 0, none⟩ v') B v' ys ∧ Step w (w.setCell ⟨B, 0, none⟩ v') B u u := by
  rw [setCell_eq_setRow w B 0 _ _ (0, 0) v' ho]
  have hg := grownBy_setRow w B (#[v, Value.bool true].setIfInBounds 0 v')
  exact ⟨⟨setRow_heap _ _ _ _ _ _ ho, hown.kept' hg (.inr hap), hr, hap, hlow⟩, hg.os, hg.tape, hg.output, hg.size, fun k hk hB _ => hg.block k hk (fun e => hB (by injection e)), fun _ h => .inl h⟩

theorem MapAt.value {base : Nat} {w : World} {B g n cap : Nat} {ys : List Row} (h : MapAt base w B (.slice (some ⟨g, 0, none⟩) n cap) ys) (i : Nat) (key : ByteArray) (m m' : Int) (hy : ys[i]? = some ⟨key, m⟩) (hr : Rising (ys.set i ⟨key, m'⟩)) :
    MapAt base (w.setCell ⟨g, i * 2 + 1, none⟩ (.int .u32 m')) B (.slice (some ⟨g, 0, none⟩) n cap) (ys.set i ⟨key, m'⟩) ∧ Step w (w.setCell ⟨g, i * 2 + 1, none⟩ (.int .u32 m')) B (.slice (some ⟨g, 0, none⟩) n cap) (.slice (some ⟨g, 0, none⟩) n cap) := by
  obtain ⟨h1, h2⟩ := h.own.cell row_len i ⟨key, m⟩ ⟨key, m'⟩ 1 (.int .u32 m') hy rfl (by decide)
  have hne : B ≠ g := fun e => h.apart (by rw [e]; rfl)
  refine ⟨⟨(h2 B hne).trans h.obj, h1, hr, h.apart, h.low⟩, ?_⟩
  obtain ⟨g', cap', cur, hv, _, hg, _⟩ := h.own.some_block (by have := (List.getElem?_eq_some_iff.1 hy).1; omega)
  injection hv with e1 e2 e3
  injection e1 with e1
  injection e1 with e1
  subst e1
  rw [setCell_eq_setRow w g (i * 2 + 1) cur _ (0, 0) _ hg]
  have hg' := grownBy_setRow w g (cur.setIfInBounds (i * 2 + 1) (.int .u32 m'))
  exact ⟨hg'.os, hg'.tape, hg'.output, hg'.size, fun k hk _ hv => hg'.block k hk (fun e => hv e.symm), fun _ h => .inl h⟩

theorem Step.of_grown {w w1 w3 : World} {B : Nat} {v v3 : Value} (hb : Below w.heap.size w w1) (hg : w1.grownBy w3 v.ownBlock) (hat : v3.ownBlock = v.ownBlock ∨ ∃ g, v3.ownBlock = some g ∧ w1.heap.size ≤ g) : Step w w3 B v v3 :=
  ⟨hg.os.trans hb.os, hg.tape.trans hb.tape, hg.output.trans hb.output, Nat.le_trans hb.size hg.size, fun k hk _ hv => (hg.block k (Nat.lt_of_lt_of_le hk hb.size) (fun e => hv e.symm)).trans (hb.block k hk),
    fun g e => by
      rcases hat with h | ⟨g', h, hle⟩
      · exact .inl (h ▸ e)
      · rw [h] at e; injection e with e; subst e; exact .inr (Nat.le_trans hb.size hle)⟩

set_option maxHeartbeats 400000 in
theorem set_calls {base : Nat} {w : World} {B : Nat} {v : Value} {xs : List Row} (h : MapAt base w B v xs) (hl : xs.length ≤ 1000000) (key : ByteArray) (n : Int) :
    Calls Tryz.prog 82 #[.pointer (some ⟨B, 0, none⟩), .string key, .int .u32 n] w
      fun e w' => ∃ v', e = .returned (.tuple #[]) ∧ MapAt base w' B v' (putL key n xs) ∧ Step w w' B v v' := by
  have hfind := find_calls h (by omega) key
  have hrise := putL_rising (k := key) (v := n) h.rise
  cases hget : getL key xs with
  | none =>
    have hput0 := put_at key 0 xs hget h.rise
    have hput := put_at key n xs hget h.rise
    have hrise0 := putL_rising (k := key) (v := 0) h.rise
    rw [hput0] at hrise0
    have hple := posL_le key xs
    have hset : putL key n xs = (insL xs (posL key xs) ⟨key, 0⟩).set (posL key xs) ⟨key, n⟩ := by
      rw [hput]
      unfold insL
      rw [List.set_append_right _ _ (by rw [List.length_take]; omega), List.length_take, Nat.min_eq_left hple, Nat.sub_self, List.set_cons_zero]
    have hins := insL_get xs _ (⟨key, 0⟩ : Row) hple
    have hlen := insL_length xs _ (⟨key, 0⟩ : Row) hple
    change Rising (insL xs (posL key xs) ⟨key, 0⟩) at hrise0
    rw [hset] at hrise ⊢
    clear hput hput0 hset
    have hraw := fun (w1 : World) (h1 : MapAt base w1 B v xs) => insert_calls base (posL key xs) w1.heap.size v xs ⟨key, 0⟩ (w1.alloc (.cells (Row.enc ⟨key, 0⟩).toArray 44)) (h1.own.below ((Below.refl _ w1).alloc (Nat.le_refl _) _)) hple (by omega) (alloc_at _ _) (fun e => by have := h1.own.lt _ e; omega) (by have := h1.low; have := h1.lt; simp; omega)
    generalize insL xs (posL key xs) ⟨key, 0⟩ = ys at *
    rw [hget] at hfind
    have hcalls : ∀ w1 : World, MapAt base w1 B v xs → Calls Tryz.prog 180 #[v, .int .i64 (posL key xs), .slice (some ⟨w1.heap.size, 0, none⟩) 1 1] (w1.alloc (.cells (Row.enc ⟨key, 0⟩).toArray 44)) fun e w3 =>
      ∃ g cap, e = .returned (.slice (some ⟨g, 0, none⟩) ys.length cap) ∧ ys.length ≤ cap ∧ cap ≤ maxLen ∧ w3.cell? ⟨B, 0, none⟩ = some v ∧ w3.frozen? ⟨B, 0, none⟩ = false ∧ w3.cell? ⟨g, posL key xs * 2 + 1, none⟩ = some (.int .u32 0) ∧ w3.frozen? ⟨g, posL key xs * 2 + 1, none⟩ = false ∧ g ≠ B ∧
      MapAt base (w3.setCell ⟨B, 0, none⟩ (.slice (some ⟨g, 0, none⟩) ys.length cap)) B (.slice (some ⟨g, 0, none⟩) ys.length cap) ys ∧ Step w1 (w3.setCell ⟨B, 0, none⟩ (.slice (some ⟨g, 0, none⟩) ys.length cap)) B v (.slice (some ⟨g, 0, none⟩) ys.length cap) := by
      intro w1 h1
      refine (hraw w1 h1).mono ?_
      rintro e w3 ⟨v3, rfl, own3, gr3, hat3⟩
      obtain ⟨g, cap, cur, rfl, hcap, hcm, hg3, hx3⟩ := own3.lies row_len _ _ hins
      have hlt1 := h1.lt
      have hgB : g ≠ B := fun e => by
        subst e
        rcases hat3 with e | ⟨g', e, hle⟩
        · exact h1.apart (e ▸ rfl)
        · injection e with e
          subst e
          simp at hle
          omega
      have hb1 : Below w1.heap.size w1 (w1.alloc (.cells (Row.enc ⟨key, 0⟩).toArray 44)) := (Below.refl _ w1).alloc (Nat.le_refl _) _
      have s3 : Step w1 w3 B v (.slice (some ⟨g, 0, none⟩) ys.length cap) := .of_grown hb1 gr3 hat3
      have hB3 : w3.heap[B]? = some (.cells #[v, .bool true] 124 (0, 0)) :=
        (gr3.block B (Nat.lt_of_lt_of_le hlt1 hb1.size) (fun e => h1.apart e.symm)).trans ((hb1.block B hlt1).trans h1.obj)
      obtain ⟨h4, s4⟩ := MapAt.store hB3 own3 hrise0 (fun e => hgB (by injection e)) h1.low (.slice (some ⟨g, 0, none⟩) ys.length cap)
      exact ⟨g, cap, rfl, hcap, hcm, by simp [World.cell?, hB3], by simp [World.frozen?, hB3], by simp [World.cell?, hg3, hx3 1 _ rfl], by simp [World.frozen?, hg3], hgB, h4, s3.trans s4⟩
    go_enter Tryz.func82, Tryz.ntmps82
    go_wp2_with (first
      | (go_at_call 93; refine hfind.mono ?_; rintro e w1 ⟨rfl, hb1⟩; have h1 := h.below hb1; have c0 := h1.c0; have f0 := h1.f0)
      | (go_at_call 180; refine (hcalls _ h1).mono ?_; rintro e w3 ⟨g, cap, rfl, hcap, hcm, c3, f3, c5, f5, hgB, h4, s4⟩))
    go_end0
    rw [hlen] at h4 s4
    obtain ⟨h5, s5⟩ := h4.value _ key 0 n hins hrise
    exact ⟨_, rfl, h5, (Step.of_below hb1 B v).trans (s4.trans s5)⟩
  | some u =>
    obtain ⟨hlt, ⟨x, hx, hxk, hxv⟩, hput, _⟩ := put_over key n xs u hget h.rise
    obtain ⟨xk, xv⟩ := x
    simp only at hxk hxv
    subst hxk hxv
    rw [hput] at hrise ⊢
    rw [hget] at hfind
    obtain ⟨g, cap, cur, rfl, hcap, hcm, hg, hx3⟩ := h.own.lies row_len _ _ hx
    have c5 : w.cell? ⟨g, posL xk xs * 2 + 1, none⟩ = some (.int .u32 xv) := by simp [World.cell?, hg, hx3 1 _ rfl]
    have hf5 : ∀ w1, Below w.heap.size w w1 → w1.frozen? ⟨g, posL xk xs * 2 + 1, none⟩ = false := fun w1 hb => by
      have := (hb.block g (Array.getElem?_eq_some_iff.1 hg).1).trans hg
      simp [World.frozen?, this]
    clear hput
    go_enter Tryz.func82, Tryz.ntmps82
    go_wp2_with (go_at_call 93; refine hfind.mono ?_; rintro e w1 ⟨rfl, hb1⟩; have h1 := h.below hb1; have c0 := h1.c0; have f0 := h1.f0; have c6 := Below.cell_some hb1 c5; have f6 := hf5 _ hb1)
    go_end0
    obtain ⟨h5, s5⟩ := h1.value _ xk xv n hx hrise
    exact ⟨_, rfl, h5, (Step.of_below hb1 B _).trans s5⟩

end Go.Proofs.YtanjgeacmpmjhaaGreatDoor
