/-
  Plain words on memory, used by all texts of this seat: which blocks may change between two worlds (Chg), and what a slice of structs reads as, row by row (Rd). Nothing is conditioned.
-/
import Derived.WalkKit
import Derived.Deep.Draws
import Derived.Maps.AppendAt
namespace Go.Proofs.YtjkofndnhmfnoaaDoor
open Go Go.RowKit

/-- Between the two worlds only blocks of S, and new ones, have changed. -/
structure Chg (S : Nat → Prop) (w w' : World) : Prop where
  os : w'.os = w.os
  tape : w'.tape = w.tape
  output : w'.output = w.output
  size : w.heap.size ≤ w'.heap.size
  block : ∀ k, k < w.heap.size → ¬ S k → w'.heap[k]? = w.heap[k]?

theorem Chg.refl (S : Nat → Prop) (w : World) : Chg S w w := ⟨rfl, rfl, rfl, Nat.le_refl _, fun _ _ _ => rfl⟩
theorem Chg.trans {S : Nat → Prop} {a b c : World} (h : Chg S a b) (k : Chg S b c) : Chg S a c :=
  ⟨k.os.trans h.os, k.tape.trans h.tape, k.output.trans h.output, Nat.le_trans h.size k.size, fun i hi hn => (k.block i (Nat.lt_of_lt_of_le hi h.size) hn).trans (h.block i hi hn)⟩
theorem Chg.mono {S S' : Nat → Prop} {a b : World} (h : Chg S a b) (hs : ∀ k, k < a.heap.size → S k → S' k) : Chg S' a b :=
  ⟨h.os, h.tape, h.output, h.size, fun i hi hn => h.block i hi (fun hS => hn (hs i hi hS))⟩
theorem Chg.of_below {S : Nat → Prop} {a b : World} (h : Below a.heap.size a b) : Chg S a b := ⟨h.os, h.tape, h.output, h.size, fun i hi _ => h.block i hi⟩
theorem Chg.below {S : Nat → Prop} {a b : World} {B : Nat} (h : Chg S a b) (hB : B ≤ a.heap.size) (hS : ∀ k, S k → B ≤ k) : Below B a b :=
  ⟨h.os, h.tape, h.output, h.size, fun i hi => h.block i (by omega) (fun hs => by have := hS i hs; omega)⟩
theorem Chg.drew {S : Nat → Prop} {a b : World} (h : Chg S a b) : Chg S a b.drew := ⟨h.os, h.tape, h.output, h.size, h.block⟩
theorem Chg.drewN {S : Nat → Prop} {a b : World} (h : Chg S a b) (n : Nat) : Chg S a (b.drewN n) := ⟨h.os, h.tape, h.output, h.size, h.block⟩
theorem Chg.alloc {S : Nat → Prop} {a b : World} (h : Chg S a b) (o : Obj) : Chg S a (b.alloc o) :=
  ⟨h.os, h.tape, h.output, Nat.le_trans h.size (by simp), fun i hi hn => (Below.heap_alloc _ _ _ (Nat.lt_of_lt_of_le hi h.size)).trans (h.block i hi hn)⟩
theorem Chg.setCell {S : Nat → Prop} {a b : World} (h : Chg S a b) {p : Addr} (hp : S p.block ∨ a.heap.size ≤ p.block) (u : Value) : Chg S a (b.setCell p u) :=
  ⟨h.os, h.tape, h.output, by simpa [World.setCell] using h.size, fun i hi hn => (Below.heap_setCell _ _ _ _ (by
    rintro rfl
    rcases hp with hp | hp
    · exact hn hp
    · omega)).trans (h.block i hi hn)⟩
theorem Chg.cell {S : Nat → Prop} {a b : World} (h : Chg S a b) {p : Addr} {u : Value} (hc : a.cell? p = some u) (hn : ¬ S p.block) : b.cell? p = some u :=
  (World.cell?_of_block (h.block p.block (World.block_lt_of_cell? a p hc) hn)).trans hc
theorem below_drewN {B : Nat} {a w : World} (h : Below B a w) (n : Nat) : Below B a (w.drewN n) := ⟨h.os, h.tape, h.output, h.size, h.block⟩
theorem below_cell {a b : World} (h : Below a.heap.size a b) {p : Addr} {u : Value} (hc : a.cell? p = some u) : b.cell? p = some u :=
  (h.cell (World.block_lt_of_cell? a p hc)).trans hc

theorem set_other (w : World) (n : Nat) (p : Addr) (u : Value) (q : Addr) (h : q ≠ p) : ((w.drewN n).setCell p u).cell? q = w.cell? q := World.cell?_setCell_other (w.drewN n) p q u h.symm
theorem set_same (w : World) (n : Nat) (p : Addr) (u old : Value) (h : w.cell? p = some old) : ((w.drewN n).setCell p u).cell? p = some u := World.cell?_setCell_same (w.drewN n) p u h
theorem set_frozen (w : World) (n : Nat) (p : Addr) (u : Value) (q : Addr) : ((w.drewN n).setCell p u).frozen? q = w.frozen? q := by
  have := World.frozen?_setCell (w := w.drewN n) (a := p) (v := u) (b := q)
  exact this

theorem set_far {w : World} {p q : Addr} {u v : Value} (h : w.cell? q = some v) (hne : p.block ≠ q.block) : (w.setCell p u).cell? q = some v := (World.cell?_setCell_other w p q u (fun e => hne (by rw [e]))).trans h
theorem set_fz {w : World} {p q : Addr} {u : Value} {b : Bool} (h : w.frozen? q = b) : (w.setCell p u).frozen? q = b := by
  have := World.frozen?_setCell (w := w) (a := p) (v := u) (b := q)
  exact this.trans h

/-- A slice '.slice A n c' holds the rows es (each of 'size' cells), in a block of D. -/
structure Rd (w : World) (D : Nat → Prop) (size : Nat) (A : Option Addr) (n c : Nat) (es : List (List Value)) : Prop where
  len : es.length = n
  le : n ≤ c
  max : c ≤ maxLen
  rows : ∀ e ∈ es, e.length = size ∧ ∀ u ∈ e, u.oneCell' = true
  at_ : 0 < n → ∃ b off, A = some ⟨b, off, none⟩ ∧ D b ∧ ∀ i e, es[i]? = some e → ∀ k u, e[k]? = some u → w.cell? ⟨b, off + (i * size + k), none⟩ = some u

section
variable {w w' : World} {D D' S : Nat → Prop} {size n c : Nat} {A : Option Addr} {es : List (List Value)}
theorem Rd.mono (h : Rd w D size A n c es) (hD : ∀ b, b < w.heap.size → D b → D' b) (hs : 0 < size) : Rd w D' size A n c es :=
  ⟨h.len, h.le, h.max, h.rows, fun hn => by
    obtain ⟨b, off, e, hb, hc⟩ := h.at_ hn
    refine ⟨b, off, e, hD b ?_ hb, hc⟩
    have hl : 0 < es.length := by rw [h.len]; exact hn
    have h0 := List.getElem?_eq_getElem hl
    have hr := (h.rows _ (List.getElem_mem hl)).1
    have hk : 0 < es[0].length := by omega
    have := hc 0 _ h0 0 _ (List.getElem?_eq_getElem hk)
    exact World.block_lt_of_cell? w _ this⟩
theorem Rd.chg (h : Rd w D size A n c es) (hg : Chg S w w') (hD : ∀ b, D b → ¬ S b) : Rd w' D size A n c es :=
  ⟨h.len, h.le, h.max, h.rows, fun hn => by
    obtain ⟨b, off, e, hb, hc⟩ := h.at_ hn
    exact ⟨b, off, e, hb, fun i e hi k u hk => hg.cell (hc i e hi k u hk) (hD b hb)⟩⟩
theorem Rd.below (h : Rd w D size A n c es) (hg : Below w.heap.size w w') : Rd w' D size A n c es := h.chg (S := fun _ => False) (Chg.of_below hg) (fun _ _ h => h)
theorem Rd.nil (w : World) (D : Nat → Prop) (size : Nat) : Rd w D size none 0 0 [] := ⟨rfl, Nat.le_refl _, by decide, by simp, fun h => absurd h (by omega)⟩

theorem flat_len (h : ∀ e ∈ es, e.length = size) : es.flatten.length = es.length * size := by
  induction es with
  | nil => simp
  | cons e es ih =>
    rw [List.flatten_cons, List.length_append, ih (fun x hx => h x (List.mem_cons_of_mem _ hx)), h e List.mem_cons_self, List.length_cons, Nat.add_mul]
    omega
theorem flat_get (h : ∀ e ∈ es, e.length = size) {i k : Nat} {e : List Value} {u : Value} (hi : es[i]? = some e) (hk : e[k]? = some u) : es.flatten[i * size + k]? = some u := by
  induction es generalizing i with
  | nil => simp at hi
  | cons x es ih =>
    have hx := h x List.mem_cons_self
    match i, hi with
    | 0, hi =>
      simp only [List.getElem?_cons_zero, Option.some.injEq] at hi
      subst hi
      rw [List.flatten_cons, Nat.zero_mul, Nat.zero_add, List.getElem?_append_left (List.getElem?_eq_some_iff.1 hk).1]
      exact hk
    | i + 1, hi =>
      rw [List.getElem?_cons_succ] at hi
      rw [List.flatten_cons, List.getElem?_append_right (by rw [hx, Nat.add_mul]; omega), show (i + 1) * size + k - x.length = i * size + k by rw [hx, Nat.add_mul]; omega]
      exact ih (fun y hy => h y (List.mem_cons_of_mem _ hy)) hi
theorem flat_inv (h : ∀ e ∈ es, e.length = size) {j : Nat} {u : Value} (hj : es.flatten[j]? = some u) : ∃ i k e, es[i]? = some e ∧ e[k]? = some u ∧ j = i * size + k := by
  induction es generalizing j with
  | nil => simp at hj
  | cons x es ih =>
    have hx := h x List.mem_cons_self
    rw [List.flatten_cons] at hj
    rcases Nat.lt_or_ge j x.length with hlt | hge
    · rw [List.getElem?_append_left hlt] at hj
      exact ⟨0, j, x, rfl, hj, by omega⟩
    · rw [List.getElem?_append_right hge] at hj
      obtain ⟨i, k, e, hi, hk, he⟩ := ih (fun y hy => h y (List.mem_cons_of_mem _ hy)) hj
      exact ⟨i + 1, k, e, by simpa using hi, hk, by rw [Nat.add_mul]; omega⟩
theorem flat_one (h : ∀ e ∈ es, ∀ u ∈ e, u.oneCell' = true) : ∀ u ∈ es.flatten, u.oneCell' = true := by
  intro u hu
  obtain ⟨e, he, hue⟩ := List.mem_flatten.1 hu
  exact h e he u hue
theorem Rd.of_own {base : Nat} {t : TypeId} {v : Value} (h : w.ownsRow base t size v n es.flatten) (hl : es.length = n) (hr : ∀ e ∈ es, e.length = size ∧ ∀ u ∈ e, u.oneCell' = true) :
    ∃ A c, v = .slice A n c ∧ Rd w (fun b => base ≤ b) size A n c es := by
  rcases h.2 with ⟨rfl, rfl⟩ | ⟨g, cap, cur, rfl, hb, hh, hnc, hcm, hcs, htk⟩
  · have : es = [] := List.eq_nil_of_length_eq_zero hl
    subst this
    exact ⟨none, 0, rfl, Rd.nil _ _ _⟩
  · refine ⟨_, _, rfl, hl, hnc, hcm, hr, fun _ => ⟨g, 0, rfl, hb, fun i e hi k u hk => ?_⟩⟩
    have hf := flat_get (fun e he => (hr e he).1) hi hk
    rw [← htk, List.getElem?_take] at hf
    split at hf
    · rw [Nat.zero_add, cell_of_row w g _ cur t (0, 0) hh]
      simpa using hf
    · cases hf
/-- The source of an append: the rows' cells, one behind the other. -/
theorem Rd.news (h : Rd w D size A n c es) {ad : Addr} (hA : A = some ad) (hn : 0 < n) : ∀ j u, es.flatten[j]? = some u → w.cell? (ad.add j) = some u := by
  intro j u hj
  obtain ⟨b, off, e, _, hc⟩ := h.at_ hn
  have e2 := hA.symm.trans e
  obtain ⟨i, k, e', hi, hk, rfl⟩ := flat_inv (fun e he => (h.rows e he).1) hj
  have := hc i e' hi k u hk
  injection e2 with e2
  rw [e2]
  unfold Addr.add
  split
  · rename_i hz
    rw [hz] at this
    simpa using this
  · exact this
end
end Go.Proofs.YtjkofndnhmfnoaaDoor
