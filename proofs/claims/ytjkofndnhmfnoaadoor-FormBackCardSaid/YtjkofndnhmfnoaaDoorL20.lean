/-
  A box of an array whose row grows by append: what holds behind each step (Bx). For FormBack (package anamnesislaw05).
-/
import Derived.Test.YtjkofndnhmfnoaaDoorL18
import Derived.Deep.AppendLies
import Derived.Deep.RegionLaw
namespace Go.Proofs.YtjkofndnhmfnoaaDoor
open Go Go.RowKit

theorem ownsRow_heap {w w' : World} (hh : w'.heap = w.heap) {base : Nat} {e : TypeId} {size : Nat} {v : Value} {n : Nat} {xs : List Value} (h : w.ownsRow base e size v n xs) : w'.ownsRow base e size v n xs := by
  refine ⟨h.1, h.2.imp id ?_⟩
  rintro ⟨g, cap, cur, rfl, h1, h2, h3⟩
  exact ⟨g, cap, cur, rfl, h1, by rw [hh]; exact h2, h3⟩
/-- A box at block b holds cs; a row that the call owns, behind the world w0, holds xs; else nothing that was there has changed. -/
structure Bx (w0 w : World) (b : Nat) (cs : Array Value) (e : TypeId) (gv : Value) (xs : List Value) : Prop where
  old : b < w0.heap.size
  box : w.heap[b]? = some (.cells cs 27 (0, 0))
  own : w.ownsRow w0.heap.size e 1 gv xs.length xs
  chg : Chg (fun j => j = b) w0 w
theorem Bx.drewN {w0 w : World} {b : Nat} {cs : Array Value} {e : TypeId} {gv : Value} {xs : List Value} (h : Bx w0 w b cs e gv xs) (n : Nat) : Bx w0 (w.drewN n) b cs e gv xs :=
  ⟨h.old, h.box, ownsRow_heap rfl h.own, h.chg.drewN n⟩
theorem Bx.ne {w0 w : World} {b : Nat} {cs : Array Value} {e : TypeId} {gv : Value} {xs : List Value} (h : Bx w0 w b cs e gv xs) : some b ≠ gv.ownBlock := by
  intro he
  have := World.ownsRow.lt h.own b he.symm
  have := h.old
  omega
/-- The box's cell and its leave to be written, behind a new block and behind append. -/
theorem Bx.far {w0 w wb w3 : World} {b k : Nat} {cs : Array Value} {e : TypeId} {gv u : Value} {xs : List Value} {o : Obj} (h : Bx w0 w b cs e gv xs) (hk : cs[k]? = some u) (hwb : wb.heap = (w.alloc o).heap) (hg : wb.grownBy w3 gv.ownBlock) :
    w3.frozen? ⟨b, k, none⟩ = false ∧ w3.cell? ⟨b, k, none⟩ = some u := by
  have hlt : b < w.heap.size := Nat.lt_of_lt_of_le h.old h.chg.size
  have hzb : wb.heap.size = w.heap.size + 1 := by rw [hwb]; simp
  have hbb : wb.heap[b]? = some (.cells cs 27 (0, 0)) := by rw [hwb, Below.heap_alloc w _ b hlt]; exact h.box
  rw [hg.frozen_far _ (by simp; omega) h.ne, hg.cell_far _ (by simp; omega) h.ne]
  refine ⟨by unfold World.frozen?; rw [hbb]; rfl, ?_⟩
  rw [cell_of_row wb b k _ _ _ hbb]
  exact hk
theorem heap_set_same {w : World} {b k : Nat} {cs : Array Value} {t : TypeId} (h : w.heap[b]? = some (.cells cs t (0, 0))) (v : Value) : (w.setCell ⟨b, k, none⟩ v).heap[b]? = some (.cells (cs.setIfInBounds k v) t (0, 0)) := heap_setCell_same w b k cs t v h
theorem Bx.step {w0 w wb w3 w4 : World} {b k : Nat} {cs : Array Value} {e : TypeId} {gv x : Value} {xs : List Value} {g cap : Nat} {o : Obj} (h : Bx w0 w b cs e gv xs)
    (hwb : wb.heap = (w.alloc o).heap) (ht : wb.tape = w.tape) (hos : wb.os = w.os) (hou : wb.output = w.output) (hg : wb.grownBy w3 gv.ownBlock)
    (hown : w3.ownsRow w0.heap.size e 1 (.slice (some ⟨g, 0, none⟩) (xs.length + 1) cap) (xs.length + 1) (xs ++ [x]))
    (hw4 : w4.heap = (w3.setCell ⟨b, k, none⟩ (.slice (some ⟨g, 0, none⟩) (xs.length + 1) cap)).heap) (ht4 : w4.tape = w3.tape) (hos4 : w4.os = w3.os) (hou4 : w4.output = w3.output) :
    Bx w0 w4 b (cs.setIfInBounds k (.slice (some ⟨g, 0, none⟩) (xs.length + 1) cap)) e (.slice (some ⟨g, 0, none⟩) (xs.length + 1) cap) (xs ++ [x]) := by
  have hlt : b < w.heap.size := Nat.lt_of_lt_of_le h.old h.chg.size
  have hz := h.chg.size
  have hzb : wb.heap.size = w.heap.size + 1 := by rw [hwb]; simp
  have hbb : wb.heap[b]? = some (.cells cs 27 (0, 0)) := by rw [hwb, Below.heap_alloc w _ b hlt]; exact h.box
  have hblk : ∀ j, j < w0.heap.size → w3.heap[j]? = wb.heap[j]? := fun j hj => hg.block j (by omega) (fun he => by
    have := World.ownsRow.lt h.own j he.symm
    omega)
  have h3b : w3.heap[b]? = some (.cells cs 27 (0, 0)) := (hblk b h.old).trans hbb
  have hgne : g ≠ b := by
    rcases hown.2 with ⟨he, _⟩ | ⟨g', _, _, he, h1, _⟩
    · cases he
    · injection he with he _ _
      injection he with he
      injection he with he _ _
      have := h.old
      omega
  have hset : ∀ j, j ≠ b → (w3.setCell ⟨b, k, none⟩ (.slice (some ⟨g, 0, none⟩) (xs.length + 1) cap)).heap[j]? = w3.heap[j]? := fun j hj => Below.heap_setCell _ _ _ _ (by simp; exact hj)
  refine ⟨h.old, ?_, ?_, ?_⟩
  · rw [hw4]
    exact heap_set_same h3b _
  · rw [List.length_append, List.length_singleton]
    refine ownsRow_heap hw4 ⟨hown.1, hown.2.imp id ?_⟩
    rintro ⟨g', cap', cur, he, h1, h2, h3⟩
    refine ⟨g', cap', cur, he, h1, ?_, h3⟩
    rw [hset g' (by have := h.old; omega)]
    exact h2
  · refine ⟨?_, ?_, ?_, ?_, ?_⟩
    · rw [hos4, hg.os, hos]; exact h.chg.os
    · rw [ht4, hg.tape, ht]; exact h.chg.tape
    · rw [hou4, hg.output, hou]; exact h.chg.output
    · have h1 := hg.size
      have h2 : (w3.setCell ⟨b, k, none⟩ (.slice (some ⟨g, 0, none⟩) (xs.length + 1) cap)).heap.size = w3.heap.size := by simp [World.setCell]
      rw [hw4, h2]
      omega
    · intro j hj hn
      rw [hw4, hset j hn, hblk j hj, hwb, Below.heap_alloc w _ j (by omega)]
      exact h.chg.block j hj hn
end Go.Proofs.YtjkofndnhmfnoaaDoor
