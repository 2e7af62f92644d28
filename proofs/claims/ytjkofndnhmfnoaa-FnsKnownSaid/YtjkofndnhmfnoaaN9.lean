/-
  Layer 21 (fns): a box of an array whose row grows (Bx, as in L20), slices.Compact of numbers: contract; what SetStop and SetTrace keep.
-/
import Derived.Test.YtjkofndnhmfnoaaN8
namespace Go.Proofs.Ytjkofndnhmfnoaa
open Go Go.RowKit

/-- A box at block b holds cs; a row that the call owns, behind the world w0, holds xs; else nothing that was there has changed. -/
structure Bx (w0 w : World) (b : Nat) (cs : Array Value) (e : TypeId) (gv : Value) (xs : List Value) : Prop where
  old : b < w0.heap.size
  box : w.heap[b]? = some (.cells cs 36 (0, 0))
  own : w.ownsRow w0.heap.size e 1 gv xs.length xs
  chg : Chg (fun j => j = b) w0 w
theorem Bx.drewN {w0 w : World} {b : Nat} {cs : Array Value} {e : TypeId} {gv : Value} {xs : List Value} (h : Bx w0 w b cs e gv xs) (n : Nat) : Bx w0 (w.drewN n) b cs e gv xs :=
  ⟨h.old, h.box, ownsRow_heap rfl h.own, h.chg.drewN n⟩
theorem Bx.ne {w0 w : World} {b : Nat} {cs : Array Value} {e : TypeId} {gv : Value} {xs : List Value} (h : Bx w0 w b cs e gv xs) : some b ≠ gv.ownBlock := by
  intro he
  have := World.ownsRow.lt h.own b he.symm
  have := h.old
  omega
/-- The box's cell and its leave to be written, behind a new block and behind append. -/
theorem Bx.far {w0 w wb w3 : World} {b k : Nat} {cs : Array Value} {e : TypeId} {gv u : Value} {xs : List Value} {o : Obj} (h : Bx w0 w b cs e gv xs) (hk : cs[k]? = some u) (hwb : wb.heap = (w.alloc o).heap) (hg : wb.grownBy w3 gv.ownBlock) :
    w3.frozen? ⟨b, k, none⟩ = false ∧ w3.cell? ⟨b, k, none⟩ = some u := by
  have hlt : b < w.heap.size := Nat.lt_of_lt_of_le h.old h.chg.size
  have hzb : wb.heap.size = w.heap.size + 1 := by rw [hwb]; simp
  have hbb : wb.heap[b]? = some (.cells cs 36 (0, 0)) := by rw [hwb, Below.heap_alloc w _ b hlt]; exact h.box
  rw [hg.frozen_far _ (by simp; omega) h.ne, hg.cell_far _ (by simp; omega) h.ne]
  refine ⟨by unfold World.frozen?; rw [hbb]; rfl, ?_⟩
  rw [cell_of_row wb b k _ _ _ hbb]
  exact hk
theorem heap_set_same {w : World} {b k : Nat} {cs : Array Value} {t : TypeId} (h : w.heap[b]? = some (.cells cs t (0, 0))) (v : Value) : (w.setCell ⟨b, k, none⟩ v).heap[b]? = some (.cells (cs.setIfInBounds k v) t (0, 0)) := heap_setCell_same w b k cs t v h
theorem Bx.step {w0 w wb w3 w4 : World} {b k : Nat} {cs : Array Value} {e : TypeId} {gv x : Value} {xs : List Value} {g cap : Nat} {o : Obj} (h : Bx w0 w b cs e gv xs)
    (hwb : wb.heap = (w.alloc o).heap) (ht : wb.tape = w.tape) (hos : wb.os = w.os) (hou : wb.output = w.output) (hg : wb.grownBy w3 gv.ownBlock)
    (hown : w3.ownsRow w0.heap.size e 1 (.slice (some ⟨g, 0, none⟩) (xs.length + 1) cap) (xs.length + 1) (xs ++ [x]))
    (hw4 : w4.heap = (w3.setCell ⟨b, k, none⟩ (.slice (some ⟨g, 0, none⟩) (xs.length + 1) cap)).heap) (ht4 : w4.tape = w3.tape) (hos4 : w4.os = w3.os) (hou4 : w4.output = w3.output) :
    Bx w0 w4 b (cs.setIfInBounds k (.slice (some ⟨g, 0, none⟩) (xs.length + 1) cap)) e (.slice (some ⟨g, 0, none⟩) (xs.length + 1) cap) (xs ++ [x]) := by
  have hlt : b < w.heap.size := Nat.lt_of_lt_of_le h.old h.chg.size
  have hz := h.chg.size
  have hzb : wb.heap.size = w.heap.size + 1 := by rw [hwb]; simp
  have hbb : wb.heap[b]? = some (.cells cs 36 (0, 0)) := by rw [hwb, Below.heap_alloc w _ b hlt]; exact h.box
  have hblk : ∀ j, j < w0.heap.size → w3.heap[j]? = wb.heap[j]? := fun j hj => hg.block j (by omega) (fun he => by
    have := World.ownsRow.lt h.own j he.symm
    omega)
  have h3b : w3.heap[b]? = some (.cells cs 36 (0, 0)) := (hblk b h.old).trans hbb
  have hgne : g ≠ b := by
    rcases hown.2 with ⟨he, _⟩ | ⟨g', _, _, he, h1, _⟩
    · cases he
    · injection he with he _ _
      injection he with he
      injection he with he _ _
      have := h.old
      omega
  have hset : ∀ j, j ≠ b → (w3.setCell ⟨b, k, none⟩ (.slice (some ⟨g, 0, none⟩) (xs.length + 1) cap)).heap[j]? = w3.heap[j]? := fun j hj => Below.heap_setCell _ _ _ _ (by simp; exact hj)
  refine ⟨h.old, ?_, ?_, ?_⟩
  · rw [hw4]
    exact heap_set_same h3b _
  · rw [List.length_append, List.length_singleton]
    refine ownsRow_heap hw4 ⟨hown.1, hown.2.imp id ?_⟩
    rintro ⟨g', cap', cur, he, h1, h2, h3⟩
    refine ⟨g', cap', cur, he, h1, ?_, h3⟩
    rw [hset g' (by have := h.old; omega)]
    exact h2
  · refine ⟨?_, ?_, ?_, ?_, ?_⟩
    · rw [hos4, hg.os, hos]; exact h.chg.os
    · rw [ht4, hg.tape, ht]; exact h.chg.tape
    · rw [hou4, hg.output, hou]; exact h.chg.output
    · have h1 := hg.size
      have h2 : (w3.setCell ⟨b, k, none⟩ (.slice (some ⟨g, 0, none⟩) (xs.length + 1) cap)).heap.size = w3.heap.size := by simp [World.setCell]
      rw [hw4, h2]
      omega
    · intro j hj hn
      rw [hw4, hset j hn, hblk j hj, hwb, Below.heap_alloc w _ j (by omega)]
      exact h.chg.block j hj hn

theorem compactVals (base : Nat) (v : Value) (zs : List Int) (w : World) (hl : zs.length ≤ 1000) (h : w.ownsRow base 3 1 v zs.length (zs.map (Value.int .i64))) :
    Calls Try.prog 42 #[v] w fun e w' => ∃ v', e = .returned v' ∧ w'.ownsRow base 3 1 v' (Lib.compact zs).length ((Lib.compact zs).map (Value.int .i64)) ∧ ∀ w0 : World, w0.heap.size = base → Below base w0 w → Below base w0 w' := by
  rcases h.2 with ⟨rfl, hz⟩ | ⟨gb, cap, cur, rfl, hbase, hgb, r1, r2, r3, r4⟩
  · have hzs : zs = [] := List.eq_nil_of_length_eq_zero hz
    subst hzs
    refine (Try.slices_Compact_int_empty none 0 w).mono ?_
    rintro e w' ⟨rfl, rfl⟩
    exact ⟨_, rfl, ⟨rfl, .inl ⟨rfl, rfl⟩⟩, fun w0 _ hb => hb⟩
  · have hH : Go.Sort.Holds (Value.int .i64) w gb 0 zs.toArray := holds_of_block_i hgb (by simpa using r4)
    have hcl := Lib.compact_length_le zs
    refine (Try.slices_Compact_int gb 0 cap zs w hH (by omega) r1).mono ?_
    rintro e w' ⟨rfl, q, rfl⟩
    obtain ⟨ts, hts⟩ : ∃ ts, ts = Lib.compact zs ++ List.replicate (zs.length - (Lib.compact zs).length) 0 := ⟨_, rfl⟩
    have htl : ts.length = zs.length := by rw [hts]; simp; omega
    rw [← hts]
    have hcell : (Go.Sort.putRow (Value.int .i64) (Go.Sort.ahead w q) gb 0 ts.toArray).heap[gb]? = some (.cells (Go.Sort.putCells (Value.int .i64) 0 ts.toArray cur) 3 (0, 0)) := by
      simp [Go.Sort.putRow, Go.Sort.mapBlock, Go.Sort.ahead, Array.getElem?_modify, hgb, Go.Sort.onCells]
    have htk : (Go.Sort.putCells (Value.int .i64) 0 ts.toArray cur).toList.take ts.length = ts.map (Value.int .i64) := take_putCells_i cur ts (by omega)
    have htk2 : (Go.Sort.putCells (Value.int .i64) 0 ts.toArray cur).toList.take ((Lib.compact zs).length * 1) = (Lib.compact zs).map (Value.int .i64) := by
      have h2 : (Go.Sort.putCells (Value.int .i64) 0 ts.toArray cur).toList.take (Lib.compact zs).length = ((Go.Sort.putCells (Value.int .i64) 0 ts.toArray cur).toList.take ts.length).take (Lib.compact zs).length := by
        rw [List.take_take, Nat.min_eq_left (by omega)]
      rw [Nat.mul_one, h2, htk, hts]
      simp
    have hg : w.grownBy (Go.Sort.putRow (Value.int .i64) (Go.Sort.ahead w q) gb 0 ts.toArray) (some gb) := by
      refine ⟨rfl, rfl, rfl, by simp, fun k hk hne => ?_⟩
      have : gb ≠ k := fun e => hne (by rw [e])
      simp [Go.Sort.putRow, Go.Sort.mapBlock, Go.Sort.ahead, Array.getElem?_modify, this]
    exact ⟨_, rfl, ⟨by simp, .inr ⟨gb, cap, _, rfl, hbase, hcell, by omega, r2, by simp [Go.Sort.putCells, r3], htk2⟩⟩, fun w0 h0 hb => by
      subst h0
      exact hb.grown hg hb.size (fun j hj => by cases hj; exact hbase)⟩
theorem i64Info21 : (Try.prog.info? 2).map (fun i => (i.zero, i.size, i.bytes)) = some (some (.int .i64 0), 1, 8) := by kernel_rfl
theorem i64Parts21 : ∃ i, Try.prog.info? 2 = some i ∧ i.zero = some (.int .i64 0) ∧ i.size = 1 ∧ i.bytes = 8 := by
  have h1 := i64Info21
  cases h : Try.prog.info? 2 with
  | none => rw [h] at h1; cases h1
  | some i => rw [h] at h1; simp only [Option.map_some, Option.some.injEq, Prod.mk.injEq] at h1; exact ⟨i, rfl, h1.1, h1.2.1, h1.2.2⟩
/-- The lines that are kept: sorted, each once. -/
def uniq21 (zs : List Int) : List Int := Lib.compact (rising21 zs)
def lineT (zs : List Int) : TD := ⟨1, ⟨false, [(zs.length : Int)], zs⟩, fz, [], 0, ⟨#[]⟩⟩
end Go.Proofs.Ytjkofndnhmfnoaa
