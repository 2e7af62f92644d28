/-
  From the reading of an argument as data (DataW.trod) to what its memory holds: slices and structs of any program. Of any value that can be read.
-/
import Derived.Test.YtjkofndnhmfnoaaDoorW
import Derived.Deep.Slices
import Derived.ProofKit
namespace Go.Proofs.YtjkofndnhmfnoaaDoor
open Go Go.RowKit Go.ChangeShapes Go.WideShapes Go.Deep

/-- Old memory. -/
abbrev Old (w : World) : Nat → Prop := fun b => b < w.heap.size

theorem map_rows {α : Type} {f : α → Value} {es : List (List Value)} (h : ∀ e ∈ es, ∃ x, e = [f x]) : ∃ xs : List α, es = xs.map fun x => [f x] := by
  induction es with
  | nil => exact ⟨[], rfl⟩
  | cons e es ih =>
    obtain ⟨x, rfl⟩ := h e List.mem_cons_self
    obtain ⟨xs, rfl⟩ := ih (fun y hy => h y (List.mem_cons_of_mem _ hy))
    exact ⟨x :: xs, rfl⟩
section
variable {H : Type} {enc : TypeId × Value → H} {P : Program} {w : World} {sp : Nat → Bool} {held : Bool}

/-- A slice that can be read: its rows. 'hone': what a row of that type holds are cells. -/
theorem rd_of_trod {t e : TypeId} {size fuel : Nat} {cs : List Value} {x : DataW H × List MemPlace} (ht : P.underlying t = some (.slice e)) (hC : P.cellsOf e = size) (hs : 0 < size)
    (hone : ∀ n cs' y, DataW.trod enc P w 0 sp held n e cs' = some y → ∀ u ∈ cs', u.oneCell' = true)
    (h : DataW.trod enc P w 0 sp held fuel t cs = some x) :
    ∃ A n c es k, cs = [.slice A n c] ∧ Rd w (fun b => b < w.heap.size) size A n c es ∧ ∀ (i : Nat) e', es[i]? = some e' → ∃ y, DataW.trod enc P w 0 sp held k e e' = some y := by
  rcases open_slice ht h with ⟨rfl, _⟩ | ⟨a, len, cap, m, k, D, Pl, rfl, _, hl, hm, hmm, _, hi⟩
  · exact ⟨none, 0, 0, [], 0, rfl, Rd.nil _ _ _, by simp⟩
  · have hlm : len ≤ m := by rw [hmm]; split <;> omega
    obtain ⟨R, hR⟩ : ∃ R : Nat → List Value, ∀ i, i < len → w.cells? 0 (a.add (i * size)) size = some (R i) ∧ DataW.trod enc P w 0 sp held k e (R i) = some (D i, Pl i) := by
      rw [hC] at hi
      refine ⟨fun i => if h : i < len then (hi i (by omega)).choose else [], fun i hil => ?_⟩
      simp only [hil, dite_true]
      exact (hi i (by omega)).choose_spec
    have hget : ∀ i e', ((List.range len).map R)[i]? = some e' → i < len ∧ e' = R i := by
      intro i e' hie
      have hil : i < len := by
        have := (List.getElem?_eq_some_iff.1 hie).1
        simpa using this
      rw [List.getElem?_map, List.getElem?_range hil] at hie
      exact ⟨hil, (Option.some.inj hie).symm⟩
    refine ⟨some a, len, cap, (List.range len).map R, k, rfl, ⟨by simp, hl, hm, ?_, ?_⟩, ?_⟩
    · intro e' he'
      obtain ⟨i, hi2, rfl⟩ := List.mem_map.1 he'
      have hil : i < len := List.mem_range.1 hi2
      obtain ⟨h1, h2⟩ := hR i hil
      exact ⟨(World.cells?_some h1).2.1, hone _ _ _ h2⟩
    · intro hn
      have cellAt : ∀ i, i < len → ∀ (j : Nat) u, (R i)[j]? = some u → w.cell? ((a.add (i * size)).add j) = some u := by
        intro i hil j u hj
        obtain ⟨_, hcl, hat⟩ := World.cells?_some (hR i hil).1
        have hj' : j < size := by have := (List.getElem?_eq_some_iff.1 hj).1; omega
        rw [hat j hj']
        exact hj
      have h0 := hR 0 hn
      obtain ⟨_, hcl, hat⟩ := World.cells?_some h0.1
      have hu : (R 0)[0]? = some ((R 0)[0]'(by omega)) := List.getElem?_eq_getElem (by omega)
      have hc0 := cellAt 0 hn 0 _ hu
      rw [Nat.zero_mul] at hc0
      have ha0 : (a.add 0).add 0 = a := by simp [Addr.add]
      rw [ha0] at hc0
      obtain ⟨b, off, spot⟩ := a
      have hspot : spot = none := by
        cases spot with
        | none => rfl
        | some s =>
          unfold World.cell? at hc0
          split at hc0 <;> simp at hc0
      subst hspot
      refine ⟨b, off, rfl, World.block_lt_of_cell? w _ hc0, fun i e' hie j u hj => ?_⟩
      obtain ⟨hil, rfl⟩ := hget i e' hie
      have := cellAt i hil j u hj
      rw [Go.Deep.add_add] at this
      unfold Addr.add at this
      split at this
      · rename_i hz
        rw [hz]
        exact this
      · exact this
    · intro i e' hie
      obtain ⟨hil, rfl⟩ := hget i e' hie
      exact ⟨_, (hR i hil).2⟩
theorem struct_fields {t : TypeId} {fs : Array Field} {fuel : Nat} {cs : List Value} {x : DataW H × List MemPlace} (ht : P.underlying t = some (.struct fs)) (h : DataW.trod enc P w 0 sp held fuel t cs = some x) :
    cs.length = P.cellsOf t ∧ ∃ n, ∀ (i : Nat) (ty off : Nat), fs[i]?.map (fun f => (f.type, f.offset)) = some (ty, off) → ∃ y, DataW.trod enc P w 0 sp held n ty ((cs.drop off).take (P.cellsOf ty)) = some y := by
  obtain ⟨xs, n, _, _, hl, hxl, hf⟩ := DataW.trod_struct ht h
  refine ⟨hl, n, fun i ty off hi0 => ?_⟩
  obtain ⟨f, hi, hfo⟩ := Option.map_eq_some_iff.1 hi0
  simp only [Prod.mk.injEq] at hfo
  obtain ⟨rfl, rfl⟩ := hfo
  have hil : i < fs.size := (Array.getElem?_eq_some_iff.1 hi).1
  exact ⟨xs[i]'(by omega), by rw [hf i f hi]; exact List.getElem?_eq_getElem (by omega)⟩
end
end Go.Proofs.YtjkofndnhmfnoaaDoor
