/-
  Things, lists of cells and of entries as arguments: how they read, and that their keys are texts that a machine holds.
-/
import Derived.Test.YtochdmbjlemfoaaR
import Derived.Test.YtochdmbjlemfoaaS5
namespace Go.Proofs.Ytochdmbjlemfoaa
open Go Go.ChangeShapes Go.WideShapes Go.ChangeAt Go.RowKit

theorem cellsCell : Try.prog.cellsOf 67 = 15 := by kernel_rfl
section
variable {H : Type} {enc : TypeId × Value → H} {w : World} {sp : Nat → Bool} {held : Bool}
theorem CellIs.one {D : Nat → Prop} {cs : List Value} {v : CD} (h : CellIs w D cs v) : ∀ u ∈ cs, u.oneCell' = true := by
  obtain ⟨ts, rfl, ht⟩ := h
  have h1 := ht.one
  intro u hu
  simp only [List.mem_append, List.mem_cons, List.not_mem_nil, or_false] at hu
  rcases hu with h | h
  · subst h; rfl
  · exact h1 u h
set_option maxRecDepth 100000 in
theorem cell_of_trod {fuel : Nat} {cs : List Value} {x : DataW H × List MemPlace} (h : DataW.trod enc Try.prog w 0 sp held fuel 67 cs = some x) : ∃ v, CellIs w (Old w) cs v ∧ v.key.size ≤ maxLen := by
  obtain ⟨hl, n, hf⟩ := struct_fields Try.underlying67 h
  rw [cellsCell] at hl
  match cs, hl with
  | [c0, c1, c2, c3, c4, c5, c6, c7, c8, c9, c10, c11, c12, c13, c14], _ =>
    obtain ⟨y0, h0⟩ := hf 0 9 0 rfl
    obtain ⟨y1, h1⟩ := hf 1 45 1 rfl
    simp only [cellsString, cellsThing, List.drop_zero, List.take_succ_cons, List.take_zero, List.drop_succ_cons] at h0 h1
    obtain ⟨s, e0, -, hs⟩ := DataW.trod_string Try.underlying9 h0
    obtain ⟨T, hT⟩ := tis_of_trod h1
    simp only [List.cons.injEq, and_true] at e0
    subst e0
    exact ⟨⟨s, T⟩, ⟨_, rfl, hT⟩, hs⟩
set_option maxRecDepth 100000 in
theorem entk_of_trod {fuel : Nat} {cs : List Value} {x : DataW H × List MemPlace} (h : DataW.trod enc Try.prog w 0 sp held fuel 47 cs = some x) : ∃ v, EntIs w (Old w) cs v ∧ v.key.size ≤ maxLen := by
  obtain ⟨hl, n, hf⟩ := struct_fields Try.underlying47 h
  rw [cellsEntry] at hl
  match cs, hl with
  | [c0, c1, c2, c3, c4, c5, c6, c7, c8, c9, c10, c11, c12, c13, c14, c15], _ =>
    obtain ⟨y0, h0⟩ := hf 0 9 0 rfl
    obtain ⟨y1, h1⟩ := hf 1 45 1 rfl
    obtain ⟨y2, h2⟩ := hf 2 4 15 rfl
    simp only [cellsString, cellsThing, cellsBool, List.drop_zero, List.take_succ_cons, List.take_zero, List.drop_succ_cons] at h0 h1 h2
    obtain ⟨s, e0, -, hs⟩ := DataW.trod_string Try.underlying9 h0
    obtain ⟨T, hT⟩ := tis_of_trod h1
    obtain ⟨b, e2, _⟩ := DataW.trod_bool Try.underlying4 h2
    simp only [List.cons.injEq, and_true] at e0 e2
    subst e0 e2
    exact ⟨⟨s, T, b⟩, ⟨_, rfl, hT⟩, hs⟩
theorem all_in {α : Type} {Q : List Value → α → Prop} {R : α → Prop} {es : List (List Value)} {l : List α} (hl : es.length = l.length) (h : ∀ (i : Nat) e v, es[i]? = some e → l[i]? = some v → Q e v ∧ R v) : (∀ (i : Nat) e v, es[i]? = some e → l[i]? = some v → Q e v) ∧ ∀ v ∈ l, R v :=
  ⟨fun i e v a b => (h i e v a b).1, fun v hv => by
    obtain ⟨i, hi⟩ := List.mem_iff_getElem?.1 hv
    have hlt := (List.getElem?_eq_some_iff.1 hi).1
    exact (h i _ v (List.getElem?_eq_getElem (by omega)) hi).2⟩
theorem cells_of_trod {fuel : Nat} {cs : List Value} {x : DataW H × List MemPlace} (h : DataW.trod enc Try.prog w 0 sp held fuel 60 cs = some x) :
    ∃ A n c es L, cs = [.slice A n c] ∧ Rd w (Old w) 15 A n c es ∧ CellsAre w (Old w) es L ∧ ∀ v ∈ L, v.key.size ≤ maxLen := by
  obtain ⟨A, m, c, es, k, e3, hr, hi⟩ := rd_of_trod Try.underlying60 cellsCell (by decide) (fun n cs' y hy => (cell_of_trod hy).choose_spec.1.one) h
  obtain ⟨l, hl, hli⟩ := say_all (Q := fun e v => CellIs w (Old w) e v ∧ v.key.size ≤ maxLen) es (fun i e he => by
    obtain ⟨y, hy⟩ := hi i e he
    exact cell_of_trod hy)
  obtain ⟨h1, h2⟩ := all_in hl hli
  exact ⟨A, m, c, es, l, e3, hr, ⟨hl, h1⟩, h2⟩
theorem entks_of_trod {fuel : Nat} {cs : List Value} {x : DataW H × List MemPlace} (h : DataW.trod enc Try.prog w 0 sp held fuel 24 cs = some x) :
    ∃ A n c es L, cs = [.slice A n c] ∧ Rd w (Old w) 16 A n c es ∧ EntsAre w (Old w) es L ∧ ∀ v ∈ L, v.key.size ≤ maxLen := by
  obtain ⟨A, m, c, es, k, e3, hr, hi⟩ := rd_of_trod Try.underlying24 cellsEntry (by decide) (fun n cs' y hy => (ent_of_trod hy).choose_spec.one) h
  obtain ⟨l, hl, hli⟩ := say_all (Q := fun e v => EntIs w (Old w) e v ∧ v.key.size ≤ maxLen) es (fun i e he => by
    obtain ⟨y, hy⟩ := hi i e he
    exact entk_of_trod hy)
  obtain ⟨h1, h2⟩ := all_in hl hli
  exact ⟨A, m, c, es, l, e3, hr, ⟨hl, h1⟩, h2⟩
set_option maxRecDepth 100000 in
/-- A thing as an argument. -/
theorem arg_thing {W : World} {base : Nat} {r : Reach} {v : Value} {d : DataW H} {p : List MemPlace} (hv : Value.okWide Try.prog W r base 45 v) (h : DataW.Trod enc Try.prog W 0 (fun _ => true) true 45 v d p) :
    ∃ ts t, v = .agg (List.toArray ts) ∧ TIs W (Old W) ts t := by
  obtain ⟨cs, rfl, -⟩ := okWide_struct Try.underlying45 hv
  obtain ⟨fuel, hf⟩ := h
  obtain ⟨t, ht⟩ := tis_of_trod hf
  exact ⟨_, t, rfl, ht⟩
end
end Go.Proofs.Ytochdmbjlemfoaa
