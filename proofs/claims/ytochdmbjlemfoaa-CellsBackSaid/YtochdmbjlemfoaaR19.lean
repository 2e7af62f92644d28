/-
  A list of layer 19's acts as an argument: its cells.
-/
import Derived.Test.YtochdmbjlemfoaaR
import Derived.Test.YtochdmbjlemfoaaC9
namespace Go.Proofs.Ytochdmbjlemfoaa
open Go Go.ChangeShapes Go.WideShapes Go.ChangeAt Go.RowKit

theorem cellsAct19 : Try.prog.cellsOf 91 = 3 := by kernel_rfl
section
variable {H : Type} {enc : TypeId × Value → H} {w : World} {sp : Nat → Bool} {held : Bool}
set_option maxRecDepth 100000 in
theorem a19_of_trod {fuel : Nat} {cs : List Value} {x : DataW H × List MemPlace} (h : DataW.trod enc Try.prog w 0 sp held fuel 91 cs = some x) : ∃ a : A19, cs = a.cells ∧ a.ok := by
  obtain ⟨hl, n, hf⟩ := struct_fields Try.underlying91 h
  rw [cellsAct19] at hl
  match cs, hl with
  | [c0, c1, c2], _ =>
    obtain ⟨y0, h0⟩ := hf 0 5 0 rfl
    obtain ⟨y1, h1⟩ := hf 1 9 1 rfl
    obtain ⟨y2, h2⟩ := hf 2 2 2 rfl
    simp only [cellsU8, cellsString, cellsInt64, List.drop_zero, List.take_succ_cons, List.take_zero, List.drop_succ_cons] at h0 h1 h2
    obtain ⟨d, e0, -, w0⟩ := DataW.trod_int Try.underlying5 h0
    obtain ⟨k, e1, -, w1⟩ := DataW.trod_string Try.underlying9 h1
    obtain ⟨z, e2, -, w2⟩ := DataW.trod_int Try.underlying2 h2
    simp only [List.cons.injEq, and_true] at e0 e1 e2
    subst e0 e1 e2
    have b0 := bounds_u8 w0
    obtain ⟨d, rfl⟩ : ∃ z : Nat, d = (z : Int) := ⟨d.toNat, by omega⟩
    exact ⟨⟨d, k, z⟩, rfl, by show d < 256; omega, w1, bounds_i64 w2⟩
theorem A19.one (a : A19) : ∀ u ∈ a.cells, u.oneCell' = true := by
  unfold A19.cells
  simp [Value.oneCell']
theorem acts19_of_trod {fuel : Nat} {cs : List Value} {x : DataW H × List MemPlace} (h : DataW.trod enc Try.prog w 0 sp held fuel 83 cs = some x) :
    ∃ A n c l, cs = [.slice A n c] ∧ Rd w (Old w) 3 A n c (a19Rows l) ∧ ∀ a ∈ l, a.ok := by
  obtain ⟨A, m, c, es, k, e3, hr, hi⟩ := rd_of_trod Try.underlying83 cellsAct19 (by decide) (fun n cs' y hy u hu => by
    obtain ⟨a, rfl, _⟩ := a19_of_trod hy
    exact a.one u hu) h
  obtain ⟨l, hl, hli⟩ := say_all (Q := fun e (a : A19) => e = a.cells ∧ a.ok) es (fun i e he => by
    obtain ⟨y, hy⟩ := hi i e he
    exact a19_of_trod hy)
  have hes : es = a19Rows l := by
    apply List.ext_getElem?
    intro i
    unfold a19Rows
    rw [List.getElem?_map]
    by_cases hlt : i < es.length
    · have h1 := List.getElem?_eq_getElem hlt
      have h2 := List.getElem?_eq_getElem (l := l) (i := i) (by omega)
      rw [h1, h2, (hli i _ _ h1 h2).1]
      rfl
    · rw [List.getElem?_eq_none (by omega), List.getElem?_eq_none (by omega)]
      rfl
  subst hes
  refine ⟨A, m, c, l, e3, hr, fun g hg => ?_⟩
  obtain ⟨i, hi⟩ := List.mem_iff_getElem?.1 hg
  have hlt := (List.getElem?_eq_some_iff.1 hi).1
  exact (hli i _ g (List.getElem?_eq_getElem (by omega)) hi).2
end
end Go.Proofs.Ytochdmbjlemfoaa
