/-
  Layer 21: bytes as arguments (with the ranges that a machine holds).
-/
import Derived.Test.YtjkofndnhmfnoaaR
import Derived.Test.YtjkofndnhmfnoaaQ0
import Derived.Test.YtjkofndnhmfnoaaQ
import Derived.Test.YtjkofndnhmfnoaaS0
namespace Go.Proofs.Ytjkofndnhmfnoaa
open Go Go.ChangeShapes Go.WideShapes Go.ChangeAt Go.RowKit

theorem wf_u8 {n : Int} (h : (Lit.int .u8 n).wf = true) : 0 ≤ n ∧ n ≤ 255 := by
  simp only [Lit.wf, Bool.and_eq_true, decide_eq_true_eq] at h
  have h1 : IntKind.u8.min = 0 := by decide
  have h2 : IntKind.u8.max = 255 := by decide
  exact ⟨by omega, by omega⟩

section
variable {H : Type} {enc : TypeId × Value → H} {w : World} {sp : Nat → Bool} {held : Bool}
theorem rdi_of_trod {t e : TypeId} {k : IntKind} {fuel : Nat} {cs : List Value} {x : DataW H × List MemPlace} (ht : Try.prog.underlying t = some (.slice e)) (he : Try.prog.underlying e = some (.int k)) (hC : Try.prog.cellsOf e = 1)
    (h : DataW.trod enc Try.prog w 0 sp held fuel t cs = some x) : ∃ A n c xs, cs = [.slice A n c] ∧ Rd w (Old w) 1 A n c (intRows k xs) ∧ ∀ z ∈ xs, (Lit.int k z).wf = true := by
  obtain ⟨A, n, c, es, m, rfl, hr, hi⟩ := rd_of_trod ht hC (by decide) (fun n cs' y hy u hu => by
    obtain ⟨z, rfl, _⟩ := DataW.trod_int he hy
    simp at hu; subst hu; rfl) h
  obtain ⟨xs, rfl⟩ := map_rows (f := Value.int k) (es := es) (fun e' he' => by
    obtain ⟨i, hie⟩ := List.mem_iff_getElem?.1 he'
    obtain ⟨y, hy⟩ := hi i e' hie
    obtain ⟨z, rfl, _⟩ := DataW.trod_int he hy
    exact ⟨z, rfl⟩)
  refine ⟨A, n, c, xs, rfl, hr, fun z hz => ?_⟩
  obtain ⟨i, hiz⟩ := List.mem_iff_getElem?.1 hz
  obtain ⟨y, hy⟩ := hi i [.int k z] (by simp [hiz])
  obtain ⟨z', e1, _, hw⟩ := DataW.trod_int he hy
  simp only [List.cons.injEq, and_true, Value.int.injEq, true_and] at e1
  subst e1
  exact hw
end
end Go.Proofs.Ytjkofndnhmfnoaa
