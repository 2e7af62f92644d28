/-
  slices.Clone at []api.Entry: a new slice with the same rows. Of any slice whose bytes are at most 2^47.
-/
import Derived.Test.YtjkofndnhmfnoaaDoorProg
import Derived.Test.YtjkofndnhmfnoaaDoorW
import Derived.WalkSpells
import Derived.WalkLawsBesides
import Derived.KernelRfl
import Derived.Lib.LazyBuf
import Derived.Lib.Hide
import Derived.Outline
import Derived.Handy
namespace Go.Proofs.YtjkofndnhmfnoaaDoor
open Go Go.RowKit

theorem entInfo : (Tryd.prog.info? 129).map (fun i => (i.size, i.bytes)) = some (16, 256) := by kernel_rfl
theorem entZero : ((Tryd.prog.info? 129).bind (·.zero)).map (fun z => z.cells.size) = some 16 := by kernel_rfl
theorem entParts : ∃ i z, Tryd.prog.info? 129 = some i ∧ i.zero = some z ∧ i.size = 16 ∧ i.bytes = 256 ∧ z.cells.size = 16 := by
  have h1 := entInfo
  have h2 := entZero
  cases h : Tryd.prog.info? 129 with
  | none => rw [h] at h1; cases h1
  | some i =>
    rw [h] at h1 h2
    simp only [Option.map_some, Option.some.injEq, Prod.mk.injEq] at h1
    cases hz : i.zero with
    | none => simp [hz] at h2
    | some z => exact ⟨i, z, rfl, hz, h1.1, h1.2, by simpa [hz] using h2⟩

/-- The block of that address may be written. -/
def Wr (w : World) (A : Option Addr) : Prop := ∀ b off, A = some ⟨b, off, none⟩ → ∀ j, w.frozen? ⟨b, j, none⟩ = false

theorem own_wr {w : World} {base n c : Nat} {e : TypeId} {size : Nat} {A : Option Addr} {xs : List Value} (h : w.ownsRow base e size (.slice A n c) n xs) : Wr w A := by
  intro b off hA j
  rcases h.2 with ⟨h1, _⟩ | ⟨g, cap, cur, h1, _, hh, _⟩
  · injection h1 with h1
    rw [hA] at h1
    cases h1
  · injection h1 with h1
    rw [hA] at h1
    injection h1 with h1
    injection h1 with h1 h2
    subst h1
    exact frozen_of_row w b j cur e hh

end Go.Proofs.YtjkofndnhmfnoaaDoor
