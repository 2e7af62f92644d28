/-
  Lists of lists of cells and of entries that a call has made (for CellsBack): plain words on memory.
-/
import Derived.Test.YtochdmbjlemfoaaC29
namespace Go.Proofs.Ytochdmbjlemfoaa
open Go Go.RowKit Go.Maps

theorem Since.same {s0 : S19} {K : List ByteArray} {T T' : ByteArray → TD} {G : List ED} (h : Since s0 ⟨K, T, G⟩) (ht : ∀ x ∈ K, T' x = T x) : Since s0 ⟨K, T', G⟩ :=
  ⟨h.rise, h.uniq, h.had, h.was, h.keys, fun x hx h0 => (ht x ((h.keys x hx).2 h0)).trans (h.rest x hx h0)⟩
theorem snoc_both {α β : Type} {R : α → β → Prop} {vs : List α} {L : List β} (h : vs.length = L.length ∧ ∀ (i : Nat) v s, vs[i]? = some v → L[i]? = some s → R v s) {v : α} {s : β} (hr : R v s) :
    (vs ++ [v]).length = (L ++ [s]).length ∧ ∀ (i : Nat) v' s', (vs ++ [v])[i]? = some v' → (L ++ [s])[i]? = some s' → R v' s' := by
  refine ⟨by simp [h.1], fun i v' s' h1 h2 => ?_⟩
  by_cases hi : i < vs.length
  · rw [List.getElem?_append_left hi] at h1
    rw [List.getElem?_append_left (by rw [← h.1]; exact hi)] at h2
    exact h.2 i v' s' h1 h2
  · rw [List.getElem?_append_right (by omega)] at h1
    rw [List.getElem?_append_right (by rw [← h.1]; omega)] at h2
    by_cases h0 : i - vs.length = 0
    · rw [h0] at h1
      rw [← h.1, h0] at h2
      simp only [List.getElem?_cons_zero, Option.some.injEq] at h1 h2
      subst h1 h2
      exact hr
    · rw [List.getElem?_eq_none (by simp; omega)] at h1
      cases h1
/-- A row of lists of cells. -/
def ListsC (w : World) (P : Nat → Prop) (vs : List Value) (L : List S19) : Prop :=
  vs.length = L.length ∧ ∀ (i : Nat) v s, vs[i]? = some v → L[i]? = some s → ∃ A c es, v = .slice A s.K.length c ∧ Rd w P 15 A s.K.length c es ∧ CellsAre w (fun _ => False) es (cellsOf s.K s.T)
/-- A row of lists of entries. -/
def ListsG (w : World) (P : Nat → Prop) (vs : List Value) (L : List (List ED)) : Prop :=
  vs.length = L.length ∧ ∀ (i : Nat) v G, vs[i]? = some v → L[i]? = some G → ∃ A c es, v = .slice A G.length c ∧ Rd w P 16 A G.length c es ∧ EntsAre w (fun _ => False) es G
section
variable {w w' : World} {P P' S : Nat → Prop} {vs : List Value}
theorem ListsC.chg {L : List S19} (h : ListsC w P vs L) (hc : Chg S w w') (hd : ∀ b, P b → ¬ S b) : ListsC w' P vs L :=
  ⟨h.1, fun i v s hv hs => by
    obtain ⟨A, c, es, e, h1, h2⟩ := h.2 i v s hv hs
    exact ⟨A, c, es, e, h1.chg hc hd, h2.chg hc (fun _ h => h.elim)⟩⟩
theorem ListsC.wider {L : List S19} (h : ListsC w P vs L) (hp : ∀ b, P b → P' b) : ListsC w P' vs L :=
  ⟨h.1, fun i v s hv hs => by
    obtain ⟨A, c, es, e, h1, h2⟩ := h.2 i v s hv hs
    exact ⟨A, c, es, e, h1.mono (fun b _ => hp b) (by decide), h2⟩⟩
theorem ListsG.chg {L : List (List ED)} (h : ListsG w P vs L) (hc : Chg S w w') (hd : ∀ b, P b → ¬ S b) : ListsG w' P vs L :=
  ⟨h.1, fun i v s hv hs => by
    obtain ⟨A, c, es, e, h1, h2⟩ := h.2 i v s hv hs
    exact ⟨A, c, es, e, h1.chg hc hd, h2.chg hc (fun _ h => h.elim)⟩⟩
theorem ListsG.wider {L : List (List ED)} (h : ListsG w P vs L) (hp : ∀ b, P b → P' b) : ListsG w P' vs L :=
  ⟨h.1, fun i v s hv hs => by
    obtain ⟨A, c, es, e, h1, h2⟩ := h.2 i v s hv hs
    exact ⟨A, c, es, e, h1.mono (fun b _ => hp b) (by decide), h2⟩⟩
end
end Go.Proofs.Ytochdmbjlemfoaa
