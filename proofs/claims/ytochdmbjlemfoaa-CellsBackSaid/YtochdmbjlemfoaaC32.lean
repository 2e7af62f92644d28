/-
  What CellsBack keeps between two acts: states, groups, and the store that has come of the last state. Plain words.
-/
import Derived.Test.YtochdmbjlemfoaaC31
namespace Go.Proofs.Ytochdmbjlemfoaa
open Go Go.RowKit Go.Maps

/-- The states so far, the groups between them, and what has been done since the last. -/
structure Hist (Ss : List S19) (Gs : List (List ED)) (s : S19) : Prop where
  len : Ss.length = Gs.length + 1
  rise : ∀ x ∈ Ss, RisS x.K
  step : ∀ (i : Nat) S0 S1 G, Ss[i]? = some S0 → Ss[i + 1]? = some S1 → Gs[i]? = some G → Since S0 ⟨S1.K, S1.T, G⟩
  last : ∀ S0, Ss[Gs.length]? = some S0 → Since S0 s
theorem Hist.start {s : S19} (h : RisS s.K) : Hist [s] [] ⟨s.K, s.T, []⟩ where
  len := rfl
  rise := by simpa using h
  step := by simp
  last := by
    intro S0 h0
    simp at h0
    subst h0
    exact since_mark h
theorem Hist.act {Ss : List S19} {Gs : List (List ED)} {s : S19} {a : A19} (h : Hist Ss Gs s) (ha : a.d = 0 ∨ a.d = 1) : Hist Ss Gs (act19 a s) := ⟨h.len, h.rise, h.step, fun S0 h0 => since_act (h.last S0 h0) ha⟩
theorem Hist.mark {Ss : List S19} {Gs : List (List ED)} {s : S19} (h : Hist Ss Gs s) : Hist (Ss ++ [s]) (Gs ++ [s.G]) ⟨s.K, s.T, []⟩ := by
  have hl := h.len
  obtain ⟨S0, h0⟩ : ∃ S0, Ss[Gs.length]? = some S0 := ⟨_, List.getElem?_eq_getElem (by omega)⟩
  have hs := h.last S0 h0
  refine ⟨by simp [hl], ?_, ?_, ?_⟩
  · intro x hx
    rcases List.mem_append.1 hx with hx | hx
    · exact h.rise x hx
    · simp at hx; subst hx; exact hs.rise
  · intro i A B G h1 h2 h3
    by_cases hi : i < Gs.length
    · rw [List.getElem?_append_left (by omega)] at h1 h2 
      rw [List.getElem?_append_left hi] at h3
      exact h.step i A B G h1 h2 h3
    · by_cases he : i = Gs.length
      · subst he
        rw [List.getElem?_append_left (by omega)] at h1
        rw [List.getElem?_append_right (by omega), show Gs.length + 1 - Ss.length = 0 by omega] at h2
        simp at h2 h3
        subst h2 h3
        rw [h0] at h1
        cases h1
        exact hs
      · rw [List.getElem?_eq_none (by simp; omega)] at h3
        cases h3
  · intro S1 h1
    rw [List.length_append, List.length_singleton, List.getElem?_append_right (by omega), show Gs.length + 1 - Ss.length = 0 by omega] at h1
    simp at h1
    subst h1
    exact since_mark hs.rise
/-- One group undone leads to the state before. -/
theorem Hist.back {Ss : List S19} {Gs : List (List ED)} {s : S19} (h : Hist Ss Gs s) {i : Nat} {S0 S1 : S19} {G : List ED} {T : ByteArray → TD} (h0 : Ss[i]? = some S0) (h1 : Ss[i + 1]? = some S1) (hG : Gs[i]? = some G) (ht : ∀ x ∈ S1.K, T x = S1.T x) : unK S1.K G.reverse = S0.K ∧ ∀ x ∈ S0.K, unT T G.reverse x = S0.T x :=
  undo_back (s := ⟨S1.K, T, G⟩) ((h.step i S0 S1 G h0 h1 hG).same ht) (h.rise S0 (List.mem_of_getElem? h0))
end Go.Proofs.Ytochdmbjlemfoaa
