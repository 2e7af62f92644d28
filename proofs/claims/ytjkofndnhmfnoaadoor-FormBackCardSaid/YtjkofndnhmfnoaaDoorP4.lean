/-
  Layer 05, plain words on reading back, further: where a line's numbers lie among the elements; how long a line is at most. No program in sight.
-/
import Derived.Test.YtjkofndnhmfnoaaDoorP3
namespace Go.Proofs.YtjkofndnhmfnoaaDoor
open Go

/-- How many numbers the first lines hold. -/
def cntT (T : List (List (Nat × Int))) (i : Nat) : Nat := (((T.take i).map (·.map Prod.snd)).flatten).length
theorem cntT_zero (T : List (List (Nat × Int))) : cntT T 0 = 0 := rfl
theorem cntT_succ {T : List (List (Nat × Int))} {i : Nat} {ts : List (Nat × Int)} (h : T[i]? = some ts) : cntT T (i + 1) = cntT T i + ts.length := by
  unfold cntT
  rw [List.take_add_one, h]
  simp
theorem cntT_all {T : List (List (Nat × Int))} {da : List Int} (h : (T.map (·.map Prod.snd)).flatten = da) : cntT T T.length = da.length := by
  unfold cntT
  rw [List.take_length, h]
theorem seg_split {T : List (List (Nat × Int))} {da : List Int} (h : (T.map (·.map Prod.snd)).flatten = da) {i : Nat} {ts : List (Nat × Int)} (hi : T[i]? = some ts) :
    ∃ r, da = ((T.take i).map (·.map Prod.snd)).flatten ++ (ts.map Prod.snd ++ r) := by
  have hlt := (List.getElem?_eq_some_iff.1 hi).1
  have e : T = T.take i ++ ts :: T.drop (i + 1) := by
    have h1 := (List.take_append_drop i T).symm
    rw [List.drop_eq_getElem_cons hlt, (List.getElem?_eq_some_iff.1 hi).2] at h1
    exact h1
  refine ⟨((T.drop (i + 1)).map (·.map Prod.snd)).flatten, ?_⟩
  rw [← h]
  conv => lhs; rw [e]
  simp
theorem seg_at {T : List (List (Nat × Int))} {da : List Int} (h : (T.map (·.map Prod.snd)).flatten = da) {i : Nat} {ts : List (Nat × Int)} (hi : T[i]? = some ts) {j : Nat} {x : Int} (hj : (ts.map Prod.snd)[j]? = some x) : da[cntT T i + j]? = some x := by
  obtain ⟨r, e⟩ := seg_split h hi
  rw [e]
  unfold cntT
  rw [List.getElem?_append_right (by omega), Nat.add_sub_cancel_left, List.getElem?_append_left (List.getElem?_eq_some_iff.1 hj).1]
  exact hj
theorem seg_le {T : List (List (Nat × Int))} {da : List Int} (h : (T.map (·.map Prod.snd)).flatten = da) {i : Nat} {ts : List (Nat × Int)} (hi : T[i]? = some ts) : cntT T i + ts.length ≤ da.length := by
  obtain ⟨r, e⟩ := seg_split h hi
  rw [e]
  unfold cntT
  simp only [List.length_append, List.length_map]
  omega
theorem seg_mem {T : List (List (Nat × Int))} {da : List Int} (h : (T.map (·.map Prod.snd)).flatten = da) {i : Nat} {ts : List (Nat × Int)} (hi : T[i]? = some ts) {t : Nat × Int} (ht : t ∈ ts) : t.2 ∈ da := by
  obtain ⟨r, e⟩ := seg_split h hi
  rw [e]
  exact List.mem_append_right _ (List.mem_append_left _ (List.mem_map.2 ⟨t, ht, rfl⟩))
theorem sepT_pad {l : List (Nat × Int)} {m : Nat} (h : ∀ t ∈ l, t.1 ≤ m) : ∀ t ∈ sepT l, t.1 ≤ m + 1 := by
  intro t ht
  cases l with
  | nil => cases ht
  | cons u l =>
    rcases List.mem_cons.1 ht with rfl | ht
    · have := h t List.mem_cons_self
      omega
    · obtain ⟨v, hv, rfl⟩ := List.mem_map.1 ht
      have := h v (List.mem_cons_of_mem _ hv)
      simp only
      omega
theorem linesT_pad {s data : List Int} (hi : ∀ x ∈ data, i64 x) : ∀ l ∈ linesT s data, ∀ t ∈ l, t.1 ≤ 21 := by
  intro l hl
  unfold linesT at hl
  split at hl
  · rw [List.mem_singleton] at hl
    subst hl
    intro t ht
    have := sepT_pad (m := 0) (fun t ht => by obtain ⟨x, _, rfl⟩ := List.mem_map.1 ht; exact Nat.le_refl _) t ht
    omega
  · split at hl
    · cases hl
    · obtain ⟨b, hb, hl⟩ := List.mem_flatten.1 hl
      obtain ⟨k, _, rfl⟩ := List.mem_map.1 hb
      unfold blockT at hl
      rcases List.mem_append.1 hl with hl | hl
      · unfold gapT at hl
        obtain ⟨_, _, rfl⟩ := List.mem_map.1 hl
        intro t ht
        cases ht
      · obtain ⟨r, _, rfl⟩ := List.mem_map.1 hl
        unfold rowT
        refine sepT_pad (m := 20) fun t ht => ?_
        obtain ⟨c, _, rfl⟩ := List.mem_map.1 ht
        have := wMax_le (char := false) hi (k * rowsL s * colsL s) (rowsL s) (colsL s) c
        simp only
        omega
theorem num_len {x : Int} (h : i64 x) : (numL x).length ≤ 22 := by
  have h1 := dec_len x.natAbs (by have := h.1; have := h.2; omega)
  unfold numL
  split <;> simp <;> omega
theorem tok_size : ∀ l : List (Nat × Int), (∀ t ∈ l, t.1 ≤ 21 ∧ i64 t.2) → (tokL l).length ≤ 43 * l.length := by
  intro l
  induction l with
  | nil => intro _; simp [tokL]
  | cons t l ih =>
    intro hl
    obtain ⟨p, x⟩ := t
    have h1 := hl (p, x) List.mem_cons_self
    have h2 := num_len h1.2
    have h3 := ih fun t ht => hl t (List.mem_cons_of_mem _ ht)
    simp only [tokL, padL, List.length_append, List.length_replicate, List.length_cons]
    have h4 : p ≤ 21 := h1.1
    have h5 : (numL x).length ≤ 22 := h2
    omega
end Go.Proofs.YtjkofndnhmfnoaaDoor
