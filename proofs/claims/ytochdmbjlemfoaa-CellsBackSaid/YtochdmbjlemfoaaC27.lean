/-
  Plain words on groups: what has been done since a Mark (Since), and that the group, undone, makes all things what they were. No program in sight.
-/
import Derived.Test.YtochdmbjlemfoaaC18
namespace Go.Proofs.Ytochdmbjlemfoaa
open Go

/-- s has come of s0 by sets and drops, and its group tells what s0 had. -/
structure Since (s0 s : S19) : Prop where
  rise : RisS s.K
  uniq : (s.G.map ED.key).Nodup
  had : ∀ e ∈ s.G, e.had = decide (e.key ∈ s0.K)
  was : ∀ e ∈ s.G, e.key ∈ s0.K → e.was = s0.T e.key
  keys : ∀ x, ¬ x ∈ s.G.map ED.key → (x ∈ s.K ↔ x ∈ s0.K)
  rest : ∀ x, ¬ x ∈ s.G.map ED.key → x ∈ s0.K → s.T x = s0.T x
theorem since_mark {s : S19} (h : RisS s.K) : Since s ⟨s.K, s.T, []⟩ := ⟨h, by simp, by simp, by simp, fun _ _ => Iff.rfl, fun _ _ _ => rfl⟩
/-- A key is touched, and then it has something else. -/
theorem since_touch {s0 s : S19} (h : Since s0 s) {k : ByteArray} {K : List ByteArray} {T : ByteArray → TD} (hr : RisS K) (hK : ∀ x, x ≠ k → (x ∈ K ↔ x ∈ s.K)) (hT : ∀ x, x ≠ k → T x = s.T x) : Since s0 ⟨K, T, touchG s.K s.T s.G k⟩ := by
  unfold touchG
  by_cases hin : k ∈ s.G.map ED.key
  · rw [if_pos hin]
    have hne : ∀ x, ¬ x ∈ s.G.map ED.key → x ≠ k := fun x hx e => hx (by rw [e]; exact hin)
    exact ⟨hr, h.uniq, h.had, h.was, fun x hx => (hK x (hne x hx)).trans (h.keys x hx), fun x hx h0 => (hT x (hne x hx)).trans (h.rest x hx h0)⟩
  · rw [if_neg hin]
    have hk := h.keys k hin
    refine ⟨hr, ?_, ?_, ?_, ?_, ?_⟩
    · rw [List.map_append]
      exact List.nodup_append.2 ⟨h.uniq, by simp, fun a ha b hb e => by simp at hb; subst hb; exact hin (by rw [← e]; exact ha)⟩
    · intro e he
      rcases List.mem_append.1 he with he | he
      · exact h.had e he
      · simp at he
        subst he
        rw [Bool.eq_iff_iff, decide_eq_true_eq, decide_eq_true_eq]
        exact hk
    · intro e he h0
      rcases List.mem_append.1 he with he | he
      · exact h.was e he h0
      · simp at he
        subst he
        show getT s.K s.T k = s0.T k
        unfold getT
        rw [if_pos (hk.2 h0)]
        exact h.rest k hin h0
    · intro x hx
      simp only [List.map_append, List.mem_append, List.map_cons, List.map_nil, List.mem_singleton, not_or] at hx
      exact (hK x hx.2).trans (h.keys x hx.1)
    · intro x hx h0
      simp only [List.map_append, List.mem_append, List.map_cons, List.map_nil, List.mem_singleton, not_or] at hx
      exact (hT x hx.2).trans (h.rest x hx.1 h0)
theorem since_act {s0 s : S19} (h : Since s0 s) {a : A19} (ha : a.d = 0 ∨ a.d = 1) : Since s0 (act19 a s) := by
  unfold act19
  rcases ha with ha | ha
  · rw [if_pos ha]
    exact since_touch h (risS_insKS _ _ h.rise) (fun x hx => by rw [mem_insKS]; exact ⟨fun hh => hh.resolve_left hx, .inr⟩) (fun x hx => updT_other _ _ _ _ hx)
  · rw [if_neg (by omega), if_pos ha]
    by_cases hin : a.key ∈ s.K
    · have e : dropG s.K s.T s.G a.key = touchG s.K s.T s.G a.key := by unfold dropG; rw [if_pos hin]
      rw [e]
      exact since_touch h (risS_filter _ _ h.rise) (fun x hx => by simp [List.mem_filter, hx]) (fun x _ => rfl)
    · have e : dropG s.K s.T s.G a.key = s.G := by unfold dropG; rw [if_neg hin]
      rw [e, filter_out hin]
      exact h

theorem unK_rise' : ∀ (L : List ED) (K : List ByteArray), RisS K → RisS (unK K L)
  | [], _, h => h
  | e :: L, K, h => by
    show RisS (unK (if e.had = true then _ else _) L)
    by_cases hh : e.had = true
    · rw [if_pos hh]; exact unK_rise' L _ (risS_insKS _ _ h)
    · rw [if_neg hh]; exact unK_rise' L _ (risS_filter _ _ h)
theorem mem_unK {x : ByteArray} : ∀ {L : List ED} {K : List ByteArray}, (L.map ED.key).Nodup → (x ∈ unK K L ↔ (∃ e ∈ L, e.key = x ∧ e.had = true) ∨ (¬ x ∈ L.map ED.key ∧ x ∈ K))
  | [], K, _ => by simp [unK]
  | e :: L, K, hn => by
    rw [List.map_cons, List.nodup_cons] at hn
    have ih := mem_unK (x := x) (L := L) (K := if e.had = true then insKS e.key K else K.filter (· ≠ e.key)) hn.2
    show x ∈ unK (if e.had = true then _ else _) L ↔ _
    rw [ih]
    by_cases hx : x = e.key
    · subst hx
      have hni := hn.1
      have hno : ¬ ∃ e' ∈ L, e'.key = e.key ∧ e'.had = true := fun ⟨e', h1, h2, _⟩ => hni (List.mem_map.2 ⟨e', h1, h2⟩)
      by_cases hh : e.had = true
      · simp [hh, hni, mem_insKS]
      · simp only [hh, hno, hni, not_false_eq_true, if_false, Bool.false_eq_true, List.mem_filter, List.mem_cons, List.map_cons, not_true_eq_false, false_and, or_false, ne_eq, decide_not, decide_true, Bool.not_true, and_false, exists_eq_or_imp]
    · have hmm : (x ∈ if e.had = true then insKS e.key K else K.filter (· ≠ e.key)) ↔ x ∈ K := by
        split
        · rw [mem_insKS]; exact ⟨fun h => h.resolve_left hx, .inr⟩
        · simp [List.mem_filter, hx]
      rw [hmm, List.map_cons, List.mem_cons]
      constructor
      · rintro (⟨e', h1, h2, h3⟩ | ⟨h1, h2⟩)
        · exact .inl ⟨e', List.mem_cons_of_mem _ h1, h2, h3⟩
        · exact .inr ⟨fun h => h.elim hx h1, h2⟩
      · rintro (⟨e', h1, h2, h3⟩ | ⟨h1, h2⟩)
        · rcases List.mem_cons.1 h1 with h1 | h1
          · subst h1; exact absurd h2.symm hx
          · exact .inl ⟨e', h1, h2, h3⟩
        · exact .inr ⟨fun h => h1 (.inr h), h2⟩
theorem unT_out {x : ByteArray} : ∀ {L : List ED} {T : ByteArray → TD}, ¬ x ∈ L.map ED.key → unT T L x = T x
  | [], _, _ => rfl
  | e :: L, T, h => by
    rw [List.map_cons, List.mem_cons, not_or] at h
    show unT (if e.had = true then _ else _) L x = _
    rw [unT_out h.2]
    split
    · exact updT_other _ _ _ _ h.1
    · rfl
theorem unT_in {e : ED} : ∀ {L : List ED} {T : ByteArray → TD}, (L.map ED.key).Nodup → e ∈ L → e.had = true → unT T L e.key = e.was
  | e' :: L, T, hn, he, hh => by
    rw [List.map_cons, List.nodup_cons] at hn
    show unT (if e'.had = true then _ else _) L e.key = _
    rcases List.mem_cons.1 he with h1 | h1
    · subst h1
      rw [unT_out hn.1, if_pos hh, updT_same]
    · exact unT_in hn.2 h1 hh
/-- The group, undone, makes all things what they were. -/
theorem undo_back {s0 s : S19} (h : Since s0 s) (h0 : RisS s0.K) : unK s.K s.G.reverse = s0.K ∧ ∀ x ∈ s0.K, unT s.T s.G.reverse x = s0.T x := by
  have hu : (s.G.reverse.map ED.key).Nodup := by rw [List.map_reverse]; exact (List.reverse_perm _).nodup_iff.2 h.uniq
  have hm : ∀ x, x ∈ s.G.reverse.map ED.key ↔ x ∈ s.G.map ED.key := fun x => by simp
  refine ⟨risS_ext (unK_rise' _ _ h.rise) h0 (fun x => ?_), fun x hx => ?_⟩
  · rw [mem_unK hu, hm]
    constructor
    · rintro (⟨e, h1, h2, h3⟩ | ⟨h1, h2⟩)
      · have := h.had e (List.mem_reverse.1 h1)
        rw [h3] at this
        rw [← h2]
        exact of_decide_eq_true this.symm
      · exact (h.keys x h1).1 h2
    · intro hx
      by_cases hk : x ∈ s.G.map ED.key
      · obtain ⟨e, h1, h2⟩ := List.mem_map.1 hk
        refine .inl ⟨e, List.mem_reverse.2 h1, h2, ?_⟩
        rw [h.had e h1, h2]
        exact decide_eq_true hx
      · exact .inr ⟨hk, (h.keys x hk).2 hx⟩
  · by_cases hk : x ∈ s.G.map ED.key
    · obtain ⟨e, h1, h2⟩ := List.mem_map.1 hk
      have hd : e.had = true := by rw [h.had e h1, h2]; exact decide_eq_true hx
      rw [← h2, unT_in hu (List.mem_reverse.2 h1) hd, h.was e h1 (by rw [h2]; exact hx)]
    · rw [unT_out (by rw [hm]; exact hk)]
      exact h.rest x hk hx
end Go.Proofs.Ytochdmbjlemfoaa
