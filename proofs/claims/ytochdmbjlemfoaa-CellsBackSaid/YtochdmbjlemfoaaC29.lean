/-
  Plain words for CellsApart: a store built from its own cells has the same cells; a group has no key twice, whatever acts. No program in sight.
-/
import Derived.Test.YtochdmbjlemfoaaC24
import Derived.Test.YtochdmbjlemfoaaC27
namespace Go.Proofs.Ytochdmbjlemfoaa
open Go

theorem cellsOf_keys (K : List ByteArray) (T : ByteArray → TD) : (cellsOf K T).map CD.key = K := by simp [cellsOf, Function.comp_def]
theorem cellsOf_congr {K : List ByteArray} {T T' : ByteArray → TD} (h : ∀ x ∈ K, T x = T' x) : cellsOf K T = cellsOf K T' := by
  unfold cellsOf
  exact List.map_congr_left (fun x hx => by rw [h x hx])
theorem ofK_rise (L : List CD) : RisS (ofK L) := by
  suffices h : ∀ (L : List CD) (K : List ByteArray), RisS K → RisS (L.foldl (fun K c => insKS c.key K) K) from h L [] List.Pairwise.nil
  intro L
  induction L with
  | nil => intro K h; exact h
  | cons c L ih => intro K h; exact ih _ (risS_insKS _ _ h)
theorem ofK_cells {K : List ByteArray} {T : ByteArray → TD} (h : RisS K) : ofK (cellsOf K T) = K := risS_ext (ofK_rise _) h (fun x => by rw [mem_ofK, cellsOf_keys])
theorem ofT_out {x : ByteArray} : ∀ {L : List CD} {T : ByteArray → TD}, ¬ x ∈ L.map CD.key → ofT T L x = T x
  | [], _, _ => rfl
  | c :: L, T, h => by
    rw [List.map_cons, List.mem_cons, not_or] at h
    show ofT (updT T c.key c.t) L x = _
    rw [ofT_out h.2]
    exact updT_other _ _ _ _ h.1
theorem ofT_in {c : CD} : ∀ {L : List CD} {T : ByteArray → TD}, (L.map CD.key).Nodup → c ∈ L → ofT T L c.key = c.t
  | c' :: L, T, hn, hc => by
    rw [List.map_cons, List.nodup_cons] at hn
    show ofT (updT T c'.key c'.t) L c.key = _
    rcases List.mem_cons.1 hc with h1 | h1
    · subst h1
      rw [ofT_out hn.1, updT_same]
    · exact ofT_in hn.2 h1
theorem ofT_cells {K : List ByteArray} {T T0 : ByteArray → TD} (h : RisS K) : ∀ x ∈ K, ofT T0 (cellsOf K T) x = T x := fun x hx =>
  ofT_in (c := ⟨x, T x⟩) (by rw [cellsOf_keys]; exact risS_nodup h) (List.mem_map.2 ⟨x, hx, rfl⟩)
theorem of_cells {K : List ByteArray} {T T0 : ByteArray → TD} (h : RisS K) : cellsOf (ofK (cellsOf K T)) (ofT T0 (cellsOf K T)) = cellsOf K T := by
  rw [ofK_cells h]
  exact cellsOf_congr (ofT_cells h)

/-- No key twice in a group; the keys rise. -/
structure S19.neat (s : S19) : Prop where
  rise : RisS s.K
  uniq : (s.G.map ED.key).Nodup
theorem touchG_uniq {K : List ByteArray} {T : ByteArray → TD} {G : List ED} {k : ByteArray} (h : (G.map ED.key).Nodup) : ((touchG K T G k).map ED.key).Nodup := by
  unfold touchG
  by_cases hin : k ∈ G.map ED.key
  · rw [if_pos hin]; exact h
  · rw [if_neg hin, List.map_append]
    exact List.nodup_append.2 ⟨h, by simp, fun a ha b hb e => by simp at hb; subst hb; exact hin (by rw [← e]; exact ha)⟩
theorem act19_neat {a : A19} {s : S19} (h : s.neat) : (act19 a s).neat := by
  unfold act19
  split
  · exact ⟨risS_insKS _ _ h.rise, touchG_uniq h.uniq⟩
  · split
    · refine ⟨risS_filter _ _ h.rise, ?_⟩
      show ((dropG s.K s.T s.G a.key).map ED.key).Nodup
      unfold dropG
      split
      · exact touchG_uniq h.uniq
      · exact h.uniq
    · split
      · exact ⟨h.rise, by simp⟩
      · split
        · exact ⟨unK_rise' _ _ h.rise, by simp⟩
        · exact h
/-- Acts, one after another. -/
def playOn (s : S19) (l : List A19) : S19 := l.foldl (fun s a => act19 a s) s
theorem playOn_take {s : S19} {l : List A19} {j : Nat} {a : A19} (h : l[j]? = some a) : playOn s (l.take (j + 1)) = act19 a (playOn s (l.take j)) := by rw [List.take_add_one, h]; simp [playOn]
theorem playOn_ok : ∀ (l : List A19) (s : S19) (m : Nat), s.ok m → (∀ a ∈ l, a.ok) → (playOn s l).ok (m + l.length)
  | [], _, _, hs, _ => hs
  | a :: l, s, m, hs, h => by
    have := playOn_ok l (act19 a s) (m + 1) (act19_ok hs (h a List.mem_cons_self).2.1) (fun x hx => h x (List.mem_cons_of_mem _ hx))
    rw [List.length_cons, show m + (l.length + 1) = m + 1 + l.length by omega]
    exact this
theorem playOn_neat : ∀ (l : List A19) (s : S19), s.neat → (playOn s l).neat
  | [], _, h => h
  | _ :: l, _, h => playOn_neat l _ (act19_neat h)
end Go.Proofs.Ytochdmbjlemfoaa
