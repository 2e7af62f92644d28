/-
  The law of layer 19: Does: what an act does to a store; its contract. Of any store in memory.
-/
import Derived.Test.YtochdmbjlemfoaaC9
import Derived.Test.YtochdmbjlemfoaaC14
namespace Go.Proofs.Ytochdmbjlemfoaa
open Go Go.RowKit Go.Maps

/-- What a store reads as. -/
structure S19 where
  K : List ByteArray
  T : ByteArray → TD
  G : List ED
def act19 (a : A19) (s : S19) : S19 :=
  if a.d = 0 then ⟨insKS a.key s.K, updT s.T a.key (numT 5 a.n), touchG s.K s.T s.G a.key⟩
  else if a.d = 1 then ⟨s.K.filter (· ≠ a.key), s.T, dropG s.K s.T s.G a.key⟩
  else if a.d = 2 then ⟨s.K, s.T, []⟩
  else if a.d = 3 then ⟨unK s.K s.G.reverse, unT s.T s.G.reverse, []⟩
  else s
/-- The groups' keys are texts that a machine holds; how great things are. -/
structure S19.ok (s : S19) (m : Nat) : Prop where
  keys : ∀ e ∈ s.G, e.key.size ≤ maxLen
  len : s.K.length + s.G.length ≤ 2 * m
theorem touchG_len (K : List ByteArray) (T : ByteArray → TD) (G : List ED) (k : ByteArray) : (touchG K T G k).length ≤ G.length + 1 := by
  unfold touchG
  split
  · omega
  · simp
theorem touchG_keys {K : List ByteArray} {T : ByteArray → TD} {G : List ED} {k : ByteArray} {e : ED} (h : e ∈ touchG K T G k) : e ∈ G ∨ e.key = k := by
  unfold touchG at h
  split at h
  · exact .inl h
  · rcases List.mem_append.1 h with h | h
    · exact .inl h
    · simp at h; subst h; exact .inr rfl
theorem act19_ok {a : A19} {s : S19} {m : Nat} (h : s.ok m) (ha : a.key.size ≤ maxLen) : (act19 a s).ok (m + 1) := by
  have hl := h.len
  unfold act19
  split
  · refine ⟨fun e he => ?_, ?_⟩
    · rcases touchG_keys he with he | he
      · exact h.keys e he
      · rw [he]; exact ha
    · have h1 := insKS_len a.key s.K
      have h2 := touchG_len s.K s.T s.G a.key
      show (insKS a.key s.K).length + (touchG s.K s.T s.G a.key).length ≤ _
      omega
  · split
    · have h1 := List.length_filter_le (fun x : ByteArray => decide (x ≠ a.key)) s.K
      refine ⟨fun e he => ?_, ?_⟩
      · simp only [dropG] at he
        split at he
        · rcases touchG_keys he with he | he
          · exact h.keys e he
          · rw [he]; exact ha
        · exact h.keys e he
      · show (s.K.filter _).length + (dropG s.K s.T s.G a.key).length ≤ _
        have h2 := touchG_len s.K s.T s.G a.key
        unfold dropG
        split <;> omega
    · split
      · exact ⟨by simp, by simp; omega⟩
      · split
        · refine ⟨by simp, ?_⟩
          have h1 := unK_len s.G.reverse s.K
          simp at h1
          show (unK s.K s.G.reverse).length + 0 ≤ _
          omega
        · exact ⟨h.keys, by omega⟩

set_option maxRecDepth 100000 in
set_option maxHeartbeats 1600000 in
theorem does19_any (own D : Nat → Prop) (r : Nat) (s : S19) (a : A19) (m : Nat) (w : World) (h : SK w own D r s.K s.T s.G) (hok : s.ok m) (hm : m ≤ 1000) (ha : a.ok) :
    Calls Try.prog 47 #[.pointer (some ⟨r, 0, none⟩), .agg a.cells.toArray] w fun e w' => e = .returned (.tuple #[]) ∧ ∃ own', SK w' own' D r (act19 a s).K (act19 a s).T (act19 a s).G ∧ Grow own own' w w' := by
  obtain ⟨d, k, n⟩ := a
  obtain ⟨K, T, G⟩ := s
  obtain ⟨hd, hks, hn0, hn1⟩ := ha
  have hlen := hok.len
  simp only at h hd hks hn0 hn1 hlen
  have HKS := Lib.hid hok.keys
  have H := Lib.hid h
  have hd0 : (0 : Int) ≤ (d : Int) := by omega
  have hd1 : (d : Int) ≤ 255 := by omega
  have HBA := Lib.hid (fun o => (Below.refl w.heap.size w).alloc (Nat.le_refl _) o)
  clear h hok
  show Calls Try.prog 47 #[.pointer (some ⟨r, 0, none⟩), .agg #[.int .u8 (d : Int), .string k, .int .i64 n]] w _
  by_cases q0 : d = 0
  · have HA : RowKit.Hid (act19 ⟨d, k, n⟩ ⟨K, T, G⟩ = ⟨insKS k K, updT T k (numT 5 n), touchG K T G k⟩) := by show _ = _; unfold act19; rw [if_pos q0]
    rw [HA.out]
    clear HA
    have e0 : ((d : Int) == 0) = true := by simp; omega
    clear q0
    go_enter Try.func47, Try.ntmps47
    go_upto_region 3 with fail
    obtain ⟨wa, hwa⟩ : ∃ wa, wa = w.alloc (.cells #[.int .u8 (d : Int), .string k, .int .i64 n] 91) := ⟨_, rfl⟩
    have b1 : wa.cell? ⟨w.heap.size, 1, none⟩ = some (.string k) := by rw [hwa, cell_of_row _ _ 1 _ _ _ (heap_alloc_new w _)]; rfl
    have b2 : wa.cell? ⟨w.heap.size, 2, none⟩ = some (.int .i64 n) := by rw [hwa, cell_of_row _ _ 2 _ _ _ (heap_alloc_new w _)]; rfl
    have BA := Lib.hid (show Below w.heap.size w wa by rw [hwa]; exact HBA.out _)
    have HNE : RowKit.Hid (¬ own w.heap.size) := fun ho => Nat.lt_irrefl _ (H.out.lt _ ho)
    rw [← hwa]
    clear hwa
    go_region_held3 (fun w' => w'.cell? ⟨w.heap.size, 1, none⟩ = some (.string k) ∧ w'.cell? ⟨w.heap.size, 2, none⟩ = some (.int .i64 n))
      (first | (go_keep; done) | (go_split_ands; exact ⟨s2.chg.cell (by assumption) HNE.out, s2.chg.cell (by assumption) HNE.out⟩) | (go_split_ands; exact ⟨below_cell hb2 (by assumption), below_cell hb2 (by assumption)⟩))
      ((first
        | (go_at_call 49; refine (number19_any _ _).mono ?_; rintro e w2 ⟨rfl, hb2⟩)
        | (go_at_call 65; refine (cSet_any own D r K T G k _ (numT 5 n) _ ((H.out.below BA.out).below ((below_drewN (Below.refl _ wa) _).trans (hb2.mono (by simp)))) hks (by omega) (by omega) (numT_is _ _ _ _)).mono ?_; rintro e w3 ⟨rfl, own', s1, s2⟩)))
    go_wp2
    go_end0
    exact ⟨rfl, own', s1, (Grow.below (BA.out.trans (((below_drewN (Below.refl _ wa) _).trans (hb2.mono (by simp))).mono BA.out.size))).trans s2⟩
  · by_cases q1 : d = 1
    · have HA : RowKit.Hid (act19 ⟨d, k, n⟩ ⟨K, T, G⟩ = ⟨K.filter (· ≠ k), T, dropG K T G k⟩) := by show _ = _; unfold act19; rw [if_neg q0, if_pos q1]
      rw [HA.out]
      clear HA
      have e0 : ((d : Int) == 0) = false := by simp; omega
      have e1 : ((d : Int) == 1) = true := by simp; omega
      clear q0 q1
      go_enter Try.func47, Try.ntmps47
      go_wp2_with fail
      refine (cDrop_any own D r K T G k _ (H.out.below (HBA.out _)) hks (by omega)).mono ?_
      rintro e w3 ⟨rfl, own', s1, s2⟩
      go_wp2
      go_end0
      exact ⟨rfl, own', s1, (Grow.below (HBA.out _)).trans s2⟩
    · by_cases q2 : d = 2
      · have HA : RowKit.Hid (act19 ⟨d, k, n⟩ ⟨K, T, G⟩ = ⟨K, T, []⟩) := by show _ = _; unfold act19; rw [if_neg q0, if_neg q1, if_pos q2]
        rw [HA.out]
        clear HA
        have e0 : ((d : Int) == 0) = false := by simp; omega
        have e1 : ((d : Int) == 1) = false := by simp; omega
        have e2 : ((d : Int) == 2) = true := by simp; omega
        clear q0 q1 q2
        go_enter Try.func47, Try.ntmps47
        go_wp2_with fail
        refine (cMark_any own D r K T G _ (H.out.below (HBA.out _))).mono ?_
        rintro e w3 ⟨rfl, own', s1, s2⟩
        go_wp2
        go_end0
        exact ⟨rfl, own', s1, (Grow.below (HBA.out _)).trans s2⟩
      · by_cases q3 : d = 3
        · have HA : RowKit.Hid (act19 ⟨d, k, n⟩ ⟨K, T, G⟩ = ⟨unK K G.reverse, unT T G.reverse, []⟩) := by show _ = _; unfold act19; rw [if_neg q0, if_neg q1, if_neg q2, if_pos q3]
          rw [HA.out]
          clear HA
          have e0 : ((d : Int) == 0) = false := by simp; omega
          have e1 : ((d : Int) == 1) = false := by simp; omega
          have e2 : ((d : Int) == 2) = false := by simp; omega
          have e3 : ((d : Int) == 3) = true := by simp; omega
          clear q0 q1 q2 q3
          go_enter Try.func47, Try.ntmps47
          go_wp2_with fail
          refine (cGroup_any own D r K T G _ (H.out.below (HBA.out _)) (by omega)).mono ?_
          rintro e w2 ⟨A, c, es, rfl, hr2, he2, hb2⟩
          have R2 := Lib.hid hr2
          have E2 := Lib.hid he2
          have B2 := Lib.hid hb2
          have S2 := Lib.hid ((H.out.below (HBA.out _)).below hb2)
          have BW := Lib.hid ((HBA.out _).trans (hb2.mono (HBA.out _).size))
          clear hr2 he2 hb2
          go_wp2_with fail
          refine (cUndo_any own D _ r K T G A G.length c es G w2 S2.out R2.out E2.out (fun b hb ho => by have := H.out.lt b ho; have := (HBA.out (.cells #[.int .u8 (d : Int), .string k, .int .i64 n] 91)).size; omega) HKS.out (by omega) (by omega)).mono ?_
          rintro e w3 ⟨rfl, own', s1, s2⟩
          go_wp2
          go_end0
          exact ⟨rfl, own', s1, (Grow.below BW.out).trans s2⟩
        · have HA : RowKit.Hid (act19 ⟨d, k, n⟩ ⟨K, T, G⟩ = ⟨K, T, G⟩) := by show _ = _; unfold act19; rw [if_neg q0, if_neg q1, if_neg q2, if_neg q3]
          rw [HA.out]
          clear HA
          have e0 : ((d : Int) == 0) = false := by simp; omega
          have e1 : ((d : Int) == 1) = false := by simp; omega
          have e2 : ((d : Int) == 2) = false := by simp; omega
          have e3 : ((d : Int) == 3) = false := by simp; omega
          clear q0 q1 q2 q3
          go_enter Try.func47, Try.ntmps47
          go_wp2
          go_end0
          exact ⟨rfl, own, H.out.below (HBA.out _), Grow.below (HBA.out _)⟩
end Go.Proofs.Ytochdmbjlemfoaa
