/-
  Layer 21: plain words on all the names that are bound. (No program in sight.)
-/
import Derived.Test.YtjkofndnhmfnoaaN14
namespace Go.Proofs.Ytjkofndnhmfnoaa
open Go Go.RowKit

theorem vkey_nmK {k : ByteArray} (h : begins ⟨#[118, 47]⟩ k = true) : vkey (nmK k) = k := by
  have h1 : ∃ l, k.data.toList = 118 :: 47 :: l := by
    unfold begins at h
    obtain ⟨l, hl⟩ := of_decide_eq_true h
    refine ⟨l, ?_⟩
    have h2 : kb k = k.data.toList := rfl
    rw [← h2, ← hl]
    rfl
  obtain ⟨l, hl⟩ := h1
  refine ba_ext ?_
  rw [vkey_list, hl]
  unfold nmK
  rw [hl]
  simp [Lib.trimPrefix, Lib.hasPrefix]
theorem begins_vkey (n : ByteArray) : begins ⟨#[118, 47]⟩ (vkey n) = true := decide_eq_true ⟨n.data.toList, (vkey_list n).symm⟩
theorem mem_allN (s : St) (kind : Int) (x : ByteArray) : x ∈ allN s kind ↔ vkey x ∈ s.K ∧ (s.look (vkey x)).kind = kind ∧ nameB x = true := by
  unfold allN bound
  simp only [List.mem_map, List.mem_filter, keepK, Bool.and_eq_true, decide_eq_true_eq]
  constructor
  · rintro ⟨k, ⟨⟨h1, h2⟩, h3, h4⟩, rfl⟩
    rw [vkey_nmK h2]
    exact ⟨h1, h3, h4⟩
  · rintro ⟨h1, h2, h3⟩
    exact ⟨vkey x, ⟨⟨h1, begins_vkey x⟩, h2, by rw [nmK_vkey]; exact h3⟩, nmK_vkey x⟩
theorem allN_nodup (s : St) (kind : Int) (h : RisS s.K) : (allN s kind).Nodup := by
  unfold allN bound
  have h1 : ((s.K.filter (begins ⟨#[118, 47]⟩)).filter (keepK s kind)).Nodup := ((risS_nodup h).filter _).filter _
  refine List.pairwise_map.2 (List.Pairwise.imp_of_mem (fun {a b} ha hb hne he => hne ?_) h1)
  have ha' := (List.mem_filter.1 (List.mem_filter.1 ha).1).2
  have hb' := (List.mem_filter.1 (List.mem_filter.1 hb).1).2
  rw [← vkey_nmK ha', ← vkey_nmK hb', he]
end Go.Proofs.Ytjkofndnhmfnoaa
