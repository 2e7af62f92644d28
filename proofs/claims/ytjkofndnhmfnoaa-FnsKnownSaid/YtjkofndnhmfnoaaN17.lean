/-
  Layer 21: plain words for FnsMost: the names that are there, beside a store whose functions are fixed and erased. (No program in sight.)
-/
import Derived.Test.YtjkofndnhmfnoaaN15
import Derived.Test.YtjkofndnhmfnoaaN6
namespace Go.Proofs.Ytjkofndnhmfnoaa
open Go Go.RowKit Go.Maps

/-- A store whose bindings are functions alone (but that ex may be a label's name), with the names H, of which so many were fixed, behind n rounds. -/
structure FM (ex : ByteArray) (s : St) (H : List ByteArray) (last : Int) (n : Nat) : Prop where
  ris : RisS H
  risK : RisS s.K
  kind : ∀ x, (s.look (vkey x)).kind = 2 ∨ (s.look (vkey x)).kind = 0 ∨ (x = ex ∧ (s.look (vkey x)).kind = 3)
  mem : ∀ x, x ∈ H ↔ (s.look (vkey x)).kind = 2
  nm : ∀ x ∈ H, nameB x = true
  lst : lastV s = last
  l0 : 0 ≤ last
  l1 : last ≤ n
  lK : s.K.length ≤ 3 * n
  lG : s.G.length ≤ 3 * n
  zK : ∀ k ∈ s.K, k.size ≤ 1000
theorem FM.zero (ex : ByteArray) (T : ByteArray → TD) : FM ex ⟨[], T, []⟩ [] 0 0 := by
  have hl : ∀ k, (⟨[], T, []⟩ : St).look k = tz := fun k => by
    show getT [] T k = tz
    unfold getT
    simp
  refine ⟨List.Pairwise.nil, List.Pairwise.nil, fun x => .inr (.inl (by rw [hl]; rfl)), fun x => ?_, by simp, ?_, Int.le_refl _, Int.le_refl _, Nat.le_refl _, Nat.le_refl _, by simp⟩
  · rw [hl]
    simp [tz]
  · unfold lastV
    rw [hl]
    rfl
theorem FM.name {ex : ByteArray} {s : St} {H : List ByteArray} {last : Int} {n : Nat} (h : FM ex s H last n) (x : ByteArray) : (s.name x).kind = (s.look (vkey x)).kind := by
  show (getN s.K s.T x).kind = (getT s.K s.T (vkey x)).kind
  unfold getN
  rcases h.kind x with h2 | h2 | ⟨_, h2⟩
  · have h3 : (getT s.K s.T (vkey x)).kind = 2 := h2
    rw [h3, if_pos (by rfl), h3]
  · have h3 : (getT s.K s.T (vkey x)).kind = 0 := h2
    rw [h3]
    rfl
  · have h3 : (getT s.K s.T (vkey x)).kind = 3 := h2
    rw [h3, if_pos (by rfl), h3]
theorem FM.in_ {ex : ByteArray} {s : St} {H : List ByteArray} {last : Int} {n : Nat} (h : FM ex s H last n) {x : ByteArray} (hx : x ∈ H) : (s.name x).kind = 2 := by rw [h.name]; exact (h.mem x).1 hx
theorem FM.out {ex : ByteArray} {s : St} {H : List ByteArray} {last : Int} {n : Nat} (h : FM ex s H last n) {x : ByteArray} (hx : ¬ x ∈ H) (he : x ≠ ex) : (s.name x).kind = 0 := by
  rw [h.name]
  rcases h.kind x with h2 | h2 | ⟨h2, _⟩
  · exact absurd ((h.mem x).2 h2) hx
  · exact h2
  · exact absurd h2 he
theorem FM.len {ex : ByteArray} {s : St} {H : List ByteArray} {last : Int} {n : Nat} (h : FM ex s H last n) : (allN s 2).length = H.length := by
  refine List.Perm.length_eq ((List.perm_ext_iff_of_nodup (allN_nodup s 2 h.risK) (risS_nodup h.ris)).2 fun x => ?_)
  rw [mem_allN, h.mem]
  constructor
  · rintro ⟨_, h2, _⟩
    exact h2
  · intro h2
    refine ⟨?_, h2, h.nm x ((h.mem x).2 h2)⟩
    by_cases hk : vkey x ∈ s.K
    · exact hk
    · have : s.look (vkey x) = tz := by
        show getT s.K s.T (vkey x) = tz
        unfold getT
        rw [if_neg hk]
      rw [this] at h2
      cases h2
theorem touchG_len (K : List ByteArray) (T : ByteArray → TD) (G : List ED) (k : ByteArray) : (touchG K T G k).length ≤ G.length + 1 := by
  unfold touchG
  split
  · omega
  · simp
theorem put_sizes {s : St} {k : ByteArray} {t : TD} {a b c : Nat} (hK : s.K.length ≤ a) (hG : s.G.length ≤ b) (hz : ∀ x ∈ s.K, x.size ≤ c) (hk : k.size ≤ c) :
    (s.put k t).K.length ≤ a + 1 ∧ (s.put k t).G.length ≤ b + 1 ∧ ∀ x ∈ (s.put k t).K, x.size ≤ c := by
  refine ⟨?_, ?_, fun x hx => ?_⟩
  · have := insKS_len k s.K
    show (insKS k s.K).length ≤ _
    omega
  · have := touchG_len s.K s.T s.G k
    show (touchG s.K s.T s.G k).length ≤ _
    omega
  · rcases (mem_insKS k s.K x).1 hx with rfl | h
    · exact hk
    · exact hz x h
theorem del_sizes {s : St} {k : ByteArray} {a b c : Nat} (hK : s.K.length ≤ a) (hG : s.G.length ≤ b) (hz : ∀ x ∈ s.K, x.size ≤ c) :
    (s.del k).K.length ≤ a ∧ (s.del k).G.length ≤ b + 1 ∧ ∀ x ∈ (s.del k).K, x.size ≤ c := by
  refine ⟨Nat.le_trans (List.length_filter_le _ _) hK, ?_, fun x hx => hz x (List.mem_filter.1 hx).1⟩
  have := dropG_len s.K s.T s.G k
  show (dropG s.K s.T s.G k).length ≤ _
  omega
theorem fix_eq (s : St) (x : ByteArray) : s.fix x = (s.put mver (lastT s)).put (vkey x) (fnT x (lastV s + 1)) := rfl
theorem lastT_kind (s : St) : (lastT s).kind = 5 := by
  unfold lastT
  by_cases h : (s.look mver).kind = 5
  · rw [if_pos h]; exact h
  · rw [if_neg h]; rfl
theorem fix_last (s : St) (x : ByteArray) : lastV (s.fix x) = lastV s + 1 := by
  have h1 : (s.fix x).look mver = lastT s := by
    rw [fix_eq, St.look_put_other _ _ _ (Ne.symm (vkey_mver x)), St.look_put]
  unfold lastV
  rw [h1, if_pos (lastT_kind s)]
  rfl
theorem fix_look (s : St) (x : ByteArray) : (s.fix x).look (vkey x) = fnT x (lastV s + 1) := by rw [fix_eq, St.look_put]
theorem fix_other (s : St) {x y : ByteArray} (h : y ≠ x) : (s.fix x).look (vkey y) = s.look (vkey y) := by
  rw [fix_eq, St.look_put_other _ _ _ (fun e => h (vkey_inj e)), St.look_put_other _ _ _ (vkey_mver y)]
theorem fix_name (s : St) (x : ByteArray) : (s.fix x).name x = fnT x (lastV s + 1) := by
  show getN (s.fix x).K (s.fix x).T x = _
  unfold getN
  have h : getT (s.fix x).K (s.fix x).T (vkey x) = fnT x (lastV s + 1) := fix_look s x
  rw [h]
  rfl
theorem FM.fix {ex : ByteArray} {s : St} {H : List ByteArray} {last : Int} {n : Nat} (h : FM ex s H last n) {x : ByteArray} (hx : nameB x = true) (hz : x.size ≤ 100) : FM ex (s.fix x) (insKS x H) (last + 1) (n + 1) := by
  obtain ⟨p1, p2, p3⟩ := put_sizes (t := lastT s) h.lK h.lG h.zK (k := mver) (by decide)
  obtain ⟨q1, q2, q3⟩ := put_sizes (t := fnT x (lastV s + 1)) p1 p2 p3 (k := vkey x) (by rw [vkey_size]; omega)
  have hl := h.l0
  have hl1 := h.l1
  refine ⟨risS_insKS _ _ h.ris, risS_insKS _ _ (risS_insKS _ _ h.risK), fun y => ?_, fun y => ?_, fun y hy => ?_, ?_, by omega, by push_cast; omega, Nat.le_trans q1 (by omega), Nat.le_trans q2 (by omega), q3⟩
  · by_cases e : y = x
    · subst e
      rw [fix_look]
      exact .inl rfl
    · rw [fix_other s e]
      exact h.kind y
  · rw [mem_insKS]
    by_cases e : y = x
    · subst e
      rw [fix_look]
      exact ⟨fun _ => rfl, fun _ => .inl rfl⟩
    · rw [fix_other s e, ← h.mem]
      exact ⟨fun hm => hm.resolve_left e, .inr⟩
  · rcases (mem_insKS x H y).1 hy with rfl | hm
    · exact hx
    · exact h.nm y hm
  · rw [fix_last, h.lst]
theorem vkey_pkey (x y : ByteArray) : vkey x ≠ pkey y := fun h => by
  have h1 := congrArg (fun z => z.data.toList) h
  simp [vkey_list, pkey, ByteArray.data_append] at h1
theorem vkey_tkey (x y : ByteArray) : vkey x ≠ tkey y := fun h => by
  have h1 := congrArg (fun z => z.data.toList) h
  simp [vkey_list, tkey, ByteArray.data_append] at h1
theorem mver_pkey (y : ByteArray) : mver ≠ pkey y := fun h => by
  have h1 := congrArg (fun z => z.data.toList) h
  simp [mver, pkey, ByteArray.data_append] at h1
theorem mver_tkey (y : ByteArray) : mver ≠ tkey y := fun h => by
  have h1 := congrArg (fun z => z.data.toList) h
  simp [mver, tkey, ByteArray.data_append] at h1
theorem erase_look (s : St) (x : ByteArray) : (s.erase x).look (vkey x) = tz := St.look_del _ _
theorem erase_other (s : St) {x y : ByteArray} (h : y ≠ x) : (s.erase x).look (vkey y) = s.look (vkey y) := by
  unfold St.erase
  rw [St.look_del_other _ _ (fun e => h (vkey_inj e)), St.look_del_other _ _ (vkey_tkey y x), St.look_del_other _ _ (vkey_pkey y x)]
theorem erase_last (s : St) (x : ByteArray) : lastV (s.erase x) = lastV s := by
  have h1 : (s.erase x).look mver = s.look mver := by
    unfold St.erase
    rw [St.look_del_other _ _ (Ne.symm (vkey_mver x)), St.look_del_other _ _ (mver_tkey x), St.look_del_other _ _ (mver_pkey x)]
  unfold lastV
  rw [h1]
theorem FM.erase {ex : ByteArray} {s : St} {H : List ByteArray} {last : Int} {n : Nat} (h : FM ex s H last n) (x : ByteArray) : FM ex (s.erase x) (H.filter (· ≠ x)) last (n + 1) := by
  obtain ⟨p1, p2, p3⟩ := del_sizes h.lK h.lG h.zK (k := pkey x)
  obtain ⟨q1, q2, q3⟩ := del_sizes p1 p2 p3 (k := tkey x)
  obtain ⟨r1, r2, r3⟩ := del_sizes q1 q2 q3 (k := vkey x)
  have hl1 := h.l1
  refine ⟨risS_filter _ _ h.ris, risS_filter _ _ (risS_filter _ _ (risS_filter _ _ h.risK)), fun y => ?_, fun y => ?_, fun y hy => ?_, ?_, h.l0, by push_cast; omega, Nat.le_trans r1 (by omega), Nat.le_trans r2 (by omega), r3⟩
  · by_cases e : y = x
    · subst e
      rw [erase_look]
      exact .inr (.inl rfl)
    · rw [erase_other s e]
      exact h.kind y
  · by_cases e : y = x
    · subst e
      rw [erase_look]
      simp [tz]
    · rw [erase_other s e, ← h.mem]
      simp [List.mem_filter, e]
  · exact h.nm y (List.mem_filter.1 hy).1
  · rw [erase_last, h.lst]
theorem FM.more {ex : ByteArray} {s : St} {H : List ByteArray} {last : Int} {n : Nat} (h : FM ex s H last n) : FM ex s H last (n + 1) :=
  { h with l1 := by have := h.l1; push_cast; omega, lK := by have := h.lK; omega, lG := by have := h.lG; omega }
theorem FM.none {ex : ByteArray} {s : St} {H : List ByteArray} {last : Int} {n : Nat} (h : FM ex s H last n) {x : ByteArray} (hx : ¬ x ∈ H) : FM ex s (H.filter (· ≠ x)) last (n + 1) := by
  rw [filter_out hx]
  exact h.more
theorem insKS_in {x : ByteArray} {H : List ByteArray} (h : RisS H) (hx : x ∈ H) : insKS x H = H := by
  refine risS_ext (risS_insKS _ _ h) h fun y => ?_
  rw [mem_insKS]
  exact ⟨fun hm => hm.elim (fun e => e ▸ hx) id, .inr⟩
theorem insKS_out {x : ByteArray} {H : List ByteArray} (hx : ¬ x ∈ H) : (insKS x H).length = H.length + 1 := by
  unfold insKS
  rw [filter_out hx, insS_len]
/-- The names of the law. -/
def nm3 (x : Int) : ByteArray := ⟨#[70, UInt8.ofNat (65 + x / 16).toNat, UInt8.ofNat (65 + x % 16).toNat]⟩
theorem nm3_size (x : Int) : (nm3 x).size = 3 := rfl
theorem nm3_all : ∀ k : Fin 256, nameB (nm3 (k.val : Int)) = true := by decide +kernel
theorem nm3_name {x : Int} (h0 : 0 ≤ x) (h1 : x ≤ 255) : nameB (nm3 x) = true := by
  have := nm3_all ⟨x.toNat, by omega⟩
  rw [show ((⟨x.toNat, by omega⟩ : Fin 256).val : Int) = x by simp; omega] at this
  exact this
end Go.Proofs.Ytjkofndnhmfnoaa
