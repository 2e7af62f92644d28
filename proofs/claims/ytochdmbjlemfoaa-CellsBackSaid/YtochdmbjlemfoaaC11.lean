/-
  Plain words on a rising list of texts into which one is put, element by element. No program in sight.
-/
import Derived.Test.YtochdmbjlemfoaaC1
namespace Go.Proofs.Ytochdmbjlemfoaa
open Go

theorem insS_snoc (k x : ByteArray) (K : List ByteArray) (h : klt k x = true) : insS k (K ++ [x]) = insS k K ++ [x] := by
  induction K with
  | nil => simp [insS, h]
  | cons y K ih =>
    simp only [List.cons_append, insS]
    split
    · rfl
    · rw [ih]; rfl
theorem insS_end (k : ByteArray) (K : List ByteArray) (h : ∀ x ∈ K, klt x k = true) : insS k K = K ++ [k] := by
  induction K with
  | nil => rfl
  | cons y K ih =>
    unfold insS
    rw [if_neg (by rw [klt_asym (h y List.mem_cons_self)]; simp), ih (fun x hx => h x (List.mem_cons_of_mem _ hx))]
    rfl
theorem insKS_end (k : ByteArray) (K : List ByteArray) (h : ∀ x ∈ K, klt x k = true) : insKS k K = K ++ [k] := by
  unfold insKS
  rw [List.filter_eq_self.2 (fun x hx => by simpa using klt_ne (h x hx)), insS_end k K h]
/-- Is there one that is not below? -/
def dnS (P : List ByteArray) (k : ByteArray) : Bool := P.any (fun x => !klt x k)
def oKS (P : List ByteArray) (k : ByteArray) : List ByteArray := if dnS P k = true then insKS k P else P
theorem dnS_snoc (P : List ByteArray) (k x : ByteArray) : dnS (P ++ [x]) k = (dnS P k || !klt x k) := by simp [dnS]
theorem dnS_false {P : List ByteArray} {k : ByteArray} (h : dnS P k = false) : ∀ x ∈ P, klt x k = true := by
  intro x hx
  unfold dnS at h
  have := List.any_eq_false.1 h x hx
  simpa using this
theorem dnS_true {P : List ByteArray} {k x : ByteArray} (h : dnS P k = true) (hr : ∀ y ∈ P, klt y x = true) : klt k x = true := by
  unfold dnS at h
  obtain ⟨y, hy, hk⟩ := List.any_eq_true.1 h
  have h1 : klt y k = false := by simpa using hk
  by_cases he : k = y
  · rw [he]; exact hr y hy
  · rcases klt_total he with h2 | h2
    · exact klt_trans h2 (hr y hy)
    · rw [h1] at h2; cases h2
theorem oKS_old {P : List ByteArray} {k x : ByteArray} (h : dnS P k = true) (hr : ∀ y ∈ P, klt y x = true) : oKS (P ++ [x]) k = oKS P k ++ [x] := by
  have hk := dnS_true h hr
  unfold oKS
  rw [dnS_snoc, h, Bool.true_or, if_pos rfl, if_pos rfl]
  unfold insKS
  rw [List.filter_append, List.filter_cons_of_pos (by simpa using (klt_ne hk).symm), List.filter_nil, insS_snoc _ _ _ hk]
theorem oKS_less {P : List ByteArray} {k x : ByteArray} (h : dnS P k = false) (hx : klt x k = true) : oKS (P ++ [x]) k = oKS P k ++ [x] := by
  unfold oKS
  rw [dnS_snoc, h]
  simp [hx]
theorem oKS_here {P : List ByteArray} {k x : ByteArray} (h : dnS P k = false) (hx : x = k) : oKS (P ++ [x]) k = oKS P k ++ [k] := by
  subst hx
  have hl := dnS_false h
  unfold oKS
  rw [dnS_snoc, h, klt_irrefl]
  simp only [Bool.not_false, Bool.or_true, if_true]
  rw [if_neg (by simp)]
  have e := insKS_end x P hl
  unfold insKS at e ⊢
  rw [List.filter_append, List.filter_cons_of_neg (by simp), List.filter_nil, List.append_nil]
  exact e
theorem oKS_past {P : List ByteArray} {k x : ByteArray} (h : dnS P k = false) (hx : klt k x = true) : oKS (P ++ [x]) k = oKS P k ++ [k] ++ [x] := by
  have hl := dnS_false h
  unfold oKS
  rw [dnS_snoc, h, klt_asym hx]
  simp only [Bool.not_false, Bool.or_true, if_true]
  rw [if_neg (by simp)]
  have e := insKS_end k P hl
  unfold insKS at e ⊢
  rw [List.filter_append, List.filter_cons_of_pos (by simpa using (klt_ne hx).symm), List.filter_nil, insS_snoc _ _ _ hx, e]
theorem oKS_end (K : List ByteArray) (k : ByteArray) : (if dnS K k = true then oKS K k else oKS K k ++ [k]) = insKS k K := by
  by_cases h : dnS K k = true
  · rw [if_pos h]; unfold oKS; rw [if_pos h]
  · rw [if_neg h]; unfold oKS; rw [if_neg h]
    exact (insKS_end k K (dnS_false (by simpa using h))).symm
theorem oKS_len (P : List ByteArray) (k : ByteArray) : (oKS P k).length ≤ P.length + 1 := by
  unfold oKS
  split
  · exact insKS_len k P
  · omega
theorem mem_oKS {P : List ByteArray} {k x : ByteArray} (h : x ∈ oKS P k) : x = k ∨ x ∈ P := by
  unfold oKS at h
  split at h
  · exact (mem_insKS k P x).1 h
  · exact .inr h
theorem takeS_lt {K : List ByteArray} {j : Nat} {x : ByteArray} (hr : RisS K) (hx : K[j]? = some x) : ∀ y ∈ K.take j, klt y x = true := by
  intro y hy
  obtain ⟨i, hi⟩ := List.mem_iff_getElem?.1 hy
  rw [List.getElem?_take] at hi
  split at hi
  · obtain ⟨h1, e1⟩ := List.getElem?_eq_some_iff.1 hi
    obtain ⟨h2, e2⟩ := List.getElem?_eq_some_iff.1 hx
    rw [← e1, ← e2]
    exact List.pairwise_iff_getElem.1 hr i j h1 h2 (by assumption)
  · cases hi
end Go.Proofs.Ytochdmbjlemfoaa
