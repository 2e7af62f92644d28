/-
  Layer 21: plain words on the store's state (St): what a look tells behind put and del. (No program in sight.)
-/
import Derived.Test.YtjkofndnhmfnoaaN13
namespace Go.Proofs.Ytjkofndnhmfnoaa
open Go Go.RowKit

theorem St.look_put (s : St) (k : ByteArray) (t : TD) : (s.put k t).look k = t := by
  show getT (insKS k s.K) (updT s.T k t) k = t
  unfold getT
  rw [if_pos ((mem_insKS k s.K k).2 (.inl rfl)), updT_same]
theorem St.look_put_other (s : St) (k : ByteArray) (t : TD) {x : ByteArray} (h : x ≠ k) : (s.put k t).look x = s.look x := by
  show getT (insKS k s.K) (updT s.T k t) x = getT s.K s.T x
  unfold getT
  rw [updT_other _ _ _ _ h]
  by_cases hx : x ∈ s.K
  · rw [if_pos hx, if_pos ((mem_insKS k s.K x).2 (.inr hx))]
  · rw [if_neg hx, if_neg (fun hm => ((mem_insKS k s.K x).1 hm).elim h hx)]
theorem St.look_del (s : St) (k : ByteArray) : (s.del k).look k = tz := by
  show getT (s.K.filter (· ≠ k)) s.T k = tz
  unfold getT
  rw [if_neg (by simp)]
theorem St.look_del_other (s : St) (k : ByteArray) {x : ByteArray} (h : x ≠ k) : (s.del k).look x = s.look x := by
  show getT (s.K.filter (· ≠ k)) s.T x = getT s.K s.T x
  unfold getT
  by_cases hx : x ∈ s.K
  · rw [if_pos hx, if_pos (List.mem_filter.2 ⟨hx, by simpa using h⟩)]
  · rw [if_neg hx, if_neg (fun hm => hx (List.mem_filter.1 hm).1)]
theorem vkey_list (n : ByteArray) : (vkey n).data.toList = 118 :: 47 :: n.data.toList := by
  unfold vkey
  rw [ByteArray.data_append]
  simp
theorem ba_ext {a b : ByteArray} (h : a.data.toList = b.data.toList) : a = b := by
  cases a; cases b
  simp only [ByteArray.mk.injEq]
  exact Array.toList_inj.1 h
theorem vkey_inj {a b : ByteArray} (h : vkey a = vkey b) : a = b := by
  have h1 := congrArg (fun x => x.data.toList) h
  simp only [vkey_list, List.cons.injEq, true_and] at h1
  exact ba_ext h1
theorem vkey_mver (n : ByteArray) : vkey n ≠ mver := fun h => by
  have h1 := congrArg (fun x => x.data.toList) h
  simp [vkey_list, mver] at h1
theorem nmK_vkey (n : ByteArray) : nmK (vkey n) = n := by
  refine ba_ext ?_
  unfold nmK
  rw [vkey_list]
  simp [Lib.trimPrefix, Lib.hasPrefix]
end Go.Proofs.Ytjkofndnhmfnoaa
