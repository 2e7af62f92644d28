/-
  Plain words on maps keyed by texts: what such a map reads as, by its keys (rising) and its values as a function; what a store, a removal, a look-up make of that. No program in sight.
-/
import Derived.Test.YtjkofndnhmfnoaaDoorM1
import Derived.Sort.KeysCollected
namespace Go.Proofs.YtjkofndnhmfnoaaDoor
open Go Go.Maps

/-- A text's bytes. -/
def kb (x : ByteArray) : List UInt8 := x.data.toList
theorem kb_inj {x y : ByteArray} (h : kb x = kb y) : x = y := by
  have h2 : x.data = y.data := by rw [← Array.toList_inj]; exact h
  cases x; cases y; simp_all
/-- Is a text ahead of another one? -/
def klt (x y : ByteArray) : Bool := bytesBefore (kb x) (kb y)
theorem klt_irrefl (x : ByteArray) : klt x x = false := WideAt.bytes_irrefl _
theorem klt_trans {x y z : ByteArray} (h1 : klt x y = true) (h2 : klt y z = true) : klt x z = true := WideShapes.bytes_trans _ _ _ h1 h2
theorem klt_total {x y : ByteArray} (h : x ≠ y) : klt x y = true ∨ klt y x = true := WideAt.bytes_total _ _ (fun e => h (kb_inj e))
theorem klt_asym {x y : ByteArray} (h : klt x y = true) : klt y x = false := by
  cases h2 : klt y x with
  | false => rfl
  | true => have := klt_trans h h2; rw [klt_irrefl] at this; cases this
theorem klt_ne {x y : ByteArray} (h : klt x y = true) : x ≠ y := by
  rintro rfl
  rw [klt_irrefl] at h
  cases h
theorem bytes_lt : ∀ a b : List UInt8, bytesBefore a b = decide (a < b)
  | [], [] => by simp [bytesBefore]
  | [], _ :: _ => by simp [bytesBefore]
  | _ :: _, [] => by simp [bytesBefore]
  | a :: r, b :: s => by
    unfold bytesBefore
    rw [bytes_lt r s, Bool.eq_iff_iff]
    simp only [Bool.or_eq_true, Bool.and_eq_true, decide_eq_true_eq, beq_iff_eq, List.cons_lt_cons_iff]
theorem klt_iff (x y : ByteArray) : klt x y = decide (kb x < kb y) := bytes_lt _ _

/-- A map keyed by texts: its keys, its values. -/
def smap (K : List ByteArray) (f : ByteArray → Value) : DataW Value := .map (K.map fun k => (.string (kb k), .held (f k)))
def insS (k : ByteArray) : List ByteArray → List ByteArray
  | [] => [k]
  | y :: r => if klt k y = true then k :: y :: r else y :: insS k r
def insKS (k : ByteArray) (K : List ByteArray) : List ByteArray := insS k (K.filter (· ≠ k))
def RisS (K : List ByteArray) : Prop := K.Pairwise (fun x y => klt x y = true)

theorem same_kb (x k : ByteArray) : (Lit.string (kb x)).sameKey (.string (kb k)) = decide (x = k) := by
  by_cases h : x = k
  · subst h; simp [Lit.sameKey]
  · simp only [Lit.sameKey, h, decide_false]
    exact beq_eq_false_iff_ne.2 (fun e => h (kb_inj e))
theorem filter_smap (K : List ByteArray) (f : ByteArray → Value) (k : ByteArray) :
    (K.map fun x => ((.string (kb x), .held (f x)) : Lit × DataW Value)).filter (fun p => !p.1.sameKey (.string (kb k))) = (K.filter (· ≠ k)).map fun x => (.string (kb x), .held (f x)) := by
  induction K with
  | nil => rfl
  | cons x K ih =>
    simp only [List.map_cons, List.filter_cons, ih, same_kb]
    by_cases h : x = k
    · simp [h]
    · simp [h]
theorem insert_smap (K : List ByteArray) (f : ByteArray → Value) (k : ByteArray) :
    DataW.insert ((.string (kb k), .held (f k)) : Lit × DataW Value) (K.map fun x => (.string (kb x), .held (f x))) = (insS k K).map fun x => (.string (kb x), .held (f x)) := by
  induction K with
  | nil => rfl
  | cons x K ih =>
    simp only [List.map_cons, DataW.insert, insS, Lit.before]
    by_cases h : klt k x = true
    · have h' : bytesBefore (kb k) (kb x) = true := h
      simp [h, h']
    · have h' : ¬ bytesBefore (kb k) (kb x) = true := h
      simp [h, h', ih]
theorem smap_put (K : List ByteArray) (f : ByteArray → Value) (k : ByteArray) (v : Value) : (smap K f).put (.string (kb k)) (.held v) = smap (insKS k K) (upd f k v) := by
  have h1 : (K.filter (· ≠ k)).map (fun x => ((.string (kb x), .held (f x)) : Lit × DataW Value)) = (K.filter (· ≠ k)).map (fun x => (.string (kb x), .held (upd f k v x))) := by
    refine List.map_congr_left fun x hx => ?_
    have := (List.mem_filter.1 hx).2
    simp at this
    rw [upd_other _ _ _ _ this]
  have h2 := insert_smap (K.filter (· ≠ k)) (upd f k v) k
  rw [upd_same] at h2
  show DataW.map (DataW.insert _ _) = DataW.map _
  rw [filter_smap, h1, h2]
  rfl
theorem smap_del (K : List ByteArray) (f : ByteArray → Value) (k : ByteArray) : (smap K f).del (.string (kb k)) = smap (K.filter (· ≠ k)) f := by
  show DataW.map (List.filter _ _) = DataW.map _
  rw [filter_smap]
theorem smap_size (K : List ByteArray) (f : ByteArray → Value) : Maps.size (smap K f) = K.length := by simp [smap, Maps.size_eq]
instance memDec (k : ByteArray) (K : List ByteArray) : Decidable (k ∈ K) := decidable_of_iff (K.any (fun x => decide (x = k)) = true) (by simp)
theorem smap_has (K : List ByteArray) (f : ByteArray → Value) (k : ByteArray) : Maps.has (smap K f) (.string (kb k)) = decide (k ∈ K) := by
  unfold smap
  rw [Maps.has_eq]
  induction K with
  | nil => rfl
  | cons x K ih =>
    rw [List.map_cons, List.any_cons, ih, same_kb]
    by_cases h : x = k
    · simp [h]
    · simp [h, Ne.symm h]
theorem smap_at (K : List ByteArray) (f : ByteArray → Value) (k : ByteArray) (z : DataW Value) : (smap K f).atKey (.string (kb k)) z = if k ∈ K then .held (f k) else z := by
  unfold smap DataW.atKey
  induction K with
  | nil => rfl
  | cons x K ih =>
    simp only [List.map_cons, List.find?_cons, same_kb]
    by_cases h : x = k
    · subst h; simp
    · simp only [h, decide_false]
      simp only at ih
      rw [ih]
      simp [Ne.symm h]
theorem smap_keys (K : List ByteArray) (f : ByteArray → Value) : strKeys (smap K f) = K.map kb := by
  show List.map _ (List.map _ K) = K.map kb
  rw [List.map_map]
  exact List.map_congr_left (fun x _ => rfl)

theorem mem_insS (k : ByteArray) (K : List ByteArray) (x : ByteArray) : x ∈ insS k K ↔ x = k ∨ x ∈ K := by
  induction K with
  | nil => simp [insS]
  | cons y K ih =>
    unfold insS
    split
    · simp
    · simp [ih]
      constructor
      · rintro (h | h | h) <;> simp [h]
      · rintro (h | h | h) <;> simp [h]
theorem mem_insKS (k : ByteArray) (K : List ByteArray) (x : ByteArray) : x ∈ insKS k K ↔ x = k ∨ x ∈ K := by
  unfold insKS
  rw [mem_insS, List.mem_filter]
  by_cases h : x = k <;> simp [h]
theorem risS_insS (k : ByteArray) (K : List ByteArray) (h : RisS K) (hk : k ∉ K) : RisS (insS k K) := by
  induction K with
  | nil => simp [insS, RisS]
  | cons y K ih =>
    have hy : ∀ {x}, x ∈ K → klt _ x = true := fun hx => List.rel_of_pairwise_cons h hx
    have ht : RisS K := List.Pairwise.of_cons h
    simp at hk
    unfold insS
    split
    · rename_i hlt
      refine List.Pairwise.cons (fun x hx => ?_) h
      rcases List.mem_cons.1 hx with rfl | hx
      · exact hlt
      · exact klt_trans hlt (hy hx)
    · rename_i hlt
      refine List.Pairwise.cons (fun x hx => ?_) (ih ht hk.2)
      rcases (mem_insS k K x).1 hx with rfl | hx
      · exact (klt_total (Ne.symm hk.1)).resolve_right hlt
      · exact hy hx
theorem risS_filter (p : ByteArray → Bool) (K : List ByteArray) (h : RisS K) : RisS (K.filter p) := List.Pairwise.filter p h
theorem risS_insKS (k : ByteArray) (K : List ByteArray) (h : RisS K) : RisS (insKS k K) := risS_insS k _ (risS_filter _ _ h) (by simp [List.mem_filter])
theorem insS_len (k : ByteArray) (K : List ByteArray) : (insS k K).length = K.length + 1 := by
  induction K with
  | nil => rfl
  | cons y l ih => unfold insS; split <;> simp [ih]
theorem insKS_len (k : ByteArray) (K : List ByteArray) : (insKS k K).length ≤ K.length + 1 := by
  unfold insKS
  rw [insS_len]
  have := List.length_filter_le (fun x => decide (x ≠ k)) K
  omega
/-- A rising list is what its own sorting gives. -/
theorem risS_sorted (K : List ByteArray) (ss : List (List UInt8)) (h : RisS K) (hp : ss.Perm (K.map kb)) : ss.mergeSort (fun x y => decide (x ≤ y)) = K.map kb := by
  have h1 := mergeSort_of_perm hp
  have h2 : (K.map kb).mergeSort leB = K.map kb := List.mergeSort_of_pairwise (List.pairwise_map.2 (List.Pairwise.imp (fun h => by
    rw [klt_iff] at h
    simp only [leB, decide_eq_true_eq] at h ⊢
    exact List.le_of_lt h) h))
  exact h1.trans h2
/-- Two rising lists of the same members are one. -/
theorem risS_ext {K K' : List ByteArray} (h : RisS K) (h' : RisS K') (hm : ∀ x, x ∈ K ↔ x ∈ K') : K = K' := by
  refine List.Perm.eq_of_pairwise (le := fun x y => klt x y = true) (fun a b _ _ h1 h2 => ?_) h h' ((List.perm_ext_iff_of_nodup ?_ ?_).2 hm)
  · have := klt_trans h1 h2; rw [klt_irrefl] at this; cases this
  · exact List.Pairwise.imp (fun h => klt_ne h) h
  · exact List.Pairwise.imp (fun h => klt_ne h) h'
theorem risS_nodup {K : List ByteArray} (h : RisS K) : K.Nodup := List.Pairwise.imp (fun h => klt_ne h) h
end Go.Proofs.YtjkofndnhmfnoaaDoor
