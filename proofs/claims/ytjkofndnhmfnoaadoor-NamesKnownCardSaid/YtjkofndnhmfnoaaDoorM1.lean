/-
  Plain words on maps keyed by 64-bit integers: what such a map reads as, by its keys (rising) and its values as a function; what a store, a removal, a look-up make of that. No program in sight.
-/
import Derived.Maps.OwnSet
import Derived.Maps.Ext
import Derived.Lib.SlKeysI
namespace Go.Proofs.YtjkofndnhmfnoaaDoor
open Go Go.Maps

/-- An element read as itself. -/
def heldR (v : Value) : Option (DataW Value × List MemPlace) := some (.held v, [])
/-- A map keyed by numbers: its keys, its values. -/
def imap (K : List Int) (f : Int → Value) : DataW Value := .map (K.map fun k => (.int .i64 k, .held (f k)))
def upd {α : Type} [DecidableEq α] (f : α → Value) (k : α) (v : Value) : α → Value := fun x => if x = k then v else f x
def insI (k : Int) : List Int → List Int
  | [] => [k]
  | y :: r => if k < y then k :: y :: r else y :: insI k r
def insK (k : Int) (K : List Int) : List Int := insI k (K.filter (· ≠ k))
def Rising (K : List Int) : Prop := K.Pairwise (· < ·)

theorem upd_same {α : Type} [DecidableEq α] (f : α → Value) (k : α) (v : Value) : upd f k v k = v := by simp [upd]
theorem upd_other {α : Type} [DecidableEq α] (f : α → Value) (k : α) (v : Value) (x : α) (h : x ≠ k) : upd f k v x = f x := by simp [upd, h]

theorem filter_imap (K : List Int) (f : Int → Value) (k : Int) :
    (K.map fun x => ((.int .i64 x, .held (f x)) : Lit × DataW Value)).filter (fun p => !p.1.sameKey (.int .i64 k)) = (K.filter (· ≠ k)).map fun x => (.int .i64 x, .held (f x)) := by
  induction K with
  | nil => rfl
  | cons x K ih =>
    simp only [List.map_cons, List.filter_cons, ih]
    by_cases h : x = k
    · subst h; simp [Lit.sameKey]
    · simp [Lit.sameKey, h]
theorem insert_imap (K : List Int) (f : Int → Value) (k : Int) :
    DataW.insert ((.int .i64 k, .held (f k)) : Lit × DataW Value) (K.map fun x => (.int .i64 x, .held (f x))) = (insI k K).map fun x => (.int .i64 x, .held (f x)) := by
  induction K with
  | nil => rfl
  | cons x K ih =>
    simp only [List.map_cons, DataW.insert, insI, Lit.before]
    by_cases h : k < x
    · simp [h]
    · simp [h, ih]
theorem imap_put (K : List Int) (f : Int → Value) (k : Int) (v : Value) : (imap K f).put (.int .i64 k) (.held v) = imap (insK k K) (upd f k v) := by
  have h1 : (K.filter (· ≠ k)).map (fun x => ((.int .i64 x, .held (f x)) : Lit × DataW Value)) = (K.filter (· ≠ k)).map (fun x => (.int .i64 x, .held (upd f k v x))) := by
    refine List.map_congr_left fun x hx => ?_
    have := (List.mem_filter.1 hx).2
    simp at this
    rw [upd_other _ _ _ _ this]
  have h2 := insert_imap (K.filter (· ≠ k)) (upd f k v) k
  rw [upd_same] at h2
  show DataW.map (DataW.insert _ _) = DataW.map _
  rw [filter_imap, h1, h2]
  rfl
theorem imap_del (K : List Int) (f : Int → Value) (k : Int) : (imap K f).del (.int .i64 k) = imap (K.filter (· ≠ k)) f := by
  show DataW.map (List.filter _ _) = DataW.map _
  rw [filter_imap]
theorem imap_size (K : List Int) (f : Int → Value) : Maps.size (imap K f) = K.length := by simp [imap, Maps.size_eq]
theorem imap_has (K : List Int) (f : Int → Value) (k : Int) : Maps.has (imap K f) (.int .i64 k) = decide (k ∈ K) := by
  unfold imap
  rw [Maps.has_eq]
  induction K with
  | nil => rfl
  | cons x K ih =>
    rw [List.map_cons, List.any_cons, ih]
    by_cases h : x = k
    · subst h; simp [Lit.sameKey]
    · simp [Lit.sameKey, h, Ne.symm h]
theorem imap_at (K : List Int) (f : Int → Value) (k : Int) (z : DataW Value) : (imap K f).atKey (.int .i64 k) z = if k ∈ K then .held (f k) else z := by
  unfold imap DataW.atKey
  induction K with
  | nil => rfl
  | cons x K ih =>
    simp only [List.map_cons, List.find?_cons]
    by_cases h : x = k
    · subst h; simp [Lit.sameKey]
    · have : (Lit.int .i64 x).sameKey (.int .i64 k) = false := by simp [Lit.sameKey, h]
      rw [this]
      simp only at ih
      rw [ih]
      simp [Ne.symm h]
theorem imap_keys (K : List Int) (f : Int → Value) : intKeys (imap K f) = K := by
  show List.map _ (List.map _ K) = K
  rw [List.map_map]
  exact (List.map_congr_left (fun x _ => rfl)).trans (List.map_id K)

theorem mem_insI (k : Int) (K : List Int) (x : Int) : x ∈ insI k K ↔ x = k ∨ x ∈ K := by
  induction K with
  | nil => simp [insI]
  | cons y K ih =>
    unfold insI
    split
    · simp
    · simp [ih]
      constructor
      · rintro (h | h | h) <;> simp [h]
      · rintro (h | h | h) <;> simp [h]
theorem mem_insK (k : Int) (K : List Int) (x : Int) : x ∈ insK k K ↔ x = k ∨ x ∈ K := by
  unfold insK
  rw [mem_insI, List.mem_filter]
  by_cases h : x = k <;> simp [h]
theorem rising_insI (k : Int) (K : List Int) (h : Rising K) (hk : k ∉ K) : Rising (insI k K) := by
  induction K with
  | nil => simp [insI, Rising]
  | cons y K ih =>
    have hy : ∀ {x}, x ∈ K → _ < x := fun hx => List.rel_of_pairwise_cons h hx
    have ht : Rising K := List.Pairwise.of_cons h
    simp at hk
    unfold insI
    split
    · rename_i hlt
      refine List.Pairwise.cons (fun x hx => ?_) h
      rcases List.mem_cons.1 hx with rfl | hx
      · exact hlt
      · have := hy hx; omega
    · rename_i hlt
      refine List.Pairwise.cons (fun x hx => ?_) (ih ht hk.2)
      rcases (mem_insI k K x).1 hx with rfl | hx
      · omega
      · exact hy hx
theorem rising_filter (p : Int → Bool) (K : List Int) (h : Rising K) : Rising (K.filter p) := List.Pairwise.filter p h
theorem rising_insK (k : Int) (K : List Int) (h : Rising K) : Rising (insK k K) := rising_insI k _ (rising_filter _ _ h) (by simp [List.mem_filter])
theorem Rising.tail {K : List Int} (h : Rising K) : Rising K.tail := by
  cases K with
  | nil => exact h
  | cons x K => exact List.Pairwise.of_cons h
/-- A rising list is what its own sorting gives. -/
theorem rising_sorted (K ss : List Int) (h : Rising K) (hp : ss.Perm K) : ss.mergeSort (fun x y => decide (x ≤ y)) = K := by
  have h1 := mergeSort_of_perm_i hp
  have h2 : K.mergeSort leI = K := List.mergeSort_of_pairwise (List.Pairwise.imp (fun h => by simp [leI]; omega) h)
  exact h1.trans h2
theorem filter_head (k : Int) (K : List Int) (h : Rising (k :: K)) : (k :: K).filter (· ≠ k) = K := by
  have hy : ∀ {x}, x ∈ K → _ < x := fun hx => List.rel_of_pairwise_cons h hx
  rw [List.filter_cons_of_neg (by simp)]
  exact List.filter_eq_self.2 fun x hx => by
    have := hy hx
    simp; omega
end Go.Proofs.YtjkofndnhmfnoaaDoor
