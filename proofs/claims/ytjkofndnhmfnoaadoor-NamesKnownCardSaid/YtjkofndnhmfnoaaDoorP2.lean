/-
  Layer 05 (layout), plain words: the lines of an array (linesL), its first ones (firstL); how wide columns are. No program in sight.
-/
import Derived.Test.YtjkofndnhmfnoaaDoorP1
namespace Go.Proofs.YtjkofndnhmfnoaaDoor
open Go

/-- How wide a column of a matrix is that begins at an element. -/
def wMax (char : Bool) (data : List Int) (at' rows cols c : Nat) : Nat := ((List.range rows).map fun k => wd char (data.getD (at' + k * cols + c) 0)).foldl max 0
def padL (n : Nat) : List UInt8 := List.replicate n 32
def cellL (char : Bool) (data : List Int) (at' rows cols r c : Nat) : List UInt8 :=
  padL (wMax char data at' rows cols c - wd char (data.getD (at' + r * cols + c) 0)) ++ elL char (data.getD (at' + r * cols + c) 0)
def sepL (char : Bool) : List UInt8 := if char then [] else [32]
def rowL (char : Bool) (data : List Int) (at' rows cols r : Nat) : List UInt8 := Lib.join ((List.range cols).map (cellL char data at' rows cols r)) (sepL char)
def matL (char : Bool) (data : List Int) (at' rows cols : Nat) : List (List UInt8) := (List.range rows).map (rowL char data at' rows cols)
def gapL (shape : List Int) (k : Nat) : List (List UInt8) := if k = 0 then [] else if shape.length = 4 ∧ (k : Int) % shape.getD 1 0 = 0 then [[], []] else [[]]
def prodL (s : List Int) : Int := s.foldl (· * ·) 1
/-- Numbers of a shape: how many matrices, rows, columns. -/
def manyL (s : List Int) : Nat := (prodL (s.take (s.length - 2))).toNat
def rowsL (s : List Int) : Nat := (s.getD (s.length - 2) 0).toNat
def colsL (s : List Int) : Nat := (s.getD (s.length - 1) 0).toNat
def blockL (char : Bool) (s data : List Int) (k : Nat) : List (List UInt8) := gapL s k ++ matL char data (k * rowsL s * colsL s) (rowsL s) (colsL s)
def flatL (char : Bool) (data : List Int) : List UInt8 := Lib.join (data.map (elL char)) (sepL char)
def linesL (char : Bool) (s data : List Int) : List (List UInt8) :=
  if s.length < 2 then [flatL char data]
  else if 2 < s.length ∧ data = [] then []
  else ((List.range (manyL s)).map (blockL char s data)).flatten
/-- May an array be? -/
def rightL (char : Bool) (s data : List Int) : Prop := s.length ≤ 4 ∧ (∀ n ∈ s, 0 ≤ n ∧ n ≤ 10000) ∧ prodL s = data.length ∧ data.length ≤ 10000 ∧ (char = true → ∀ x ∈ data, chOk x)
instance (char : Bool) (s data : List Int) : Decidable (rightL char s data) := by unfold rightL; exact inferInstance
def shapeL (s : List Int) : List UInt8 := Lib.join (s.map numL) [32]
def firstL (char : Bool) (s data : List Int) (most : Int) : List (List UInt8) := if rightL char s data then shapeL s :: (linesL char s data).take most.toNat else []

/-! ### How wide -/
theorem foldl_max_le {l : List Nat} {a m : Nat} (ha : a ≤ m) (h : ∀ x ∈ l, x ≤ m) : l.foldl max a ≤ m := by
  induction l generalizing a with
  | nil => exact ha
  | cons x l ih => exact ih (Nat.max_le.2 ⟨ha, h x List.mem_cons_self⟩) (fun y hy => h y (List.mem_cons_of_mem _ hy))
theorem le_foldl_max {l : List Nat} {a : Nat} : a ≤ l.foldl max a := by
  induction l generalizing a with
  | nil => exact Nat.le_refl _
  | cons x l ih => exact Nat.le_trans (Nat.le_max_left a x) ih
theorem mem_foldl_max {l : List Nat} {a x : Nat} (h : x ∈ l) : x ≤ l.foldl max a := by
  induction l generalizing a with
  | nil => cases h
  | cons y l ih =>
    rcases List.mem_cons.1 h with h | h
    · subst h; exact Nat.le_trans (Nat.le_max_right a x) le_foldl_max
    · exact ih h
theorem dec_len (n : Nat) (h : n < 10000000000000000000) : (Lib.decDigits n).length ≤ 19 := by
  have aux : ∀ (k n : Nat), n < 10 ^ (k + 1) → (Lib.decDigits n).length ≤ k + 1 := by
    intro k
    induction k with
    | zero => intro n hn; rw [Lib.decDigits, dif_pos (by simpa using hn)]; simp
    | succ k ih =>
      intro n hn
      rw [Lib.decDigits]
      by_cases h10 : n < 10
      · rw [dif_pos h10]; simp
      · rw [dif_neg h10, List.length_append]
        have := ih (n / 10) (by rw [Nat.pow_succ] at hn; omega)
        simp; omega
  exact aux 18 n (by simpa using h)
/-- A number that a machine holds. -/
def i64 (x : Int) : Prop := -9223372036854775808 ≤ x ∧ x ≤ 9223372036854775807
theorem wd_le {char : Bool} {x : Int} (h : i64 x) : wd char x ≤ 20 := by
  unfold wd
  split
  · omega
  · have := dec_len x.natAbs (by have := h.1; have := h.2; omega)
    split <;> omega
theorem wd_pos (char : Bool) (x : Int) : 1 ≤ wd char x := by
  unfold wd
  split
  · exact Nat.le_refl _
  · have := dec_ne x.natAbs; omega
theorem getD_mem {l : List Int} {k : Nat} (P : Int → Prop) (h : ∀ x ∈ l, P x) (h0 : P 0) : P (l.getD k 0) := by
  rw [List.getD_eq_getElem?_getD]
  cases hk : l[k]? with
  | none => exact h0
  | some x => exact h x (List.mem_of_getElem? hk)
theorem i64_zero : i64 0 := by unfold i64; omega
theorem wMax_le {char : Bool} {data : List Int} (h : ∀ x ∈ data, i64 x) (f rows cols c : Nat) : wMax char data f rows cols c ≤ 20 :=
  foldl_max_le (by omega) fun x hx => by
    obtain ⟨k, _, rfl⟩ := List.mem_map.1 hx
    exact wd_le (getD_mem _ h i64_zero)
theorem wMax_ge {char : Bool} {data : List Int} {f rows cols c r : Nat} (hr : r < rows) : wd char (data.getD (f + r * cols + c) 0) ≤ wMax char data f rows cols c :=
  mem_foldl_max (List.mem_map.2 ⟨r, List.mem_range.2 hr, rfl⟩)
theorem wMax_succ (char : Bool) (data : List Int) (f rows cols c : Nat) : wMax char data f (rows + 1) cols c = max (wMax char data f rows cols c) (wd char (data.getD (f + rows * cols + c) 0)) := by
  unfold wMax
  rw [List.range_succ, List.map_append, List.foldl_append]
  rfl
/-- How wide a column is behind some elements (as the program reckons). -/
def wAt (char : Bool) (data : List Int) (f cols : Nat) : Nat → Nat → Nat
  | 0, _ => 0
  | k + 1, c => if k % cols = c then max (wAt char data f cols k c) (wd char (data.getD (f + k) 0)) else wAt char data f cols k c
theorem wAt_le {char : Bool} {data : List Int} (h : ∀ x ∈ data, i64 x) (f cols c : Nat) : ∀ k, wAt char data f cols k c ≤ 20
  | 0 => by unfold wAt; omega
  | k + 1 => by
    have h1 := wAt_le (char := char) h f cols c k
    have h2 := wd_le (char := char) (getD_mem (k := f + k) _ h i64_zero)
    unfold wAt
    split
    · exact Nat.max_le.2 ⟨h1, h2⟩
    · exact h1
/-- Within a row of elements: the columns that have been passed have been widened. -/
theorem wAt_row (char : Bool) (data : List Int) (f cols c r : Nat) (hc : c < cols) : ∀ j, j ≤ cols → wAt char data f cols (r * cols + j) c = if c < j then max (wAt char data f cols (r * cols) c) (wd char (data.getD (f + r * cols + c) 0)) else wAt char data f cols (r * cols) c
  | 0, _ => by rw [if_neg (by omega)]; rfl
  | j + 1, hj => by
    have ih := wAt_row char data f cols c r hc j (by omega)
    have hm : (r * cols + j) % cols = j := by rw [Nat.mul_comm, Nat.mul_add_mod, Nat.mod_eq_of_lt (by omega)]
    show wAt char data f cols ((r * cols + j) + 1) c = _
    rw [wAt, hm, ih]
    by_cases e : j = c
    · subst e
      rw [if_pos rfl, if_neg (by omega), if_pos (by omega), show f + (r * cols + j) = f + r * cols + j by omega]
    · rw [if_neg e]
      by_cases h1 : c < j
      · rw [if_pos h1, if_pos (by omega)]
      · rw [if_neg h1, if_neg (by omega)]
theorem wAt_all (char : Bool) (data : List Int) (f cols c : Nat) (hc : c < cols) : ∀ rows, wAt char data f cols (rows * cols) c = wMax char data f rows cols c
  | 0 => by simp [wAt, wMax]
  | rows + 1 => by
    have h := wAt_row char data f cols c rows hc cols (Nat.le_refl _)
    rw [Nat.add_mul, Nat.one_mul, h, if_pos hc, wAt_all char data f cols c hc rows, wMax_succ]
/-- One row alone is as its elements are. -/
theorem row_one (char : Bool) (data : List Int) : rowL char data 0 1 data.length 0 = flatL char data := by
  unfold rowL flatL
  congr 1
  refine List.ext_getElem (by simp) fun i h1 h2 => ?_
  have hi : i < data.length := by simpa using h2
  rw [List.getElem_map, List.getElem_map, List.getElem_range]
  unfold cellL
  have hw : wMax char data 0 1 data.length i = wd char (data.getD (0 + 0 * data.length + i) 0) := by
    unfold wMax
    simp
  rw [hw, Nat.sub_self]
  simp [padL, List.getD_eq_getElem?_getD, hi]
end Go.Proofs.YtjkofndnhmfnoaaDoor
