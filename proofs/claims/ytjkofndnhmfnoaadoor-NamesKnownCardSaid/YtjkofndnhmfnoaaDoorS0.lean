/-
  What the document's arrays, functions, instructions and things read as in memory (VIs, FIs, OIs, TIs). Of any that can be read.
-/
import Derived.Test.YtjkofndnhmfnoaaDoorProg
import Derived.Test.YtjkofndnhmfnoaaDoorW
import Derived.WalkSpells
import Derived.WalkLawsBesides
import Derived.KernelRfl
import Derived.Lib.Hide
import Derived.Outline
import Derived.Handy
import Derived.Deep.QuietTactic
import Derived.BigQuiet
namespace Go.Proofs.YtjkofndnhmfnoaaDoor
open Go Go.RowKit

structure VD where
  char : Bool
  shape : List Int
  data : List Int
deriving DecidableEq
structure FD where
  name : ByteArray
  result : ByteArray
  left : ByteArray
  right : ByteArray
  locals : List ByteArray
  lines : List ByteArray
  version : Int
deriving DecidableEq
structure OD where
  kind : Int
  fn : ByteArray
  name : ByteArray
  v : VD
  n : Int
  axis : Bool
deriving DecidableEq
structure TD where
  kind : Int
  v : VD
  f : FD
  ops : List OD
  n : Int
  s : ByteArray
deriving DecidableEq

def intRows (k : IntKind) (xs : List Int) : List (List Value) := xs.map fun x => [.int k x]
def strRows (xs : List ByteArray) : List (List Value) := xs.map fun x => [.string x]

theorem al4 (w : World) (o1 o2 o3 o4 : Obj) : ((((w.alloc o1).alloc o2).alloc o3).alloc o4).heap[w.heap.size]? = some o1 ∧ ((((w.alloc o1).alloc o2).alloc o3).alloc o4).heap[w.heap.size + 1]? = some o2 ∧
    ((((w.alloc o1).alloc o2).alloc o3).alloc o4).heap[w.heap.size + 1 + 1]? = some o3 ∧ ((((w.alloc o1).alloc o2).alloc o3).alloc o4).heap[w.heap.size + 1 + 1 + 1]? = some o4 := by
  have z1 : (w.alloc o1).heap.size = w.heap.size + 1 := by simp
  have z2 : ((w.alloc o1).alloc o2).heap.size = w.heap.size + 1 + 1 := by simp
  have z3 : (((w.alloc o1).alloc o2).alloc o3).heap.size = w.heap.size + 1 + 1 + 1 := by simp
  refine ⟨?_, ?_, ?_, ?_⟩
  · rw [Below.heap_alloc _ _ _ (by omega), Below.heap_alloc _ _ _ (by omega), Below.heap_alloc _ _ _ (by omega)]; exact heap_alloc_new _ _
  · rw [Below.heap_alloc _ _ _ (by omega), Below.heap_alloc _ _ _ (by omega)]; have h := heap_alloc_new (w.alloc o1) o2; rw [z1] at h; exact h
  · rw [Below.heap_alloc _ _ _ (by omega)]; have h := heap_alloc_new ((w.alloc o1).alloc o2) o3; rw [z2] at h; exact h
  · have h := heap_alloc_new (((w.alloc o1).alloc o2).alloc o3) o4; rw [z3] at h; exact h
theorem al4_below (w : World) (o1 o2 o3 o4 : Obj) : Below w.heap.size w ((((w.alloc o1).alloc o2).alloc o3).alloc o4) :=
  ((((Below.refl _ w).alloc (Nat.le_refl _) _).alloc (by simp) _).alloc (by simp; omega) _).alloc (by simp; omega) _

/-- Of one-cell rows: where they lie. -/
theorem Rd.one {w : World} {D : Nat → Prop} {α : Type} {f : α → Value} {A : Option Addr} {n c : Nat} {xs : List α} (h : Rd w D 1 A n c (xs.map fun x => [f x])) :
    xs.length = n ∧ (0 < n → ∃ b off, A = some ⟨b, off, none⟩ ∧ D b ∧ b < w.heap.size ∧ ∀ i x, xs[i]? = some x → w.cell? ⟨b, off + i, none⟩ = some (f x)) := by
  refine ⟨by simpa using h.len, fun hn => ?_⟩
  obtain ⟨b, off, hA, hD, hc⟩ := h.at_ hn
  have hcell : ∀ i x, xs[i]? = some x → w.cell? ⟨b, off + i, none⟩ = some (f x) := fun i x hx => by
    have := hc i [f x] (by simp [hx]) 0 (f x) rfl
    simpa using this
  have hl : 0 < xs.length := by have := h.len; simp at this; omega
  exact ⟨b, off, hA, hD, World.block_lt_of_cell? w _ (hcell 0 _ (List.getElem?_eq_getElem hl)), hcell⟩

def VIs (w : World) (D : Nat → Prop) (cs : List Value) (v : VD) : Prop :=
  ∃ A n c A' n' c', cs = [.bool v.char, .slice A n c, .slice A' n' c'] ∧ Rd w D 1 A n c (intRows .i64 v.shape) ∧ Rd w D 1 A' n' c' (intRows .i64 v.data)
def FIs (w : World) (D : Nat → Prop) (cs : List Value) (v : FD) : Prop :=
  ∃ A n c A' n' c', cs = [.string v.name, .string v.result, .string v.left, .string v.right, .slice A n c, .slice A' n' c', .int .i64 v.version] ∧ Rd w D 1 A n c (strRows v.locals) ∧ Rd w D 1 A' n' c' (strRows v.lines)
def OIs (w : World) (D : Nat → Prop) (cs : List Value) (v : OD) : Prop :=
  ∃ vs, cs = [.int .u8 v.kind, .string v.fn, .string v.name] ++ vs ++ [.int .i64 v.n, .bool v.axis] ∧ VIs w D vs v.v
def TIs (w : World) (D : Nat → Prop) (cs : List Value) (v : TD) : Prop :=
  ∃ vs fs A n c oes, cs = [.int .u8 v.kind] ++ vs ++ fs ++ [.slice A n c, .int .i64 v.n, .string v.s] ∧ VIs w D vs v.v ∧ FIs w D fs v.f ∧ Rd w D 8 A n c oes ∧
    oes.length = v.ops.length ∧ ∀ (i : Nat) oe o, oes[i]? = some oe → v.ops[i]? = some o → OIs w D oe o

section
variable {w w' : World} {D S : Nat → Prop} {cs : List Value}
theorem VIs.chg {v : VD} (h : VIs w D cs v) (hg : Chg S w w') (hD : ∀ b, D b → ¬ S b) : VIs w' D cs v := by
  obtain ⟨A, n, c, A', n', c', h1, h2, h3⟩ := h
  exact ⟨A, n, c, A', n', c', h1, h2.chg hg hD, h3.chg hg hD⟩
theorem FIs.chg {v : FD} (h : FIs w D cs v) (hg : Chg S w w') (hD : ∀ b, D b → ¬ S b) : FIs w' D cs v := by
  obtain ⟨A, n, c, A', n', c', h1, h2, h3⟩ := h
  exact ⟨A, n, c, A', n', c', h1, h2.chg hg hD, h3.chg hg hD⟩
theorem OIs.chg {v : OD} (h : OIs w D cs v) (hg : Chg S w w') (hD : ∀ b, D b → ¬ S b) : OIs w' D cs v := by
  obtain ⟨vs, h1, h2⟩ := h
  exact ⟨vs, h1, h2.chg hg hD⟩
theorem TIs.chg {v : TD} (h : TIs w D cs v) (hg : Chg S w w') (hD : ∀ b, D b → ¬ S b) : TIs w' D cs v := by
  obtain ⟨vs, fs, A, n, c, oes, h1, h2, h3, h4, h5, h6⟩ := h
  exact ⟨vs, fs, A, n, c, oes, h1, h2.chg hg hD, h3.chg hg hD, h4.chg hg hD, h5, fun i oe o a b => (h6 i oe o a b).chg hg hD⟩
theorem TIs.below {v : TD} (h : TIs w D cs v) (hb : Below w.heap.size w w') : TIs w' D cs v := h.chg (S := fun _ => False) (Chg.of_below hb) (fun _ _ h => h)
theorem VIs.below {v : VD} (h : VIs w D cs v) (hb : Below w.heap.size w w') : VIs w' D cs v := h.chg (S := fun _ => False) (Chg.of_below hb) (fun _ _ h => h)
end

theorem take_step {α : Type} {xs ys : List α} {k : Nat} (h : xs.take k = ys.take k) {x : α} (hx : xs[k]? = some x) (hy : ys[k]? = some x) : xs.take (k + 1) = ys.take (k + 1) := by
  rw [List.take_add_one, List.take_add_one, hx, hy, h]
theorem ne_at {α : Type} {xs ys : List α} {k : Nat} {x y : α} (hx : xs[k]? = some x) (hy : ys[k]? = some y) (h : x ≠ y) : xs ≠ ys := by
  rintro rfl
  exact h (Option.some.inj (hx.symm.trans hy))
theorem take_all {α : Type} {xs ys : List α} {n : Nat} (h : xs.take n = ys.take n) (hx : xs.length = n) (hy : ys.length = n) : xs = ys := by
  rwa [List.take_of_length_le (by omega), List.take_of_length_le (by omega)] at h
theorem str_inj {x y : ByteArray} (h : x.toList = y.toList) : x = y := by
  rw [ByteArray.toList_eq, ByteArray.toList_eq] at h
  have h2 : x.data = y.data := by rw [← Array.toList_inj]; exact h
  cases x; cases y; simp_all
theorem str_ne {x y : ByteArray} (h : x ≠ y) : (x.toList == y.toList) = false := by
  rw [beq_eq_false_iff_ne]
  exact fun e => h (str_inj e)
end Go.Proofs.YtjkofndnhmfnoaaDoor
