/-
  Layer 05: arrays, numbers and bytes as arguments (with the ranges that a machine holds); the laid tables: what they give a walk, a world in which they lie.
-/
import Derived.Test.YtjkofndnhmfnoaaDoorR
import Derived.Test.YtjkofndnhmfnoaaDoorQ0
import Derived.Test.YtjkofndnhmfnoaaDoorS0
import Derived.Test.YtjkofndnhmfnoaaDoorL1
import Derived.LaidMore
import Derived.MakeChecks
import Derived.Lib.LaidTab
import Derived.Stop.Joined
import Derived.Stop.LaidErr
namespace Go.Proofs.YtjkofndnhmfnoaaDoor
open Go Go.ChangeShapes Go.WideShapes Go.ChangeAt Go.RowKit

theorem cellsInt : Tryd.prog.cellsOf 3 = 1 := by kernel_rfl
theorem cellsInt64 : Tryd.prog.cellsOf 2 = 1 := by kernel_rfl
theorem cellsU8 : Tryd.prog.cellsOf 5 = 1 := by kernel_rfl
theorem cellsBool : Tryd.prog.cellsOf 4 = 1 := by kernel_rfl
theorem cellsInts : Tryd.prog.cellsOf 25 = 1 := by kernel_rfl
theorem cellsInt64s : Tryd.prog.cellsOf 23 = 1 := by kernel_rfl
theorem cellsValue : Tryd.prog.cellsOf 27 = 3 := by kernel_rfl

theorem wf_i64 {n : Int} (h : (Lit.int .i64 n).wf = true) : i64 n := by
  simp only [Lit.wf, Bool.and_eq_true, decide_eq_true_eq] at h
  have h1 : IntKind.i64.min = -9223372036854775808 := by decide
  have h2 : IntKind.i64.max = 9223372036854775807 := by decide
  exact ⟨by omega, by omega⟩
theorem wf_u8 {n : Int} (h : (Lit.int .u8 n).wf = true) : 0 ≤ n ∧ n ≤ 255 := by
  simp only [Lit.wf, Bool.and_eq_true, decide_eq_true_eq] at h
  have h1 : IntKind.u8.min = 0 := by decide
  have h2 : IntKind.u8.max = 255 := by decide
  exact ⟨by omega, by omega⟩

section
variable {H : Type} {enc : TypeId × Value → H} {w : World} {sp : Nat → Bool} {held : Bool}
theorem rdi_of_trod {t e : TypeId} {k : IntKind} {fuel : Nat} {cs : List Value} {x : DataW H × List MemPlace} (ht : Tryd.prog.underlying t = some (.slice e)) (he : Tryd.prog.underlying e = some (.int k)) (hC : Tryd.prog.cellsOf e = 1)
    (h : DataW.trod enc Tryd.prog w 0 sp held fuel t cs = some x) : ∃ A n c xs, cs = [.slice A n c] ∧ Rd w (Old w) 1 A n c (intRows k xs) ∧ ∀ z ∈ xs, (Lit.int k z).wf = true := by
  obtain ⟨A, n, c, es, m, rfl, hr, hi⟩ := rd_of_trod ht hC (by decide) (fun n cs' y hy u hu => by
    obtain ⟨z, rfl, _⟩ := DataW.trod_int he hy
    simp at hu; subst hu; rfl) h
  obtain ⟨xs, rfl⟩ := map_rows (f := Value.int k) (es := es) (fun e' he' => by
    obtain ⟨i, hie⟩ := List.mem_iff_getElem?.1 he'
    obtain ⟨y, hy⟩ := hi i e' hie
    obtain ⟨z, rfl, _⟩ := DataW.trod_int he hy
    exact ⟨z, rfl⟩)
  refine ⟨A, n, c, xs, rfl, hr, fun z hz => ?_⟩
  obtain ⟨i, hiz⟩ := List.mem_iff_getElem?.1 hz
  obtain ⟨y, hy⟩ := hi i [.int k z] (by simp [hiz])
  obtain ⟨z', e1, _, hw⟩ := DataW.trod_int he hy
  simp only [List.cons.injEq, and_true, Value.int.injEq, true_and] at e1
  subst e1
  exact hw
set_option maxRecDepth 100000 in
theorem vi_of_trod {fuel : Nat} {cs : List Value} {x : DataW H × List MemPlace} (h : DataW.trod enc Tryd.prog w 0 sp held fuel 27 cs = some x) :
    ∃ b A n c A' n' c' xs ys, cs = [.bool b, .slice A n c, .slice A' n' c'] ∧ Rd w (Old w) 1 A n c (intRows .i64 xs) ∧ Rd w (Old w) 1 A' n' c' (intRows .i64 ys) ∧ (∀ z ∈ xs, i64 z) ∧ ∀ z ∈ ys, i64 z := by
  obtain ⟨hl, n, hf⟩ := struct_fields Tryd.underlying27 h
  rw [cellsValue] at hl
  match cs, hl with
  | [c0, c1, c2], _ =>
    obtain ⟨y0, h0⟩ := hf 0 4 0 rfl
    obtain ⟨y1, h1⟩ := hf 1 25 1 rfl
    obtain ⟨y2, h2⟩ := hf 2 23 2 rfl
    simp only [cellsBool, cellsInts, cellsInt64s, List.drop_zero, List.take_succ_cons, List.take_zero, List.drop_succ_cons] at h0 h1 h2
    obtain ⟨b, e0, _⟩ := DataW.trod_bool Tryd.underlying4 h0
    obtain ⟨A, n1, k1, xs, e1, r1, q1⟩ := rdi_of_trod Tryd.underlying25 Tryd.underlying3 cellsInt h1
    obtain ⟨A', n2, k2, ys, e2, r2, q2⟩ := rdi_of_trod Tryd.underlying23 Tryd.underlying2 cellsInt64 h2
    simp only [List.cons.injEq, and_true] at e0 e1 e2
    subst e0 e1 e2
    exact ⟨b, _, _, _, _, _, _, xs, ys, rfl, r1, r2, fun z hz => wf_i64 (q1 z hz), fun z hz => wf_i64 (q2 z hz)⟩
set_option maxRecDepth 100000 in
/-- An array as an argument. -/
theorem arg_value {W : World} {base : Nat} {r : Reach} {v : Value} {d : DataW H} {p : List MemPlace} (hv : Value.okWide Tryd.prog W r base 27 v) (h : DataW.Trod enc Tryd.prog W 0 (fun _ => true) true 27 v d p) :
    ∃ b A n c A' n' c' xs ys, v = .agg #[.bool b, .slice A n c, .slice A' n' c'] ∧ Rd W (Old W) 1 A n c (intRows .i64 xs) ∧ Rd W (Old W) 1 A' n' c' (intRows .i64 ys) ∧ (∀ z ∈ xs, i64 z) ∧ ∀ z ∈ ys, i64 z := by
  obtain ⟨cs, rfl, -⟩ := okWide_struct Tryd.underlying27 hv
  obtain ⟨fuel, hf⟩ := h
  obtain ⟨b, A, n, c, A', n', c', xs, ys, e, h1, h2, h3, h4⟩ := vi_of_trod hf
  have : cs = #[.bool b, .slice A n c, .slice A' n' c'] := by
    rw [← Array.toList_inj]
    exact e
  subst this
  exact ⟨b, A, n, c, A', n', c', xs, ys, rfl, h1, h2, h3, h4⟩
end

abbrev laid3 : List (String × DataW Unit) := [("math/bits.deBruijn32tab", Rows.laid_math_bits_deBruijn32tab), ("math/bits.deBruijn64tab", Rows.laid_math_bits_deBruijn64tab), ("internal/strconv.uint64pow10", Rows.laid_internal_strconv_uint64pow10)]
/-- The door's own heap meets the condition. -/
theorem door_met (os : Os) (args : Array Value) : laidMetH Tryd.prog laid3 ((World.doorLaid Tryd.prog 24 os).forCall (fun _ _ => 0) ⟨#[], args, []⟩).memory :=
  laidMetH_of_parts3 (fuel := 8) (laidMet_of_run' 8 (by kernel_rfl) (by kernel_rfl)) (by kernel_rfl) (by kernel_rfl)
theorem powData {H : Type} : (Rows.laid_internal_strconv_uint64pow10 : DataW H) = Lib.tabData .u64 Lib.pow10Tab := by rfl
theorem tab_of_laid {W : World} (h : laidMetH Tryd.prog laid3 W) : Tab W := by
  rw [MakeChecks.laidMetH_plain _ _ _ (by kernel_rfl)] at h
  have h2 := (laidMet.tail h).tail
  rw [powData] at h2
  exact Lib.tabIs_of_head (g := 0) (t := 140) (e := 122) (n := 20) (by kernel_rfl) (by kernel_rfl) (by kernel_rfl) (by kernel_rfl) (by kernel_rfl) (by kernel_rfl) h2
end Go.Proofs.YtjkofndnhmfnoaaDoor
